/- stream: Ce2 Cf2 Cg2 Ch0 Co0 Cn2 Co2 Cj1 Cj2 Cj3 Cj4 Ck1 Bq1 Ck2 Cl1 Dc1 Dd1 Dd2 Dd3 De1 Dc2 Df1 Df2 Df3 Dg1 Dg2 Ea1, in one text. -/
import Derived.Test.YtlboglkgbhjpeaaWW2
import Derived.Test.YtlboglkgbhjpeaaSxTt
import Derived.Test.YtlboglkgbhjpeaaWW1
namespace Go.Sx.Bln
open Go Go.Sx Go.Proofs
set_option maxRecDepth 1000000
def BP2 (l:List Stk) (t:Tst) (P:List (List Int)) (Y:Nat) (M:Mde) (es:Lst):List VB:=[.cells (tsL t) 25,.cells [pthD P] 26,.cells (stD l::tsL t) 74,.cells [.ptr (.own 2 0)] 72,.cells [I Y] 3,.cells [sFa 7 Y,sFa 8 Y] 76,.cells [.slice (.own 5 0) 2 2] 75,.fam [] (Y*6) (M 0) 80,.fam [] (Y*6) (M 1) 80,
 .map kS .bool es,.cells [.mp 9] 77,.cells [.func 44 [] [.ptr (.own 4 0),.ptr (.own 10 0),.ptr (.own 1 0),.ptr (.own 12 0)]] 78,.cells [.func 40 [] [.ptr (.own 3 0),.ptr (.own 11 0),.ptr (.own 1 0),.ptr (.own 6 0)]] 88]
def nsB2:List Nat:=[0,1,2,3,4,5,6,7,8,9,10,11,12]
def findR2 (l:List Stk) (t:Tst) (P:List (List Int)) (Y k:Nat):FuncId × Spec1:=(44,fun lock args h K=>match args,h with
 | [.agg (.int .i64 y::.int .i64 S::ns),x1,x2,x3,x4],⟨nx,bs⟩=>∃ (S':Nat) (a:Nat->Int) (M:Mde) (es:Lst),(x1=.ptr (.own 4 0)/\x2=.ptr (.own 10 0)/\x3=.ptr (.own 1 0)/\x4=.ptr (.own 12 0))/\(lock=0/\13<=nx)/\atL nsB2 (BP2 l t P Y M es) ⟨nx,bs⟩/\(y=(Y:Int) - k/\S=S'/\ns=nL a)/\PreF l t P Y k S' a es /\
   ∀ (b:Bool) (s:St),PostF l t P Y k S' a M b s->K (.ret (.bool b)) ⟨nx,(7,.fam [] (Y*6) (s.M 0) 80)::(8,.fam [] (Y*6) (s.M 1) 80)::(9,.map kS .bool s.es)::bs⟩
 | _,_=>False)
def folR2 (l:List Stk) (t:Tst) (P:List (List Int)) (Y k:Nat):FuncId × Spec1:=(40,fun lock args h K=>match args,h with
 | [.agg (.int .i64 y::.int .i64 S::ns),.int .i64 o,.int .i64 d,x1,x2,x3,x4],⟨nx,bs⟩=>∃ (S' O:Nat) (a:Nat->Int) (M:Mde) (es:Lst),(x1=.ptr (.own 3 0)/\x2=.ptr (.own 11 0)/\x3=.ptr (.own 1 0)/\x4=.ptr (.own 6 0))/\(lock=0/\13<=nx)/\atL nsB2 (BP2 l t P Y M es) ⟨nx,bs⟩/\(y=(Y:Int) - (k+1:Nat)/\S=S'/\o=O/\ns=nL a)/\PreW l t P Y k O a es /\
   ∀ (b:Bool) (s:St),PostW l t P Y k O d a M b s->K (.ret (.bool b)) ⟨nx,(7,.fam [] (Y*6) (s.M 0) 80)::(8,.fam [] (Y*6) (s.M 1) 80)::(9,.map kS .bool s.es)::bs⟩
 | _,_=>False)
def slFo2 (y S own need:Int) (a:Nat->Int):Slots:=[(16,VV.func 74 [] [.ptr (.own 17 0),.ptr (.own 18 0)]),(15,VV.agg (nL a)),(14,VV.ptr (VA.own 13 2)),(13,.ptr (.own 2 0)),(10,.ptr (.own 16 0)),(9,.ptr (.own 15 0)),(8,.ptr (.own 14 0)),(7,.ptr (.own 13 0)),(0,VV.agg (I y::I S::nL a)),(1,I own),(2,I need),(3,.ptr (.own 3 0)),(4,.ptr (.own 11 0)),(5,.ptr (.own 1 0)),(6,.ptr (.own 6 0))]
def VFo2:List VV:=[.ptr (.own 20 0),.yld 19,.ptr (.own 17 0),.ptr (.own 18 0)]
def VFi2 (i:Int):List VV:=I i::VFo2
def nsFo2:List Nat:=[0,1,2,3,4,5,6,7,8,9,10,11,12,13,14,15,16,17,18,19,20]
noncomputable def BFo2 (l:List Stk) (t:Tst) (P:List (List Int)) (Y:Nat) (y S own need:Int) (a:Nat->Int) (M:Mde) (es:Lst) (n:Nat->Int):List VB:=BP2 l t P Y M es ++ [faS y S a,.cells [I own] 3,.cells [I need] 3,.cells [.bool false] 4,.cells [.ptr (.own 2 0)] 72,faN a,.loop true none (slFo2 y S own need a) 58 [17] asFo bdFo,.fam [] 6 n 80]
theorem ino2_ev (l:List Stk) (t:Tst) (P:List (List Int)) (Y:Nat) (y S own need i:Int) (a:Nat->Int) (M:Mde) (es:Lst) (n:Nat->Int) (X:VEx->List VV->List VB->Prop):codeE Try.prog (callN Try.prog noSpec noL 10 20) (fun _=>none) true 10 (ntOf Try.prog 74) 0 (loopB 2 (bodyOf Try.prog 74)) (dsI.zip (VFi2 i)) ⟨22,nsFo2.zip (BFo2 l t P Y y S own need a M es n)⟩ (obs 22 dsI nsFo2 X) =
 (bif decide (i ≥ (0:Int)) then
 bif decide ((0:Int)<=i/\i<(↑6:Int)) then
 bif decide (i.toNat*(1)<6) then
 bif decide ((0:Int)<=i/\i<(↑6:Int)) then
 bif decide (i.toNat*(1)<6) then
 bif decide (n (i.toNat*(1))=(fun (k:Nat)=>(ch a).getD k (0:Int)) (i.toNat*(1))) then
 bif decide ((0:Int)<=i/\i<(↑6:Int)) then
 bif decide (i.toNat*(1)+(1)<=6) then
 bif inK .i64 (i - (1:Int)) then
 X .normal [I (i - (1:Int)),VV.ptr (.own 20 0),VV.yld 19,VV.ptr (.own 17 0),VV.ptr (.own 18 0)] (BFo2 l t P Y y S own need a M es (setF n (i.toNat*(1)) [(0:Int)]))
 else False
 else False
 else False
 else X (.exit 2) [I i,VV.ptr (.own 20 0),VV.yld 19,VV.ptr (.own 17 0),VV.ptr (.own 18 0)] (BFo2 l t P Y y S own need a M es n)
 else False
 else False
 else False
 else False
 else X (.exit 2) [I i,VV.ptr (.own 20 0),VV.yld 19,VV.ptr (.own 17 0),VV.ptr (.own 18 0)] (BFo2 l t P Y y S own need a M es n)):=by kernel_rfl
noncomputable abbrev BQf2 (l:List Stk) (t:Tst) (P:List (List Int)) (Y:Nat) (y S own need:Int) (a:Nat->Int) (A0 A1:Nat->Int) (es:Lst) (b:Bool) (n:Nat->Int):List VB:=[.cells (tsL t) 25,.cells [pthD P] 26,.cells (stD l::tsL t) 74,.cells [.ptr (.own 2 0)] 72,.cells [I Y] 3,.cells [sFa 7 Y,sFa 8 Y] 76,.cells [.slice (.own 5 0) 2 2] 75,.fam [] (Y*6) A0 80,.fam [] (Y*6) A1 80,
 .map kS .bool es,.cells [.mp 9] 77,.cells [.func 44 [] [.ptr (.own 4 0),.ptr (.own 10 0),.ptr (.own 1 0),.ptr (.own 12 0)]] 78,.cells [.func 40 [] [.ptr (.own 3 0),.ptr (.own 11 0),.ptr (.own 1 0),.ptr (.own 6 0)]] 88] ++ [faS y S a,.cells [I own] 3,.cells [I need] 3,.cells [.bool b] 4,.cells [.ptr (.own 2 0)] 72,faN a,.loop (!b) (bif b then some .ret else none) (slFo2 y S own need a) 58 [17] asFo bdFo,.fam [] 6 n 80]
noncomputable def lIo2 (l:List Stk) (t:Tst) (P:List (List Int)) (Y:Nat) (y S own need:Int) (a:Nat->Int):LT:=fun lock tt h K=>
 ∃ M es n,FitP lock h tt ⟨22,nsFo2.zip (BFo2 l t P Y y S own need a M es n)⟩ (dsI.zip (VFi2 (l.length - 1)))/\l.length<=6/\∀ (k:Nat) (n':Nat->Int),scanC a l.length n=(k,n')->K .normal (dsI.zip (VFi2 (k - 1))) ⟨22,nsFo2.zip (BFo2 l t P Y y S own need a M es n')⟩
theorem fr2_ev (l:List Stk) (t:Tst) (D0 D1:List Int) (Y k:Nat) (M:Mde) (es:Lst) (y S need:Int) (O:Nat) (a n:Nat->Int) (X:VEx->List VV->List VB->Prop):codeE Try.prog (callN Try.prog (tabS [meetsR l t,lessT,findR2 l t [D0,D1] Y k]) noL 10 20) (tabB [(2,lIo2 l t [D0,D1] Y y S O need a)]) true 10 (ntOf Try.prog 74) 0 (loopB 0 (bodyOf Try.prog 74)) (dsC.zip VFo2) ⟨21,nsFo2.zip (BFo2 l t [D0,D1] Y y S O need a M es n)⟩ (obs 21 dsC nsFo2 X) =
 (let z1:=[n (0+0),n (0+1),n (0+2),n (0+3),n (0+4),n (0+5)];
 let z2:=[VV.ptr (.own 20 0),VV.yld 19,VV.ptr (.own 17 0),VV.ptr (.own 18 0)];
 let z3:=((5,I ((↑l.length:Int) - (1:Int)))::(15,I ((↑l.length:Int) - (1:Int)))::(14,I (↑l.length:Int))::(13,VV.tl l.length 5 (stG l))::(12,VV.ptr (.own 2 0))::(11,VV.ptr (.own 2 0))::(10,VV.ptr (.own 2 0))::(9,VV.bool false)::(9,VV.bool !true)::(8,VV.bool true)::(7,VV.agg [I (n (0+0)),I (n (0+1)),I (n (0+2)),I (n (0+3)),I (n (0+4)),I (n (0+5))])::(6,VV.yld 19)::dsC.zip VFo2);
 let z4:=[I (setF (fun (_:Nat)=>(0:Int)) 0 z1 (0+0)),I (setF (fun (_:Nat)=>(0:Int)) 0 z1 (0+1)),I (setF (fun (_:Nat)=>(0:Int)) 0 z1 (0+2)),I (setF (fun (_:Nat)=>(0:Int)) 0 z1 (0+3)),I (setF (fun (_:Nat)=>(0:Int)) 0 z1 (0+4)),I (setF (fun (_:Nat)=>(0:Int)) 0 z1 (0+5))];
 let z5:=(VH.mk (22) ((19,VB.gone)::(21,VB.fam [] (6) (setF (fun (_:Nat)=>(0:Int)) 0 z1) 80)::(21,VB.fam [] (6) (fun (_:Nat)=>(0:Int)) 80)::nsFo2.zip (BFo2 l t [D0,D1] Y y S (↑O:Int) need a M es n)));
 let z6:=(IntKind.i64.wrap (↑(BitVec.ofInt IntKind.i64.bits ((↑O:Int).fdiv ((2:Int) ^ min ((0:Int)+(1:Int)).toNat IntKind.i64.bits)) &&& BitVec.ofInt IntKind.i64.bits (1:Int)).toNat:Int)=(1:Int));
 let z7:=(fun (k:Nat)=>(ch a).getD k (0:Int));
 (∃ (n_1:Nat->Int),isD z5 4 (VV.ptr (.own 2 0)) (VV.tp (stD l::tsL t))/\z4=nL n_1/\(conB l t n_1/\(0:Int)<=y/\y<=(1000:Int))/\bif !meetsF l t n_1 y need then
 bif inK .i64 ((↑l.length:Int) - (1:Int)) then
 ∃ (M_1:Mde),∃ (es_1:Lst),∃ (n_2:Nat->Int),FitP 0 (VH.mk (22) ((19,VB.loop true none (slFo2 y S (↑O:Int) need a) 58 [17] asFo bdFo)::(19,VB.gone)::(21,VB.fam [] (6) (setF (fun (_:Nat)=>(0:Int)) 0 z1) 80)::(21,VB.fam [] (6) (fun (_:Nat)=>(0:Int)) 80)::nsFo2.zip (BFo2 l t [D0,D1] Y y S (↑O:Int) need a M es n))) z3 (VH.mk 22 (nsFo2.zip (BFo2 l t [D0,D1] Y y S (↑O:Int) need a M_1 es_1 n_2))) (dsI.zip (VFi2 ((↑l.length:Int) - (1:Int))))/\l.length<=6/\∀ (k:Nat) (n':Nat->Int),scanC a l.length n_2=(k,n')->bif decide ((↑k:Int) - (1:Int)<(0:Int)) then
 X .ret z2 (BFo2 l t [D0,D1] Y y S O need a M_1 es_1 n')
 else bif decide ((0:Int)<=(↑k:Int) - (1:Int)/\(↑k:Int) - (1:Int)<(↑6:Int)) then
 bif decide (((↑k:Int) - (1:Int)).toNat*(1)<6) then
 bif inK .i64 (n' (((↑k:Int) - (1:Int)).toNat*(1))+(1:Int)) then
 bif decide ((0:Int)<=(↑k:Int) - (1:Int)/\(↑k:Int) - (1:Int)<(↑6:Int)) then
 bif decide (((↑k:Int) - (1:Int)).toNat*(1)+(1)<=6) then
 X .normal z2 (BFo2 l t [D0,D1] Y y S O need a M_1 es_1 (setF n' (((↑k:Int) - (1:Int)).toNat*(1)) [n' (((↑k:Int) - (1:Int)).toNat*(1))+(1:Int)]))
 else False
 else False
 else False
 else False
 else False
 else False
 else bif inK .i64 (y+(1:Int)) then
 ∃ (a_1:Nat->Int),∃ (b:Nat->Int),[I (z7 (0+0)),I (z7 (0+1)),I (z7 (0+2)),I (z7 (0+3)),I (z7 (0+4)),I (z7 (0+5))]=nL a_1/\z4=nL b/\bdL a_1 b/\∃ (S':Nat),∃ (a_2:Nat->Int),∃ (M_1:Mde),∃ (es_1:Lst),(VV.ptr (.own 4 0)=VV.ptr (.own 4 0)/\VV.ptr (.own 10 0)=VV.ptr (.own 10 0)/\VV.ptr (.own 1 0)=VV.ptr (.own 1 0)/\VV.ptr (.own 12 0)=VV.ptr (.own 12 0))/\(0=0/\13<=22)/\atL nsB2 (BP2 l t [D0,D1] Y M_1 es_1) z5/\(y+(1:Int)=(↑Y:Int) - (↑k:Int)/\(↑O:Int)=(↑S':Int)/\[I (lsF a_1 b 6 0),I (lsF a_1 b 6 1),I (lsF a_1 b 6 2),I (lsF a_1 b 6 3),I (lsF a_1 b 6 4),I (lsF a_1 b 6 5)]=nL a_2)/\PreF l t [D0,D1] Y k S' a_2 es_1/\∀ (b:Bool) (s:St),PostF l t [D0,D1] Y k S' a_2 M_1 b s->bif !b then
 bif inK .i64 ((↑l.length:Int) - (1:Int)) then
 ∃ (M_2:Mde),∃ (es_2:Lst),∃ (n_2:Nat->Int),FitP 0 (VH.mk (22) ((19,VB.loop true none (slFo2 y S (↑O:Int) need a) 58 [17] asFo bdFo)::(7,VB.fam [] (Y*6) (s.M 0) 80)::(8,VB.fam [] (Y*6) (s.M 1) 80)::(9,VB.map kS PK.bool s.es)::(19,VB.gone)::(21,VB.fam [] (6) (setF (fun (_:Nat)=>(0:Int)) 0 z1) 80)::(21,VB.fam [] (6) (fun (_:Nat)=>(0:Int)) 80)::nsFo2.zip (BFo2 l t [D0,D1] Y y S (↑O:Int) need a M es n))) z3 (VH.mk 22 (nsFo2.zip (BFo2 l t [D0,D1] Y y S (↑O:Int) need a M_2 es_2 n_2))) (dsI.zip (VFi2 ((↑l.length:Int) - (1:Int))))/\l.length<=6/\∀ (k:Nat) (n':Nat->Int),scanC a l.length n_2=(k,n')->bif decide ((↑k:Int) - (1:Int)<(0:Int)) then
 X .ret z2 (BFo2 l t [D0,D1] Y y S O need a M_2 es_2 n')
 else bif decide ((0:Int)<=(↑k:Int) - (1:Int)/\(↑k:Int) - (1:Int)<(↑6:Int)) then
 bif decide (((↑k:Int) - (1:Int)).toNat*(1)<6) then
 bif inK .i64 (n' (((↑k:Int) - (1:Int)).toNat*(1))+(1:Int)) then
 bif decide ((0:Int)<=(↑k:Int) - (1:Int)/\(↑k:Int) - (1:Int)<(↑6:Int)) then
 bif decide (((↑k:Int) - (1:Int)).toNat*(1)+(1)<=6) then
 X .normal z2 (BFo2 l t [D0,D1] Y y S O need a M_2 es_2 (setF n' (((↑k:Int) - (1:Int)).toNat*(1)) [n' (((↑k:Int) - (1:Int)).toNat*(1))+(1:Int)]))
 else False
 else False
 else False
 else False
 else False
 else False
 else bif decide (IntKind.i64.wrap (↑(BitVec.ofInt IntKind.i64.bits ((↑O:Int).fdiv ((2:Int) ^ min (Int.toNat (0:Int)) IntKind.i64.bits)) &&& BitVec.ofInt IntKind.i64.bits (1:Int)).toNat:Int)=(1:Int)) then
 bif decide ((0:Int)<=y/\y<(↑Y:Int)) then
 bif decide (0+y.toNat*(6)+(6)<=Y*6) then
 bif decide z6 then
 bif decide ((0:Int)<=y/\y<(↑Y:Int)) then
 bif decide (0+y.toNat*(6)+(6)<=Y*6) then
 X .ret z2 (BQf2 l t [D0,D1] Y y S O need a (s6 s 0 y n) (s6 s 1 y n) s.es true n)
 else False
 else False
 else X .ret z2 (BQf2 l t [D0,D1] Y y S O need a (s6 s 0 y n) (s.M 1) s.es true n)
 else False
 else False
 else bif decide z6 then
 bif decide ((0:Int)<=y/\y<(↑Y:Int)) then
 bif decide (0+y.toNat*(6)+(6)<=Y*6) then
 X .ret z2 (BQf2 l t [D0,D1] Y y S O need a (s.M 0) (s6 s 1 y n) s.es true n)
 else False
 else False
 else X .ret z2 (BQf2 l t [D0,D1] Y y S O need a (s.M 0) (s.M 1) s.es true n)
 else False)):=by kernel_rfl
noncomputable def BFoT2 (l:List Stk) (t:Tst) (P:List (List Int)) (Y:Nat) (y S own need:Int) (a:Nat->Int) (M:Mde) (es:Lst) (n:Nat->Int):List VB:=BP2 l t P Y M es ++ [faS y S a,.cells [I own] 3,.cells [I need] 3,.cells [.bool true] 4,.cells [.ptr (.own 2 0)] 72,faN a,.loop false (some .ret) (slFo2 y S own need a) 58 [17] asFo bdFo,.fam [] 6 n 80]
noncomputable def lFo2 (l:List Stk) (t:Tst) (P:List (List Int)) (Y k:Nat) (y S d:Int) (O:Nat) (a:Nat->Int):LT:=fun lock tt h K=>
 ∃ M es,FitP lock h tt ⟨21,nsFo2.zip (BFo2 l t P Y y S O d a M es fun _=>0)⟩ (dsC.zip VFo2)/\(y=(Y:Int) - (k+1:Nat)/\Cfg l t P Y/\PreW l t P Y k O a es)/\(∀ s n',PostW l t P Y k O d a M false s->K .ret (dsC.zip VFo2) ⟨21,nsFo2.zip (BFo2 l t P Y y S O d a s.M s.es n')⟩) /\
  ∀ s n',PostW l t P Y k O d a M true s->K .ret (dsC.zip VFo2) ⟨21,nsFo2.zip (BFoT2 l t P Y y S O d a s.M s.es n')⟩
theorem fob2_ev (l:List Stk) (t:Tst) (D0 D1:List Int) (Y k:Nat) (M:Mde) (es:Lst) (y S d:Int) (O:Nat) (a:Nat->Int) (Q:VRes->VH->Prop):callN Try.prog noSpec (atF 74 [(0,lFo2 l t [D0,D1] Y k y S d O a)]) 10 20 0 (.fn 40) [.agg (I y::I S::nL a),I O,I d,.ptr (.own 3 0),.ptr (.own 11 0),.ptr (.own 1 0),.ptr (.own 6 0)] ⟨13,nsB2.zip (BP2 l t [D0,D1] Y M es)⟩ (fun r h=>Q r h) =
 (∃ (M_1:Mde),∃ (es_1:Lst),FitP 0 (VH.mk (21) ((20,VB.fam [] (6) (fun (_:Nat)=>(0:Int)) 80)::(19,VB.loop true none [(16,VV.func 74 [] [VV.ptr (.own (17) 0),VV.ptr (.own (18) 0)]),(15,VV.agg [I ((f6 a) (0+0)),I ((f6 a) (0+1)),I ((f6 a) (0+2)),I ((f6 a) (0+3)),I ((f6 a) (0+4)),I ((f6 a) (0+5))]),(14,VV.ptr (.own (13) (2))),(13,VV.ptr (.own 2 0)),(10,VV.ptr (.own (16) 0)),(9,VV.ptr (.own (15) 0)),(8,VV.ptr (.own (14) 0)),(7,VV.ptr (.own (13) 0)),(0,VV.agg (I y::I S::nL a)),(1,I (↑O:Int)),(2,I d),(3,VV.ptr (.own 3 0)),(4,VV.ptr (.own 11 0)),(5,VV.ptr (.own 1 0)),(6,VV.ptr (.own 6 0))] 58 [17] asFo bdFo)::(18,VB.fam [] (6) (fun (k:Nat)=>[(f6 a) (0+0),(f6 a) (0+1),(f6 a) (0+2),(f6 a) (0+3),(f6 a) (0+4),(f6 a) (0+5)].getD k (0:Int)) 80)::(17,VB.cells [VV.ptr (.own 2 0)] 72)::(16,VB.cells [VV.bool false] 4)::(15,VB.cells [I d] 3)::(14,VB.cells [I (↑O:Int)] 3)::(13,VB.fam [I y,I S] (6) (f6 a) 82)::nsB2.zip (BP2 l t [D0,D1] Y M es))) [(4,VV.ptr (.own (20) 0)),(0,VV.yld (19)),(1,VV.ptr (.own (17) 0)),(2,VV.ptr (.own (18) 0))] (VH.mk 21 (nsFo2.zip (BFo2 l t [D0,D1] Y y S (↑O:Int) d a M_1 es_1 fun (_:Nat)=>(0:Int)))) (dsC.zip VFo2)/\(y=(↑Y:Int) - (↑(k+1):Int)/\Cfg l t [D0,D1] Y/\PreW l t [D0,D1] Y k O a es_1)/\(∀ (s:St) (n':Nat->Int),PostW l t [D0,D1] Y k O d a M_1 false s->Q (.ret (.bool false)) (VH.mk 21 [(16,VB.cells [VV.bool false] 4),(19,VB.gone),(0,VB.cells [VV.tl t.T.length 1 (dG t.T),I t.far,I t.least] 25),(1,VB.cells [VV.tl [D0,D1].length 1 (pthG [D0,D1])] 26),(2,VB.cells (stD l::tsL t) 74),(3,VB.cells [VV.ptr (.own 2 0)] 72),(4,VB.cells [I (↑Y:Int)] 3),(5,VB.cells [sFa 7 Y,sFa 8 Y] 76),(6,VB.cells [VV.slice (.own 5 0) 2 2] 75),(7,VB.fam [] (Y*6) (s.M 0) 80),(8,VB.fam [] (Y*6) (s.M 1) 80),(9,VB.map kS PK.bool s.es),(10,VB.cells [VV.mp 9] 77),(11,VB.cells [VV.func 44 [] [VV.ptr (.own 4 0),VV.ptr (.own 10 0),VV.ptr (.own 1 0),VV.ptr (.own 12 0)]] 78),(12,VB.cells [VV.func 40 [] [VV.ptr (.own 3 0),VV.ptr (.own 11 0),VV.ptr (.own 1 0),VV.ptr (.own 6 0)]] 88),(13,VB.fam [I y,I S] 6 (fun (k:Nat)=>(ch a).getD k (0:Int)) 82),(14,VB.cells [I (↑O:Int)] 3),(15,VB.cells [I d] 3),(16,VB.cells [VV.bool false] 4),(17,VB.cells [VV.ptr (.own 2 0)] 72),(18,VB.fam [] 6 (fun (k:Nat)=>(ch a).getD k (0:Int)) 80),(19,VB.loop true none (slFo2 y S (↑O:Int) d a) 58 [17] asFo bdFo),(20,VB.fam [] 6 n' 80)]))/\∀ (s:St) (n':Nat->Int),PostW l t [D0,D1] Y k O d a M_1 true s->Q (.ret (.bool true)) (VH.mk 21 [(19,VB.gone),(0,VB.cells [VV.tl t.T.length 1 (dG t.T),I t.far,I t.least] 25),(1,VB.cells [VV.tl [D0,D1].length 1 (pthG [D0,D1])] 26),(2,VB.cells (stD l::tsL t) 74),(3,VB.cells [VV.ptr (.own 2 0)] 72),(4,VB.cells [I (↑Y:Int)] 3),(5,VB.cells [sFa 7 Y,sFa 8 Y] 76),(6,VB.cells [VV.slice (.own 5 0) 2 2] 75),(7,VB.fam [] (Y*6) (s.M 0) 80),(8,VB.fam [] (Y*6) (s.M 1) 80),(9,VB.map kS PK.bool s.es),(10,VB.cells [VV.mp 9] 77),(11,VB.cells [VV.func 44 [] [VV.ptr (.own 4 0),VV.ptr (.own 10 0),VV.ptr (.own 1 0),VV.ptr (.own 12 0)]] 78),(12,VB.cells [VV.func 40 [] [VV.ptr (.own 3 0),VV.ptr (.own 11 0),VV.ptr (.own 1 0),VV.ptr (.own 6 0)]] 88),(13,VB.fam [I y,I S] 6 (fun (k:Nat)=>(ch a).getD k (0:Int)) 82),(14,VB.cells [I (↑O:Int)] 3),(15,VB.cells [I d] 3),(16,VB.cells [VV.bool true] 4),(17,VB.cells [VV.ptr (.own 2 0)] 72),(18,VB.fam [] 6 (fun (k:Nat)=>(ch a).getD k (0:Int)) 80),(19,VB.loop false (some VEx.ret) (slFo2 y S (↑O:Int) d a) 58 [17] asFo bdFo),(20,VB.fam [] 6 n' 80)])):=by kernel_rfl
def dsF2:List Nat:=[7,6,5,0,1,2,3,4]
def VF2 (y S:Int) (a:Nat->Int) (r:Int):List VV:=[I r,.bool false,.ptr (.own 13 0),.agg (I y::I S::nL a),.ptr (.own 4 0),.ptr (.own 10 0),.ptr (.own 1 0),.ptr (.own 12 0)]
def nsF2:List Nat:=[0,1,2,3,4,5,6,7,8,9,10,11,12,13]
def BF2 (l:List Stk) (t:Tst) (P:List (List Int)) (Y:Nat) (y S:Int) (a:Nat->Int) (M:Mde) (es:Lst):List VB:=BP2 l t P Y M es ++ [faS y S a]
def dsG2:List Nat:=[25,24,23,9,8] ++ dsF2
def VG2 (P:List (List Int)) (y S:Int) (a:Nat->Int) (r i d o:Int):List VV:=[I i,I P.length,pthD P,I d,I o] ++ VF2 y S a r
theorem gi2_ev (l:List Stk) (t:Tst) (P:List (List Int)) (Y:Nat) (M:Mde) (es:Lst) (y S i d:Int) (o r:Nat) (a:Nat->Int) (X:VEx->List VV->List VB->Prop):codeE Try.prog (callN Try.prog noSpec noL 10 20) (fun _=>none) true 10 (ntOf Try.prog 44) 0 (loopB 2 (bodyOf Try.prog 44)) (dsG2.zip (VG2 P y S a r i d o)) ⟨14,nsF2.zip (BF2 l t P Y y S a M es)⟩ (obs 14 dsG2 nsF2 X) =
 (let z1:=[VB.cells [VV.tl t.T.length 1 (dG t.T),I t.far,I t.least] 25,VB.cells [VV.tl P.length 1 (pthG P)] 26,VB.cells (stD l::tsL t) 74,VB.cells [VV.ptr (.own 2 0)] 72,VB.cells [I (↑Y:Int)] 3,VB.cells [sFa 7 Y,sFa 8 Y] 76,VB.cells [VV.slice (.own 5 0) 2 2] 75,VB.fam [] (Y*6) (M 0) 80,VB.fam [] (Y*6) (M 1) 80,VB.map kS PK.bool es,VB.cells [VV.mp 9] 77,VB.cells [VV.func 44 [] [VV.ptr (.own 4 0),VV.ptr (.own 10 0),VV.ptr (.own 1 0),VV.ptr (.own 12 0)]] 78,VB.cells [VV.func 40 [] [VV.ptr (.own 3 0),VV.ptr (.own 11 0),VV.ptr (.own 1 0),VV.ptr (.own 6 0)]] 88,VB.fam [I y,I S] 6 (fun (k:Nat)=>(ch a).getD k (0:Int)) 82];
 let z2:=[I (i+(1:Int)),I (↑P.length:Int),VV.tl P.length 1 (pthG P),I ((P.getD i.toNat []).getD y.toNat (0:Int)),I (IntKind.i64.wrap (↑(BitVec.ofInt IntKind.i64.bits (↑o:Int) ||| BitVec.ofInt IntKind.i64.bits ((1:Int)*(2:Int) ^ min i.toNat IntKind.i64.bits)).toNat:Int)),I (↑r:Int),VV.bool false,VV.ptr (.own 13 0),VV.agg [I y,I S,I (a 0),I (a 1),I (a 2),I (a 3),I (a 4),I (a 5)],VV.ptr (.own 4 0),VV.ptr (.own 10 0),VV.ptr (.own 1 0),VV.ptr (.own 12 0)];
 let z3:=[I (i+(1:Int)),I (↑P.length:Int),VV.tl P.length 1 (pthG P),I d,I (↑o:Int),I (↑r:Int),VV.bool false,VV.ptr (.own 13 0),VV.agg [I y,I S,I (a 0),I (a 1),I (a 2),I (a 3),I (a 4),I (a 5)],VV.ptr (.own 4 0),VV.ptr (.own 10 0),VV.ptr (.own 1 0),VV.ptr (.own 12 0)];
 (bif decide (i<(↑P.length:Int)) then
 bif decide ((0:Int)<=i/\i<(↑P.length:Int)) then
 bif decide (i<(0:Int)) then
 False
 else bif decide (IntKind.i64.wrap (↑(BitVec.ofInt IntKind.i64.bits ((↑r:Int).fdiv ((2:Int) ^ min i.toNat IntKind.i64.bits)) &&& BitVec.ofInt IntKind.i64.bits (1:Int)).toNat:Int)=(1:Int)) then
 bif decide (d<(0:Int)) then
 bif decide (i<(0:Int)) then
 False
 else bif inK .i64 ((1:Int)*(2:Int) ^ min i.toNat IntKind.i64.bits) then
 bif decide ((0:Int)<=y/\y<(↑(P.getD i.toNat []).length:Int)) then
 bif inK .i64 (i+(1:Int)) then
 X .normal z2 z1
 else False
 else False
 else False
 else bif decide ((0:Int)<=y/\y<(↑(P.getD i.toNat []).length:Int)) then
 bif decide ((P.getD i.toNat []).getD y.toNat (0:Int)=d) then
 bif decide (i<(0:Int)) then
 False
 else bif inK .i64 ((1:Int)*(2:Int) ^ min i.toNat IntKind.i64.bits) then
 bif decide ((0:Int)<=y/\y<(↑(P.getD i.toNat []).length:Int)) then
 bif inK .i64 (i+(1:Int)) then
 X .normal z2 z1
 else False
 else False
 else False
 else bif inK .i64 (i+(1:Int)) then
 X .normal z3 z1
 else False
 else False
 else bif inK .i64 (i+(1:Int)) then
 X .normal z3 z1
 else False
 else False
 else X (.exit 2) [I i,I (↑P.length:Int),VV.tl P.length 1 (pthG P),I d,I (↑o:Int),I (↑r:Int),VV.bool false,VV.ptr (.own 13 0),VV.agg [I y,I S,I (a 0),I (a 1),I (a 2),I (a 3),I (a 4),I (a 5)],VV.ptr (.own 4 0),VV.ptr (.own 10 0),VV.ptr (.own 1 0),VV.ptr (.own 12 0)] z1)):=by kernel_rfl
def lG2 (l:List Stk) (t:Tst) (P:List (List Int)) (Y k:Nat) (y S:Int) (a:Nat->Int) (r:Nat):LT:=fun lock tt h K=>
 ∃ M es,FitP lock h tt ⟨14,nsF2.zip (BF2 l t P Y y S a M es)⟩ (dsG2.zip (VG2 P y S a r 0 (-1) 0))/\(y=((Y - (k+1):Nat):Int)/\k+1<=Y/\Cfg l t P Y/\r<16)/\∀ o d,grpF P (Y - (k+1)) r P.length=(o,d)->K .normal (dsG2.zip (VG2 P y S a r P.length d o)) ⟨14,nsF2.zip (BF2 l t P Y y S a M es)⟩
theorem gm2_ev (l:List Stk) (t:Tst) (D0 D1:List Int) (Y k:Nat) (M:Mde) (es:Lst) (y:Int) (S r:Nat) (a:Nat->Int) (X:VEx->List VV->List VB->Prop):codeE Try.prog (callN Try.prog (tabS [folR2 l t [D0,D1] Y k]) noL 10 20) (tabB [(2,lG2 l t [D0,D1] Y k y S a r)]) true 10 (ntOf Try.prog 44) 0 (loopB 0 (bodyOf Try.prog 44)) (dsF2.zip (VF2 y S a r)) ⟨14,nsF2.zip (BF2 l t [D0,D1] Y y S a M es)⟩ (obs 14 dsF2 nsF2 X) =
 (let z1:=(fun (k:Nat)=>(ch a).getD k (0:Int));
 let z2:=[I (↑r:Int),VV.bool false,VV.ptr (.own 13 0),VV.agg [I y,I (↑S:Int),I (a 0),I (a 1),I (a 2),I (a 3),I (a 4),I (a 5)],VV.ptr (.own 4 0),VV.ptr (.own 10 0),VV.ptr (.own 1 0),VV.ptr (.own 12 0)];
 let z3:=[VV.func 44 [] [VV.ptr (.own 4 0),VV.ptr (.own 10 0),VV.ptr (.own 1 0),VV.ptr (.own 12 0)]];
 let z4:=[VV.func 40 [] [VV.ptr (.own 3 0),VV.ptr (.own 11 0),VV.ptr (.own 1 0),VV.ptr (.own 6 0)]];
 (bif decide ((↑r:Int) > (0:Int)) then
 ∃ (M_1:Mde),∃ (es_1:Lst),FitP 0 (VH.mk 14 (nsF2.zip (BF2 l t [D0,D1] Y y (↑S:Int) a M es))) ((25,I 0)::(24,I (↑[D0,D1].length:Int))::(23,VV.tl [D0,D1].length 1 (pthG [D0,D1]))::(9,I (-1))::(8,I 0)::(22,VV.bool true)::(22,VV.bool (decide ((↑r:Int) > (0:Int))))::(21,I (↑r:Int))::dsF2.zip (VF2 y (↑S:Int) a (↑r:Int))) (VH.mk 14 (nsF2.zip (BF2 l t [D0,D1] Y y (↑S:Int) a M_1 es_1))) (dsG2.zip (VG2 [D0,D1] y (↑S:Int) a (↑r:Int) (0:Int) (-1:Int) (0:Int)))/\(y=(↑(Y - (k+1)):Int)/\k+1<=Y/\Cfg l t [D0,D1] Y/\r<16)/\∀ (o:Nat) (d:Int),grpF [D0,D1] (Y - (k+1)) r [D0,D1].length=(o,d)->∃ (S':Nat),∃ (O:Nat),∃ (a_2:Nat->Int),∃ (M:Mde),∃ (es:Lst),(VV.ptr (.own 3 0)=VV.ptr (.own 3 0)/\VV.ptr (.own 11 0)=VV.ptr (.own 11 0)/\VV.ptr (.own 1 0)=VV.ptr (.own 1 0)/\VV.ptr (.own 6 0)=VV.ptr (.own 6 0))/\(0=0/\13<=14)/\atL nsB2 (BP2 l t [D0,D1] Y M es) (VH.mk 14 (nsF2.zip (BF2 l t [D0,D1] Y y (↑S:Int) a M_1 es_1)))/\(y=(↑Y:Int) - (↑(k+1):Int)/\(↑S:Int)=(↑S':Int)/\(↑o:Int)=(↑O:Int)/\[I (z1 (0+0)),I (z1 (0+1)),I (z1 (0+2)),I (z1 (0+3)),I (z1 (0+4)),I (z1 (0+5))]=nL a_2)/\PreW l t [D0,D1] Y k O a_2 es/\∀ (b:Bool) (s:St),PostW l t [D0,D1] Y k O d a_2 M b s->bif !b then
 KeyLaw Try.prog 82 kS/\X .ret z2 [VB.cells [VV.tl t.T.length 1 (dG t.T),I t.far,I t.least] 25,VB.cells [VV.tl [D0,D1].length 1 (pthG [D0,D1])] 26,VB.cells (stD l::tsL t) 74,VB.cells [VV.ptr (.own 2 0)] 72,VB.cells [I (↑Y:Int)] 3,VB.cells [sFa 7 Y,sFa 8 Y] 76,VB.cells [VV.slice (.own 5 0) 2 2] 75,VB.fam [] (Y*6) (s.M 0) 80,VB.fam [] (Y*6) (s.M 1) 80,VB.map kS PK.bool (setE s.es [y,(↑S:Int),z1 (0+0),z1 (0+1),z1 (0+2),z1 (0+3),z1 (0+4),z1 (0+5)] (bif true then
 (1:Int)
 else (0:Int))),VB.cells [VV.mp 9] 77,VB.cells z3 78,VB.cells z4 88,VB.fam [I y,I (↑S:Int)] 6 z1 82]
 else X .normal [I (IntKind.i64.wrap (↑(BitVec.ofInt IntKind.i64.bits (↑r:Int) &&& ~~~BitVec.ofInt IntKind.i64.bits (↑o:Int)).toNat:Int)),VV.bool false,VV.ptr (.own 13 0),VV.agg [I y,I (↑S:Int),I (a 0),I (a 1),I (a 2),I (a 3),I (a 4),I (a 5)],VV.ptr (.own 4 0),VV.ptr (.own 10 0),VV.ptr (.own 1 0),VV.ptr (.own 12 0)] [VB.cells [VV.tl t.T.length 1 (dG t.T),I t.far,I t.least] 25,VB.cells [VV.tl [D0,D1].length 1 (pthG [D0,D1])] 26,VB.cells (stD l::tsL t) 74,VB.cells [VV.ptr (.own 2 0)] 72,VB.cells [I (↑Y:Int)] 3,VB.cells [sFa 7 Y,sFa 8 Y] 76,VB.cells [VV.slice (.own 5 0) 2 2] 75,VB.fam [] (Y*6) (s.M 0) 80,VB.fam [] (Y*6) (s.M 1) 80,VB.map kS PK.bool s.es,VB.cells [VV.mp 9] 77,VB.cells z3 78,VB.cells z4 88,VB.fam [I y,I (↑S:Int)] 6 z1 82]
 else X (.exit 0) z2 [VB.cells [VV.tl t.T.length 1 (dG t.T),I t.far,I t.least] 25,VB.cells [VV.tl [D0,D1].length 1 (pthG [D0,D1])] 26,VB.cells (stD l::tsL t) 74,VB.cells [VV.ptr (.own 2 0)] 72,VB.cells [I (↑Y:Int)] 3,VB.cells [sFa 7 Y,sFa 8 Y] 76,VB.cells [VV.slice (.own 5 0) 2 2] 75,VB.fam [] (Y*6) (M 0) 80,VB.fam [] (Y*6) (M 1) 80,VB.map kS PK.bool es,VB.cells [VV.mp 9] 77,VB.cells z3 78,VB.cells z4 88,VB.fam [I y,I (↑S:Int)] 6 z1 82])):=by kernel_rfl
def lFi2 (l:List Stk) (t:Tst) (P:List (List Int)) (Y k:Nat) (y:Int) (S:Nat) (a:Nat->Int):LT:=fun lock tt h K=>
 ∃ M es,FitP lock h tt ⟨14,nsF2.zip (BF2 l t P Y y S a M es)⟩ (dsF2.zip (VF2 y S a S))/\(y=(Y:Int) - (k+1:Nat)/\Cfg l t P Y/\PreF l t P Y (k+1) S a es)/\(∀ s,PostF l t P Y (k+1) S a M true s->K .normal (dsF2.zip (VF2 y S a 0)) ⟨14,nsF2.zip (BF2 l t P Y y S a s.M s.es)⟩) /\
  ∀ s (r:Int),PostF l t P Y (k+1) S a M false s->K .ret (dsF2.zip (VF2 y S a r)) ⟨14,nsF2.zip (BF2 l t P Y y S a s.M s.es)⟩
theorem fib2_ev (l:List Stk) (t:Tst) (D0 D1:List Int) (Y k:Nat) (M:Mde) (es:Lst) (y:Int) (S:Nat) (a:Nat->Int) (Q:VRes->VH->Prop):callN Try.prog noSpec (atF 44 [(0,lFi2 l t [D0,D1] Y k y S a)]) 10 20 0 (.fn 44) [.agg (I y::I S::nL a),.ptr (.own 4 0),.ptr (.own 10 0),.ptr (.own 1 0),.ptr (.own 12 0)] ⟨13,nsB2.zip (BP2 l t [D0,D1] Y M es)⟩ (fun r h=>Q r h) =
 (let z2:=(11,VB.cells [VV.func 44 [] [VV.ptr (.own 4 0),VV.ptr (.own 10 0),VV.ptr (.own 1 0),VV.ptr (.own 12 0)]] 78);
 let z3:=(12,VB.cells [VV.func 40 [] [VV.ptr (.own 3 0),VV.ptr (.own 11 0),VV.ptr (.own 1 0),VV.ptr (.own 6 0)]] 88);
 let z1:=(VH.mk (14) [(13,VB.fam [I y,I (↑S:Int)] (6) (f6 a) 82),(0,VB.cells [VV.tl t.T.length 1 (dG t.T),I t.far,I t.least] 25),(1,VB.cells [VV.tl [D0,D1].length 1 (pthG [D0,D1])] 26),(2,VB.cells (stD l::tsL t) 74),(3,VB.cells [VV.ptr (.own 2 0)] 72),(4,VB.cells [I (↑Y:Int)] 3),(5,VB.cells [sFa 7 Y,sFa 8 Y] 76),(6,VB.cells [VV.slice (.own 5 0) 2 2] 75),(7,VB.fam [] (Y*6) (M 0) 80),(8,VB.fam [] (Y*6) (M 1) 80),(9,VB.map kS PK.bool es),(10,VB.cells [VV.mp 9] 77),z2,z3]);
 (bif decide (y=(↑Y:Int)) then
 Q (.ret (.bool true)) z1
 else KeyLaw Try.prog 82 kS/\bif decide (valOf es [y,(↑S:Int),(f6 a) (0+0),(f6 a) (0+1),(f6 a) (0+2),(f6 a) (0+3),(f6 a) (0+4),(f6 a) (0+5)]=(1:Int)) then
 Q (.ret (.bool false)) z1
 else ∃ (M_1:Mde),∃ (es_1:Lst),FitP 0 (VH.mk (14) ((13,VB.fam [I y,I (↑S:Int)] (6) (f6 a) 82)::nsB2.zip (BP2 l t [D0,D1] Y M es))) [(7,I (↑S:Int)),(20,I (↑S:Int)),(19,VV.ptr (.own (13) (1))),(18,VV.bool false),(18,VV.bool (decide (valOf es [y,(↑S:Int),(f6 a) (0+0),(f6 a) (0+1),(f6 a) (0+2),(f6 a) (0+3),(f6 a) (0+4),(f6 a) (0+5)]=(1:Int)))),(17,VV.agg [I y,I (↑S:Int),I ((f6 a) (0+0)),I ((f6 a) (0+1)),I ((f6 a) (0+2)),I ((f6 a) (0+3)),I ((f6 a) (0+4)),I ((f6 a) (0+5))]),(16,VV.mp 9),(15,VV.bool false),(15,VV.bool (decide (y=(↑Y:Int)))),(14,I (↑Y:Int)),(13,I y),(12,VV.ptr (.own (13) 0)),(6,VV.bool false),(5,VV.ptr (.own (13) 0)),(0,VV.agg (I y::I (↑S:Int)::nL a)),(1,VV.ptr (.own 4 0)),(2,VV.ptr (.own 10 0)),(3,VV.ptr (.own 1 0)),(4,VV.ptr (.own 12 0))] (VH.mk 14 (nsF2.zip (BF2 l t [D0,D1] Y y (↑S:Int) a M_1 es_1))) (dsF2.zip (VF2 y (↑S:Int) a (↑S:Int)))/\(y=(↑Y:Int) - (↑(k+1):Int)/\Cfg l t [D0,D1] Y/\PreF l t [D0,D1] Y (k+1) S a es_1)/\(∀ (s:St),PostF l t [D0,D1] Y (k+1) S a M_1 true s->Q (.ret (.bool true)) (VH.mk 14 [(0,VB.cells [VV.tl t.T.length 1 (dG t.T),I t.far,I t.least] 25),(1,VB.cells [VV.tl [D0,D1].length 1 (pthG [D0,D1])] 26),(2,VB.cells (stD l::tsL t) 74),(3,VB.cells [VV.ptr (.own 2 0)] 72),(4,VB.cells [I (↑Y:Int)] 3),(5,VB.cells [sFa 7 Y,sFa 8 Y] 76),(6,VB.cells [VV.slice (.own 5 0) 2 2] 75),(7,VB.fam [] (Y*6) (s.M 0) 80),(8,VB.fam [] (Y*6) (s.M 1) 80),(9,VB.map kS PK.bool s.es),(10,VB.cells [VV.mp 9] 77),z2,z3,(13,VB.fam [I y,I (↑S:Int)] 6 (fun (k:Nat)=>(ch a).getD k (0:Int)) 82)]))/\∀ (s:St) (r:Int),PostF l t [D0,D1] Y (k+1) S a M_1 false s->Q (.ret (.bool false)) (VH.mk 14 [(0,VB.cells [VV.tl t.T.length 1 (dG t.T),I t.far,I t.least] 25),(1,VB.cells [VV.tl [D0,D1].length 1 (pthG [D0,D1])] 26),(2,VB.cells (stD l::tsL t) 74),(3,VB.cells [VV.ptr (.own 2 0)] 72),(4,VB.cells [I (↑Y:Int)] 3),(5,VB.cells [sFa 7 Y,sFa 8 Y] 76),(6,VB.cells [VV.slice (.own 5 0) 2 2] 75),(7,VB.fam [] (Y*6) (s.M 0) 80),(8,VB.fam [] (Y*6) (s.M 1) 80),(9,VB.map kS PK.bool s.es),(10,VB.cells [VV.mp 9] 77),z2,z3,(13,VB.fam [I y,I (↑S:Int)] 6 (fun (k:Nat)=>(ch a).getD k (0:Int)) 82)]))):=by kernel_rfl
theorem fiz2_ev (l:List Stk) (t:Tst) (D0 D1:List Int) (Y:Nat) (M:Mde) (es:Lst) (y:Int) (S:Nat) (a:Nat->Int) (Q:VRes->VH->Prop):callN Try.prog noSpec (atF 44 [(0,lZ)]) 10 20 0 (.fn 44) [.agg (I y::I S::nL a),.ptr (.own 4 0),.ptr (.own 10 0),.ptr (.own 1 0),.ptr (.own 12 0)] ⟨13,nsB2.zip (BP2 l t [D0,D1] Y M es)⟩ (fun r h=>Q r h) =
 (bif decide (y=(↑Y:Int)) then
 Q (.ret (.bool true)) (VH.mk (14) [(13,VB.fam [I y,I (↑S:Int)] (6) (f6 a) 82),(0,VB.cells [VV.tl t.T.length 1 (dG t.T),I t.far,I t.least] 25),(1,VB.cells [VV.tl [D0,D1].length 1 (pthG [D0,D1])] 26),(2,VB.cells (stD l::tsL t) 74),(3,VB.cells [VV.ptr (.own 2 0)] 72),(4,VB.cells [I (↑Y:Int)] 3),(5,VB.cells [sFa 7 Y,sFa 8 Y] 76),(6,VB.cells [VV.slice (.own 5 0) 2 2] 75),(7,VB.fam [] (Y*6) (M 0) 80),(8,VB.fam [] (Y*6) (M 1) 80),(9,VB.map kS PK.bool es),(10,VB.cells [VV.mp 9] 77),(11,VB.cells [VV.func 44 [] [VV.ptr (.own 4 0),VV.ptr (.own 10 0),VV.ptr (.own 1 0),VV.ptr (.own 12 0)]] 78),(12,VB.cells [VV.func 40 [] [VV.ptr (.own 3 0),VV.ptr (.own 11 0),VV.ptr (.own 1 0),VV.ptr (.own 6 0)]] 88)])
 else KeyLaw Try.prog 82 kS/\bif decide (valOf es [y,(↑S:Int),(f6 a) (0+0),(f6 a) (0+1),(f6 a) (0+2),(f6 a) (0+3),(f6 a) (0+4),(f6 a) (0+5)]=(1:Int)) then
 Q (.ret (.bool false)) (VH.mk (14) [(13,VB.fam [I y,I (↑S:Int)] (6) (f6 a) 82),(0,VB.cells [VV.tl t.T.length 1 (dG t.T),I t.far,I t.least] 25),(1,VB.cells [VV.tl [D0,D1].length 1 (pthG [D0,D1])] 26),(2,VB.cells (stD l::tsL t) 74),(3,VB.cells [VV.ptr (.own 2 0)] 72),(4,VB.cells [I (↑Y:Int)] 3),(5,VB.cells [sFa 7 Y,sFa 8 Y] 76),(6,VB.cells [VV.slice (.own 5 0) 2 2] 75),(7,VB.fam [] (Y*6) (M 0) 80),(8,VB.fam [] (Y*6) (M 1) 80),(9,VB.map kS PK.bool es),(10,VB.cells [VV.mp 9] 77),(11,VB.cells [VV.func 44 [] [VV.ptr (.own 4 0),VV.ptr (.own 10 0),VV.ptr (.own 1 0),VV.ptr (.own 12 0)]] 78),(12,VB.cells [VV.func 40 [] [VV.ptr (.own 3 0),VV.ptr (.own 11 0),VV.ptr (.own 1 0),VV.ptr (.own 6 0)]] 88)])
 else False):=by kernel_rfl
section
variable {l:List Stk} {t:Tst} {P:List (List Int)} {Y k:Nat} {y S d:Int} {own:Int} {a:Nat->Int}
noncomputable def OJ2 (l:List Stk) (t:Tst) (P:List (List Int)) (Y:Nat) (y S own d:Int) (a:Nat->Int) (s:(Mde × Lst) × Nat × (Nat->Int)) (e:VEx) (vs:List VV) (bs:List VB):Prop:=
 e=.exit 2/\vs=VFi2 ((scanC a s.2.1 s.2.2).1 - 1)/\bs=BFo2 l t P Y y S own d a s.1.1 s.1.2 (scanC a s.2.1 s.2.2).2
theorem lIo2_ok:LSound Try.prog true (.block 2 (.loop (loopB 2 (bodyOf Try.prog 74)))) (ntOf Try.prog 74) (lIo2 l t P Y y S own d a):=by
 by_cases hn:l.length<=6
 ·refine loop_row hmix good0 (un:=10) (ds:=dsI) (ns:=nsFo2) (nx:=22) (fun s:(Mde × Lst) × Nat × (Nat->Int)=>VFi2 (s.2.1 - 1)) (fun s=>BFo2 l t P Y y S own d a s.1.1 s.1.2 s.2.2) (fun s=>s.2.1<=l.length) (fun s=>s.2.1) (OJ2 l t P Y y S own d a) noL_ok ?_ ?_
  ·rintro ⟨⟨M,es⟩,k,n⟩ h0
   dsimp only at h0 ⊢
   refine cast (ino2_ev l t P Y y S own d (k - 1) a M es n _).symm ?_
   cases k with
   | zero=>exact cond_d (fun h=>by omega) (fun _=>⟨rfl,rfl,rfl⟩)
   | succ k=>
    have e:(((k+1:Nat):Int) - 1)=(k:Int):=by omega
    rw [e]
    have e2:(k:Int).toNat*1=k:=by omega
    rw [e2,show (fun k=>(ch a).getD k (0:Int)) k=a k from ch_get (by omega)]
    refine cond_d (fun _=>?_) (fun h=>by omega)
    refine cond_dk ⟨by omega,by omega⟩ (cond_dk (by omega) (cond_dk ⟨by omega,by omega⟩ (cond_dk (by omega) (cond_d (fun g=>cond_dk ⟨by omega,by omega⟩ (cond_dk (by omega) (cond_r (by omega) ?_))) (fun g=>?_)))))
    ·refine ⟨((M,es),k,setC n k 0),?_,?_,rfl,fitBs_refl _,fun e vs bs he=>?_⟩
     ·show k<=_; omega
     ·show k<k+1; omega
     ·have hs:scanC a (k+1) n=scanC a k (setC n k 0):=by
       show (if _ then _ else _)=_
       rw [if_pos g]
      obtain ⟨h1,h2,h3⟩:=he
      refine ⟨h1,?_,?_⟩
      ·rw [h2]; dsimp only; rw [hs]
      ·rw [h3]; dsimp only; rw [hs]
    ·have hs:scanC a (k+1) n=(k+1,n):=by
      show (if _ then _ else _)=_
      rw [if_neg g]
     refine ⟨rfl,?_,?_⟩
     ·dsimp only; rw [hs]; dsimp only; rw [e]; rfl
     ·dsimp only; rw [hs]
  ·rintro lock tt h K ⟨M,es,n,hf,_,k1⟩
   refine ⟨((M,es),l.length,n),hf,Nat.le_refl _,?_⟩
   rintro e vs bs ⟨rfl,rfl,rfl⟩
   exact k1 _ _ rfl
 ·rintro lock tt h K ⟨M,es,n,hf,hc,_⟩
  exact (hn hc).elim
theorem lG2_ok {r:Nat}:LSound Try.prog true (.block 2 (.loop (loopB 2 (bodyOf Try.prog 44)))) (ntOf Try.prog 44) (lG2 l t P Y k y S a r):=by
 by_cases hh:y=((Y - (k+1):Nat):Int)/\k+1<=Y/\Cfg l t P Y/\r<16
 ·obtain ⟨hy,hk,cf,hr⟩:=hh
  have hp4:=cf.P4
  refine loop_row hmix good0 (un:=10) (ds:=dsG2) (ns:=nsF2) (nx:=14) (fun s:(Mde × Lst) × Nat=>VG2 P y S a r s.2 (grpF P (Y - (k+1)) r s.2).2 (grpF P (Y - (k+1)) r s.2).1) (fun s=>BF2 l t P Y y S a s.1.1 s.1.2) (fun s=>s.2<=P.length) (fun s=>P.length - s.2)
   (fun s e vs bs=>e=.exit 2/\vs=VG2 P y S a r P.length (grpF P (Y - (k+1)) r P.length).2 (grpF P (Y - (k+1)) r P.length).1/\bs=BF2 l t P Y y S a s.1.1 s.1.2) noL_ok ?_ ?_
  ·rintro ⟨⟨M,es⟩,i⟩ h0
   dsimp only at h0 ⊢
   refine cast (gi2_ev l t P Y M es y S i _ _ r a _).symm ?_
   have hgb:=grpF_le cf.nd (Y - (k+1)) r i
   have hs:grpF P (Y - (k+1)) r (i+1)=if r.testBit i/\((grpF P (Y - (k+1)) r i).2<0 ∨ (P.getD i []).getD (Y - (k+1)) 0=(grpF P (Y - (k+1)) r i).2) then ((grpF P (Y - (k+1)) r i).1 ||| 2 ^ i,(P.getD i []).getD (Y - (k+1)) 0) else grpF P (Y - (k+1)) r i:=rfl
   have h16:(grpF P (Y - (k+1)) r i).1<16:=Nat.lt_of_lt_of_le hgb (Nat.pow_le_pow_right (n:=2) (by omega) (show i<=4 by omega))
   generalize hRQ:RoundQ (σ:=(Mde × Lst) × Nat) _ _ _ _ _ ((M,es),i)=RQ
   have fin:∀ (o':Nat) (d':Int),grpF P (Y - (k+1)) r (i+1)=(o',d')->i<P.length->RQ .normal (VG2 P y S a r ((i:Int)+1) d' o') (BF2 l t P Y y S a M es):=by
    intro o' d' he hlt
    rw [<- hRQ]
    refine ⟨((M,es),i+1),?_,?_,?_,fitBs_refl _,fun _ _ _ h=>h⟩
    ·show i+1<=_; omega
    ·show P.length - (i+1)<P.length - i; omega
    ·dsimp only; rw [he]; rfl
   generalize hg:grpF P (Y - (k+1)) r i=g at hs h16 ⊢
   obtain ⟨o,dd⟩:=g
   dsimp only at hs h16 ⊢
   by_cases hlt:i<P.length
   ·have hidx:(0:Int)<=y/\y<((P.getD i []).length:Nat):=by rw [cf.len i hlt]; omega
    have hi4:i<4:=by omega
    have hpow:(1:Int)*(2:Int) ^ min i IntKind.i64.bits<=8/\0<=(1:Int)*(2:Int) ^ min i IntKind.i64.bits:=by
     match i,hi4 with
     | 0,_=>exact ⟨by decide,by decide⟩
     | 1,_=>exact ⟨by decide,by decide⟩
     | 2,_=>exact ⟨by decide,by decide⟩
     | 3,_=>exact ⟨by decide,by decide⟩
    have ey:y.toNat=Y - (k+1):=by omega
    refine cond_dk (by omega) (cond_dk ⟨by omega,by omega⟩ (cond_d (fun h=>by omega) (fun _=>?_)))
    rw [show (i:Int).toNat=i by omega,ey,or_v o h16 i hi4]
    refine cond_d (fun b=>?_) (fun b=>?_)
    ·have b:=(bit_v r hr i hi4).1 b
     refine cond_d (fun g1=>cond_d (fun h=>by omega) (fun _=>cond_r (by omega) (cond_dk hidx (cond_r (by omega) (fin _ _ ?_ hlt))))) (fun g1=>cond_dk hidx (cond_d (fun g2=>cond_d (fun h=>by omega) (fun _=>cond_r (by omega) (cond_dk hidx (cond_r (by omega) (fin _ _ ?_ hlt))))) (fun g2=>cond_r (by omega) (fin _ _ ?_ hlt))))
     ·rw [hs,if_pos ⟨b,.inl g1⟩]
     ·rw [hs,if_pos ⟨b,.inr g2⟩]
     ·rw [hs,if_neg (fun h=>h.2.elim g1 g2)]
    ·have b:¬ r.testBit i=true:=fun h=>b ((bit_v r hr i hi4).2 h)
     refine cond_r (by omega) (fin _ _ ?_ hlt)
     rw [hs,if_neg (fun h=>b h.1)]
   ·obtain rfl:i=P.length:=by omega
    refine cond_d (fun h=>by omega) (fun _=>?_)
    rw [<- hRQ]
    refine ⟨rfl,?_,rfl⟩
    rw [hg]; rfl
  ·rintro lock tt h K ⟨M,es,hf,_,k1⟩
   refine ⟨((M,es),0),hf,Nat.zero_le _,?_⟩
   rintro e vs bs ⟨rfl,rfl,rfl⟩
   exact k1 _ _ rfl
 ·rintro lock tt h K ⟨M,es,hf,hc,_⟩
  exact (hh hc).elim
end
section
variable {l:List Stk} {t:Tst} {D0 D1:List Int} {Y k:Nat}
theorem hc62 {h:VH} (h6:(h.at 2).cs? = some (stD l::tsL t,74)):isD h 4 (.ptr (.own 2 0)) (.tp (stD l::tsL t)):=⟨_,_,h6,isD_l,⟨rfl,rfl,fun _ _=>rfl⟩,⟨rfl,rfl⟩,⟨rfl,rfl⟩,trivial⟩
structure WS2 where
 M0:Mde
 j:Nat
 M:Mde
 es:Lst
noncomputable def OW2 (l:List Stk) (t:Tst) (P:List (List Int)) (Y k:Nat) (y S d:Int) (O:Nat) (a:Nat->Int) (s:WS2) (e:VEx) (vs:List VV) (bs:List VB):Prop:=
 e=.ret/\vs=VFo2/\∃ st n',(PostW l t P Y k O d a s.M0 false st/\bs=BFo2 l t P Y y S O d a st.M st.es n') ∨ (PostW l t P Y k O d a s.M0 true st/\bs=BFoT2 l t P Y y S O d a st.M st.es n')
theorem lFo2_ok (hfind:SpOk Try.prog (findR2 l t [D0,D1] Y k).1 (findR2 l t [D0,D1] Y k).2) {y S d:Int} {O:Nat} {a:Nat->Int}:LSound Try.prog true (.block 0 (.loop (loopB 0 (bodyOf Try.prog 74)))) (ntOf Try.prog 74) (lFo2 l t [D0,D1] Y k y S d O a):=by
 by_cases hh:y=(Y:Int) - (k+1:Nat)/\Cfg l t [D0,D1] Y/\k+1<=Y/\O<2 ^ [D0,D1].length/\leftB l a
 ·obtain ⟨hy,cf,hk,hO,ha⟩:=hh
  have hl6:=cf.hl.1
  have hY4:=cf.Y4
  have hm0:∀ i,i<l.length->0<=a i:=fun i hi=>(ha.1 i hi).1
  have hO16:O<16:=Nat.lt_of_lt_of_le hO (Nat.pow_le_pow_right (n:=2) (by omega) (show 2<=4 by omega))
  have htab:∀ f T,tabS [meetsR l t,lessT,findR2 l t [D0,D1] Y k] f=some T->SpOk Try.prog f T:=tab_ok _ (fun x hx=>by
   simp only [List.mem_cons,List.not_mem_nil,or_false] at hx
   rcases hx with rfl | rfl | rfl
   ·exact meetsR_ok l t
   ·exact lessT_ok
   ·exact hfind)
  refine loop_row hmix (noL_good htab) (lsp:=tabB [(2,lIo2 l t [D0,D1] Y y S O d a)]) (un:=10) (ds:=dsC) (ns:=nsFo2) (nx:=21) (fun _:WS2=>VFo2) (fun s=>BFo2 l t [D0,D1] Y y S O d a s.M s.es (chAt a l.length s.j))
   (fun s=>s.j<(allC a l.length).length/\LostOk l t [D0,D1] Y s.es/\Same Y (k+1) O s.M0 s.M/\∀ i,i<s.j->meetsF l t (chAt a l.length i) y d=true->planF l t [D0,D1] Y k O (lsF a (chAt a l.length i) 6)=none) (fun s=>(allC a l.length).length - s.j) (OW2 l t [D0,D1] Y k y S d O a) (lsp_one (by kernel_rfl) lIo2_ok) ?_ ?_
  ·rintro ⟨M0,j,M,es⟩ ⟨hj,hlost,hsame,hbad⟩
   dsimp only at hj hlost hsame hbad
   refine cast (fr2_ev l t D0 D1 Y k M es y S d O a _ _).symm ?_
   have hcm:=chAt_mem (most:=a) (k:=l.length) hj
   obtain ⟨hleft,hbd,hnc⟩:=left_less ha hcm hl6
   have hnx:=scan_nxt (most:=a) l.length (chAt a l.length j)
   have hnext:=chAt_next hm0 hj
   have hsucc:∀ x,meetsF l t (chAt a l.length j) y d=true->planF l t [D0,D1] Y k O (lsF a (chAt a l.length j) 6)=some x->folF l t [D0,D1] Y k a O d=some (chAt a l.length j,x):=fun x g1 g2=>by
    refine tryF_some (c0:=fun _=>0) hj (fun i hi hm=>hbad i hi ?_) ?_ g2
    ·rw [hy]; exact hm
    ·show meetsF l t (chAt a l.length j) _ d=true
     rw [<- hy]; exact g1
   generalize hRQ:RoundQ (σ:=WS2) _ _ _ _ _ ⟨M0,j,M,es⟩=RQ
   generalize hcj:chAt a l.length j=c at hcm hleft hbd hnc hnx hnext hsucc ⊢
   have fin:∀ (M':Mde) (es':Lst),LostOk l t [D0,D1] Y es'->Same Y (k+1) O M0 M'->(meetsF l t c y d=true->planF l t [D0,D1] Y k O (lsF a c 6)=none)->∀ (k2:Nat) (n':Nat->Int),scanC a l.length c=(k2,n') ->
    (bif decide ((k2:Int) - 1<0) then RQ .ret VFo2 (BFo2 l t [D0,D1] Y y S O d a M' es' n')
    else bif decide (0<=(k2:Int) - 1/\(k2:Int) - 1<(6:Nat)) then (bif decide (((k2:Int) - 1).toNat*1<6) then (bif inK .i64 (n' (((k2:Int) - 1).toNat*1)+1) then (bif decide (0<=(k2:Int) - 1/\(k2:Int) - 1<(6:Nat)) then (bif decide (((k2:Int) - 1).toNat*1+1<=6) then
     RQ .normal VFo2 (BFo2 l t [D0,D1] Y y S O d a M' es' (setF n' (((k2:Int) - 1).toNat*1) [n' (((k2:Int) - 1).toNat*1)+1])) else False) else False) else False) else False) else False):=by
    intro M' es' hl' hs' hno k2 n' hk2
    have hbad':∀ i,i<j+1->meetsF l t (chAt a l.length i) y d=true->planF l t [D0,D1] Y k O (lsF a (chAt a l.length i) 6)=none:=fun i hi hm=>by
     by_cases e:i=j
     ·subst e; rw [hcj] at hm ⊢; exact hno hm
     ·exact hbad i (by omega) hm
    rw [hk2] at hnx
    obtain ⟨hk1,hnx⟩:=hnx
    dsimp only at hk1
    cases k2 with
    | zero=>
     dsimp only at hnx
     have hj1:j+1=(allC a l.length).length:=by
      rcases hnext with ⟨h1,_⟩ | ⟨_,h2⟩
      ·exact h1
      ·rw [hnx] at h2; cases h2
     refine cond_d (fun _=>?_) (fun h=>by omega)
     rw [<- hRQ]
     refine ⟨rfl,rfl,⟨M',es'⟩,n',.inl ⟨?_,rfl⟩⟩
     have hf:folF l t [D0,D1] Y k a O d=none:=tryF_none (fun c' hc' hm'=>by
      obtain ⟨i,hi,rfl⟩:=List.getElem_of_mem hc'
      have e:chAt a l.length i=(allC a l.length)[i]:=by
       unfold chAt
       rw [List.getD_eq_getElem?_getD,List.getElem?_eq_getElem hi]; rfl
      rw [<- e]
      refine hbad' i (by omega) ?_
      rw [e,hy]; exact hm')
     exact ⟨by rw [hf]; rfl,hl',hs',fun c' x' he=>by rw [hf] at he; cases he⟩
    | succ k2=>
     dsimp only at hnx
     have e:(((k2+1:Nat):Int) - 1)=(k2:Int):=by omega
     rw [e]
     have e2:(k2:Int).toNat*1=k2:=by omega
     rw [e2]
     obtain ⟨hj1,hch⟩:j+1<(allC a l.length).length/\chAt a l.length (j+1)=setC n' k2 (n' k2+1):=by
      rcases hnext with ⟨_,h2⟩ | ⟨h1,h2⟩
      ·rw [hnx] at h2; cases h2
      ·rw [hnx] at h2
       injection h2 with h2
       exact ⟨h1,h2.symm⟩
     have hb6:=(left_less ha (chAt_mem hj1) hl6).2.2 k2 (by omega)
     rw [hch,setC_same] at hb6
     refine cond_d (fun h=>by omega) (fun _=>cond_dk ⟨by omega,by omega⟩ (cond_dk (by omega) (cond_r (by omega) (cond_dk ⟨by omega,by omega⟩ (cond_dk (by omega) ?_)))))
     rw [<- hRQ]
     refine ⟨⟨M0,j+1,M',es'⟩,⟨hj1,hl',hs',hbad'⟩,?_,rfl,?_,fun _ _ _ h=>h⟩
     ·show (allC a l.length).length - (j+1)<(allC a l.length).length - j
      omega
     ·dsimp only
      rw [hch]
      exact fitBs_refl _
   have hir : -9223372036854775808<=(l.length:Int) - 1/\(l.length:Int) - 1<=9223372036854775807:=by omega
   have hF:∀ (M':Mde) (es':Lst) (h:VH) (tt:Slots),h.nx=22->fitB (nsFo2.zip (BFo2 l t [D0,D1] Y y S O d a M' es' c)) h->fitS (dsI.zip (VFi2 (l.length - 1))) tt->FitP 0 h tt ⟨22,nsFo2.zip (BFo2 l t [D0,D1] Y y S O d a M' es' c)⟩ (dsI.zip (VFi2 (l.length - 1))):=fun _ _ _ _ h1 h2 h3=>⟨⟨rfl,h1,h2⟩,h3⟩
   refine ⟨c,hc62 rfl,rfl,⟨⟨hnc,cf.hl,cf.hp,cf.ht⟩,by omega,by omega⟩,cond_i (fun g=>?_) (fun g=>?_)⟩
   ·have g:meetsF l t c y d=false:=by simpa using g
    refine cond_r hir ⟨M,es,c,hF M es _ _ rfl ?_ ?_,hl6,fin M es hlost hsame (fun h=>by rw [g] at h; cases h)⟩
    ·exact (by repeat (first | exact trivial | refine ⟨VB.fit_refl _,?_⟩))
    ·exact ⟨rfl,rfl,rfl,rfl,rfl,trivial⟩
   ·have g:meetsF l t c y d=true:=by simpa using g
    refine cond_r (by omega) ⟨a,c,rfl,rfl,hbd,O,lsF a c 6,M,es,⟨rfl,rfl,rfl,rfl⟩,⟨rfl,by omega⟩,⟨rfl,rfl,rfl,rfl,rfl,rfl,rfl,rfl,rfl,rfl,rfl,rfl,rfl,trivial⟩,⟨by omega,rfl,rfl⟩,⟨by omega,hO,hleft,hlost⟩,?_⟩
    rintro b s ⟨p1,p2,p3,p4⟩
    refine cond_i (fun g2=>?_) (fun g2=>?_)
    ·have g2:b=false:=by simpa using g2
     refine cond_r hir ⟨s.M,s.es,c,hF s.M s.es _ _ rfl ?_ ?_,hl6,fin s.M s.es p2 (hsame.trans p3.later) (fun _=>?_)⟩
     ·exact (by repeat (first | exact trivial | refine ⟨VB.fit_refl _,?_⟩))
     ·exact ⟨rfl,rfl,rfl,rfl,rfl,trivial⟩
     ·rw [g2] at p1
      cases hx:planF l t [D0,D1] Y k O (lsF a c 6) with
      | none=>rfl
      | some x=>rw [hx] at p1; cases p1
    ·have g2:b=true:=by simpa using g2
     subst g2
     obtain ⟨x,hx⟩:∃ x,planF l t [D0,D1] Y k O (lsF a c 6)=some x:=by
      cases hx:planF l t [D0,D1] Y k O (lsF a c 6) with
      | none=>rw [hx] at p1; cases p1
      | some x=>exact ⟨x,rfl⟩
     have hyY:(0:Int)<=y/\y<(Y:Int):=⟨by omega,by omega⟩
     have hyY6:0+y.toNat*6+6<=Y*6:=by omega
     have fin2:∀ M2:Mde,(∀ i,i < [D0,D1].length->M2 i=if O.testBit i=true then wrM (s.M i) y c else s.M i)->(∀ i,[D0,D1].length<=i->M2 i=s.M i)->∀ bs,bs=BFoT2 l t [D0,D1] Y y S O d a M2 s.es c->RQ .ret VFo2 bs:=by
      rintro M2 h2 h3 bs rfl
      rw [<- hRQ]
      exact ⟨rfl,rfl,⟨M2,s.es⟩,c,.inr ⟨postW_true hk hO (by omega) (hsucc x g hx) hx hsame ⟨p1,p2,p3,p4⟩ h2 h3,rfl⟩⟩
     have fin3:∀ {m0 m1:Nat->Int},(m0=if O.testBit 0=true then wrM (s.M 0) y c else s.M 0)->(m1=if O.testBit 1=true then wrM (s.M 1) y c else s.M 1)->RQ .ret VFo2 (BFoT2 l t [D0,D1] Y y S O d a (fun i=>if i=0 then m0 else if i=1 then m1 else s.M i) s.es c):=fun h0 h1=>fin2 _ (fun i hi=>by
      match i,hi with
      | 0,_=>exact h0
      | 1,_=>exact h1
      | _+2,hi=>exact absurd hi (by show ¬ _+2<2; omega)) (fun i hi=>by
      have hi:2<=i:=hi
      rw [if_neg (show ¬ i=0 by omega),if_neg (show ¬ i=1 by omega)]) _ rfl
     refine cond_d (fun b0=>cond_dk hyY (cond_dk hyY6 ?_)) (fun b0=>?_)
     ·have b0:O.testBit 0=true:=(bit_v O hO16 0 (by omega)).1 b0
      refine cond_d (fun b1=>cond_dk hyY (cond_dk hyY6 ?_)) (fun b1=>?_)
      ·have b1:O.testBit 1=true:=(bit_v O hO16 1 (by omega)).1 b1
       exact fin3 (if_pos b0).symm (if_pos b1).symm
      ·have b1:¬ O.testBit 1=true:=fun h=>b1 ((bit_v O hO16 1 (by omega)).2 h)
       exact fin3 (if_pos b0).symm (if_neg b1).symm
     ·have b0:¬ O.testBit 0=true:=fun h=>b0 ((bit_v O hO16 0 (by omega)).2 h)
      refine cond_d (fun b1=>cond_dk hyY (cond_dk hyY6 ?_)) (fun b1=>?_)
      ·have b1:O.testBit 1=true:=(bit_v O hO16 1 (by omega)).1 b1
       exact fin3 (if_neg b0).symm (if_pos b1).symm
      ·have b1:¬ O.testBit 1=true:=fun h=>b1 ((bit_v O hO16 1 (by omega)).2 h)
       exact fin3 (if_neg b0).symm (if_neg b1).symm
  ·rintro lock tt h K ⟨M,es,hf,⟨_,_,hpw⟩,k1,k2⟩
   refine ⟨⟨M,0,M,es⟩,?_,⟨all_pos hm0,hpw.2.2.2,Same.refl _ _ _ _,fun i hi=>absurd hi (Nat.not_lt_zero i)⟩,?_⟩
   ·dsimp only
    rw [chAt_zero hm0]; exact hf
   ·rintro e vs bs ⟨rfl,rfl,st,n',⟨hp,rfl⟩ | ⟨hp,rfl⟩⟩
    ·exact k1 st n' hp
    ·exact k2 st n' hp
 ·rintro lock tt h K ⟨M,es,hf,⟨h1,h2,h3⟩,_⟩
  exact (hh ⟨h1,h2,h3.1,h3.2.1,h3.2.2.1⟩).elim
end
section
variable {l:List Stk} {t:Tst} {D0 D1:List Int} {Y k:Nat}
theorem lift2 {f:FuncId} {args:List VV} {b:Bool} {s:St} {M:Mde} {es:Lst} {nx:Nat} {bs:List (Nat × VB)} (ha:belL 13 args=true) (hr:renL id args=args) (hnx:13<=nx) (hat:atL nsB2 (BP2 l t [D0,D1] Y M es) ⟨nx,bs⟩)
  (hc:CallsV Try.prog f args ⟨13,nsB2.zip (BP2 l t [D0,D1] Y M es)⟩ (.ret (.bool b)) ⟨13,nsB2.zip (BP2 l t [D0,D1] Y s.M s.es)⟩) :
  CallsV Try.prog f args ⟨nx,bs⟩ (.ret (.bool b)) ⟨nx,(7,.fam [] (Y*6) (s.M 0) 80)::(8,.fam [] (Y*6) (s.M 1) 80)::(9,.map kS .bool s.es)::bs⟩:=by
 obtain ⟨e0,e1,e2,e3,e4,e5,e6,e7,e8,e9,e10,e11,e12,_⟩:=hat
 have:=calls_ren (P:=Try.prog) (h:=⟨nx,bs⟩) (h1:=⟨nx,(7,.fam [] (Y*6) (s.M 0) 80)::(8,.fam [] (Y*6) (s.M 1) 80)::(9,.map kS .bool s.es)::bs⟩) id (fun _ _ _ _ h=>h) hc (fun n hn=>by
  have hn:n<13:=hn
  match n,hn with
  | 0,_=>exact ⟨trivial,e0⟩
  | 1,_=>exact ⟨trivial,e1⟩
  | 2,_=>exact ⟨trivial,e2⟩
  | 3,_=>exact ⟨trivial,e3⟩
  | 4,_=>exact ⟨trivial,e4⟩
  | 5,_=>exact ⟨trivial,e5⟩
  | 6,_=>exact ⟨trivial,e6⟩
  | 7,_=>exact ⟨trivial,e7⟩
  | 8,_=>exact ⟨trivial,e8⟩
  | 9,_=>exact ⟨trivial,e9⟩
  | 10,_=>exact ⟨trivial,e10⟩
  | 11,_=>exact ⟨trivial,e11⟩
  | 12,_=>exact ⟨trivial,e12⟩
  | _+13,hn=>exact absurd hn (by omega)) (fun n hn=>by
  have hn:n<13:=hn
  match n,hn with
  | 0,_=>exact ⟨trivial,rfl,e0⟩
  | 1,_=>exact ⟨trivial,rfl,e1⟩
  | 2,_=>exact ⟨trivial,rfl,e2⟩
  | 3,_=>exact ⟨trivial,rfl,e3⟩
  | 4,_=>exact ⟨trivial,rfl,e4⟩
  | 5,_=>exact ⟨trivial,rfl,e5⟩
  | 6,_=>exact ⟨trivial,rfl,e6⟩
  | 7,_=>exact ⟨trivial,rfl,at_lt (show 7<nx by omega)⟩
  | 8,_=>exact ⟨trivial,rfl,at_lt (show 8<nx by omega)⟩
  | 9,_=>exact ⟨trivial,rfl,at_lt (show 9<nx by omega)⟩
  | 10,_=>exact ⟨trivial,rfl,e10⟩
  | 11,_=>exact ⟨trivial,rfl,e11⟩
  | 12,_=>exact ⟨trivial,rfl,e12⟩
  | _+13,hn=>exact absurd hn (by omega)) (fun q hq=>by
  have hq:∀ n,n<13->n ≠ q:=fun n hn=>hq n hn
  rw [at_ne (hq 7 (by omega)),at_ne (hq 8 (by omega)),at_ne (hq 9 (by omega))]) (fun n hn=>by
  have hn:n<13:=hn
  match n,hn with
  | 0,_=>rfl
  | 1,_=>rfl
  | 2,_=>rfl
  | 3,_=>rfl
  | 4,_=>rfl
  | 5,_=>rfl
  | 6,_=>rfl
  | 7,_=>rfl
  | 8,_=>rfl
  | 9,_=>rfl
  | 10,_=>rfl
  | 11,_=>rfl
  | 12,_=>rfl
  | _+13,hn=>exact absurd hn (by omega)) ha rfl
 rw [hr] at this
 exact this
theorem follow_v2 (hfind:SpOk Try.prog (findR2 l t [D0,D1] Y k).1 (findR2 l t [D0,D1] Y k).2) (cf:Cfg l t [D0,D1] Y) {y S d:Int} {O:Nat} {a:Nat->Int} {M:Mde} {es:Lst} (hy:y=(Y:Int) - (k+1:Nat)) (hp:PreW l t [D0,D1] Y k O a es) :
  ∃ b s,PostW l t [D0,D1] Y k O d a M b s/\CallsV Try.prog 40 [.agg (I y::I S::nL a),I O,I d,.ptr (.own 3 0),.ptr (.own 11 0),.ptr (.own 1 0),.ptr (.own 6 0)] ⟨13,nsB2.zip (BP2 l t [D0,D1] Y M es)⟩ (.ret (.bool b)) ⟨13,nsB2.zip (BP2 l t [D0,D1] Y s.M s.es)⟩:=by
 have hall:LoopsOk Try.prog 74 [(0,lFo2 l t [D0,D1] Y k y S d O a)]:=fun x hx=>by
  simp only [List.mem_singleton] at hx
  subst hx
  exact ⟨by kernel_rfl,lFo2_ok hfind⟩
 obtain ⟨r,h',⟨b,s,hw,rfl,hf⟩,hc⟩:=of_callN (callL_good hmix noSp hall (un:=10) 20) (f:=40) (args:=[.agg (I y::I S::nL a),I O,I d,.ptr (.own 3 0),.ptr (.own 11 0),.ptr (.own 1 0),.ptr (.own 6 0)]) (h:=⟨13,nsB2.zip (BP2 l t [D0,D1] Y M es)⟩) (K:=fun r h'=>∃ b s,PostW l t [D0,D1] Y k O d a M b s/\r=.ret (.bool b)/\fitB (nsB2.zip (BP2 l t [D0,D1] Y s.M s.es)) h') (by
  refine cast (fob2_ev l t D0 D1 Y k M es y S d O a _).symm ⟨M,es,⟨⟨rfl,rfl,by repeat (first | exact trivial | refine ⟨VB.fit_refl _,?_⟩)⟩,rfl,rfl,rfl,rfl,trivial⟩,⟨hy,cf,hp⟩,fun s n' hw=>⟨false,s,hw,rfl,by repeat (first | exact trivial | refine ⟨VB.fit_refl _,?_⟩)⟩,fun s n' hw=>⟨true,s,hw,rfl,by repeat (first | exact trivial | refine ⟨VB.fit_refl _,?_⟩)⟩⟩)
 exact ⟨b,s,hw,calls_weak hc (Nat.le_refl _) hf rfl rfl⟩
theorem folR2_ok (hfind:SpOk Try.prog (findR2 l t [D0,D1] Y k).1 (findR2 l t [D0,D1] Y k).2) (cf:Cfg l t [D0,D1] Y):SpOk Try.prog (folR2 l t [D0,D1] Y k).1 (folR2 l t [D0,D1] Y k).2:=by
 intro lock args h K hK
 simp only [folR2] at hK
 split at hK
 ·rename_i nx bs
  obtain ⟨S',O,a,M,es,⟨rfl,rfl,rfl,rfl⟩,⟨rfl,hnx⟩,hat,⟨hy,rfl,rfl,rfl⟩,hp,hK⟩:=hK
  obtain ⟨b,s,hw,hc⟩:=follow_v2 hfind cf hy hp
  exact ⟨_,_,hK b s hw,lock0 _ _,lift2 rfl rfl hnx hat hc⟩
 ·exact hK.elim
structure FS2 where
 M0:Mde
 r:Nat
 acc:Rsl
 s:St
def OF2 (l:List Stk) (t:Tst) (P:List (List Int)) (Y k:Nat) (y:Int) (S:Nat) (a:Nat->Int) (f:FS2) (e:VEx) (vs:List VV) (bs:List VB):Prop:=
 (e=.exit 0/\vs=VF2 y S a 0/\∃ st,PostF l t P Y (k+1) S a f.M0 true st/\bs=BF2 l t P Y y S a st.M st.es) ∨ (e=.ret/\∃ (r:Int) (st:St),PostF l t P Y (k+1) S a f.M0 false st/\vs=VF2 y S a r/\bs=BF2 l t P Y y S a st.M st.es)
theorem lFi2_ok (hfol:SpOk Try.prog (folR2 l t [D0,D1] Y k).1 (folR2 l t [D0,D1] Y k).2) {y:Int} {S:Nat} {a:Nat->Int}:LSound Try.prog true (.block 0 (.loop (loopB 0 (bodyOf Try.prog 44)))) (ntOf Try.prog 44) (lFi2 l t [D0,D1] Y k y S a):=by
 by_cases hh:y=(Y:Int) - (k+1:Nat)/\Cfg l t [D0,D1] Y/\k+1<=Y/\leftB l a
 ·obtain ⟨hy,cf,hk,ha⟩:=hh
  refine loop_rowD hmix (noL_good (tab1 hfol)) (un:=10) (ds:=dsF2) (ns:=nsF2) (nx:=14) (lsp:=fun f:FS2=>tabB [(2,lG2 l t [D0,D1] Y k y S a f.r)]) (fun f:FS2=>VF2 y S a f.r) (fun f=>BF2 l t [D0,D1] Y y S a f.s.M f.s.es) (fun f=>DoneF l t [D0,D1] Y k S a f.M0 f.r f.acc f.s) (fun f=>f.r) (OF2 l t [D0,D1] Y k y S a) (fun _ _=>lsp_one (by kernel_rfl) lG2_ok) ?_ ?_
  ·rintro ⟨M0,r,acc,s⟩ hd
   dsimp only at hd ⊢
   refine cast (gm2_ev l t D0 D1 Y k s.M s.es y S r a _).symm ?_
   have hr16:r<16:=Nat.lt_of_lt_of_le hd.lt (Nat.pow_le_pow_right (n:=2) (by omega) (show 2<=4 by omega))
   by_cases hr:r=0
   ·subst hr
    refine cond_d (fun h=>by omega) (fun _=>.inl ⟨rfl,rfl,s,done_end hd,rfl⟩)
   ·refine cond_dk (by omega) ⟨s.M,s.es,⟨⟨rfl,rfl,by repeat (first | exact trivial | refine ⟨VB.fit_refl _,?_⟩)⟩,rfl,rfl,rfl,rfl,rfl,rfl,rfl,rfl,rfl,rfl,rfl,rfl,rfl,trivial⟩,⟨by omega,hk,cf,hr16⟩,?_⟩
    intro o d hg
    have ho:o<2 ^ [D0,D1].length:=by
     have:=grpF_le cf.nd (Y - (k+1)) r [D0,D1].length
     rw [hg] at this; exact this
    have ho16:o<16:=Nat.lt_of_lt_of_le ho (Nat.pow_le_pow_right (n:=2) (by omega) (show 2<=4 by omega))
    refine ⟨S,o,a,s.M,s.es,⟨rfl,rfl,rfl,rfl⟩,⟨rfl,by omega⟩,⟨rfl,rfl,rfl,rfl,rfl,rfl,rfl,rfl,rfl,rfl,rfl,rfl,rfl,trivial⟩,⟨hy,rfl,rfl,rfl⟩,⟨hk,ho,ha,hd.lost⟩,?_⟩
    intro b s' hw
    obtain ⟨d1,d2⟩:=done_step cf.nd hd hr hg (s':=s')
    refine cond_i (fun g=>?_) (fun g=>?_)
    ·have g:b=false:=by simpa using g
     subst g
     obtain ⟨z1,z2,z3⟩:=d2 hw
     refine ⟨key82,.inr ⟨rfl,r,⟨s'.M,setE s'.es (kyF y S a) 1⟩,⟨by rw [z1]; rfl,?_,z3,fun x hx=>by rw [z1] at hx; cases hx⟩,rfl,rfl⟩⟩
     have:=lost_set z2 hk z1
     rw [<- hy] at this
     exact this
    ·have g:b=true:=by simpa using g
     subst g
     obtain ⟨acc',hd',hlt⟩:=d1 hw
     rw [andnot_v r hr16 o ho16]
     exact ⟨⟨M0,_,acc',s'⟩,hd',hlt,rfl,fitBs_refl _,fun _ _ _ h=>h⟩
  ·rintro lock tt h K ⟨M,es,hf,⟨_,_,hp⟩,k1,k2⟩
   refine ⟨⟨M,S,fun _ _ _=>0,⟨M,es⟩⟩,hf,done_start hp,?_⟩
   rintro e vs bs (⟨rfl,rfl,st,hp,rfl⟩ | ⟨rfl,r,st,hp,rfl,rfl⟩)
   ·exact k1 st hp
   ·exact k2 st r hp
 ·rintro lock tt h K ⟨M,es,hf,⟨h1,h2,h3⟩,_⟩
  exact (hh ⟨h1,h2,h3.1,h3.2.2.1⟩).elim
theorem find_z2 (cf:Cfg l t [D0,D1] Y) {y:Int} {S:Nat} {a:Nat->Int} {M:Mde} {es:Lst} (hy:y=(Y:Int)) (hp:PreF l t [D0,D1] Y 0 S a es) :
  ∃ b s,PostF l t [D0,D1] Y 0 S a M b s/\CallsV Try.prog 44 [.agg (I y::I S::nL a),.ptr (.own 4 0),.ptr (.own 10 0),.ptr (.own 1 0),.ptr (.own 12 0)] ⟨13,nsB2.zip (BP2 l t [D0,D1] Y M es)⟩ (.ret (.bool b)) ⟨13,nsB2.zip (BP2 l t [D0,D1] Y s.M s.es)⟩:=by
 have hall:LoopsOk Try.prog 44 [(0,lZ)]:=fun x hx=>by
  simp only [List.mem_singleton] at hx
  subst hx
  exact ⟨by kernel_rfl,lZ_ok⟩
 obtain ⟨r,h',⟨rfl,hf⟩,hc⟩:=of_callN (callL_good hmix noSp hall (un:=10) 20) (f:=44) (args:=[.agg (I y::I S::nL a),.ptr (.own 4 0),.ptr (.own 10 0),.ptr (.own 1 0),.ptr (.own 12 0)]) (h:=⟨13,nsB2.zip (BP2 l t [D0,D1] Y M es)⟩) (K:=fun r h'=>r=.ret (.bool true)/\fitB (nsB2.zip (BP2 l t [D0,D1] Y M es)) h') (by
  refine cast (fiz2_ev l t D0 D1 Y M es y S a _).symm (cond_dk hy ⟨rfl,by repeat (first | exact trivial | refine ⟨VB.fit_refl _,?_⟩)⟩))
 exact ⟨true,⟨M,es⟩,⟨rfl,hp.2.2.2,Same.refl _ _ _ _,fun x _ i y j _ _ h1 h2=>by omega⟩,calls_weak hc (Nat.le_refl _) hf rfl rfl⟩
theorem find_s2 (hfol:SpOk Try.prog (folR2 l t [D0,D1] Y k).1 (folR2 l t [D0,D1] Y k).2) (cf:Cfg l t [D0,D1] Y) {y:Int} {S:Nat} {a:Nat->Int} {M:Mde} {es:Lst} (hy:y=(Y:Int) - (k+1:Nat)) (hp:PreF l t [D0,D1] Y (k+1) S a es) :
  ∃ b s,PostF l t [D0,D1] Y (k+1) S a M b s/\CallsV Try.prog 44 [.agg (I y::I S::nL a),.ptr (.own 4 0),.ptr (.own 10 0),.ptr (.own 1 0),.ptr (.own 12 0)] ⟨13,nsB2.zip (BP2 l t [D0,D1] Y M es)⟩ (.ret (.bool b)) ⟨13,nsB2.zip (BP2 l t [D0,D1] Y s.M s.es)⟩:=by
 have hall:LoopsOk Try.prog 44 [(0,lFi2 l t [D0,D1] Y k y S a)]:=fun x hx=>by
  simp only [List.mem_singleton] at hx
  subst hx
  exact ⟨by kernel_rfl,lFi2_ok hfol⟩
 obtain ⟨r,h',⟨b,s,hw,rfl,hf⟩,hc⟩:=of_callN (callL_good hmix noSp hall (un:=10) 20) (f:=44) (args:=[.agg (I y::I S::nL a),.ptr (.own 4 0),.ptr (.own 10 0),.ptr (.own 1 0),.ptr (.own 12 0)]) (h:=⟨13,nsB2.zip (BP2 l t [D0,D1] Y M es)⟩) (K:=fun r h'=>∃ b s,PostF l t [D0,D1] Y (k+1) S a M b s/\r=.ret (.bool b)/\fitB (nsB2.zip (BP2 l t [D0,D1] Y s.M s.es)) h') (by
  refine cast (fib2_ev l t D0 D1 Y k M es y S a _).symm ?_
  have hk:=hp.1
  refine cond_d (fun h=>by omega) (fun _=>⟨key82,cond_d (fun h=>⟨false,⟨M,es⟩,?_,rfl,by repeat (first | exact trivial | refine ⟨VB.fit_refl _,?_⟩)⟩) (fun _=>⟨M,es,⟨⟨rfl,rfl,by repeat (first | exact trivial | refine ⟨VB.fit_refl _,?_⟩)⟩,rfl,rfl,rfl,rfl,rfl,rfl,rfl,rfl,trivial⟩,⟨hy,cf,hp⟩,fun s hw=>⟨true,s,hw,rfl,by repeat (first | exact trivial | refine ⟨VB.fit_refl _,?_⟩)⟩,fun s r hw=>⟨false,s,hw,rfl,by repeat (first | exact trivial | refine ⟨VB.fit_refl _,?_⟩)⟩⟩)⟩)
  have h:valOf es (kyF y S a)=1:=h
  have hn:=lost_get cf.hl.1 hp.2.2.2 (S:=S) (a:=a) hk (by rw [<- hy,h]; omega)
  exact ⟨by rw [hn]; rfl,hp.2.2.2,Same.refl _ _ _ _,fun x hx=>by rw [hn] at hx; cases hx⟩)
 exact ⟨b,s,hw,calls_weak hc (Nat.le_refl _) hf rfl rfl⟩
theorem findR2_ok (cf:Cfg l t [D0,D1] Y):∀ k:Nat,SpOk Try.prog (findR2 l t [D0,D1] Y k).1 (findR2 l t [D0,D1] Y k).2:=by
 have key:∀ k:Nat,(∀ (y:Int) (S:Nat) (a:Nat->Int) (M:Mde) (es:Lst),y=(Y:Int) - k->PreF l t [D0,D1] Y k S a es->∃ b s,PostF l t [D0,D1] Y k S a M b s/\CallsV Try.prog 44 [.agg (I y::I S::nL a),.ptr (.own 4 0),.ptr (.own 10 0),.ptr (.own 1 0),.ptr (.own 12 0)] ⟨13,nsB2.zip (BP2 l t [D0,D1] Y M es)⟩ (.ret (.bool b)) ⟨13,nsB2.zip (BP2 l t [D0,D1] Y s.M s.es)⟩)->SpOk Try.prog (findR2 l t [D0,D1] Y k).1 (findR2 l t [D0,D1] Y k).2:=by
  intro k hv lock args h K hK
  simp only [findR2] at hK
  split at hK
  ·rename_i nx bs
   obtain ⟨S',a,M,es,⟨rfl,rfl,rfl,rfl⟩,⟨rfl,hnx⟩,hat,⟨hy,rfl,rfl⟩,hp,hK⟩:=hK
   obtain ⟨b,s,hw,hc⟩:=hv _ S' a M es hy hp
   exact ⟨_,_,hK b s hw,lock0 _ _,lift2 rfl rfl hnx hat hc⟩
  ·exact hK.elim
 intro k
 induction k with
 | zero=>exact key 0 (fun y S a M es hy hp=>find_z2 cf (by omega) hp)
 | succ k ih=>exact key (k+1) (fun y S a M es hy hp=>find_s2 (folR2_ok ih cf) cf hy hp)
end
theorem lost_nil {l:List Stk} {t:Tst} {P:List (List Int)} {Y:Nat}:LostOk l t P Y []:=⟨fun _ he=>absurd he List.not_mem_nil,fun _ he=>absurd he List.not_mem_nil⟩
theorem most_left {l:List Stk} (hl:lB l):leftB l (mostF l):=⟨fun i _=>mostF_bd hl i,fun _ hi=>mostF_ge hi⟩
def wkL (a b:List VV):Prop:=(∀ R xs,VRelL R a xs->VRelL R b xs)/\(a.all VV.one=true->b.all VV.one=true)/\a.length=b.length
theorem wkL_refl (a:List VV):wkL a a:=⟨fun _ _ h=>h,fun h=>h,rfl⟩
theorem tl_weak {L L' s:Nat} {g g':Nat->List VV} (hL:L'=L) (h:∀ i,i<L->wkL (g i) (g' i)):wkL [.tl L s g] [.tl L' s g']:=by
 subst hL
 refine ⟨fun R xs hx=>?_,fun _=>rfl,rfl⟩
 obtain ⟨y,ys,⟨p,cap,h1,h2,h3⟩,h4,rfl⟩:=hx
 refine ⟨y,ys,⟨p,cap,h1,h2,fun i hi=>?_⟩,h4,rfl⟩
 obtain ⟨b,o,xs,g1,g2,g3,g4,g5⟩:=h3 i hi
 obtain ⟨w1,w2,_⟩:=h i hi
 exact ⟨b,o,xs,g1,g2,g3,w2 g4,w1 _ _ g5⟩
theorem wk_ch {L:Nat} {n n':Nat->Int} (h:∀ j,j<L->n j=n' j):wkL [.tl L 1 (chG n)] [.tl L 1 (chG n')]:=tl_weak rfl (fun i hi=>by
 unfold chG
 rw [h i hi]
 exact wkL_refl _)
def plnY (L:Nat) (r:Nat->Nat->Int) (y:Nat):List VV:=[.tl L 1 (chG (r y))]
def plnG (L Y:Nat) (x:Rsl) (i:Nat):List VV:=[.tl Y 1 (plnY L (x i))]
def plnD (L p Y:Nat) (x:Rsl):VV:=.tl p 1 (plnG L Y x)
def PlnK (l:List Stk) (t:Tst) (P:List (List Int)) (Y:Nat) (r:VRes) (h':VH):Prop:=
 (planF l t P Y Y (2 ^ P.length - 1) (mostF l)=none/\r=.ret (.tup [.nils,I 4])) ∨
  ∃ x m g ty,planF l t P Y Y (2 ^ P.length - 1) (mostF l)=some x/\r=.ret (.tup [.sl m P.length,I 0])/\h'.at m=.vec P.length g 1 ty/\∀ i,i<P.length->wkL (g i) (plnG l.length Y x i)
theorem pln_tell {l:List Stk} {t:Tst} {P:List (List Int)} {Y:Nat} {args:List VV} {r:VRes} {h':VH} (hc:CallsV Try.prog 17 args ⟨0,[]⟩ r h') (hk:PlnK l t P Y r h') :
  (planF l t P Y Y (2 ^ P.length - 1) (mostF l)=none/\∃ h2,CallsV Try.prog 17 args ⟨0,[]⟩ (.ret (.tup [.nils,I 4])) h2) ∨ ∃ x h2,planF l t P Y Y (2 ^ P.length - 1) (mostF l)=some x/\CallsV Try.prog 17 args ⟨0,[]⟩ (.ret (.tup [plnD l.length P.length Y x,I 0])) h2:=by
 rcases hk with ⟨h1,rfl⟩ | ⟨x,m,g,ty,h1,rfl,h2,h3⟩
 ·exact .inl ⟨h1,h',hc⟩
 ·refine .inr ⟨x,_,h1,calls_res (calls_tell (v2:=.tup [.tl P.length 1 g,I 0]) hc h2 (fun R R' y hle hv hx=>?_)) (fun R y hx=>?_)⟩
  ·obtain ⟨xs,⟨y0,ys,k1,k2,rfl⟩,rfl⟩:=hx
   exact ⟨_,⟨y0,ys,hv y0 k1,VRelL.mono hle _ _ k2,rfl⟩,rfl⟩
  ·obtain ⟨xs,⟨y0,ys,k1,k2,rfl⟩,rfl⟩:=hx
   have:=(tl_weak (s:=1) (g:=g) (g':=plnG l.length Y x) rfl h3).1 R [y0] ⟨y0,[],k1,rfl,rfl⟩
   obtain ⟨y1,ys1,k3,_,e⟩:=this
   injection e with e1 e2
   subst e1
   exact ⟨_,⟨y0,ys,k3,k2,rfl⟩,rfl⟩
def dsPl:List Nat:=[73,72,71,67,66,65,15,7,6,5,4,0,1,2]
def VPl (l:List Stk) (t:Tst) (P:List (List Int)) (Y n i:Nat) (out:VV) (y:Nat):List VV:=[I y,I Y,sFa (7+i) Y,I i,I n,.slice (.own 5 0) n n,out,I 0,.nils,.ptr (.own 1 0),.ptr (.own 0 0),stD l,.agg (tsL t),pthD P]
def rowG (L:Nat) (M:Mde) (i:Nat):Nat->List VV:=plnY L (fun y j=>M i (y*6+j))
theorem cat_row {L:Nat} {M:Mde} {i y j:Nat} (hj:j<y+1):catG y (rowG L M i) (oneL 1 [.tl L 1 (chG (fun j=>M i (y*6+j)))]) j=rowG L M i j:=by
 unfold catG
 by_cases h:j<y
 ·have e:Nat.blt j y=true:=by rw [Nat.blt_eq]; exact h
  rw [e]; rfl
 ·obtain rfl:j=y:=by omega
  have e:Nat.blt j j=false:=by
   cases hb:Nat.blt j j with
   | false=>rfl
   | true=>rw [Nat.blt_eq] at hb; omega
  rw [e,Nat.sub_self]; rfl
theorem g6_row {M:Mde} {i y:Nat}:g6 (m6 M i (y:Int))=nL (fun j=>M i (y*6+j)):=by
 have e:(y:Int).toNat=y:=by omega
 have q:∀ k:Nat,0+(y:Int).toNat*6+k=y*6+k:=fun k=>by rw [e]; omega
 show [_,_,_,_,_,_]=[_,_,_,_,_,_]
 simp only [m6,q]
 rfl
theorem row_told {c:Code} {n:Nat} {T0 T:LT} (h0:LSound Try.prog true c n T0) (hT:∀ lock t h K,T lock t h K->lock=0/\∃ K0:CK,T0 lock t h K0/\∀ e t1 h1,K0 e t1 h1->∃ t2 h2,ToldT t1 h1 t2 h2/\K e t2 h2):LSound Try.prog true c n T:=by
 intro lock t h K hK
 obtain ⟨rfl,K0,hK0,hk⟩:=hT lock t h K hK
 obtain ⟨e,t1,h1,q1,_,hs⟩:=h0 _ _ _ _ hK0
 obtain ⟨t2,h2,td,hK2⟩:=hk e t1 h1 q1
 exact ⟨e,t2,h2,hK2,lock0 _ _,td.sem hs⟩
theorem copy_row {l:List Stk} {t:Tst} {P:List (List Int)} {Y n i p:Nat} {M:Mde} {out:VV} {ns:List Nat} {BL:List VB} (hn:(allLtB (n+1) (n::ns) && nodB (n::ns) && nodB (18::dsPl))=true)
  (h0:LSound Try.prog true (.block 5 (.loop (loopB 5 (bodyOf Try.prog 17)))) (ntOf Try.prog 17) (fun lock tt h K=>FitP lock h tt ⟨n+1,(n::ns).zip (.vec 0 (rowG l.length M i) 1 23::BL)⟩ ((18::dsPl).zip (.sl n 0::VPl l t P Y p i out 0))/\K .normal ((18::dsPl).zip (.sl n Y::VPl l t P Y p i out Y)) ⟨n+1,(n::ns).zip (.vec Y (rowG l.length M i) 1 23::BL)⟩))
  (hat:(VH.mk (n+1) ((n::ns).zip (.vec Y (rowG l.length M i) 1 23::BL))).at n=.vec Y (rowG l.length M i) 1 23) :
  LSound Try.prog true (.block 5 (.loop (loopB 5 (bodyOf Try.prog 17)))) (ntOf Try.prog 17) (fun lock tt h K=>FitP lock h tt ⟨n,ns.zip BL⟩ ((18,.nils)::dsPl.zip (VPl l t P Y p i out 0))/\K .normal ((18,.tl Y 1 (rowG l.length M i))::(18::dsPl).zip (.sl n Y::VPl l t P Y p i out Y)) ⟨n+1,(n,.gone)::(n::ns).zip (.vec Y (rowG l.length M i) 1 23::BL)⟩):=by
 have h1:LSound Try.prog true (.block 5 (.loop (loopB 5 (bodyOf Try.prog 17)))) (ntOf Try.prog 17) (fun lock tt h K=>FitP lock h tt ⟨n+1,(n::ns).zip (.vec 0 (rowG l.length M i) 1 23::BL)⟩ ((18::dsPl).zip (.sl n 0::VPl l t P Y p i out 0))/\K .normal ((18,.tl Y 1 (rowG l.length M i))::(18::dsPl).zip (.sl n Y::VPl l t P Y p i out Y)) ⟨n+1,(n,.gone)::(n::ns).zip (.vec Y (rowG l.length M i) 1 23::BL)⟩):=by
  refine row_told h0 (fun lock tt h K hK=>⟨hK.1.1.1,fun e t1 h1=>e=.normal/\t1=(18::dsPl).zip (.sl n Y::VPl l t P Y p i out Y)/\h1=⟨n+1,(n::ns).zip (.vec Y (rowG l.length M i) 1 23::BL)⟩,⟨hK.1,rfl,rfl,rfl⟩,?_⟩)
  rintro e t1 h1 ⟨rfl,rfl,rfl⟩
  obtain ⟨t',h',⟨rfl,rfl⟩,td⟩:=tellSl_sound [18] ((18::dsPl).zip (.sl n Y::VPl l t P Y p i out Y)) ⟨n+1,(n::ns).zip (.vec Y (rowG l.length M i) 1 23::BL)⟩ (fun t' h'=>t'=(18,.tl Y 1 (rowG l.length M i))::(18::dsPl).zip (.sl n Y::VPl l t P Y p i out Y)/\h'=⟨n+1,(n,.gone)::(n::ns).zip (.vec Y (rowG l.length M i) 1 23::BL)⟩) (by
   have hl:look ((18::dsPl).zip (.sl n Y::VPl l t P Y p i out Y)) 18=.sl n Y:=rfl
   unfold tellSl
   rw [hl]
   dsimp only
   rw [hat]
   dsimp only
   rw [Nat.beq_refl]
   exact ⟨rfl,rfl⟩)
  exact ⟨_,_,td,hK.2⟩
 refine ghost_row (d:=18) (nx:=n) (bs:=ns.zip BL) (t0:=dsPl.zip (VPl l t P Y p i out 0)) (rowG l.length M i) 1 23 h1 (fun lock tt h K hK=>⟨hK.1,?_,hK.2⟩)
 exact fitP_self (nx:=n+1) (ds:=18::dsPl) (ns:=n::ns) (vs:=.sl n 0::VPl l t P Y p i out 0) (bs:=.vec 0 (rowG l.length M i) 1 23::BL) hn
theorem roomY:∀ n:Nat,n<=4->roomB n 48=true:=by decide
theorem roomC:∀ n:Nat,n<7->roomB (n+1) 24=true:=by decide
def nsPl2:List Nat:=[5,7,8]
def BPl2 (Y:Nat) (M:Mde):List VB:=[.cells [sFa 7 Y,sFa 8 Y] 76,.fam [] (Y*6) (M 0) 80,.fam [] (Y*6) (M 1) 80]
def lCp2 (l:List Stk) (t:Tst) (P:List (List Int)) (Y:Nat):LT:=fun lock tt h K=>match h.nx with
 | 13=>∃ (M:Mde),FitP lock h tt ⟨13,nsPl2.zip (BPl2 Y M)⟩ ((18,.nils)::dsPl.zip (VPl l t P Y 2 0 .nils 0))/\K .normal ((18,.tl Y 1 (rowG l.length M 0))::(18::dsPl).zip (.sl 13 Y::VPl l t P Y 2 0 .nils Y)) ⟨14,(13,.gone)::(13::nsPl2).zip (.vec Y (rowG l.length M 0) 1 23::(BPl2 Y M))⟩
 | 16=>∃ (M:Mde) (gO:Nat->List VV),FitP lock h tt ⟨16,(15::nsPl2).zip (.vec 1 gO 1 26::BPl2 Y M)⟩ ((18,.nils)::dsPl.zip (VPl l t P Y 2 1 (.sl 15 1) 0))/\K .normal ((18,.tl Y 1 (rowG l.length M 1))::(18::dsPl).zip (.sl 16 Y::VPl l t P Y 2 1 (.sl 15 1) Y)) ⟨17,(16,.gone)::(16::(15::nsPl2)).zip (.vec Y (rowG l.length M 1) 1 23::(.vec 1 gO 1 26::BPl2 Y M))⟩
 | _=>False
theorem cp20_ev (l:List Stk) (t:Tst) (P:List (List Int)) (Y y:Nat) (M:Mde) (g:Nat->List VV) (X:VEx->List VV->List VB->Prop):codeE Try.prog (callN Try.prog (tabS [listT]) noL 10 20) (fun _=>none) true 10 (ntOf Try.prog 17) 0 (loopB 5 (bodyOf Try.prog 17)) ((18::dsPl).zip (.sl 13 y::VPl l t P Y 2 0 .nils y)) ⟨14,(13::nsPl2).zip (.vec y g 1 23::(BPl2 Y M))⟩ (obs 14 (18::dsPl) (13::nsPl2) X) =
 (let z1:=[M 0 (0+(↑y:Int).toNat*(6)+0),M 0 (0+(↑y:Int).toNat*(6)+1),M 0 (0+(↑y:Int).toNat*(6)+2),M 0 (0+(↑y:Int).toNat*(6)+3),M 0 (0+(↑y:Int).toNat*(6)+4),M 0 (0+(↑y:Int).toNat*(6)+5)];
 (bif decide ((↑y:Int)<(↑Y:Int)) then
 bif decide ((0:Int)<=(↑y:Int)/\(↑y:Int)<(↑Y:Int)) then
 bif decide (0+(↑y:Int).toNat*(6)+(6)<=Y*6) then
 ∃ (n:Nat->Int),∃ (m:Nat),[I (setF (fun (_:Nat)=>(0:Int)) 0 z1 (0+0)),I (setF (fun (_:Nat)=>(0:Int)) 0 z1 (0+1)),I (setF (fun (_:Nat)=>(0:Int)) 0 z1 (0+2)),I (setF (fun (_:Nat)=>(0:Int)) 0 z1 (0+3)),I (setF (fun (_:Nat)=>(0:Int)) 0 z1 (0+4)),I (setF (fun (_:Nat)=>(0:Int)) 0 z1 (0+5))]=nL n/\(↑l.length:Int)=(↑m:Int)/\m<=6/\bif y.beq y then
 bif roomB (y+1) (24) then
 bif inK .i64 ((↑y:Int)+(1:Int)) then
 X .normal [VV.sl 13 (y+1),I ((↑y:Int)+(1:Int)),I (↑Y:Int),VV.slice (.fa (7+0) 0 0) Y Y,I (↑0:Int),I (↑2:Int),VV.slice (.own 5 0) 2 2,VV.nils,I 0,VV.nils,VV.ptr (.own 1 0),VV.ptr (.own 0 0),VV.tl l.length 5 (stG l),VV.agg [VV.tl t.T.length 1 (dG t.T),I t.far,I t.least],VV.tl P.length 1 (pthG P)] [VB.vec (y+1) (catG y g (oneL 1 [VV.tl m 1 (chG n)])) (1) 23,VB.cells [sFa 7 Y,sFa 8 Y] 76,VB.fam [] (Y*6) (M 0) 80,VB.fam [] (Y*6) (M 1) 80]
 else False
 else False
 else False
 else False
 else False
 else X (.exit 5) [VV.sl 13 y,I (↑y:Int),I (↑Y:Int),VV.slice (.fa (7+0) 0 0) Y Y,I (↑0:Int),I (↑2:Int),VV.slice (.own 5 0) 2 2,VV.nils,I 0,VV.nils,VV.ptr (.own 1 0),VV.ptr (.own 0 0),VV.tl l.length 5 (stG l),VV.agg [VV.tl t.T.length 1 (dG t.T),I t.far,I t.least],VV.tl P.length 1 (pthG P)] [VB.vec y g 1 23,VB.cells [sFa 7 Y,sFa 8 Y] 76,VB.fam [] (Y*6) (M 0) 80,VB.fam [] (Y*6) (M 1) 80])):=by kernel_rfl
theorem cp21_ev (l:List Stk) (t:Tst) (P:List (List Int)) (Y y:Nat) (M:Mde) (g gO:Nat->List VV) (X:VEx->List VV->List VB->Prop):codeE Try.prog (callN Try.prog (tabS [listT]) noL 10 20) (fun _=>none) true 10 (ntOf Try.prog 17) 0 (loopB 5 (bodyOf Try.prog 17)) ((18::dsPl).zip (.sl 16 y::VPl l t P Y 2 1 (.sl 15 1) y)) ⟨17,(16::(15::nsPl2)).zip (.vec y g 1 23::(.vec 1 gO 1 26::BPl2 Y M))⟩ (obs 17 (18::dsPl) (16::(15::nsPl2)) X) =
 (let z1:=[M 1 (0+(↑y:Int).toNat*(6)+0),M 1 (0+(↑y:Int).toNat*(6)+1),M 1 (0+(↑y:Int).toNat*(6)+2),M 1 (0+(↑y:Int).toNat*(6)+3),M 1 (0+(↑y:Int).toNat*(6)+4),M 1 (0+(↑y:Int).toNat*(6)+5)];
 (bif decide ((↑y:Int)<(↑Y:Int)) then
 bif decide ((0:Int)<=(↑y:Int)/\(↑y:Int)<(↑Y:Int)) then
 bif decide (0+(↑y:Int).toNat*(6)+(6)<=Y*6) then
 ∃ (n:Nat->Int),∃ (m:Nat),[I (setF (fun (_:Nat)=>(0:Int)) 0 z1 (0+0)),I (setF (fun (_:Nat)=>(0:Int)) 0 z1 (0+1)),I (setF (fun (_:Nat)=>(0:Int)) 0 z1 (0+2)),I (setF (fun (_:Nat)=>(0:Int)) 0 z1 (0+3)),I (setF (fun (_:Nat)=>(0:Int)) 0 z1 (0+4)),I (setF (fun (_:Nat)=>(0:Int)) 0 z1 (0+5))]=nL n/\(↑l.length:Int)=(↑m:Int)/\m<=6/\bif y.beq y then
 bif roomB (y+1) (24) then
 bif inK .i64 ((↑y:Int)+(1:Int)) then
 X .normal [VV.sl 16 (y+1),I ((↑y:Int)+(1:Int)),I (↑Y:Int),VV.slice (.fa (7+1) 0 0) Y Y,I (↑1:Int),I (↑2:Int),VV.slice (.own 5 0) 2 2,VV.sl 15 1,I 0,VV.nils,VV.ptr (.own 1 0),VV.ptr (.own 0 0),VV.tl l.length 5 (stG l),VV.agg [VV.tl t.T.length 1 (dG t.T),I t.far,I t.least],VV.tl P.length 1 (pthG P)] [VB.vec (y+1) (catG y g (oneL 1 [VV.tl m 1 (chG n)])) (1) 23,VB.vec 1 gO 1 26,VB.cells [sFa 7 Y,sFa 8 Y] 76,VB.fam [] (Y*6) (M 0) 80,VB.fam [] (Y*6) (M 1) 80]
 else False
 else False
 else False
 else False
 else False
 else X (.exit 5) [VV.sl 16 y,I (↑y:Int),I (↑Y:Int),VV.slice (.fa (7+1) 0 0) Y Y,I (↑1:Int),I (↑2:Int),VV.slice (.own 5 0) 2 2,VV.sl 15 1,I 0,VV.nils,VV.ptr (.own 1 0),VV.ptr (.own 0 0),VV.tl l.length 5 (stG l),VV.agg [VV.tl t.T.length 1 (dG t.T),I t.far,I t.least],VV.tl P.length 1 (pthG P)] [VB.vec y g 1 23,VB.vec 1 gO 1 26,VB.cells [sFa 7 Y,sFa 8 Y] 76,VB.fam [] (Y*6) (M 0) 80,VB.fam [] (Y*6) (M 1) 80])):=by kernel_rfl
def hpn2_1 (D0:List Int) (D1:List Int) (t:Tst):VH:=VH.mk (2) [(1,VB.cells [VV.tl [D0,D1].length 1 (pthG [D0,D1])] 26),(0,VB.cells [VV.tl t.T.length 1 (dG t.T),I t.far,I t.least] 25)]
def hpn2_2 (D0:List Int) (D1:List Int) (l:List Stk) (t:Tst):VH:=let z1:=(↑([D0,D1].getD (Int.toNat (0:Int)) []).length:Int); VH.mk (13) ((11,VB.cells [VV.func 44 [] [VV.ptr (.own (4) 0),VV.ptr (.own (10) 0),VV.ptr (.own (1) 0),VV.ptr (.own (12) 0)]] 78)::(12,VB.cells [VV.func 40 [] [VV.ptr (.own (3) 0),VV.ptr (.own (11) 0),VV.ptr (.own (1) 0),VV.ptr (.own (6) 0)]] 88)::(12,VB.cells [VV.nilf] 88)::(11,VB.cells [VV.nilf] 78)::(10,VB.cells [VV.mp (9)] 77)::(10,VB.cells [VV.opq (Value.map none)] 77)::(9,VB.map ([PK.int IntKind.i64] ++ ([PK.int IntKind.i64] ++ ((List.replicate 6 [PK.int IntKind.i64]).flatten ++ []))) PK.bool [])::(5,VB.cells [VV.slice (.fa (7) 0 0) z1.toNat z1.toNat,VV.slice (.fa (8) 0 0) z1.toNat z1.toNat] 76)::([(8,VB.fam [] (z1.toNat*(6)) (fun (_:Nat)=>(0:Int)) 80)] ++ (5,VB.cells [VV.slice (.fa (7) 0 0) z1.toNat z1.toNat,VV.nils] 76)::([(7,VB.fam [] (z1.toNat*(6)) (fun (_:Nat)=>(0:Int)) 80)] ++ [(6,VB.cells [VV.slice (.own (5) 0) (2) (2)] 75),(6,VB.cells [VV.nils] 75),(5,VB.cells [VV.nils,VV.nils] 76),(4,VB.cells [I z1] 3),(4,VB.cells [I 0] 3),(3,VB.cells [VV.ptr (.own (2) 0)] 72),(3,VB.cells [VV.nilp] 72),(2,VB.cells (stD l::tsL t) 74),(1,VB.cells [VV.tl [D0,D1].length 1 (pthG [D0,D1])] 26),(0,VB.cells [VV.tl t.T.length 1 (dG t.T),I t.far,I t.least] 25)])))
def hpn2_3 (D0:List Int) (D1:List Int) (l:List Stk) (s:St) (t:Tst):VH:=let z1:=(↑([D0,D1].getD (Int.toNat (0:Int)) []).length:Int); VH.mk (13) [(7,VB.fam [] (D0.length*6) (s.M 0) 80),(8,VB.fam [] (D0.length*6) (s.M 1) 80),(9,VB.map kS PK.bool s.es),(11,VB.cells [VV.func 44 [] [VV.ptr (.own (4) 0),VV.ptr (.own (10) 0),VV.ptr (.own (1) 0),VV.ptr (.own (12) 0)]] 78),(12,VB.cells [VV.func 40 [] [VV.ptr (.own (3) 0),VV.ptr (.own (11) 0),VV.ptr (.own (1) 0),VV.ptr (.own (6) 0)]] 88),(12,VB.cells [VV.nilf] 88),(11,VB.cells [VV.nilf] 78),(10,VB.cells [VV.mp (9)] 77),(10,VB.cells [VV.opq (Value.map none)] 77),(9,VB.map kS PK.bool []),(5,VB.cells [VV.slice (.fa (7) 0 0) z1.toNat z1.toNat,VV.slice (.fa (8) 0 0) z1.toNat z1.toNat] 76),(8,VB.fam [] (z1.toNat*(6)) (fun (_:Nat)=>(0:Int)) 80),(5,VB.cells [VV.slice (.fa (7) 0 0) z1.toNat z1.toNat,VV.nils] 76),(7,VB.fam [] (z1.toNat*(6)) (fun (_:Nat)=>(0:Int)) 80),(6,VB.cells [VV.slice (.own (5) 0) (2) (2)] 75),(6,VB.cells [VV.nils] 75),(5,VB.cells [VV.nils,VV.nils] 76),(4,VB.cells [I z1] 3),(4,VB.cells [I 0] 3),(3,VB.cells [VV.ptr (.own (2) 0)] 72),(3,VB.cells [VV.nilp] 72),(2,VB.cells (stD l::tsL t) 74),(1,VB.cells [VV.tl [D0,D1].length 1 (pthG [D0,D1])] 26),(0,VB.cells [VV.tl t.T.length 1 (dG t.T),I t.far,I t.least] 25)]
def hpn2_4 (D0:List Int) (D1:List Int) (l:List Stk) (s:St) (t:Tst):VH:=let z1:=(↑([D0,D1].getD (Int.toNat (0:Int)) []).length:Int); VH.mk (13) ((7,VB.fam [] (D0.length*6) (s.M 0) 80)::(8,VB.fam [] (D0.length*6) (s.M 1) 80)::(9,VB.map kS PK.bool s.es)::(11,VB.cells [VV.func 44 [] [VV.ptr (.own (4) 0),VV.ptr (.own (10) 0),VV.ptr (.own (1) 0),VV.ptr (.own (12) 0)]] 78)::(12,VB.cells [VV.func 40 [] [VV.ptr (.own (3) 0),VV.ptr (.own (11) 0),VV.ptr (.own (1) 0),VV.ptr (.own (6) 0)]] 88)::(12,VB.cells [VV.nilf] 88)::(11,VB.cells [VV.nilf] 78)::(10,VB.cells [VV.mp (9)] 77)::(10,VB.cells [VV.opq (Value.map none)] 77)::(9,VB.map ([PK.int IntKind.i64] ++ ([PK.int IntKind.i64] ++ ((List.replicate 6 [PK.int IntKind.i64]).flatten ++ []))) PK.bool [])::(5,VB.cells [VV.slice (.fa (7) 0 0) z1.toNat z1.toNat,VV.slice (.fa (8) 0 0) z1.toNat z1.toNat] 76)::([(8,VB.fam [] (z1.toNat*(6)) (fun (_:Nat)=>(0:Int)) 80)] ++ (5,VB.cells [VV.slice (.fa (7) 0 0) z1.toNat z1.toNat,VV.nils] 76)::([(7,VB.fam [] (z1.toNat*(6)) (fun (_:Nat)=>(0:Int)) 80)] ++ [(6,VB.cells [VV.slice (.own (5) 0) (2) (2)] 75),(6,VB.cells [VV.nils] 75),(5,VB.cells [VV.nils,VV.nils] 76),(4,VB.cells [I z1] 3),(4,VB.cells [I 0] 3),(3,VB.cells [VV.ptr (.own (2) 0)] 72),(3,VB.cells [VV.nilp] 72),(2,VB.cells (stD l::tsL t) 74),(1,VB.cells [VV.tl [D0,D1].length 1 (pthG [D0,D1])] 26),(0,VB.cells [VV.tl t.T.length 1 (dG t.T),I t.far,I t.least] 25)])))
def hpn2_5 (D0:List Int) (M:Mde) (l:List Stk):VH:=VH.mk (16) ((15,VB.vec 1 ((oneL 1 [VV.tl D0.length 1 (rowG l.length M 0)])) (1) 26)::(14,VB.vec 1 ((oneL 1 [VV.tl D0.length 1 (rowG l.length M 0)])) (1) 26)::(13,VB.gone)::(13::nsPl2).zip (VB.vec D0.length (rowG l.length M 0) 1 23::BPl2 D0.length M))
theorem pq2_ev (l:List Stk) (t:Tst) (D0 D1:List Int) (Q:VRes->VH->Prop):callN Try.prog (tabS [asR l t,casksR l t,apR [D0,D1],findR2 l t [D0,D1] D0.length D0.length,listT]) (atF 17 [(5,lCp2 l t [D0,D1] D0.length)]) 10 20 0 (.fn 17) [stD l,.agg (tsL t),pthD [D0,D1]] ⟨0,[]⟩ (fun r h=>Q r h) =
 (let z1:=(↑([D0,D1].getD (Int.toNat (0:Int)) []).length:Int);
 (isD (hpn2_1 D0 D1 t) 2 (VV.tl l.length 5 (stG l)) (stD l)/\isD (hpn2_1 D0 D1 t) 2 (VV.agg [VV.tl t.T.length 1 (dG t.T),I t.far,I t.least]) (VV.agg (tsL t))/\bif !okAll l t then
 Q (.ret (.tup [VV.nils,I 1])) (hpn2_1 D0 D1 t)
 else isD (hpn2_1 D0 D1 t) 4 (VV.tl [D0,D1].length 1 (pthG [D0,D1])) (pthD [D0,D1])/\pthB [D0,D1]/\bif !okPaths [D0,D1] then
 Q (.ret (.tup [VV.nils,I 2])) (hpn2_1 D0 D1 t)
 else bif decide ((0:Int)<=z1/\z1=z1) then
 bif roomB z1.toNat (48) then
 bif decide ((0:Int)<=z1/\z1=z1) then
 bif roomB z1.toNat (48) then
 isD (maskH [0,1,2,3,4,5,6,7,8,9,10,11,12] (hpn2_2 D0 D1 l t)) 4 (VV.ptr (.own (2) 0)) (VV.tp (stD l::tsL t))/\l.length<=6/\∃ (S':Nat),∃ (a:Nat->Int),∃ (M:Mde),∃ (es:Lst),(VV.ptr (.own 4 0)=VV.ptr (.own 4 0)/\VV.ptr (.own 10 0)=VV.ptr (.own 10 0)/\VV.ptr (.own 1 0)=VV.ptr (.own 1 0)/\VV.ptr (.own 12 0)=VV.ptr (.own 12 0))/\(0=0/\13<=13)/\atL nsB2 (BP2 l t [D0,D1] D0.length M es) (hpn2_2 D0 D1 l t)/\((0:Int)=(↑D0.length:Int) - (↑D0.length:Int)/\(1:Int)*(2:Int) ^ min (↑[D0,D1].length:Int).toNat IntKind.i64.bits - (1:Int)=(↑S':Int)/\[I (mostF l 0),I (mostF l 1),I (mostF l 2),I (mostF l 3),I (mostF l 4),I (mostF l 5)]=nL a)/\PreF l t [D0,D1] D0.length D0.length S' a es/\∀ (b:Bool) (s:St),PostF l t [D0,D1] D0.length D0.length S' a M b s->bif !b then
 Q (.ret (.tup [VV.nils,I 4])) (hpn2_3 D0 D1 l s t)
 else ∃ (M:Mde),FitP 0 (hpn2_4 D0 D1 l s t) [(73,I 0),(72,I (↑z1.toNat:Int)),(71,VV.slice (.fa (7) 0 0) z1.toNat z1.toNat),(18,VV.nils),(17,VV.slice (.fa (7) 0 0) z1.toNat z1.toNat),(70,VV.slice (.fa (7) 0 0) z1.toNat z1.toNat),(69,VV.ptr (.own (5) 0)),(68,VV.bool true),(68,VV.bool (decide ((0:Int)<(↑(2):Int)))),(67,I 0),(66,I (↑(2):Int)),(65,VV.slice (.own (5) 0) (2) (2)),(15,VV.nils),(64,VV.bool false),(64,VV.bool !b),(63,VV.bool b),(62,VV.agg [I 0,I ((1:Int)*(2:Int) ^ min (↑[D0,D1].length:Int).toNat IntKind.i64.bits - (1:Int)),I (mostF l 0),I (mostF l 1),I (mostF l 2),I (mostF l 3),I (mostF l 4),I (mostF l 5)]),(61,VV.agg (nL (mostF l))),(60,VV.ptr (.own (2) 0)),(59,I ((1:Int)*(2:Int) ^ min (↑[D0,D1].length:Int).toNat IntKind.i64.bits - (1:Int))),(58,I ((1:Int)*(2:Int) ^ min (↑[D0,D1].length:Int).toNat IntKind.i64.bits)),(57,I (↑[D0,D1].length:Int)),(56,VV.tl [D0,D1].length 1 (pthG [D0,D1])),(55,VV.func 44 [] [VV.ptr (.own (4) 0),VV.ptr (.own (10) 0),VV.ptr (.own (1) 0),VV.ptr (.own (12) 0)]),(54,VV.func 44 [] [VV.ptr (.own (4) 0),VV.ptr (.own (10) 0),VV.ptr (.own (1) 0),VV.ptr (.own (12) 0)]),(14,VV.ptr (.own (12) 0)),(53,VV.func 40 [] [VV.ptr (.own (3) 0),VV.ptr (.own (11) 0),VV.ptr (.own (1) 0),VV.ptr (.own (6) 0)]),(13,VV.ptr (.own (11) 0)),(12,VV.ptr (.own (10) 0)),(52,VV.mp (9)),(44,VV.bool false),(44,VV.bool (decide ((0:Int)+(1:Int)+(1:Int)<(↑(2):Int)))),(43,I ((0:Int)+(1:Int)+(1:Int))),(51,I ((0:Int)+(1:Int)+(1:Int))),(50,VV.ptr (.own (5) (1))),(49,VV.slice (.fa (8) 0 0) z1.toNat z1.toNat),(48,I z1),(47,I ((0:Int)+(1:Int))),(46,VV.slice (.own (5) 0) (2) (2)),(11,I ((0:Int)+(1:Int))),(45,I ((0:Int)+(1:Int))),(44,VV.bool true),(44,VV.bool (decide ((0:Int)+(1:Int)<(↑(2):Int)))),(43,I ((0:Int)+(1:Int))),(51,I ((0:Int)+(1:Int))),(50,VV.ptr (.own (5) 0)),(49,VV.slice (.fa (7) 0 0) z1.toNat z1.toNat),(48,I z1),(47,I 0),(46,VV.slice (.own (5) 0) (2) (2)),(11,I 0),(45,I 0),(44,VV.bool true),(44,VV.bool (decide ((0:Int)<(↑(2):Int)))),(43,I 0),(42,I (↑(2):Int)),(41,VV.slice (.own (5) 0) (2) (2)),(10,VV.ptr (.own (6) 0)),(40,VV.slice (.own (5) 0) (2) (2)),(39,I (↑[D0,D1].length:Int)),(38,VV.tl [D0,D1].length 1 (pthG [D0,D1])),(9,VV.ptr (.own (4) 0)),(37,I z1),(36,VV.tl ([D0,D1].getD (Int.toNat (0:Int)) []).length 1 (dG ([D0,D1].getD (Int.toNat (0:Int)) []))),(35,VV.tp [VV.tl ([D0,D1].getD (Int.toNat (0:Int)) []).length 1 (dG ([D0,D1].getD (Int.toNat (0:Int)) []))]),(34,VV.tl [D0,D1].length 1 (pthG [D0,D1])),(8,VV.ptr (.own (3) 0)),(33,VV.ptr (.own (2) 0)),(32,VV.agg (stD l::tsL t)),(31,VV.agg [VV.tl t.T.length 1 (dG t.T),I t.far,I t.least]),(30,VV.tl l.length 5 (stG l)),(26,VV.bool false),(26,VV.bool !okPaths [D0,D1]),(29,VV.bool !okPaths [D0,D1]),(28,VV.bool (okPaths [D0,D1])),(27,VV.tl [D0,D1].length 1 (pthG [D0,D1])),(21,VV.bool false),(21,VV.bool !okAll l t),(25,VV.bool !okAll l t),(24,VV.bool (okAll l t)),(23,VV.agg [VV.tl t.T.length 1 (dG t.T),I t.far,I t.least]),(22,VV.tl l.length 5 (stG l)),(7,I 0),(6,VV.nils),(5,VV.ptr (.own (1) 0)),(4,VV.ptr (.own 0 0)),(0,stD l),(1,VV.agg (tsL t)),(2,pthD [D0,D1])] (VH.mk 13 (nsPl2.zip (BPl2 D0.length M))) ((18,VV.nils)::dsPl.zip (VPl l t [D0,D1] D0.length 2 0 VV.nils 0))/\∃ (M_1:Mde),∃ (gO:Nat->List VV),FitP 0 (hpn2_5 D0 M l) ((73,I 0)::(72,I (↑D0.length:Int))::(71,VV.slice (.fa 8 0 0) D0.length D0.length)::(18,VV.nils)::(17,VV.slice (.fa 8 0 0) D0.length D0.length)::(70,VV.slice (.fa 8 0 0) D0.length D0.length)::(69,VV.ptr (.own 5 (1)))::(68,VV.bool true)::(68,VV.bool (decide ((↑0:Int)+(1:Int)<(↑2:Int))))::(67,I ((↑0:Int)+(1:Int)))::(89,I ((↑0:Int)+(1:Int)))::(15,VV.sl (15) 1)::(88,VV.sl (15) 1)::(87,VV.sl (14) 1)::(86,VV.tl D0.length 1 (rowG l.length M 0))::(85,VV.nils)::(18,VV.tl D0.length 1 (rowG l.length M 0))::(18::dsPl).zip (VV.sl 13 D0.length::VPl l t [D0,D1] D0.length 2 0 VV.nils D0.length)) (VH.mk 16 ((15::nsPl2).zip (VB.vec 1 gO 1 26::BPl2 D0.length M_1))) ((18,VV.nils)::dsPl.zip (VPl l t [D0,D1] D0.length 2 1 (VV.sl 15 1) 0))/\Q (.ret (.tup [VV.sl 15 (1+1),I 0])) (VH.mk (18) [(15,VB.vec (1+1) (catG 1 gO (oneL 1 [VV.tl D0.length 1 (rowG l.length M_1 1)])) (1) 26),(17,VB.vec 1 ((oneL 1 [VV.tl D0.length 1 (rowG l.length M_1 1)])) (1) 26),(16,VB.gone),(16,VB.vec D0.length (rowG l.length M_1 1) 1 23),(15,VB.vec 1 gO 1 26),(5,VB.cells [VV.slice (.fa 7 0 0) D0.length D0.length,VV.slice (.fa 8 0 0) D0.length D0.length] 76),(7,VB.fam [] (D0.length*6) (M_1 0) 80),(8,VB.fam [] (D0.length*6) (M_1 1) 80)])
 else False
 else False
 else False
 else False)):=by kernel_rfl
section
variable {l:List Stk} {t:Tst} {P:List (List Int)} {Y:Nat}
theorem cpr20 {M:Mde} (hY:Y<=4) (hl6:l.length<=6):LSound Try.prog true (.block 5 (.loop (loopB 5 (bodyOf Try.prog 17)))) (ntOf Try.prog 17) (fun lock tt h K=>FitP lock h tt ⟨13,nsPl2.zip (BPl2 Y M)⟩ ((18,.nils)::dsPl.zip (VPl l t P Y 2 0 .nils 0))/\K .normal ((18,.tl Y 1 (rowG l.length M 0))::(18::dsPl).zip (.sl 13 Y::VPl l t P Y 2 0 .nils Y)) ⟨14,(13,.gone)::(13::nsPl2).zip (.vec Y (rowG l.length M 0) 1 23::(BPl2 Y M))⟩):=by
 refine copy_row (n:=13) (ns:=nsPl2) (BL:=(BPl2 Y M)) rfl ?_ rfl
 refine loop_row hmix (noL_good (tab1 listT_ok)) (un:=10) (ds:=18::dsPl) (ns:=13::nsPl2) (nx:=14) (fun y:Nat=>.sl 13 y::VPl l t P Y 2 0 .nils y) (fun y=>.vec y (rowG l.length M 0) 1 23::(BPl2 Y M)) (fun y=>y<=Y) (fun y=>Y - y) (fun _ ex vs bs=>ex=.exit 5/\bs=.vec Y (rowG l.length M 0) 1 23::(BPl2 Y M)/\vs=.sl 13 Y::VPl l t P Y 2 0 .nils Y) noL_ok ?_ ?_
 ·rintro y h0
  refine cast (cp20_ev l t P Y y M _ _).symm ?_
  refine cond_d (fun hy=>cond_dk ⟨by omega,by omega⟩ (cond_dk (by omega) ⟨fun j=>M 0 (y*6+j),l.length,g6_row,rfl,hl6,cond_k (Nat.beq_refl _) (cond_k (roomC y (by omega)) (cond_r (by omega) ⟨y+1,by show y+1<=Y; omega,by dsimp only; omega,rfl,⟨⟨rfl,rfl,rfl,fun j hj=>cat_row hj⟩,fitBs_refl _⟩,fun _ _ _ h=>h⟩))⟩)) (fun hy=>?_)
  obtain rfl:y=Y:=by omega
  exact ⟨rfl,rfl,rfl⟩
 ·rintro lock tt h K ⟨hf,k1⟩
  refine ⟨0,hf,Nat.zero_le _,?_⟩
  rintro ex vs bs ⟨rfl,rfl,rfl⟩
  exact k1
theorem cpr21 {M:Mde} {gO:Nat->List VV} (hY:Y<=4) (hl6:l.length<=6):LSound Try.prog true (.block 5 (.loop (loopB 5 (bodyOf Try.prog 17)))) (ntOf Try.prog 17) (fun lock tt h K=>FitP lock h tt ⟨16,(15::nsPl2).zip (.vec 1 gO 1 26::BPl2 Y M)⟩ ((18,.nils)::dsPl.zip (VPl l t P Y 2 1 (.sl 15 1) 0))/\K .normal ((18,.tl Y 1 (rowG l.length M 1))::(18::dsPl).zip (.sl 16 Y::VPl l t P Y 2 1 (.sl 15 1) Y)) ⟨17,(16,.gone)::(16::(15::nsPl2)).zip (.vec Y (rowG l.length M 1) 1 23::(.vec 1 gO 1 26::BPl2 Y M))⟩):=by
 refine copy_row (n:=16) (ns:=(15::nsPl2)) (BL:=(.vec 1 gO 1 26::BPl2 Y M)) rfl ?_ rfl
 refine loop_row hmix (noL_good (tab1 listT_ok)) (un:=10) (ds:=18::dsPl) (ns:=16::(15::nsPl2)) (nx:=17) (fun y:Nat=>.sl 16 y::VPl l t P Y 2 1 (.sl 15 1) y) (fun y=>.vec y (rowG l.length M 1) 1 23::(.vec 1 gO 1 26::BPl2 Y M)) (fun y=>y<=Y) (fun y=>Y - y) (fun _ ex vs bs=>ex=.exit 5/\bs=.vec Y (rowG l.length M 1) 1 23::(.vec 1 gO 1 26::BPl2 Y M)/\vs=.sl 16 Y::VPl l t P Y 2 1 (.sl 15 1) Y) noL_ok ?_ ?_
 ·rintro y h0
  refine cast (cp21_ev l t P Y y M _ _ _).symm ?_
  refine cond_d (fun hy=>cond_dk ⟨by omega,by omega⟩ (cond_dk (by omega) ⟨fun j=>M 1 (y*6+j),l.length,g6_row,rfl,hl6,cond_k (Nat.beq_refl _) (cond_k (roomC y (by omega)) (cond_r (by omega) ⟨y+1,by show y+1<=Y; omega,by dsimp only; omega,rfl,⟨⟨rfl,rfl,rfl,fun j hj=>cat_row hj⟩,fitBs_refl _⟩,fun _ _ _ h=>h⟩))⟩)) (fun hy=>?_)
  obtain rfl:y=Y:=by omega
  exact ⟨rfl,rfl,rfl⟩
 ·rintro lock tt h K ⟨hf,k1⟩
  refine ⟨0,hf,Nat.zero_le _,?_⟩
  rintro ex vs bs ⟨rfl,rfl,rfl⟩
  exact k1
theorem lCp2_ok (hY:Y<=4) (hl6:l.length<=6):LSound Try.prog true (.block 5 (.loop (loopB 5 (bodyOf Try.prog 17)))) (ntOf Try.prog 17) (lCp2 l t P Y):=by
 intro lock tt h K hK
 unfold lCp2 at hK
 split at hK
 ·obtain ⟨M,hf,k1⟩:=hK
  exact cpr20 hY hl6 lock tt h K ⟨hf,k1⟩
 ·obtain ⟨M,gO,hf,k1⟩:=hK
  exact cpr21 hY hl6 lock tt h K ⟨hf,k1⟩
 ·exact hK.elim
end
theorem plp2 {l:List Stk} {t:Tst} {D0 D1:List Int} (h1:okAll l t=true) (h2:okPaths [D0,D1]=true) (cf:Cfg l t [D0,D1] D0.length) (hpb:pthB [D0,D1]):∃ r h',CallsV Try.prog 17 [stD l,.agg (tsL t),pthD [D0,D1]] ⟨0,[]⟩ r h'/\PlnK l t [D0,D1] D0.length r h':=by
 have hl6:=cf.hl.1
 have hY:=cf.Y4
 have hrm:roomB ((([D0,D1].getD (Int.toNat 0) []).length:Int)).toNat 48=true:=roomY _ hY
 have htab:∀ f T,tabS [asR l t,casksR l t,apR [D0,D1],findR2 l t [D0,D1] D0.length D0.length,listT] f=some T->SpOk Try.prog f T:=tab_ok _ (fun x hx=>by
  simp only [List.mem_cons,List.not_mem_nil,or_false] at hx
  rcases hx with rfl | rfl | rfl | rfl | rfl
  ·exact asR_ok l t
  ·exact casksR_ok l t
  ·exact apR_ok _
  ·exact findR2_ok cf D0.length
  ·exact listT_ok)
 have hall:LoopsOk Try.prog 17 [(5,lCp2 l t [D0,D1] D0.length)]:=fun x hx=>by
  simp only [List.mem_singleton] at hx
  subst hx
  exact ⟨by kernel_rfl,lCp2_ok hY hl6⟩
 obtain ⟨r,h',hk,hc⟩:=of_callN (callL_good hmix htab hall (un:=10) 20) (f:=17) (args:=[stD l,.agg (tsL t),pthD [D0,D1]]) (h:=⟨0,[]⟩) (K:=PlnK l t [D0,D1] D0.length) (by
  refine cast (pq2_ev l t D0 D1 _).symm ⟨isD_l,⟨⟨rfl,rfl,fun _ _=>rfl⟩,⟨rfl,rfl⟩,⟨rfl,rfl⟩,trivial⟩,cond_i (fun h=>by rw [h1] at h; cases h) (fun _=>⟨⟨rfl,rfl,fun _ _=>rfl⟩,hpb,cond_i (fun h=>by rw [h2] at h; cases h) (fun _=>?_)⟩)⟩
  refine cond_dk ⟨by omega,rfl⟩ (cond_k hrm (cond_dk ⟨by omega,rfl⟩ (cond_k hrm (⟨hc62 rfl,hl6,3,mostF l,fun _ _=>0,[],⟨rfl,rfl,rfl,rfl⟩,⟨rfl,Nat.le_refl _⟩,⟨rfl,rfl,rfl,rfl,rfl,rfl,rfl,rfl,rfl,rfl,rfl,rfl,rfl,trivial⟩,⟨by omega,rfl,rfl⟩,⟨Nat.le_refl _,(by show 3<2 ^ 2; decide),most_left cf.hl,lost_nil⟩,?_⟩))))
  rintro b s ⟨p1,p2,p3,p4⟩
  refine cond_i (fun g=>?_) (fun g=>?_)
  ·have g:b=false:=by simpa using g
   subst g
   refine .inl ⟨?_,rfl⟩
   cases hx:planF l t [D0,D1] D0.length D0.length 3 (mostF l) with
   | none=>exact hx
   | some x=>rw [hx] at p1; cases p1
  ·have g:b=true:=by simpa using g
   subst g
   obtain ⟨x,hx⟩:∃ x,planF l t [D0,D1] D0.length D0.length 3 (mostF l)=some x:=by
    cases hx:planF l t [D0,D1] D0.length D0.length 3 (mostF l) with
    | none=>rw [hx] at p1; cases p1
    | some x=>exact ⟨x,rfl⟩
   refine ⟨s.M,⟨⟨rfl,rfl,rfl,⟨rfl,rfl,rfl,fun _ _=>rfl⟩,⟨rfl,rfl,rfl,fun _ _=>rfl⟩,trivial⟩,rfl,rfl,rfl,rfl,rfl,rfl,rfl,rfl,rfl,rfl,rfl,rfl,rfl,rfl,rfl,trivial⟩,s.M,_,⟨⟨rfl,rfl,VB.fit_refl _,VB.fit_refl _,VB.fit_refl _,VB.fit_refl _,trivial⟩,rfl,rfl,rfl,rfl,rfl,rfl,rfl,rfl,rfl,rfl,rfl,rfl,rfl,rfl,rfl,trivial⟩,.inr ⟨x,15,_,_,hx,rfl,rfl,fun i hi=>?_⟩⟩
   have hi:i<2:=hi
   match i,hi with
   | 0,_=>exact tl_weak rfl (fun y hy=>wk_ch (fun j hj=>p4 x hx 0 y j (by omega) rfl (by omega) hy))
   | 1,_=>exact tl_weak rfl (fun y hy=>wk_ch (fun j hj=>p4 x hx 1 y j (by omega) rfl (by omega) hy))
   | _+2,hi=>exact absurd hi (by omega))
 exact ⟨r,h',hc,hk⟩
theorem sm_ev (Q:VRes->VH->Prop):callN Try.prog noSpec noL 10 20 0 (.fn 37) [] ⟨0,[]⟩ (fun r h=>frzR 0 6 15 0 h (fun h=>Q r h)) =
 (Q (.ret (.tup [VV.slice (.own (6) 0) 3 3,VV.agg [VV.sl (7) 2,I 20,I 10]])) (VH.mk (8) [(6,VB.cells [I 2,I 100,I 12,I 50,VV.tl 2 (2) fun (j:Nat)=>List.take (2) (List.drop (j*(2)) [I 480,I 490,I 60,I 70]),I 2,I 100,I 10,I 30,VV.tl 2 (2) fun (j:Nat)=>List.take (2) (List.drop (j*(2)) [I 530,I 540,I 130,I 140]),I 3,I 200,I 8,I 90,VV.tl 2 (2) fun (j:Nat)=>List.take (2) (List.drop (j*(2)) [I 500,I 500,I 100,I 100])] 32),(5,VB.gone),(6,VB.cells [I 2,I 100,I 12,I 50,VV.tl 2 (2) fun (j:Nat)=>List.take (2) (List.drop (j*(2)) [I 480,I 490,I 60,I 70]),I 2,I 100,I 10,I 30,VV.tl 2 (2) fun (j:Nat)=>List.take (2) (List.drop (j*(2)) [I 530,I 540,I 130,I 140]),I 3,I 200,I 8,I 90,VV.sl (5) 2] 32),(2,VB.gone),(6,VB.cells [I 2,I 100,I 12,I 50,VV.tl 2 (2) fun (j:Nat)=>List.take (2) (List.drop (j*(2)) [I 480,I 490,I 60,I 70]),I 2,I 100,I 10,I 30,VV.sl (2) 2,I 3,I 200,I 8,I 90,VV.sl (5) 2] 32),(1,VB.gone),(0,VB.cells [VV.sl (7) 2,I 20,I 10] 25),(7,VB.vec 2 (fun (j:Nat)=>List.take (1) (List.drop (j*(1)) [I 500,I 100])) (1) 3),(6,VB.cells [I 2,I 100,I 12,I 50,VV.sl (1) 2,I 2,I 100,I 10,I 30,VV.sl (2) 2,I 3,I 200,I 8,I 90,VV.sl (5) 2] 32),(5,VB.vec 2 (fun (j:Nat)=>List.take (2) (List.drop (j*(2)) [I 500,I 500,I 100,I 100])) (2) 34),(4,VB.cells [I 100,I 100] 34),(4,VB.cells [I 0,I 0] 34),(3,VB.cells [I 500,I 500] 34),(3,VB.cells [I 0,I 0] 34),(2,VB.vec 2 (fun (j:Nat)=>List.take (2) (List.drop (j*(2)) [I 530,I 540,I 130,I 140])) (2) 34),(1,VB.vec 2 (fun (j:Nat)=>List.take (2) (List.drop (j*(2)) [I 480,I 490,I 60,I 70])) (2) 34),(0,VB.cells [VV.nils,I 0,I 0] 25)])):=by kernel_rfl
section
variable {P:Program}
theorem calls_toldR {f:FuncId} {args:List VV} {h h1 h2:VH} {v:VV} (hs:CallsV P f args h (.ret v) h1) (ht:Told h1 h2):CallsV P f args h (.ret v) h2:=by
 intro B R w xs em hx
 refine (hs B R w xs em hx).mono ?_
 rintro e w' ⟨R',n1,e1,x,hx1,he⟩
 obtain ⟨R2,n2,e2⟩:=ht B R' w' e1
 exact ⟨R2,n1.trans n2,e2,x,VRel.mono (n2.le e1) _ _ hx1,he⟩
theorem calls_tellC {f:FuncId} {args:List VV} {h h':VH} {v v2:VV} {m s:Nat} {cs:List VV} {t:TypeId} (hs:CallsV P f args h (.ret v) h') (hm:h'.at m=.cells cs t) (hb:belL 0 cs=true) (ho:cs.all VV.one=true) (_:1<=s)
  (hv:∀ (R R':Rn) (x:Value),R.le R'->(∀ k c y,k*s<=cs.length->VRel R (.slice (.own m 0) k c) y->VRel R' (.tl k s (fun j=>(cs.drop (j*s)).take s)) y)->VRel R v x->VRel R' v2 x):CallsV P f args h (.ret v2) ⟨h'.nx,(m,.gone)::h'.bs⟩:=by
 intro B R w xs em hx
 refine (hs B R w xs em hx).mono ?_
 rintro e w' ⟨R',n1,e1,x,hx1,he⟩
 obtain ⟨b,ys,h1,h2,h3,h4⟩:=e1.own m cs t hm
 have how:R'.ow m (h'.at m)=some b:=by rw [hm]; exact h1
 obtain ⟨f1,f2,f3⟩:=emb_frz e1 how (xs:=ys) (fun k x hk=>by simp [World.cell?,h4,hk])
 have hat:(VH.mk h'.nx ((m,.gone)::h'.bs)).at=upd h'.at m .gone:=VH.at_put h' m .gone (by rw [hm]; simp)
 refine ⟨R'.addF b ys,by rw [hat]; exact n1.trans f3,by rw [hat]; exact f2,x,hv R' _ x f1 (fun k c y hk hy=>?_) hx1,he⟩
 obtain ⟨hkc,p,hp,rfl⟩:=hy
 have hlen:ys.length=cs.length:=h3.length.symm
 refine ⟨p,c,rfl,⟨hkc,fun hn=>?_⟩,fun i hi=>?_⟩
 ·rcases hp with hp | ⟨q,hp,_⟩
  ·exact hp
  ·rw [hn] at hp; cases hp
 ·obtain ⟨q,rfl,b',hb',rfl⟩:=hp.resolve_left (by omega)
  rw [h1] at hb'
  cases hb'
  have h5:i*s+s<=k*s:=by
   rw [<- Nat.succ_mul]
   exact Nat.mul_le_mul_right s hi
  refine ⟨b,0,ys,rfl,by simp [Rn.addF],by omega,chunk_all ho,?_⟩
  have h6:VRelL (R'.addF b ys).no cs ys:=VRelL.mono f1.no _ _ (bel0_noL cs ys hb h3)
  rw [Nat.zero_add]
  exact (h6.drop (i*s)).take s
end
def L0:List Stk:=[⟨2,100,12,50,[⟨480,490⟩,⟨60,70⟩]⟩,⟨2,100,10,30,[⟨530,540⟩,⟨130,140⟩]⟩,⟨3,200,8,90,[⟨500,500⟩,⟨100,100⟩]⟩]
def T0:Tst:=⟨[500,100],20,10⟩
theorem sample_v:∃ h',CallsV Try.prog 37 [] ⟨0,[]⟩ (.ret (.tup [stD L0,.agg (tsL T0)])) h':=by
 obtain ⟨r,h1,hk,hc⟩:=of_callN good0 (f:=37) (args:=[]) (h:=⟨0,[]⟩) (K:=fun r h=>frzR 0 6 15 0 h (fun h2=>r=.ret (.tup [.slice (.own 6 0) 3 3,.agg [.sl 7 2,I 20,I 10]])/\h2.at 6=.cells [I 2,I 100,I 12,I 50,.tl 2 2 (fun j=>List.take 2 (List.drop (j*2) [I 480,I 490,I 60,I 70])),I 2,I 100,I 10,I 30,.tl 2 2 (fun j=>List.take 2 (List.drop (j*2) [I 530,I 540,I 130,I 140])),I 3,I 200,I 8,I 90,.tl 2 2 (fun j=>List.take 2 (List.drop (j*2) [I 500,I 500,I 100,I 100]))] 32/\h2.at 7=.vec 2 (fun j=>List.take 1 (List.drop (j*1) [I 500,I 100])) 1 3)) (cast (sm_ev _).symm ⟨rfl,rfl,rfl⟩)
 obtain ⟨h2,⟨rfl,a1,a2⟩,_,ht⟩:=frzR_sound 15 0 _ _ hk
 have hc2:=calls_toldR hc ht
 have hc3:=calls_tell (v2:=.tup [.slice (.own 6 0) 3 3,.agg [.tl 2 1 (fun j=>List.take 1 (List.drop (j*1) [I 500,I 100])),I 20,I 10]]) hc2 a2 (fun R R' x hle hv hx=>by
  obtain ⟨xs,⟨y0,ys,k1,⟨y1,_,⟨zs,⟨z0,_,k2,k3,rfl⟩,rfl⟩,k4,rfl⟩,rfl⟩,rfl⟩:=hx
  exact ⟨_,⟨y0,_,VRel.mono hle _ _ k1,⟨_,_,⟨_,⟨z0,_,hv z0 k2,VRelL.mono hle _ _ k3,rfl⟩,rfl⟩,k4,rfl⟩,rfl⟩,rfl⟩)
 have a3:(VH.mk h2.nx ((7,VB.gone)::h2.bs)).at 6=h2.at 6:=by
  rw [show (VH.mk h2.nx ((7,VB.gone)::h2.bs)).at=upd h2.at 7 .gone from VH.at_put h2 7 .gone (by rw [a2]; simp)]
  rfl
 rw [a1] at a3
 have hc4:=calls_tellC (s:=5) (v2:=.tup [.tl 3 5 (fun j=>List.take 5 (List.drop (j*5) [I 2,I 100,I 12,I 50,.tl 2 2 (fun j=>List.take 2 (List.drop (j*2) [I 480,I 490,I 60,I 70])),I 2,I 100,I 10,I 30,.tl 2 2 (fun j=>List.take 2 (List.drop (j*2) [I 530,I 540,I 130,I 140])),I 3,I 200,I 8,I 90,.tl 2 2 (fun j=>List.take 2 (List.drop (j*2) [I 500,I 500,I 100,I 100]))])),.agg [.tl 2 1 (fun j=>List.take 1 (List.drop (j*1) [I 500,I 100])),I 20,I 10]]) hc3 a3 rfl rfl (by omega) (fun R R' x hle hv hx=>by
  obtain ⟨xs,⟨y0,ys,k1,k2,rfl⟩,rfl⟩:=hx
  exact ⟨_,⟨y0,_,hv 3 3 y0 (by decide) k1,VRelL.mono hle _ _ k2,rfl⟩,rfl⟩)
 refine ⟨_,calls_res hc4 (fun R x hx=>?_)⟩
 obtain ⟨xs,⟨y0,_,k1,⟨y1,_,⟨zs,⟨z0,_,k2,k3,rfl⟩,rfl⟩,k4,rfl⟩,rfl⟩,rfl⟩:=hx
 have w1:wkL [.tl 3 5 (fun j=>List.take 5 (List.drop (j*5) [I 2,I 100,I 12,I 50,.tl 2 2 (fun j=>List.take 2 (List.drop (j*2) [I 480,I 490,I 60,I 70])),I 2,I 100,I 10,I 30,.tl 2 2 (fun j=>List.take 2 (List.drop (j*2) [I 530,I 540,I 130,I 140])),I 3,I 200,I 8,I 90,.tl 2 2 (fun j=>List.take 2 (List.drop (j*2) [I 500,I 500,I 100,I 100]))]))] [stD L0]:=tl_weak rfl (fun i hi=>by
  have key:∀ (a b c d:Int) (g g':Nat->List VV),(∀ j,j<2->g j=g' j)->wkL [I a,I b,I c,I d,.tl 2 2 g] [I a,I b,I c,I d,.tl 2 2 g']:=fun a b c d g g' hg=>by
   refine ⟨fun R xs hx=>?_,fun _=>rfl,rfl⟩
   obtain ⟨_,_,q1,⟨_,_,q2,⟨_,_,q3,⟨_,_,q4,q5,rfl⟩,rfl⟩,rfl⟩,rfl⟩:=hx
   exact ⟨_,_,q1,⟨_,_,q2,⟨_,_,q3,⟨_,_,q4,(tl_weak (g:=g) (g':=g') rfl (fun j hj=>by rw [hg j hj]; exact wkL_refl _)).1 R _ q5,rfl⟩,rfl⟩,rfl⟩,rfl⟩
  match i,hi with
  | 0,_=>exact key _ _ _ _ _ _ (fun j hj=>by match j,hj with | 0,_=>rfl | 1,_=>rfl | _+2,hj=>omega)
  | 1,_=>exact key _ _ _ _ _ _ (fun j hj=>by match j,hj with | 0,_=>rfl | 1,_=>rfl | _+2,hj=>omega)
  | 2,_=>exact key _ _ _ _ _ _ (fun j hj=>by match j,hj with | 0,_=>rfl | 1,_=>rfl | _+2,hj=>omega)
  | _+3,hi=>omega)
 have w2:wkL [.tl 2 1 (fun j=>List.take 1 (List.drop (j*1) [I 500,I 100]))] [inD T0.T]:=tl_weak rfl (fun i hi=>by
  match i,hi with
  | 0,_=>exact wkL_refl _
  | 1,_=>exact wkL_refl _
  | _+2,hi=>omega)
 obtain ⟨_,_,u1,u2,e1⟩:=w1.1 R [y0] ⟨y0,[],k1,rfl,rfl⟩
 obtain ⟨_,_,u3,u4,e2⟩:=w2.1 R [z0] ⟨z0,[],k2,rfl,rfl⟩
 cases e1
 cases e2
 exact ⟨_,⟨y0,_,u1,⟨_,_,⟨_,⟨z0,_,u3,k3,rfl⟩,rfl⟩,k4,rfl⟩,rfl⟩,rfl⟩
def d1 (L:Nat) (n:Nat->Int):VV:=.tl L 1 (chG n)
def d2G (q:Nat->Nat) (v:Nat->Nat->Int) (y:Nat):List VV:=[d1 (q y) (v y)]
def d3G (q:Nat->Nat) (r:Nat->Nat->Nat) (v:Nat->Nat->Nat->Int) (i:Nat):List VV:=[.tl (q i) 1 (d2G (r i) (v i))]
def d3 (p:Nat) (q:Nat->Nat) (r:Nat->Nat->Nat) (v:Nat->Nat->Nat->Int):VV:=.tl p 1 (d3G q r v)
def dsE1:List Nat:=[5,4,0,1]
def VE1 (a:VV) (i:Int):List VV:=[I i,.bool false,a,a]
theorem i1_ev (L:Nat) (n:Nat->Int) (i:Int) (X:VEx->List VV->List VB->Prop):codeE Try.prog (callN Try.prog noSpec noL 10 20) (fun _=>none) true 10 (ntOf Try.prog 19) 0 (loopB 0 (bodyOf Try.prog 19)) (dsE1.zip (VE1 (d1 L n) i)) ⟨0,([]:List Nat).zip []⟩ (obs 0 dsE1 [] X) =
 (bif decide (i<(↑L:Int)) then
 bif decide ((0:Int)<=i/\i<(↑L:Int)) then
 bif decide ((0:Int)<=i/\i<(↑L:Int)) then
 bif !decide (n i.toNat=n i.toNat) then
 X .ret [I i,VV.bool false,VV.tl L 1 (chG n),VV.tl L 1 (chG n)] []
 else bif inK .i64 (i+(1:Int)) then
 X .normal [I (i+(1:Int)),VV.bool false,VV.tl L 1 (chG n),VV.tl L 1 (chG n)] []
 else False
 else False
 else False
 else X (.exit 0) [I i,VV.bool false,VV.tl L 1 (chG n),VV.tl L 1 (chG n)] []):=by kernel_rfl
def lE1 (L:Nat) (n:Nat->Int):LT:=fun lock tt h K=>
 FitP lock h tt ⟨0,([]:List Nat).zip []⟩ (dsE1.zip (VE1 (d1 L n) 0))/\L<=100000/\K .normal (dsE1.zip (VE1 (d1 L n) L)) ⟨0,([]:List Nat).zip []⟩
theorem i1f_ev (L:Nat) (n:Nat->Int) (Q:VRes->Prop):callN Try.prog noSpec (atF 19 [(0,lE1 L n)]) 10 20 0 (.fn 19) [d1 L n,d1 L n] ⟨0,[]⟩ (fun r h=>Q r) =
 (bif !decide ((↑L:Int)=(↑L:Int)) then
 Q (.ret (.bool false))
 else FitP 0 (VH.mk 0 ([].zip [])) (dsE1.zip (VE1 (d1 L n) (0:Int))) (VH.mk 0 ([].zip [])) (dsE1.zip (VE1 (d1 L n) (0:Int)))/\L<=100000/\Q (.ret (.bool true))):=by kernel_rfl
def inR:FuncId × Spec1:=(19,fun _ args h K=>match args with
 | [x,y]=>∃ (L:Nat) (n:Nat->Int),isD h 2 x (d1 L n)/\isD h 2 y (d1 L n)/\L<=100000/\K (.ret (.bool true)) h
 | _=>False)
def dsE2:List Nat:=6::dsE1
def VE2 (a:VV) (i k:Int):List VV:=I k::VE1 a i
theorem s2_ev (p:Nat) (q:Nat->Nat) (r:Nat->Nat->Nat) (v:Nat->Nat->Nat->Int) (i k:Int) (X:VEx->List VV->List VB->Prop):codeE Try.prog (callN Try.prog (tabS [inR]) noL 10 20) (fun _=>none) true 10 (ntOf Try.prog 20) 0 (loopB 2 (bodyOf Try.prog 20)) (dsE2.zip (VE2 (d3 p q r v) i k)) ⟨0,([]:List Nat).zip []⟩ (obs 0 dsE2 [] X) =
 (bif decide ((0:Int)<=i/\i<(↑p:Int)) then
 bif decide (k<(↑(q i.toNat):Int)) then
 bif decide ((0:Int)<=i/\i<(↑p:Int)) then
 bif decide ((0:Int)<=k/\k<(↑(q i.toNat):Int)) then
 bif decide ((0:Int)<=i/\i<(↑p:Int)) then
 bif decide ((0:Int)<=k/\k<(↑(q i.toNat):Int)) then
 ∃ (L:Nat),∃ (n:Nat->Int),isD (VH.mk 0 ([].zip [])) 2 (VV.tl (r i.toNat k.toNat) 1 (chG (v i.toNat k.toNat))) (d1 L n)/\isD (VH.mk 0 ([].zip [])) 2 (VV.tl (r i.toNat k.toNat) 1 (chG (v i.toNat k.toNat))) (d1 L n)/\L<=100000/\bif inK .i64 (k+(1:Int)) then
 X .normal [I (k+(1:Int)),I i,VV.bool false,VV.tl p 1 (d3G q r v),VV.tl p 1 (d3G q r v)] []
 else False
 else False
 else False
 else False
 else False
 else X (.exit 2) [I k,I i,VV.bool false,VV.tl p 1 (d3G q r v),VV.tl p 1 (d3G q r v)] []
 else False):=by kernel_rfl
def okD (p:Nat) (q:Nat->Nat) (r:Nat->Nat->Nat):Prop:=p<=100000/\(∀ i,q i<=100000)/\∀ i j,r i j<=100000
def lE2 (p:Nat) (q:Nat->Nat) (r:Nat->Nat->Nat) (v:Nat->Nat->Nat->Int) (i:Nat):LT:=fun lock tt h K=>
 FitP lock h tt ⟨0,([]:List Nat).zip []⟩ (dsE2.zip (VE2 (d3 p q r v) i 0))/\(okD p q r/\i<p)/\K .normal (dsE2.zip (VE2 (d3 p q r v) i (q i))) ⟨0,([]:List Nat).zip []⟩
theorem s3_ev (p:Nat) (q:Nat->Nat) (r:Nat->Nat->Nat) (v:Nat->Nat->Nat->Int) (i:Nat) (X:VEx->List VV->List VB->Prop):codeE Try.prog (callN Try.prog noSpec noL 10 20) (tabB [(2,lE2 p q r v i)]) true 10 (ntOf Try.prog 20) 0 (loopB 0 (bodyOf Try.prog 20)) (dsE1.zip (VE1 (d3 p q r v) i)) ⟨0,([]:List Nat).zip []⟩ (obs 0 dsE1 [] X) =
 (bif decide ((↑i:Int)<(↑p:Int)) then
 bif decide ((0:Int)<=(↑i:Int)/\(↑i:Int)<(↑p:Int)) then
 bif decide ((0:Int)<=(↑i:Int)/\(↑i:Int)<(↑p:Int)) then
 bif !decide ((↑(q (↑i:Int).toNat):Int)=(↑(q (↑i:Int).toNat):Int)) then
 X .ret [I (↑i:Int),VV.bool false,VV.tl p 1 (d3G q r v),VV.tl p 1 (d3G q r v)] []
 else FitP 0 (VH.mk 0 ([].zip [])) (dsE2.zip (VE2 (d3 p q r v) (↑i:Int) (0:Int))) (VH.mk 0 ([].zip [])) (dsE2.zip (VE2 (d3 p q r v) (↑i:Int) (0:Int)))/\(okD p q r/\i<p)/\bif inK .i64 ((↑i:Int)+(1:Int)) then
 X .normal [I ((↑i:Int)+(1:Int)),VV.bool false,VV.tl p 1 (d3G q r v),VV.tl p 1 (d3G q r v)] []
 else False
 else False
 else False
 else X (.exit 0) [I (↑i:Int),VV.bool false,VV.tl p 1 (d3G q r v),VV.tl p 1 (d3G q r v)] []):=by kernel_rfl
def lE3 (p:Nat) (q:Nat->Nat) (r:Nat->Nat->Nat) (v:Nat->Nat->Nat->Int):LT:=fun lock tt h K=>
 FitP lock h tt ⟨0,([]:List Nat).zip []⟩ (dsE1.zip (VE1 (d3 p q r v) 0))/\okD p q r/\K .normal (dsE1.zip (VE1 (d3 p q r v) p)) ⟨0,([]:List Nat).zip []⟩
theorem s3f_ev (p:Nat) (q:Nat->Nat) (r:Nat->Nat->Nat) (v:Nat->Nat->Nat->Int) (Q:VRes->Prop):callN Try.prog noSpec (atF 20 [(0,lE3 p q r v)]) 10 20 0 (.fn 20) [d3 p q r v,d3 p q r v] ⟨0,[]⟩ (fun r h=>Q r) =
 (bif !decide ((↑p:Int)=(↑p:Int)) then
 Q (.ret (.bool false))
 else FitP 0 (VH.mk 0 ([].zip [])) (dsE1.zip (VE1 (d3 p q r v) (0:Int))) (VH.mk 0 ([].zip [])) (dsE1.zip (VE1 (d3 p q r v) (0:Int)))/\okD p q r/\Q (.ret (.bool true))):=by kernel_rfl
theorem lE1_ok {L:Nat} {n:Nat->Int}:LSound Try.prog true (.block 0 (.loop (loopB 0 (bodyOf Try.prog 19)))) (ntOf Try.prog 19) (lE1 L n):=by
 by_cases hn:L<=100000
 ·refine loop_row hmix good0 (un:=10) (ds:=dsE1) (ns:=[]) (nx:=0) (fun i:Nat=>VE1 (d1 L n) i) (fun _=>[]) (fun i=>i<=L) (fun i=>L - i) (fun _ e vs bs=>e=.exit 0/\bs=[]/\vs=VE1 (d1 L n) L) noL_ok ?_ ?_
  ·rintro i h0
   refine cast (i1_ev L n i _).symm ?_
   by_cases hlt:i<L
   ·exact cond_dk (by omega) (cond_dk ⟨by omega,by omega⟩ (cond_dk ⟨by omega,by omega⟩ (cond_nd (fun h=>(h rfl).elim) (fun _=>cond_r (by omega) ⟨i+1,by omega,by dsimp only; omega,rfl,fitBs_refl _,fun _ _ _ h=>h⟩))))
   ·obtain rfl:i=L:=by omega
    exact cond_d (fun h=>by omega) (fun _=>⟨rfl,rfl,rfl⟩)
  ·rintro lock tt h K ⟨hf,_,k1⟩
   refine ⟨0,hf,Nat.zero_le _,?_⟩
   rintro e vs bs ⟨rfl,rfl,rfl⟩
   exact k1
 ·rintro lock tt h K ⟨hf,hc,_⟩
  exact (hn hc).elim
theorem ints_v {L:Nat} {n:Nat->Int} (hL:L<=100000):∃ h',CallsV Try.prog 19 [d1 L n,d1 L n] ⟨0,[]⟩ (.ret (.bool true)) h':=by
 have hall:LoopsOk Try.prog 19 [(0,lE1 L n)]:=fun x hx=>by
  simp only [List.mem_singleton] at hx
  subst hx
  exact ⟨by kernel_rfl,lE1_ok⟩
 obtain ⟨r,h',rfl,hc⟩:=of_callN (callL_good hmix noSp hall (un:=10) 20) (f:=19) (args:=[d1 L n,d1 L n]) (h:=⟨0,[]⟩) (K:=fun r _=>r=.ret (.bool true)) (cast (i1f_ev L n _).symm (cond_nd (fun h=>(h rfl).elim) (fun _=>⟨fitP_self rfl,hL,rfl⟩)))
 exact ⟨h',hc⟩
theorem inR_ok:SpOk Try.prog inR.1 inR.2:=by
 intro lock args h K hK
 simp only [inR] at hK
 split at hK
 ·obtain ⟨L,n,hx,hy,hL,hK⟩:=hK
  obtain ⟨h',hv⟩:=ints_v (n:=n) hL
  exact ⟨_,h,hK,lockP_refl _ _,calls_lendDP 2 hv rfl ⟨hx,hy,trivial⟩⟩
 ·exact hK.elim
section
variable {p:Nat} {q:Nat->Nat} {r:Nat->Nat->Nat} {v:Nat->Nat->Nat->Int}
theorem lE2_ok {i:Nat}:LSound Try.prog true (.block 2 (.loop (loopB 2 (bodyOf Try.prog 20)))) (ntOf Try.prog 20) (lE2 p q r v i):=by
 by_cases hn:okD p q r/\i<p
 ·obtain ⟨⟨h1,h2,h3⟩,hi⟩:=hn
  have hq:=h2 i
  refine loop_row hmix (noL_good (tab1 inR_ok)) (un:=10) (ds:=dsE2) (ns:=[]) (nx:=0) (fun k:Nat=>VE2 (d3 p q r v) i k) (fun _=>[]) (fun k=>k<=q i) (fun k=>q i - k) (fun _ e vs bs=>e=.exit 2/\bs=[]/\vs=VE2 (d3 p q r v) i (q i)) noL_ok ?_ ?_
  ·rintro k h0
   refine cast (s2_ev p q r v i k _).symm ?_
   have e1:(i:Int).toNat=i:=by omega
   have e2:(k:Int).toNat=k:=by omega
   rw [e1]
   by_cases hlt:k<q i
   ·refine cond_dk ⟨by omega,by omega⟩ (cond_dk (by omega) ?_)
    rw [e2]
    exact cond_dk ⟨by omega,by omega⟩ (cond_dk ⟨by omega,by omega⟩ (cond_dk ⟨by omega,by omega⟩ (cond_dk ⟨by omega,by omega⟩ ⟨r i k,v i k,⟨rfl,rfl,fun _ _=>rfl⟩,⟨rfl,rfl,fun _ _=>rfl⟩,h3 i k,cond_r (by omega) ⟨k+1,by omega,by dsimp only; omega,rfl,fitBs_refl _,fun _ _ _ h=>h⟩⟩)))
   ·obtain rfl:k=q i:=by omega
    exact cond_dk ⟨by omega,by omega⟩ (cond_d (fun h=>by omega) (fun _=>⟨rfl,rfl,rfl⟩))
  ·rintro lock tt h K ⟨hf,_,k1⟩
   refine ⟨0,hf,Nat.zero_le _,?_⟩
   rintro e vs bs ⟨rfl,rfl,rfl⟩
   exact k1
 ·rintro lock tt h K ⟨hf,hc,_⟩
  exact (hn hc).elim
theorem lE3_ok:LSound Try.prog true (.block 0 (.loop (loopB 0 (bodyOf Try.prog 20)))) (ntOf Try.prog 20) (lE3 p q r v):=by
 by_cases hn:okD p q r
 ·have hp:=hn.1
  refine loop_rowD hmix good0 (un:=10) (ds:=dsE1) (ns:=[]) (nx:=0) (lsp:=fun i:Nat=>tabB [(2,lE2 p q r v i)]) (fun i:Nat=>VE1 (d3 p q r v) i) (fun _=>[]) (fun i=>i<=p) (fun i=>p - i) (fun _ e vs bs=>e=.exit 0/\bs=[]/\vs=VE1 (d3 p q r v) p) (fun _ _=>lsp_one (by kernel_rfl) lE2_ok) ?_ ?_
  ·rintro i h0
   refine cast (s3_ev p q r v i _).symm ?_
   by_cases hlt:i<p
   ·refine cond_dk (by omega) (cond_dk ⟨by omega,by omega⟩ (cond_dk ⟨by omega,by omega⟩ (cond_nd (fun h=>(h rfl).elim) (fun _=>⟨⟨⟨rfl,rfl,trivial⟩,rfl,rfl,rfl,rfl,rfl,trivial⟩,⟨hn,hlt⟩,cond_r (by omega) ⟨i+1,by omega,by dsimp only; omega,rfl,fitBs_refl _,fun _ _ _ h=>h⟩⟩))))
   ·obtain rfl:i=p:=by omega
    exact cond_d (fun h=>by omega) (fun _=>⟨rfl,rfl,rfl⟩)
  ·rintro lock tt h K ⟨hf,_,k1⟩
   refine ⟨0,hf,Nat.zero_le _,?_⟩
   rintro e vs bs ⟨rfl,rfl,rfl⟩
   exact k1
 ·rintro lock tt h K ⟨hf,hc,_⟩
  exact (hn hc).elim
theorem plans_v (hn:okD p q r):∃ h',CallsV Try.prog 20 [d3 p q r v,d3 p q r v] ⟨0,[]⟩ (.ret (.bool true)) h':=by
 have hall:LoopsOk Try.prog 20 [(0,lE3 p q r v)]:=fun x hx=>by
  simp only [List.mem_singleton] at hx
  subst hx
  exact ⟨by kernel_rfl,lE3_ok⟩
 obtain ⟨r,h',rfl,hc⟩:=of_callN (callL_good hmix noSp hall (un:=10) 20) (f:=20) (args:=[d3 p q r v,d3 p q r v]) (h:=⟨0,[]⟩) (K:=fun r _=>r=.ret (.bool true)) (cast (s3f_ev p q r v _).symm (cond_nd (fun h=>(h rfl).elim) (fun _=>⟨fitP_self rfl,hn,rfl⟩)))
 exact ⟨h',hc⟩
end
theorem calls_args {P:Program} {f:FuncId} {args args2:List VV} {h h':VH} {r:VRes} (hs:CallsV P f args2 h r h') (hv:∀ (R:Rn) (xs:List Value),VRelL R args xs->VRelL R args2 xs):CallsV P f args h r h':=fun B R w xs em hx=>hs B R w xs em (hv R xs hx)
theorem wk_two {x y x' y':VV} (h1:wkL [x] [x']) (h2:wkL [y] [y']) (R:Rn) (xs:List Value) (h:VRelL R [x,y] xs):VRelL R [x',y'] xs:=by
 obtain ⟨a,_,k1,⟨b,_,k2,k3,rfl⟩,rfl⟩:=h
 obtain ⟨_,_,u1,_,e1⟩:=h1.1 R [a] ⟨a,[],k1,rfl,rfl⟩
 obtain ⟨_,_,u2,_,e2⟩:=h2.1 R [b] ⟨b,[],k2,rfl,rfl⟩
 cases e1
 cases e2
 exact ⟨_,_,u1,⟨_,_,u2,k3,rfl⟩,rfl⟩
def spR:FuncId × Spec1:=(20,fun _ args h K=>match args with
 | [x,y]=>∃ (x' y':VV) (p:Nat) (q:Nat->Nat) (r:Nat->Nat->Nat) (v:Nat->Nat->Nat->Int),isD h 2 x x'/\isD h 2 y y'/\(wkL [x'] [d3 p q r v]/\wkL [y'] [d3 p q r v])/\okD p q r/\K (.ret (.bool true)) h
 | _=>False)
theorem spR_ok:SpOk Try.prog spR.1 spR.2:=by
 intro lock args h K hK
 simp only [spR] at hK
 split at hK
 ·obtain ⟨x',y',p,q,r,v,hx,hy,⟨w1,w2⟩,hL,hK⟩:=hK
  obtain ⟨h',hv⟩:=plans_v (v:=v) hL
  exact ⟨_,h,hK,lockP_refl _ _,calls_lendDP 2 (calls_args hv (wk_two w1 w2)) rfl ⟨hx,hy,trivial⟩⟩
 ·exact hK.elim
def smR:FuncId × Spec1:=(37,fun _ args h K=>match args with
 | []=>K (.ret (.tup [stD L0,.agg (tsL T0)])) h
 | _=>False)
def P0:List (List Int):=[[150,150],[150,0]]
def plOk (P:List (List Int)) (g:Nat->List VV):Prop:=∀ i,i<P.length->wkL (g i) (pthG P i)
def plA:FuncId × Spec1:=(17,fun lock args h K=>match args,h with
 | [a,b,.sl m L],⟨nx,bs⟩=>a=stD L0/\b=.agg (tsL T0)/\(lock=0/\L=2/\∃ g ty,(VH.mk nx bs).at m=.vec 2 g 1 ty/\plOk P0 g)/\∀ x,planF L0 T0 P0 2 2 3 (mostF L0)=some x->K (.ret (.tup [plnD 3 2 2 x,I 0])) ⟨nx,(m,.gone)::bs⟩
 | _,_=>False)
theorem al_ev (Q:VRes->Prop):callN Try.prog (tabS [smR,cheapR L0 T0,plA,inR,spR]) noL 10 20 0 (.fn 16) [] ⟨0,[]⟩ (fun r h=>Q r) =
 (stD L0=stD L0/\VV.agg (tsL T0)=VV.agg (tsL T0)/\(chpE L0 T0 (0:Int) (300:Int) ≠ (0:Int)->stD L0=stD L0/\VV.agg (tsL T0)=VV.agg (tsL T0)/\(0=0/\2=2/\∃ (g:Nat->List VV),∃ (ty:TypeId),(VH.mk (4) [(3,VB.vec 2 (fun (j:Nat)=>List.take (1) (List.drop (j*(1)) [VV.tl 2 (1) fun (j:Nat)=>List.take (1) (List.drop (j*(1)) [I 150,I 150]),VV.tl 2 (1) fun (j:Nat)=>List.take (1) (List.drop (j*(1)) [I 150,I 0])])) (1) 23),(2,VB.gone),(1,VB.gone),(2,VB.vec 2 (fun (j:Nat)=>List.take (1) (List.drop (j*(1)) [I 150,I 0])) (1) 3),(1,VB.vec 2 (fun (j:Nat)=>List.take (1) (List.drop (j*(1)) [I 150,I 150])) (1) 3),(0,VB.cells [VV.tl T0.T.length 1 (dG T0.T),I T0.far,I T0.least] 25),(0,VB.cells [VV.nils,I 0,I 0] 25)]).at (3)=VB.vec 2 g 1 ty/\plOk P0 g)/\∀ (x:Rsl),planF L0 T0 P0 2 2 3 (mostF L0)=some x->∃ (L:Nat),∃ (n:Nat->Int),isD (VH.mk (5) [(4,VB.vec 3 (fun (j:Nat)=>List.take (1) (List.drop (j*(1)) [I 2,I 1,I 0])) (1) 3),(3,VB.gone),(3,VB.vec 2 (fun (j:Nat)=>List.take (1) (List.drop (j*(1)) [VV.tl 2 (1) fun (j:Nat)=>List.take (1) (List.drop (j*(1)) [I 150,I 150]),VV.tl 2 (1) fun (j:Nat)=>List.take (1) (List.drop (j*(1)) [I 150,I 0])])) (1) 23),(2,VB.gone),(1,VB.gone),(2,VB.vec 2 (fun (j:Nat)=>List.take (1) (List.drop (j*(1)) [I 150,I 0])) (1) 3),(1,VB.vec 2 (fun (j:Nat)=>List.take (1) (List.drop (j*(1)) [I 150,I 150])) (1) 3),(0,VB.cells [VV.tl T0.T.length 1 (dG T0.T),I T0.far,I T0.least] 25),(0,VB.cells [VV.nils,I 0,I 0] 25)]) 2 VV.nils (d1 L n)/\isD (VH.mk (5) [(4,VB.vec 3 (fun (j:Nat)=>List.take (1) (List.drop (j*(1)) [I 2,I 1,I 0])) (1) 3),(3,VB.gone),(3,VB.vec 2 (fun (j:Nat)=>List.take (1) (List.drop (j*(1)) [VV.tl 2 (1) fun (j:Nat)=>List.take (1) (List.drop (j*(1)) [I 150,I 150]),VV.tl 2 (1) fun (j:Nat)=>List.take (1) (List.drop (j*(1)) [I 150,I 0])])) (1) 23),(2,VB.gone),(1,VB.gone),(2,VB.vec 2 (fun (j:Nat)=>List.take (1) (List.drop (j*(1)) [I 150,I 0])) (1) 3),(1,VB.vec 2 (fun (j:Nat)=>List.take (1) (List.drop (j*(1)) [I 150,I 150])) (1) 3),(0,VB.cells [VV.tl T0.T.length 1 (dG T0.T),I T0.far,I T0.least] 25),(0,VB.cells [VV.nils,I 0,I 0] 25)]) 2 (VV.sl (4) 3) (d1 L n)/\L<=100000/\Q (.ret (.bool false)))/\(chpE L0 T0 (0:Int) (300:Int)=(0:Int)->∀ (c:Nat->Int),chpF L0 T0 (0:Int) (300:Int)=some c->stD L0=stD L0/\VV.agg (tsL T0)=VV.agg (tsL T0)/\(0=0/\2=2/\∃ (g:Nat->List VV),∃ (ty:TypeId),(VH.mk (4) [(3,VB.vec 2 (fun (j:Nat)=>List.take (1) (List.drop (j*(1)) [VV.tl 2 (1) fun (j:Nat)=>List.take (1) (List.drop (j*(1)) [I 150,I 150]),VV.tl 2 (1) fun (j:Nat)=>List.take (1) (List.drop (j*(1)) [I 150,I 0])])) (1) 23),(2,VB.gone),(1,VB.gone),(2,VB.vec 2 (fun (j:Nat)=>List.take (1) (List.drop (j*(1)) [I 150,I 0])) (1) 3),(1,VB.vec 2 (fun (j:Nat)=>List.take (1) (List.drop (j*(1)) [I 150,I 150])) (1) 3),(0,VB.cells [VV.tl T0.T.length 1 (dG T0.T),I T0.far,I T0.least] 25),(0,VB.cells [VV.nils,I 0,I 0] 25)]).at (3)=VB.vec 2 g 1 ty/\plOk P0 g)/\∀ (x:Rsl),planF L0 T0 P0 2 2 3 (mostF L0)=some x->∃ (L:Nat),∃ (n:Nat->Int),isD (VH.mk (5) [(4,VB.vec 3 (fun (j:Nat)=>List.take (1) (List.drop (j*(1)) [I 2,I 1,I 0])) (1) 3),(3,VB.gone),(3,VB.vec 2 (fun (j:Nat)=>List.take (1) (List.drop (j*(1)) [VV.tl 2 (1) fun (j:Nat)=>List.take (1) (List.drop (j*(1)) [I 150,I 150]),VV.tl 2 (1) fun (j:Nat)=>List.take (1) (List.drop (j*(1)) [I 150,I 0])])) (1) 23),(2,VB.gone),(1,VB.gone),(2,VB.vec 2 (fun (j:Nat)=>List.take (1) (List.drop (j*(1)) [I 150,I 0])) (1) 3),(1,VB.vec 2 (fun (j:Nat)=>List.take (1) (List.drop (j*(1)) [I 150,I 150])) (1) 3),(0,VB.cells [VV.tl T0.T.length 1 (dG T0.T),I T0.far,I T0.least] 25),(0,VB.cells [VV.nils,I 0,I 0] 25)]) 2 (VV.tl L0.length 1 (chG c)) (d1 L n)/\isD (VH.mk (5) [(4,VB.vec 3 (fun (j:Nat)=>List.take (1) (List.drop (j*(1)) [I 2,I 1,I 0])) (1) 3),(3,VB.gone),(3,VB.vec 2 (fun (j:Nat)=>List.take (1) (List.drop (j*(1)) [VV.tl 2 (1) fun (j:Nat)=>List.take (1) (List.drop (j*(1)) [I 150,I 150]),VV.tl 2 (1) fun (j:Nat)=>List.take (1) (List.drop (j*(1)) [I 150,I 0])])) (1) 23),(2,VB.gone),(1,VB.gone),(2,VB.vec 2 (fun (j:Nat)=>List.take (1) (List.drop (j*(1)) [I 150,I 0])) (1) 3),(1,VB.vec 2 (fun (j:Nat)=>List.take (1) (List.drop (j*(1)) [I 150,I 150])) (1) 3),(0,VB.cells [VV.tl T0.T.length 1 (dG T0.T),I T0.far,I T0.least] 25),(0,VB.cells [VV.nils,I 0,I 0] 25)]) 2 (VV.sl (4) 3) (d1 L n)/\L<=100000/\bif decide (costF L0 c=(130:Int)) then
 ∃ (x':VV),∃ (y':VV),∃ (p:Nat),∃ (q:Nat->Nat),∃ (r:Nat->Nat->Nat),∃ (v:Nat->Nat->Nat->Int),isD (VH.mk (12) [(11,VB.vec 2 (fun (j:Nat)=>List.take (1) (List.drop (j*(1)) [VV.tl 2 (1) fun (j:Nat)=>List.take (1) (List.drop (j*(1)) [VV.tl 3 (1) fun (j:Nat)=>List.take (1) (List.drop (j*(1)) [I 1,I 1,I 0]),VV.tl 3 (1) fun (j:Nat)=>List.take (1) (List.drop (j*(1)) [I 1,I 1,I 0])]),VV.tl 2 (1) fun (j:Nat)=>List.take (1) (List.drop (j*(1)) [VV.tl 3 (1) fun (j:Nat)=>List.take (1) (List.drop (j*(1)) [I 1,I 1,I 0]),VV.tl 3 (1) fun (j:Nat)=>List.take (1) (List.drop (j*(1)) [I 0,I 0,I 0])])])) (1) 26),(10,VB.gone),(7,VB.gone),(10,VB.vec 2 (fun (j:Nat)=>List.take (1) (List.drop (j*(1)) [VV.tl 3 (1) fun (j:Nat)=>List.take (1) (List.drop (j*(1)) [I 1,I 1,I 0]),VV.tl 3 (1) fun (j:Nat)=>List.take (1) (List.drop (j*(1)) [I 0,I 0,I 0])])) (1) 23),(9,VB.gone),(8,VB.gone),(9,VB.vec 3 (fun (j:Nat)=>List.take (1) (List.drop (j*(1)) [I 0,I 0,I 0])) (1) 3),(8,VB.vec 3 (fun (j:Nat)=>List.take (1) (List.drop (j*(1)) [I 1,I 1,I 0])) (1) 3),(7,VB.vec 2 (fun (j:Nat)=>List.take (1) (List.drop (j*(1)) [VV.tl 3 (1) fun (j:Nat)=>List.take (1) (List.drop (j*(1)) [I 1,I 1,I 0]),VV.tl 3 (1) fun (j:Nat)=>List.take (1) (List.drop (j*(1)) [I 1,I 1,I 0])])) (1) 23),(6,VB.gone),(5,VB.gone),(6,VB.vec 3 (fun (j:Nat)=>List.take (1) (List.drop (j*(1)) [I 1,I 1,I 0])) (1) 3),(5,VB.vec 3 (fun (j:Nat)=>List.take (1) (List.drop (j*(1)) [I 1,I 1,I 0])) (1) 3),(4,VB.vec 3 (fun (j:Nat)=>List.take (1) (List.drop (j*(1)) [I 2,I 1,I 0])) (1) 3),(3,VB.gone),(3,VB.vec 2 (fun (j:Nat)=>List.take (1) (List.drop (j*(1)) [VV.tl 2 (1) fun (j:Nat)=>List.take (1) (List.drop (j*(1)) [I 150,I 150]),VV.tl 2 (1) fun (j:Nat)=>List.take (1) (List.drop (j*(1)) [I 150,I 0])])) (1) 23),(2,VB.gone),(1,VB.gone),(2,VB.vec 2 (fun (j:Nat)=>List.take (1) (List.drop (j*(1)) [I 150,I 0])) (1) 3),(1,VB.vec 2 (fun (j:Nat)=>List.take (1) (List.drop (j*(1)) [I 150,I 150])) (1) 3),(0,VB.cells [VV.tl T0.T.length 1 (dG T0.T),I T0.far,I T0.least] 25),(0,VB.cells [VV.nils,I 0,I 0] 25)]) 2 (VV.tl 2 1 (plnG 3 2 x)) x'/\isD (VH.mk (12) [(11,VB.vec 2 (fun (j:Nat)=>List.take (1) (List.drop (j*(1)) [VV.tl 2 (1) fun (j:Nat)=>List.take (1) (List.drop (j*(1)) [VV.tl 3 (1) fun (j:Nat)=>List.take (1) (List.drop (j*(1)) [I 1,I 1,I 0]),VV.tl 3 (1) fun (j:Nat)=>List.take (1) (List.drop (j*(1)) [I 1,I 1,I 0])]),VV.tl 2 (1) fun (j:Nat)=>List.take (1) (List.drop (j*(1)) [VV.tl 3 (1) fun (j:Nat)=>List.take (1) (List.drop (j*(1)) [I 1,I 1,I 0]),VV.tl 3 (1) fun (j:Nat)=>List.take (1) (List.drop (j*(1)) [I 0,I 0,I 0])])])) (1) 26),(10,VB.gone),(7,VB.gone),(10,VB.vec 2 (fun (j:Nat)=>List.take (1) (List.drop (j*(1)) [VV.tl 3 (1) fun (j:Nat)=>List.take (1) (List.drop (j*(1)) [I 1,I 1,I 0]),VV.tl 3 (1) fun (j:Nat)=>List.take (1) (List.drop (j*(1)) [I 0,I 0,I 0])])) (1) 23),(9,VB.gone),(8,VB.gone),(9,VB.vec 3 (fun (j:Nat)=>List.take (1) (List.drop (j*(1)) [I 0,I 0,I 0])) (1) 3),(8,VB.vec 3 (fun (j:Nat)=>List.take (1) (List.drop (j*(1)) [I 1,I 1,I 0])) (1) 3),(7,VB.vec 2 (fun (j:Nat)=>List.take (1) (List.drop (j*(1)) [VV.tl 3 (1) fun (j:Nat)=>List.take (1) (List.drop (j*(1)) [I 1,I 1,I 0]),VV.tl 3 (1) fun (j:Nat)=>List.take (1) (List.drop (j*(1)) [I 1,I 1,I 0])])) (1) 23),(6,VB.gone),(5,VB.gone),(6,VB.vec 3 (fun (j:Nat)=>List.take (1) (List.drop (j*(1)) [I 1,I 1,I 0])) (1) 3),(5,VB.vec 3 (fun (j:Nat)=>List.take (1) (List.drop (j*(1)) [I 1,I 1,I 0])) (1) 3),(4,VB.vec 3 (fun (j:Nat)=>List.take (1) (List.drop (j*(1)) [I 2,I 1,I 0])) (1) 3),(3,VB.gone),(3,VB.vec 2 (fun (j:Nat)=>List.take (1) (List.drop (j*(1)) [VV.tl 2 (1) fun (j:Nat)=>List.take (1) (List.drop (j*(1)) [I 150,I 150]),VV.tl 2 (1) fun (j:Nat)=>List.take (1) (List.drop (j*(1)) [I 150,I 0])])) (1) 23),(2,VB.gone),(1,VB.gone),(2,VB.vec 2 (fun (j:Nat)=>List.take (1) (List.drop (j*(1)) [I 150,I 0])) (1) 3),(1,VB.vec 2 (fun (j:Nat)=>List.take (1) (List.drop (j*(1)) [I 150,I 150])) (1) 3),(0,VB.cells [VV.tl T0.T.length 1 (dG T0.T),I T0.far,I T0.least] 25),(0,VB.cells [VV.nils,I 0,I 0] 25)]) 2 (VV.sl (11) 2) y'/\(wkL [x'] [d3 p q r v]/\wkL [y'] [d3 p q r v])/\okD p q r/\Q (.ret (.bool (decide ((0:Int)=(0:Int)))))
 else Q (.ret (.bool false)))):=by kernel_rfl
theorem ok0:okAll L0 T0=true:=by decide +kernel
theorem okP0:okPaths P0=true:=by decide +kernel
theorem chp0:(chpF L0 T0 0 300).map (fun c=>(c 0,c 1,c 2,costF L0 c))=some (2,1,0,130):=by decide +kernel
theorem pln0:(planF L0 T0 P0 2 2 3 (mostF L0)).map (fun x=>[x 0 0 0,x 0 0 1,x 0 0 2,x 0 1 0,x 0 1 1,x 0 1 2,x 1 0 0,x 1 0 1,x 1 0 2,x 1 1 0,x 1 1 1,x 1 1 2])=some [1,1,0,1,1,0,1,1,0,0,0,0]:=by decide +kernel
theorem smR_ok:SpOk Try.prog smR.1 smR.2:=by
 intro lock args h K hK
 simp only [smR] at hK
 split at hK
 ·obtain ⟨h',hc⟩:=sample_v
  exact ⟨_,h,hK,lockP_refl _ _,calls_lift0 hc rfl rfl⟩
 ·exact hK.elim
theorem cfg0:Cfg L0 T0 P0 2:=by
 obtain ⟨hl,hp,ht,_⟩:=okAll_l ok0
 refine ⟨hl,hp,okT_tB ht,by decide,by decide,fun i hi=>?_,fun i j=>?_⟩
 ·have hi:i<2:=hi
  match i,hi with
  | 0,_=>rfl
  | 1,_=>rfl
  | _+2,hi=>omega
 ·match i,j with
  | 0,0=>exact ⟨by decide,by decide⟩
  | 0,1=>exact ⟨by decide,by decide⟩
  | 0,_+2=>exact (show (0:Int)<=0/\(0:Int)<=1048576 from ⟨by decide,by decide⟩)
  | 1,0=>exact ⟨by decide,by decide⟩
  | 1,1=>exact ⟨by decide,by decide⟩
  | 1,_+2=>exact (show (0:Int)<=0/\(0:Int)<=1048576 from ⟨by decide,by decide⟩)
  | _+2,_=>exact (show (0:Int)<=0/\(0:Int)<=1048576 from ⟨by decide,by decide⟩)
theorem pthB0:pthB P0:=by
 refine ⟨⟨by decide,by decide⟩,fun i=>?_⟩
 match i with
 | 0=>decide
 | 1=>decide
 | _+2=>exact (show 0<=100000 by decide)
theorem plA_ok:SpOk Try.prog plA.1 plA.2:=by
 intro lock args h K hK
 simp only [plA] at hK
 split at hK
 ·rename_i a b m L nx bs
  obtain ⟨rfl,rfl,⟨rfl,rfl,g,ty,hm,hg⟩,hK⟩:=hK
  obtain ⟨r,h',hc,hk⟩:=plp2 (l:=L0) (t:=T0) (D0:=[150,150]) (D1:=[150,0]) ok0 okP0 cfg0 pthB0
  rcases pln_tell hc hk with ⟨hn,_⟩ | ⟨x,h2,hx,hc2⟩
  ·have:=pln0
   rw [show planF L0 T0 P0 2 2 3 (mostF L0)=none from hn] at this
   cases this
  ·have hc3:CallsV Try.prog 17 [stD L0,.agg (tsL T0),pthD P0] ⟨nx,(m,.gone)::bs⟩ (.ret (.tup [plnD 3 2 2 x,I 0])) ⟨nx,(m,.gone)::bs⟩:=calls_lift0 hc2 rfl rfl
   have hc4:CallsV Try.prog 17 [stD L0,.agg (tsL T0),.tl 2 1 g] ⟨nx,(m,.gone)::bs⟩ (.ret (.tup [plnD 3 2 2 x,I 0])) ⟨nx,(m,.gone)::bs⟩:=calls_args hc3 (fun R xs hx=>by
    obtain ⟨y0,_,k0,⟨y1,_,k1,⟨y2,_,k2,k3,rfl⟩,rfl⟩,rfl⟩:=hx
    obtain ⟨_,_,u1,_,e1⟩:=(tl_weak (L:=2) (L':=2) (s:=1) (g:=g) (g':=pthG P0) rfl hg).1 R [y2] ⟨y2,[],k2,rfl,rfl⟩
    cases e1
    exact ⟨_,_,k0,⟨_,_,k1,⟨_,_,u1,k3,rfl⟩,rfl⟩,rfl⟩)
   refine ⟨_,_,hK x hx,lock0 _ _,calls_told (h:=⟨nx,bs⟩) (m:=m) (L:=2) (s:=1) (g:=g) (t:=ty) hc4 hm (fun R R' xs hle hv hxs=>?_)⟩
   obtain ⟨y0,_,k0,⟨y1,_,k1,⟨y2,_,k2,k3,rfl⟩,rfl⟩,rfl⟩:=hxs
   exact ⟨_,_,VRel.mono hle _ _ k0,⟨_,_,VRel.mono hle _ _ k1,⟨_,_,hv y2 k2,VRelL.mono hle _ _ k3,rfl⟩,rfl⟩,rfl⟩
 ·exact hK.elim
theorem wk_lit3 {a b c:Int} {n:Nat->Int} (h0:n 0=a) (h1:n 1=b) (h2:n 2=c):wkL [.tl 3 1 (fun j=>List.take 1 (List.drop (j*1) [I a,I b,I c]))] [d1 3 n]:=tl_weak rfl (fun j hj=>by
 subst h0; subst h1; subst h2
 match j,hj with
 | 0,_=>exact wkL_refl _
 | 1,_=>exact wkL_refl _
 | 2,_=>exact wkL_refl _
 | _+3,hj=>omega)
theorem chpE0:chpE L0 T0 0 300=0:=by
 unfold chpE
 rw [if_neg (by rw [ok0]; simp),if_neg (by omega),if_neg (fun h=>by have:=chp0; rw [h] at this; cases this)]
theorem al_tab:∀ f T,tabS [smR,cheapR L0 T0,plA,inR,spR] f=some T->SpOk Try.prog f T:=tab_ok _ (fun x hx=>by
 simp only [List.mem_cons,List.not_mem_nil,or_false] at hx
 rcases hx with rfl | rfl | rfl | rfl | rfl
 ·exact smR_ok
 ·exact cheapR_ok L0 T0
 ·exact plA_ok
 ·exact inR_ok
 ·exact spR_ok)
theorem alive_v:∃ h',CallsV Try.prog 16 [] ⟨0,[]⟩ (.ret (.bool true)) h':=by
 obtain ⟨r,h',rfl,hc⟩:=of_callN (noL_good al_tab) (f:=16) (args:=[]) (h:=⟨0,[]⟩) (K:=fun r _=>r=.ret (.bool true)) (by
  refine cast (al_ev _).symm ⟨rfl,rfl,fun h=>(h chpE0).elim,fun _ c hc=>?_⟩
  have h0:=chp0
  rw [hc] at h0
  have h0:(c 0,c 1,c 2,costF L0 c)=(2,1,0,130):=by simpa using h0
  simp only [Prod.mk.injEq] at h0
  obtain ⟨c0,c1,c2,c3⟩:=h0
  refine ⟨rfl,rfl,⟨rfl,rfl,_,_,rfl,?_⟩,fun x hx=>?_⟩
  ·intro i hi
   have hi:i<2:=hi
   have key:∀ a b:Int,wkL [.tl 2 1 (fun j=>List.take 1 (List.drop (j*1) [I a,I b]))] [inD [a,b]]:=fun a b=>tl_weak rfl (fun j hj=>by
    match j,hj with
    | 0,_=>exact wkL_refl _
    | 1,_=>exact wkL_refl _
    | _+2,hj=>exact absurd hj (by show ¬ _+2<2; omega))
   match i,hi with
   | 0,_=>exact key 150 150
   | 1,_=>exact key 150 0
   | _+2,hi=>omega
  ·have h1:=pln0
   rw [hx] at h1
   have h1:[x 0 0 0,x 0 0 1,x 0 0 2,x 0 1 0,x 0 1 1,x 0 1 2,x 1 0 0,x 1 0 1,x 1 0 2,x 1 1 0,x 1 1 1,x 1 1 2]=[1,1,0,1,1,0,1,1,0,0,0,0]:=by simpa using h1
   simp only [List.cons.injEq,and_true] at h1
   obtain ⟨e1,e2,e3,e4,e5,e6,e7,e8,e9,ea,eb,ec⟩:=h1
   refine ⟨3,c,⟨rfl,rfl,fun _ _=>rfl⟩,⟨rfl,Nat.le_refl _,_,_,rfl,fun j hj=>?_⟩,by omega,cond_dk c3 ?_⟩
   ·match j,hj with
    | 0,_=>exact congrArg (fun n=>[I n]) c0.symm
    | 1,_=>exact congrArg (fun n=>[I n]) c1.symm
    | 2,_=>exact congrArg (fun n=>[I n]) c2.symm
    | _+3,hj=>omega
   ·refine ⟨.tl 2 1 (plnG 3 2 x),.tl 2 1 _,2,fun _=>2,fun _ _=>3,x,⟨rfl,rfl,fun _ _=>rfl⟩,⟨rfl,Nat.le_refl _,_,_,rfl,fun _ _=>rfl⟩,⟨wkL_refl _,tl_weak rfl (fun i hi=>?_)⟩,⟨by omega,fun _=>(show 2<=100000 by omega),fun _ _=>(show 3<=100000 by omega)⟩,rfl⟩
    match i,hi with
    | 0,_=>
     refine tl_weak rfl (fun y hy=>?_)
     match y,hy with
     | 0,_=>exact wk_lit3 e1 e2 e3
     | 1,_=>exact wk_lit3 e4 e5 e6
     | _+2,hy=>exact absurd hy (by show ¬ _+2<2; omega)
    | 1,_=>
     refine tl_weak rfl (fun y hy=>?_)
     match y,hy with
     | 0,_=>exact wk_lit3 e7 e8 e9
     | 1,_=>exact wk_lit3 ea eb ec
     | _+2,hy=>exact absurd hy (by show ¬ _+2<2; omega)
    | _+2,hi=>exact absurd hi (by show ¬ _+2<2; omega))
 exact ⟨h',hc⟩
theorem alT_ok:SpOk Try.prog alT.1 alT.2:=by
 intro lock args h K hK
 simp only [alT] at hK
 split at hK
 ·obtain ⟨h',hc⟩:=alive_v
  exact ⟨_,h,hK,lockP_refl _ _,calls_lift0 hc rfl rfl⟩
 ·exact hK.elim
theorem great_len {l:List Stk} {t:Tst} {m:Int} (h:greatF l t m=false):l.length<=8/\t.T.length<=6/\anyG l=false/\pF l l.length<=m:=by
 unfold greatF at h
 simp only [Bool.or_eq_false_iff,decide_eq_false_iff_not] at h
 obtain ⟨⟨h1,h2⟩,h3⟩:=h
 exact ⟨by omega,by omega,h2,by omega⟩
def dsK1:List Nat:=[4,3,0]
def VK1 (l:List Stk) (i:Nat):List VV:=[I i,.sl 0 i,stD l]
def BK1 (l:List Stk) (i:Nat):List VB:=[.vec i (chG (mostF l)) 1 3]
theorem k1_ev (l:List Stk) (i:Nat) (X:VEx->List VV->List VB->Prop):codeE Try.prog (callN Try.prog noSpec noL 10 20) (fun _=>none) true 10 (ntOf Try.prog 51) 0 (loopB 0 (bodyOf Try.prog 51)) (dsK1.zip (VK1 l i)) ⟨1,[0].zip (BK1 l i)⟩ (obs 1 dsK1 [0] X) =
 (bif decide ((↑i:Int)<(↑l.length:Int)) then
 bif decide ((0:Int)<=(↑i:Int)/\(↑i:Int)<(↑l.length:Int)) then
 bif i.beq i then
 bif roomB (i+1) (8) then
 bif inK .i64 ((↑i:Int)+(1:Int)) then
 X .normal [I ((↑i:Int)+(1:Int)),VV.sl 0 (i+1),VV.tl l.length 5 (stG l)] [VB.vec (i+1) (catG i (chG (mostF l)) fun (j:Nat)=>List.take (1) (List.drop (j*(1)) [I (l.getD (↑i:Int).toNat k0).casks])) (1) 3]
 else False
 else False
 else False
 else False
 else X (.exit 0) [I (↑i:Int),VV.sl 0 i,VV.tl l.length 5 (stG l)] [VB.vec i (chG (mostF l)) 1 3]):=by kernel_rfl
def lK1 (l:List Stk):LT:=fun lock tt h K=>
 FitP lock h tt ⟨1,[0].zip (BK1 l 0)⟩ (dsK1.zip (VK1 l 0))/\l.length<=6/\K .normal (dsK1.zip (VK1 l l.length)) ⟨1,[0].zip (BK1 l l.length)⟩
theorem kf_ev (l:List Stk) (Q:VRes->VH->Prop):callN Try.prog noSpec (atF 51 [(0,lK1 l)]) 10 20 0 (.fn 51) [stD l] ⟨0,[]⟩ (fun r h=>Q r h) =
 (FitP 0 (VH.mk (0+1) [(0,VB.vec 0 (fun (j:Nat)=>List.take (1) (List.drop (j*(1)) [])) (1) 3)]) [(4,I 0),(3,VV.sl 0 0),(5,VV.sl 0 0),(2,VV.nils),(0,stD l)] (VH.mk 1 ([0].zip (BK1 l 0))) (dsK1.zip (VK1 l 0))/\l.length<=6/\Q (.ret (.sl 0 l.length)) (VH.mk 1 [(0,VB.vec l.length (chG (mostF l)) 1 3)])):=by kernel_rfl
def rblR (l:List Stk) (t:Tst) (D:List Int):FuncId × Spec1:=(56,fun _ args h K=>match args with
 | [x,z,.int .i64 y,w]=>isD h 4 x (stD l)/\isD h 4 z (.agg (tsL t))/\isD h 4 w (inD D)/\(conB l t (chD D)/\D.length=l.length/\0<=y/\y<=1000)/\∀ V,V=vtF l t (chD D) y->K (.ret (vtV V h.nx)) (h.new (vtB V))
 | _=>False)
theorem rm_ev (l:List Stk) (t:Tst) (y m:Int) (D:List Int) (Q:VRes->Prop):callN Try.prog (tabS [rblR l t D]) noL 10 20 0 (.fn 58) [stD l,.agg (tsL t),I y,I m,inD D] ⟨0,[]⟩ (fun r _=>Q r) =
 (isD (VH.mk (0+1) [(0,VB.cells [VV.tl t.T.length 1 (dG t.T),I t.far,I t.least] 25)]) 4 (VV.tl l.length 5 (stG l)) (stD l)/\isD (VH.mk (0+1) [(0,VB.cells [VV.tl t.T.length 1 (dG t.T),I t.far,I t.least] 25)]) 4 (VV.agg [VV.tl t.T.length 1 (dG t.T),I t.far,I t.least]) (VV.agg (tsL t))/\isD (VH.mk (0+1) [(0,VB.cells [VV.tl t.T.length 1 (dG t.T),I t.far,I t.least] 25)]) 4 (VV.tl D.length 1 (dG D)) (inD D)/\(conB l t (chD D)/\D.length=l.length/\(0:Int)<=y/\y<=(1000:Int))/\∀ (V:Vt),V=vtF l t (chD D) y->bif decide (m=(0:Int)) then
 Q (.ret (.bool (decide (V.v=(0:Int)))))
 else bif V.k then
 Q (.ret (.bool (decide (V.v ≥ m))))
 else Q (.ret (.bool false))):=by kernel_rfl
def ouD (N r:Nat) (g:Nat->Nat->List VV):VV:=.tl N 1 (fun k=>[.tl r 1 (g k)])
def dsQ4:List Nat:=[7,6,5,4,3,0]
def VQ4 (D:List Int) (N r:Nat) (g:Nat->Nat->List VV) (i k n c:Nat):List VV:=[I n,I k,.sl 1 c,I i,ouD N r g,inD D]
def BQ (c:Nat) (F:Nat->List VV):List VB:=[.vec c F 1 23]
theorem q4_ev (D:List Int) (N r:Nat) (g:Nat->Nat->List VV) (i k n c:Nat) (F:Nat->List VV) (X:VEx->List VV->List VB->Prop):codeE Try.prog (callN Try.prog noSpec noL 10 20) (fun _=>none) true 10 (ntOf Try.prog 57) 0 (loopB 4 (bodyOf Try.prog 57)) (dsQ4.zip (VQ4 D N r g i k n c)) ⟨2,[1].zip (BQ c F)⟩ (obs 2 dsQ4 [1] X) =
 (bif decide ((0:Int)<=(↑i:Int)/\(↑i:Int)<(↑D.length:Int)) then
 bif decide ((↑n:Int)<=D.getD (↑i:Int).toNat (0:Int)) then
 bif decide ((0:Int)<=(↑k:Int)/\(↑k:Int)<(↑N:Int)) then
 bif roomB (0+r) (8) then
 bif (0+r).beq (0+r) then
 bif roomB (0+r+1) (8) then
 bif (0+r+1).beq (0+r+1) && Nat.ble 1 (1) && (occN (2) [] ((38,VV.sl (2) (0+r+1))::(37,VV.sl (3) 1)::(36,I (↑n:Int))::(35,VV.sl (2) (0+r))::(34,VV.tl r 1 (g (↑k:Int).toNat))::(33,VV.tp [VV.tl r 1 (g (↑k:Int).toNat)])::(32,I (↑k:Int))::(31,VV.tl N 1 fun (k:Nat)=>[VV.tl r 1 (g k)])::(30,VV.sl (2) 0)::(29,VV.sl 1 c)::(26,VV.bool true)::(26,VV.bool (decide ((↑n:Int)<=D.getD (↑i:Int).toNat (0:Int))))::(25,I (D.getD (↑i:Int).toNat (0:Int)))::(24,VV.tp [I (D.getD (↑i:Int).toNat (0:Int))])::(23,I (↑i:Int))::(22,VV.tl D.length 1 (dG D))::(21,I (↑n:Int))::dsQ4.zip (VQ4 D N r g i k n c))).ble 1 then
 bif c.beq c then
 bif roomB (c+1) (24) then
 bif inK .i64 ((↑n:Int)+(1:Int)) then
 X .normal [I ((↑n:Int)+(1:Int)),I (↑k:Int),VV.sl 1 (c+1),I (↑i:Int),VV.tl N 1 fun (k:Nat)=>[VV.tl r 1 (g k)],VV.tl D.length 1 (dG D)] [VB.vec (c+1) (catG c F fun (j:Nat)=>List.take (1) (List.drop (j*(1)) [VV.tl (0+r+1) (1) (catG (0+r) (catG 0 (fun (j:Nat)=>List.take (1) (List.drop (j*(1)) [])) (g (↑k:Int).toNat)) fun (j:Nat)=>List.take (1) (List.drop (j*(1)) [I (↑n:Int)]))])) (1) 23]
 else False
 else False
 else False
 else bif (0+r+1).beq (0+r+1) && Nat.ble 1 (1) && !(2).beq (4) then
 bif c.beq c then
 bif roomB (c+1) (24) then
 bif inK .i64 ((↑n:Int)+(1:Int)) then
 X .normal [I ((↑n:Int)+(1:Int)),I (↑k:Int),VV.sl 1 (c+1),I (↑i:Int),VV.tl N 1 fun (k:Nat)=>[VV.tl r 1 (g k)],VV.tl D.length 1 (dG D)] [VB.vec (c+1) (catG c F fun (j:Nat)=>List.take (1) (List.drop (j*(1)) (List.take (1*(1)) (List.drop 0 [VV.tl (0+r+1) (1) (catG (0+r) (catG 0 (fun (j:Nat)=>List.take (1) (List.drop (j*(1)) [])) (g (↑k:Int).toNat)) fun (j:Nat)=>List.take (1) (List.drop (j*(1)) [I (↑n:Int)]))])))) (1) 23]
 else False
 else False
 else False
 else False
 else False
 else False
 else False
 else False
 else X (.exit 4) [I (↑n:Int),I (↑k:Int),VV.sl 1 c,I (↑i:Int),VV.tl N 1 fun (k:Nat)=>[VV.tl r 1 (g k)],VV.tl D.length 1 (dG D)] [VB.vec c F 1 23]
 else False):=by kernel_rfl
def xtG (r:Nat) (G:Nat->List VV) (n:Nat):Nat->List VV:=catG r (catG 0 (fun j=>List.take 1 (List.drop (j*1) [])) G) fun j=>List.take 1 (List.drop (j*1) [I n])
def nQ (D:List Int) (i:Nat):Nat:=(D.getD i 0).toNat+1
def FQ (r m:Nat) (g:Nat->Nat->List VV) (q:Nat):List VV:=[.tl (r+1) 1 (xtG r (g (q / m)) (q % m))]
def dB (D:List Int):Prop:=D.length<=6/\∀ i,i<D.length->0<=D.getD i 0/\D.getD i 0<=6
def lQ4 (D:List Int):LT:=fun lock tt h K=>
 ∃ (N r:Nat) (g:Nat->Nat->List VV) (i k c:Nat) (F:Nat->List VV),FitP lock h tt ⟨2,[1].zip (BQ c F)⟩ (dsQ4.zip (VQ4 D N r g i k 0 c))/\(dB D/\i<D.length/\k<N/\N<=200000/\r<=6/\c<=1200000)/\K .normal (dsQ4.zip (VQ4 D N r g i k (nQ D i) (c+nQ D i))) ⟨2,[1].zip (BQ (c+nQ D i) (catG c F fun n=>[.tl (r+1) 1 (xtG r (g k) n)]))⟩
def dsQ2:List Nat:=[6,5,4,3,0]
def VQ2 (D:List Int) (N r:Nat) (g:Nat->Nat->List VV) (i k c:Nat):List VV:=[I k,.sl 1 c,I i,ouD N r g,inD D]
theorem q2_ev (D:List Int) (N r:Nat) (g:Nat->Nat->List VV) (i k c:Nat) (F:Nat->List VV) (X:VEx->List VV->List VB->Prop):codeE Try.prog (callN Try.prog noSpec noL 10 20) (tabB [(4,lQ4 D)]) true 10 (ntOf Try.prog 57) 0 (loopB 2 (bodyOf Try.prog 57)) (dsQ2.zip (VQ2 D N r g i k c)) ⟨2,[1].zip (BQ c F)⟩ (obs 2 dsQ2 [1] X) =
 (bif decide ((↑k:Int)<(↑N:Int)) then
 ∃ (N_1:Nat),∃ (r_1:Nat),∃ (g_1:Nat->Nat->List VV),∃ (i_1:Nat),∃ (k_1:Nat),∃ (c_1:Nat),∃ (F_1:Nat->List VV),FitP 0 (VH.mk 2 ([1].zip (BQ c F))) ((7,I 0)::(18,VV.bool true)::(18,VV.bool (decide ((↑k:Int)<(↑N:Int))))::(17,I (↑N:Int))::(16,VV.tl N 1 fun (k:Nat)=>[VV.tl r 1 (g k)])::(15,I (↑k:Int))::dsQ2.zip (VQ2 D N r g i k c)) (VH.mk 2 ([1].zip (BQ c_1 F_1))) (dsQ4.zip (VQ4 D N_1 r_1 g_1 i_1 k_1 0 c_1))/\(dB D/\i_1<D.length/\k_1<N_1/\N_1<=200000/\r_1<=6/\c_1<=1200000)/\bif inK .i64 ((↑k_1:Int)+(1:Int)) then
 X .normal [I ((↑k_1:Int)+(1:Int)),VV.sl 1 (c_1+nQ D i_1),I (↑i_1:Int),VV.tl N_1 1 fun (k:Nat)=>[VV.tl r_1 1 (g_1 k)],VV.tl D.length 1 (dG D)] [VB.vec (c_1+nQ D i_1) (catG c_1 F_1 fun (n:Nat)=>[VV.tl (r_1+1) 1 (xtG r_1 (g_1 k_1) n)]) 1 23]
 else False
 else X (.exit 2) [I (↑k:Int),VV.sl 1 c,I (↑i:Int),VV.tl N 1 fun (k:Nat)=>[VV.tl r 1 (g k)],VV.tl D.length 1 (dG D)] [VB.vec c F 1 23]):=by kernel_rfl
def lQ2s (D:List Int):LT:=fun lock tt h K=>
 ∃ (N r:Nat) (g:Nat->Nat->List VV) (i:Nat),FitP lock h tt ⟨2,[1].zip (BQ 0 (dG []))⟩ (dsQ2.zip (VQ2 D N r g i 0 0))/\(dB D/\i<D.length/\N<=150000/\r<=6)/\K .normal (dsQ2.zip (VQ2 D N r g i N (N*nQ D i))) ⟨2,[1].zip (BQ (N*nQ D i) (FQ r (nQ D i) g))⟩
def lQ2 (D:List Int):LT:=fun lock tt h K=>
 ∃ (N r:Nat) (g:Nat->Nat->List VV) (i:Nat),FitP lock h tt ⟨1,[]⟩ (dsQ2.zip [I 0,.nils,I i,ouD N r g,inD D])/\(dB D/\i<D.length/\N<=150000/\r<=6)/\K .normal (dsQ2.zip (VQ2 D N r g i N (N*nQ D i))) ⟨2,[1].zip (BQ (N*nQ D i) (FQ r (nQ D i) g))⟩
def dsQ0:List Nat:=[4,3,0]
def VQ0 (D:List Int) (N r:Nat) (g:Nat->Nat->List VV) (i:Nat):List VV:=[I i,ouD N r g,inD D]
theorem q0_ev (D:List Int) (N r:Nat) (g:Nat->Nat->List VV) (i:Nat) (X:VEx->List VV->List VB->Prop):codeE Try.prog (callN Try.prog noSpec noL 10 20) (tabB [(2,lQ2 D)]) true 10 (ntOf Try.prog 57) 0 (loopB 0 (bodyOf Try.prog 57)) (dsQ0.zip (VQ0 D N r g i)) ⟨1,([]:List Nat).zip []⟩ (obsT [3] 1 dsQ0 [] X) =
 (bif decide ((↑i:Int)<(↑D.length:Int)) then
 ∃ (N_1:Nat),∃ (r_1:Nat),∃ (g_1:Nat->Nat->List VV),∃ (i_1:Nat),FitP 0 (VH.mk 1 ([].zip [])) ((6,I 0)::(5,VV.nils)::(12,VV.bool true)::(12,VV.bool (decide ((↑i:Int)<(↑D.length:Int))))::(11,I (↑D.length:Int))::(10,VV.tl D.length 1 (dG D))::(9,I (↑i:Int))::dsQ0.zip (VQ0 D N r g i)) (VH.mk 1 []) (dsQ2.zip [I 0,VV.nils,I (↑i_1:Int),ouD N_1 r_1 g_1,inD D])/\(dB D/\i_1<D.length/\N_1<=150000/\r_1<=6)/\bif inK .i64 ((↑i_1:Int)+(1:Int)) then
 bif (N_1*nQ D i_1).beq (N_1*nQ D i_1) && Nat.ble 1 1 then
 X .normal [I ((↑i_1:Int)+(1:Int)),VV.tl (N_1*nQ D i_1) 1 (FQ r_1 (nQ D i_1) g_1),VV.tl D.length 1 (dG D)] []
 else False
 else False
 else X (.exit 0) [I (↑i:Int),VV.tl N 1 fun (k:Nat)=>[VV.tl r 1 (g k)],VV.tl D.length 1 (dG D)] []):=by kernel_rfl
def nilG:Nat->List VV:=fun j=>List.take 1 (List.drop (j*1) [VV.nils])
def nC (D:List Int):Nat->Nat
 | 0=>1
 | i+1=>nC D i*nQ D i
def gC (D:List Int):Nat->Nat->Nat->List VV
 | 0=>fun _ _=>[]
 | i+1=>fun q=>xtG i (gC D i (q / nQ D i)) (q % nQ D i)
def lQ0 (D:List Int):LT:=fun lock tt h K=>
 FitP lock h tt ⟨1,[0].zip [.vec 1 nilG 1 23]⟩ (dsQ0.zip [I 0,.sl 0 1,inD D])/\dB D/\K .normal (dsQ0.zip (VQ0 D (nC D D.length) D.length (gC D D.length) D.length)) ⟨1,([]:List Nat).zip []⟩
theorem q_ev (D:List Int) (Q:VRes->VH->Prop):callN Try.prog noSpec (atF 57 [(0,lQ0 D)]) 10 20 0 (.fn 57) [inD D] ⟨0,[]⟩ (fun r h=>Q r h) =
 (FitP 0 (VH.mk 1 ([0].zip [VB.vec 1 nilG 1 23])) (dsQ0.zip [I 0,VV.sl 0 1,inD D]) (VH.mk 1 ([0].zip [VB.vec 1 nilG 1 23])) (dsQ0.zip [I 0,VV.sl 0 1,inD D])/\dB D/\Q (.ret (.tl (nC D D.length) 1 fun (k:Nat)=>[VV.tl D.length 1 (gC D D.length k)])) (VH.mk 1 [])):=by kernel_rfl
end Go.Sx.Bln
namespace Go.Sx
open Go
section
variable {P:Program}
theorem told_weak {t:Slots} {h:VH} {d:Nat} {v v':VV} (hd:look t d=v) (hv:∀ R x,VRel R v x->VRel R v' x):ToldT t h ((d,v')::t) h:=fun _ R a w e ht=>⟨R,Nxt.refl _ _ _ e.fresh,e,fun x=>by
 rw [look_cons]
 by_cases hx:d=x
 ·subst hx
  rw [if_pos rfl]
  have:=ht d
  rw [hd] at this
  exact hv R _ this
 ·rw [if_neg hx]
  exact ht x⟩
theorem loop_rowW {σ:Type} (hmix:P.follows .mixedOrders=true) {call:CallT} (hg:Good P call) {lsp:σ->Nat->Option LT} {un n nx id:Nat} {zs:List Nat} {ds ns:List Nat} {b:Code} {T:LT} (V:σ->List VV) (Bk:σ->List VB) (Inv:σ->Prop) (μ:σ->Nat) (Out:σ->VEx->List VV->List VB->Prop)
  (hls:∀ s,Inv s->∀ id T,lsp s id=some T->∀ b' ∈ blocksOf id b,LSound P true (.block id b') n T)
  (hr:∀ s,Inv s->codeE P call (lsp s) true un n 0 b (ds.zip (V s)) ⟨nx,ns.zip (Bk s)⟩ (obsT zs nx ds ns (RoundQ V Bk Inv μ Out s)))
  (hT:∀ lock t h K,T lock t h K->∃ h0 t0,FitP lock h t h0 t0/\∃ t2 h2,ToldT t0 h0 t2 h2/\∃ s,FitP 0 h2 t2 ⟨nx,ns.zip (Bk s)⟩ (ds.zip (V s))/\Inv s/\∀ e vs bs,Out s e vs bs->K (exitOf id e) (ds.zip vs) ⟨nx,ns.zip bs⟩) :
  LSound P true (.block id (.loop b)) n T:=by
 intro lock t h K hK
 obtain ⟨h0,t0,hf0,t2,h2,htd,s,hf,hi,hO⟩:=hT lock t h K hK
 have hl0:=hf0.1.1
 subst hl0
 obtain ⟨e,vs,bs,w1,w2,w3⟩:=loop_allT hmix hg V Bk Inv μ Out hls hr s hi
 refine ⟨_,_,_,hO e vs bs w1,lock0 _ _,sem_fit hf0 (sem_told htd (sem_fit hf (block_sound (loopTo_sound w3) ?_)))⟩
 cases e with
 | exit id'=>
  by_cases hid:id'=id
  ·subst hid
   exact .inl ⟨rfl,by simp [exitOf]⟩
  ·exact .inr ⟨by simpa using hid,by simp [exitOf,beq_f hid]⟩
 | _=>exact .inr ⟨by simp,rfl⟩
end
end Go.Sx
namespace Go.Sx.Bln
open Go Go.Sx Go.Proofs
set_option maxRecDepth 1000000
theorem catG_lt {L j:Nat} {f g:Nat->List VV} (h:j<L):catG L f g j=f j:=by
 unfold catG
 rw [show Nat.blt j L=true from Nat.blt_eq.mpr h]
 rfl
theorem catG_ge {L j:Nat} {f g:Nat->List VV} (h:L<=j):catG L f g j=g (j - L):=by
 unfold catG
 rw [show Nat.blt j L=false from Bool.eq_false_iff.2 (fun hh=>by have:=Nat.blt_eq.mp hh; omega)]
 rfl
theorem room8 {n:Nat} (h:n<=100):roomB n 8=true:=by
 unfold roomB
 rw [Nat.ble_eq_true_of_le (by omega),Nat.ble_eq_true_of_le (by omega)]
 rfl
theorem room24 {n:Nat} (h:n<=2000000):roomB n 24=true:=by
 unfold roomB
 rw [Nat.ble_eq_true_of_le (by omega),Nat.ble_eq_true_of_le (by omega)]
 rfl
theorem fit_ext {L:Nat} {g g':Nat->List VV} {s:Nat} {t:TypeId} {b:VB} (h:(VB.vec L g s t).fit b) (h2:∀ i,i<L->g' i=g i):(VB.vec L g' s t).fit b:=by
 obtain ⟨g'',rfl,h3⟩:=VB.fit_vec h
 exact ⟨rfl,rfl,rfl,fun i hi=>(h3 i hi).trans (h2 i hi).symm⟩
section
variable {D:List Int}
theorem nQ_bd (h:dB D) {i:Nat} (hi:i<D.length):1<=nQ D i/\nQ D i<=7:=by
 have:=h.2 i hi
 unfold nQ
 omega
structure SQ4 where
 N:Nat
 r:Nat
 g:Nat->Nat->List VV
 i:Nat
 k:Nat
 c:Nat
 F:Nat->List VV
 n:Nat
abbrev hQ4 (r:Nat) (g:Nat->Nat->List VV) (k:Nat) (n:Nat):List VV:=[.tl (r+1) 1 (xtG r (g k) n)]
theorem lQ4_ok:LSound Try.prog true (.block 4 (.loop (loopB 4 (bodyOf Try.prog 57)))) (ntOf Try.prog 57) (lQ4 D):=by
 by_cases hD:dB D
 ·refine loop_row hmix good0 (un:=10) (ds:=dsQ4) (ns:=[1]) (nx:=2) (fun s:SQ4=>VQ4 D s.N s.r s.g s.i s.k s.n (s.c+s.n)) (fun s=>BQ (s.c+s.n) (catG s.c s.F (hQ4 s.r s.g s.k))) (fun s=>s.i<D.length/\s.k<s.N/\s.N<=200000/\s.r<=6/\s.c<=1200000/\s.n<=nQ D s.i) (fun s=>nQ D s.i - s.n) (fun s e vs bs=>e=.exit 4/\bs=BQ (s.c+nQ D s.i) (catG s.c s.F (hQ4 s.r s.g s.k))/\vs=VQ4 D s.N s.r s.g s.i s.k (nQ D s.i) (s.c+nQ D s.i)) noL_ok ?_ ?_
  ·rintro ⟨N,r,g,i,k,c,F,n⟩ ⟨hi,hk,hN,hr,hc,hn⟩
   dsimp only at hi hk hN hr hc hn ⊢
   refine cast (q4_ev D N r g i k n (c+n) _ _).symm ?_
   have h7:=nQ_bd hD hi
   have hdi:=hD.2 i hi
   have hnq:nQ D i=(D.getD i 0).toNat+1:=rfl
   generalize hRQ:RoundQ (σ:=SQ4) _ _ _ _ _ _=RQ
   rw [show (i:Int).toNat=i by omega,show (k:Int).toNat=k by omega,Nat.zero_add]
   by_cases hlt:n<nQ D i
   ·have fin:∀ G:Nat->List VV,(∀ q,q<c+n+1->G q=catG c F (hQ4 r g k) q)->RQ .normal [I ((n:Int)+1),I k,.sl 1 (c+n+1),I i,.tl N 1 fun (k:Nat)=>[.tl r 1 (g k)],.tl D.length 1 (dG D)] [.vec (c+n+1) G 1 23]:=by
     intro G hG
     rw [<- hRQ]
     refine ⟨⟨N,r,g,i,k,c,F,n+1⟩,⟨hi,hk,hN,hr,hc,by dsimp only; omega⟩,by dsimp only; omega,rfl,⟨⟨rfl,rfl,rfl,hG⟩,trivial⟩,fun _ _ _ h=>h⟩
    have fin2:RQ .normal [I ((n:Int)+1),I k,.sl 1 (c+n+1),I i,.tl N 1 fun (k:Nat)=>[.tl r 1 (g k)],.tl D.length 1 (dG D)] [.vec (c+n+1) (catG (c+n) (catG c F (hQ4 r g k)) fun (j:Nat)=>List.take 1 (List.drop (j*1) [.tl (r+1) 1 (xtG r (g k) n)])) 1 23]:=by
     refine fin _ (fun q hq=>?_)
     by_cases hq2:q<c+n
     ·rw [catG_lt hq2]
     ·obtain rfl:q=c+n:=by omega
      rw [catG_ge (Nat.le_refl _),catG_ge (by omega),Nat.sub_self,show c+n - c=n by omega]
      rfl
    refine cond_dk ⟨by omega,by omega⟩ (cond_dk (by omega) (cond_dk ⟨by omega,by omega⟩ (cond_k (room8 (by omega)) (cond_k (Nat.beq_refl _) (cond_k (room8 (by omega)) ?_)))))
    refine cond_i (fun _=>cond_k (Nat.beq_refl _) (cond_k (room24 (by omega)) (cond_r (by omega) fin2))) (fun _=>cond_k (by rw [Nat.beq_refl]; rfl) (cond_k (Nat.beq_refl _) (cond_k (room24 (by omega)) (cond_r (by omega) fin2))))
   ·obtain rfl:n=nQ D i:=by omega
    refine cond_dk ⟨by omega,by omega⟩ (cond_d (fun h=>by omega) (fun _=>?_))
    rw [<- hRQ]
    exact ⟨rfl,rfl,rfl⟩
  ·rintro lock tt h K ⟨N,r,g,i,k,c,F,hf,⟨_,h2,h3,h4,h5,h6⟩,k1⟩
   refine ⟨⟨N,r,g,i,k,c,F,0⟩,?_,⟨h2,h3,h4,h5,h6,Nat.zero_le _⟩,?_⟩
   ·obtain ⟨⟨rfl,e1,e2,_⟩,e3⟩:=hf
    exact ⟨⟨rfl,e1,fit_ext e2 (fun q hq=>catG_lt hq),trivial⟩,e3⟩
   rintro e vs bs ⟨rfl,rfl,rfl⟩
   exact k1
 ·rintro lock tt h K ⟨_,_,_,_,_,_,_,hf,⟨hc,_⟩,_⟩
  exact (hD hc).elim
structure SQ2 where
 N:Nat
 r:Nat
 g:Nat->Nat->List VV
 i:Nat
 k:Nat
theorem lQ2s_ok:LSound Try.prog true (.block 2 (.loop (loopB 2 (bodyOf Try.prog 57)))) (ntOf Try.prog 57) (lQ2s D):=by
 by_cases hD:dB D
 ·refine loop_row hmix good0 (lsp:=tabB [(4,lQ4 D)]) (un:=10) (ds:=dsQ2) (ns:=[1]) (nx:=2) (fun s:SQ2=>VQ2 D s.N s.r s.g s.i s.k (s.k*nQ D s.i)) (fun s=>BQ (s.k*nQ D s.i) (FQ s.r (nQ D s.i) s.g)) (fun s=>s.i<D.length/\s.N<=150000/\s.r<=6/\s.k<=s.N) (fun s=>s.N - s.k) (fun s e vs bs=>e=.exit 2/\bs=BQ (s.N*nQ D s.i) (FQ s.r (nQ D s.i) s.g)/\vs=VQ2 D s.N s.r s.g s.i s.N (s.N*nQ D s.i)) (lsp_one (by kernel_rfl) lQ4_ok) ?_ ?_
  ·rintro ⟨N,r,g,i,k⟩ ⟨hi,hN,hr,hk⟩
   dsimp only at hi hN hr hk ⊢
   refine cast (q2_ev D N r g i k (k*nQ D i) _ _).symm ?_
   have h7:=nQ_bd hD hi
   by_cases hlt:k<N
   ·have hm:k*nQ D i<=N*7:=Nat.mul_le_mul hk h7.2
    refine cond_dk (by omega) ⟨N,r,g,i,k,k*nQ D i,FQ r (nQ D i) g,⟨⟨rfl,rfl,VB.fit_refl _,trivial⟩,rfl,rfl,rfl,rfl,rfl,rfl,trivial⟩,⟨hD,hi,hlt,by omega,hr,by omega⟩,cond_r (by omega) ⟨⟨N,r,g,i,k+1⟩,⟨hi,hN,hr,by dsimp only; omega⟩,by dsimp only; omega,?_,⟨⟨?_,rfl,rfl,fun q hq=>?_⟩,trivial⟩,fun _ _ _ h=>h⟩⟩
    ·dsimp only
     rw [Nat.succ_mul]
     rfl
    ·rw [Nat.succ_mul]
    ·dsimp only at hq
     rw [Nat.succ_mul] at hq
     by_cases hq2:q<k*nQ D i
     ·rw [catG_lt hq2]
     ·rw [catG_ge (by omega)]
      unfold FQ
      have hq3:q=k*nQ D i+(q - k*nQ D i):=by omega
      have hlt2:q - k*nQ D i<nQ D i:=by omega
      generalize q - k*nQ D i=u at hq3 hlt2
      subst hq3
      have e1:(k*nQ D i+u) / nQ D i=k:=by
       rw [Nat.mul_comm,Nat.mul_add_div (by omega),Nat.div_eq_of_lt hlt2,Nat.add_zero]
      have e2:(k*nQ D i+u) % nQ D i=u:=by
       rw [Nat.mul_comm,Nat.mul_add_mod,Nat.mod_eq_of_lt hlt2]
      rw [e1,e2]
   ·obtain rfl:k=N:=by omega
    exact cond_d (fun h=>by omega) (fun _=>⟨rfl,rfl,rfl⟩)
  ·rintro lock tt h K ⟨N,r,g,i,hf,⟨_,h2,h3,h4⟩,k1⟩
   refine ⟨⟨N,r,g,i,0⟩,?_,⟨h2,h3,h4,Nat.zero_le _⟩,?_⟩
   ·dsimp only
    rw [Nat.zero_mul]
    obtain ⟨⟨rfl,e1,e2,_⟩,e3⟩:=hf
    exact ⟨⟨rfl,e1,fit_ext e2 (fun q hq=>by omega),trivial⟩,e3⟩
   rintro e vs bs ⟨rfl,rfl,rfl⟩
   exact k1
 ·rintro lock tt h K ⟨_,_,_,_,hf,⟨hc,_⟩,_⟩
  exact (hD hc).elim
end
section
variable {D:List Int}
theorem lQ2_ok:LSound Try.prog true (.block 2 (.loop (loopB 2 (bodyOf Try.prog 57)))) (ntOf Try.prog 57) (lQ2 D):=by
 rintro lock t h K ⟨N,r,g,i,hf,hc,k1⟩
 have key:LSound Try.prog true (.block 2 (.loop (loopB 2 (bodyOf Try.prog 57)))) (ntOf Try.prog 57) (fun lock t h K=>FitP lock h t ⟨1,[]⟩ (dsQ2.zip [I 0,.nils,I i,ouD N r g,inD D])/\(dB D/\i<D.length/\N<=150000/\r<=6)/\K .normal (dsQ2.zip (VQ2 D N r g i N (N*nQ D i))) ⟨2,[1].zip (BQ (N*nQ D i) (FQ r (nQ D i) g))⟩):=
  ghost_row (d:=5) (nx:=1) (bs:=[]) (t0:=[6,4,3,0].zip [I 0,I i,ouD N r g,inD D]) (dG []) 1 23 (lQ2s_ok (D:=D)) (by
   rintro lock t h K ⟨hf,hc,k1⟩
   refine ⟨⟨hf.1,?_⟩,N,r,g,i,⟨⟨rfl,rfl,VB.fit_refl _,trivial⟩,rfl,rfl,rfl,rfl,rfl,trivial⟩,hc,k1⟩
   obtain ⟨h1,h2,h3⟩:=hf.2
   exact ⟨h2,h1,h3⟩)
 exact key lock t h K ⟨hf,hc,k1⟩
theorem nC_bd (hD:dB D):∀ i,i<=D.length->nC D i<=7 ^ i
 | 0,_=>Nat.le_refl _
 | i+1,h=>by
  show nC D i*nQ D i<=7 ^ i*7
  exact Nat.mul_le_mul (nC_bd hD i (by omega)) (nQ_bd hD (by omega)).2
theorem nC_le (hD:dB D) {i:Nat} (h:i<=D.length):nC D i<=150000:=by
 have h1:=nC_bd hD i h
 have h2:7 ^ i<=7 ^ 6:=Nat.pow_le_pow_right (by omega) (by have:=hD.1; omega)
 have h3:7 ^ 6=117649:=rfl
 omega
theorem wk_one {R:Rn} {a b:VV} (h:wkL [a] [b]) (x:Value) (hx:VRel R a x):VRel R b x:=by
 obtain ⟨y,ys,h1,_,h3⟩:=h.1 R [x] ⟨x,[],hx,rfl,rfl⟩
 simp only [List.cons.injEq] at h3
 rw [h3.1]
 exact h1
theorem wk_nil {g:Nat->List VV} {s:Nat}:wkL [.nils] [.tl 0 s g]:=by
 refine ⟨fun R xs hx=>?_,fun _=>rfl,rfl⟩
 obtain ⟨y,ys,h1,h2,rfl⟩:=hx
 simp only [VRel] at h1
 exact ⟨y,ys,⟨none,0,h1,⟨Nat.le_refl _,fun _=>rfl⟩,fun i hi=>absurd hi (by omega)⟩,h2,rfl⟩
theorem lQ0_ok:LSound Try.prog true (.block 0 (.loop (loopB 0 (bodyOf Try.prog 57)))) (ntOf Try.prog 57) (lQ0 D):=by
 by_cases hD:dB D
 ·refine loop_rowW hmix good0 (lsp:=fun _=>tabB [(2,lQ2 D)]) (un:=10) (zs:=[3]) (ds:=dsQ0) (ns:=[]) (nx:=1) (fun i:Nat=>VQ0 D (nC D i) i (gC D i) i) (fun _=>[]) (fun i=>i<=D.length) (fun i=>D.length - i) (fun _ e vs bs=>e=.exit 0/\bs=[]/\vs=VQ0 D (nC D D.length) D.length (gC D D.length) D.length) (fun _ _=>lsp_one (by kernel_rfl) lQ2_ok) ?_ ?_
  ·rintro i h0
   refine cast (q0_ev D (nC D i) i (gC D i) i _).symm ?_
   have h6:=hD.1
   by_cases hlt:i<D.length
   ·refine cond_dk (by omega) ⟨nC D i,i,gC D i,i,⟨⟨rfl,rfl,trivial⟩,rfl,rfl,rfl,rfl,rfl,trivial⟩,⟨hD,hlt,nC_le hD h0,by omega⟩,cond_r (by omega) (cond_k (by rw [Nat.beq_refl]; rfl) ⟨i+1,by dsimp only; omega,by dsimp only; omega,rfl,trivial,fun _ _ _ h=>h⟩)⟩
   ·obtain rfl:i=D.length:=by omega
    exact cond_d (fun h=>by omega) (fun _=>⟨rfl,rfl,rfl⟩)
  ·rintro lock tt h K ⟨hf,_,k1⟩
   refine ⟨_,_,hf,_,_,(told_one (d:=3) (b:=0) (L:=1) (s:=1) (g:=nilG) (ty:=23) rfl rfl).trans (told_weak (d:=3) (v:=.tl 1 1 nilG) (v':=ouD 1 0 (gC D 0)) rfl fun R x hx=>wk_one (tl_weak rfl fun i hi=>?_) x hx),0,⟨⟨rfl,rfl,trivial⟩,rfl,rfl,rfl,trivial⟩,Nat.zero_le _,?_⟩
   ·obtain rfl:i=0:=by omega
    exact wk_nil
   ·rintro e vs bs ⟨rfl,rfl,rfl⟩
    exact k1
 ·rintro lock tt h K ⟨hf,hc,_⟩
  exact (hD hc).elim
theorem choices_v (hD:dB D):∃ h',CallsV Try.prog 57 [inD D] ⟨0,[]⟩ (.ret (ouD (nC D D.length) D.length (gC D D.length))) h':=by
 have hall:LoopsOk Try.prog 57 [(0,lQ0 D)]:=fun x hx=>by
  simp only [List.mem_singleton] at hx
  subst hx
  exact ⟨by kernel_rfl,lQ0_ok⟩
 obtain ⟨r,h',rfl,hc⟩:=of_callN (callL_good hmix noSp hall (un:=10) 20) (f:=57) (args:=[inD D]) (h:=⟨0,[]⟩) (K:=fun r _=>r=.ret (ouD (nC D D.length) D.length (gC D D.length))) (by
  refine cast (q_ev D _).symm ?_
  exact ⟨fitP_self rfl,hD,rfl⟩)
 exact ⟨h',hc⟩
end
theorem flat_len {α β:Type} {m:Nat} {f:α->List β}:∀ {L:List α},(∀ a ∈ L,(f a).length=m)->(L.flatMap f).length=L.length*m
 | [],_=>by simp
 | a::L,h=>by
  rw [List.flatMap_cons,List.length_append,flat_len (fun b hb=>h b (List.mem_cons_of_mem _ hb)),h a List.mem_cons_self,List.length_cons,Nat.succ_mul,Nat.add_comm]
theorem flat_get {α β:Type} {m:Nat} {f:α->List β} {d:β} (d0:α) (hm:0<m):∀ {L:List α},(∀ a ∈ L,(f a).length=m)->∀ q,q<L.length*m->(L.flatMap f).getD q d=(f (L.getD (q / m) d0)).getD (q % m) d
 | [],_,q,hq=>by simp at hq
 | a::L,h,q,hq=>by
  rw [List.flatMap_cons]
  by_cases hlt:q<m
  ·rw [Nat.div_eq_of_lt hlt,Nat.mod_eq_of_lt hlt,List.getD_eq_getElem?_getD,List.getElem?_append_left (by rw [h a List.mem_cons_self]; exact hlt),<- List.getD_eq_getElem?_getD]
   rfl
  ·have e:q=(q - m)+m:=by omega
   rw [List.getD_eq_getElem?_getD,List.getElem?_append_right (by rw [h a List.mem_cons_self]; omega),<- List.getD_eq_getElem?_getD,h a List.mem_cons_self,flat_get d0 hm (fun b hb=>h b (List.mem_cons_of_mem _ hb)) (q - m) (by rw [List.length_cons,Nat.succ_mul] at hq; omega)]
   have e1:q / m=(q - m) / m+1:=by
    conv=>lhs; rw [e]
    exact Nat.add_div_right _ hm
   have e2:q % m=(q - m) % m:=by
    conv=>lhs; rw [e]
    exact Nat.add_mod_right _ _
   rw [e1,e2]
   rfl
section
variable {D:List Int} {most:Nat->Int}
theorem rowC_len {k:Nat} (h:most k=D.getD k 0) (c:Nat->Int):(rowC most k c).length=nQ D k:=by
 unfold rowC nQ
 rw [List.length_map,List.length_range,h]
theorem allC_len (h:∀ i,most i=D.getD i 0):∀ k,(allC most k).length=nC D k
 | 0=>rfl
 | k+1=>by
  show ((allC most k).flatMap (rowC most k)).length=nC D k*nQ D k
  rw [flat_len (fun a _=>rowC_len (h k) a),allC_len h k]
theorem chAt_succ (h:∀ i,most i=D.getD i 0) {k q:Nat} (hq:q<nC D (k+1)):chAt most (k+1) q=setC (chAt most k (q / nQ D k)) k ((q % nQ D k:Nat):Int):=by
 have hm:0<nQ D k:=Nat.succ_pos _
 show ((allC most k).flatMap (rowC most k)).getD q (fun _=>0)=_
 rw [flat_get (fun _=>0) hm (fun a _=>rowC_len (h k) a) q (by rw [allC_len h]; exact hq)]
 have hlt:q % nQ D k<nQ D k:=Nat.mod_lt _ hm
 unfold rowC chAt
 rw [List.getD_eq_getElem?_getD,List.getElem?_map,List.getElem?_range (by rw [h]; exact hlt)]
 rfl
theorem gC_eq (h:∀ i,most i=D.getD i 0):∀ i q j,q<nC D i->j<i->gC D i q j=chG (chAt most i q) j
 | 0,_,_,_,hj=>by omega
 | i+1,q,j,hq,hj=>by
  have hm:0<nQ D i:=Nat.succ_pos _
  have hq2:q / nQ D i<nC D i:=(Nat.div_lt_iff_lt_mul hm).2 hq
  rw [chAt_succ h hq]
  show xtG i (gC D i (q / nQ D i)) (q % nQ D i) j=[I (setC (chAt most i (q / nQ D i)) i ((q % nQ D i:Nat):Int) j)]
  unfold xtG
  by_cases hji:j<i
  ·rw [catG_lt hji,catG_ge (Nat.zero_le _),Nat.sub_zero,gC_eq h i _ j hq2 hji,setC_get,if_neg (by omega)]
   rfl
  ·obtain rfl:j=i:=by omega
   rw [catG_ge (Nat.le_refl _),Nat.sub_self,setC_same]
   rfl
def allD (most:Nat->Int) (k:Nat):VV:=.tl (allC most k).length 1 (fun j=>[.tl k 1 (chG (chAt most k j))])
theorem choices_d (h:∀ i,most i=D.getD i 0) (hD:dB D):∃ h',CallsV Try.prog 57 [inD D] ⟨0,[]⟩ (.ret (allD most D.length)) h':=by
 obtain ⟨h',hc⟩:=choices_v hD
 refine ⟨h',calls_res hc (fun R x hx=>wk_one (tl_weak (allC_len h _) fun q hq=>?_) x hx)⟩
 refine tl_weak rfl fun j hj=>?_
 rw [gC_eq h _ _ _ hq hj]
 exact wkL_refl _
end
section
variable {l:List Stk} {t:Tst} {y m:Int} {D:List Int}
theorem lK1_ok:LSound Try.prog true (.block 0 (.loop (loopB 0 (bodyOf Try.prog 51)))) (ntOf Try.prog 51) (lK1 l):=by
 by_cases hn:l.length<=6
 ·refine loop_row hmix good0 (un:=10) (ds:=dsK1) (ns:=[0]) (nx:=1) (fun i:Nat=>VK1 l i) (fun i=>BK1 l i) (fun i=>i<=l.length) (fun i=>l.length - i) (fun _ e vs bs=>e=.exit 0/\bs=BK1 l l.length/\vs=VK1 l l.length) noL_ok ?_ ?_
  ·rintro i h0
   refine cast (k1_ev l i _).symm ?_
   by_cases hlt:i<l.length
   ·refine cond_dk (by omega) (cond_dk ⟨by omega,by omega⟩ (cond_k (Nat.beq_refl _) (cond_k (room8 (by omega)) (cond_r (by omega) ⟨i+1,by omega,by dsimp only; omega,rfl,⟨⟨rfl,rfl,rfl,fun q hq=>?_⟩,trivial⟩,fun _ _ _ h=>h⟩))))
    by_cases hq2:q<i
    ·rw [catG_lt hq2]
    ·obtain rfl:q=i:=by omega
     rw [catG_ge (Nat.le_refl _),Nat.sub_self,show (q:Int).toNat=q by omega]
     rfl
   ·obtain rfl:i=l.length:=by omega
    exact cond_d (fun h=>by omega) (fun _=>⟨rfl,rfl,rfl⟩)
  ·rintro lock tt h K ⟨hf,_,k1⟩
   refine ⟨0,hf,Nat.zero_le _,?_⟩
   rintro e vs bs ⟨rfl,rfl,rfl⟩
   exact k1
 ·rintro lock tt h K ⟨hf,hc,_⟩
  exact (hn hc).elim
theorem casks_n (hn:l.length<=6):CallsV Try.prog 51 [stD l] ⟨0,[]⟩ (.ret (.sl 0 l.length)) ⟨1,[(0,.vec l.length (chG (mostF l)) 1 3)]⟩:=by
 have hall:LoopsOk Try.prog 51 [(0,lK1 l)]:=fun x hx=>by
  simp only [List.mem_singleton] at hx
  subst hx
  exact ⟨by kernel_rfl,lK1_ok⟩
 obtain ⟨r,h',⟨rfl,rfl⟩,hc⟩:=of_callN (callL_good hmix noSp hall (un:=10) 20) (f:=51) (args:=[stD l]) (h:=⟨0,[]⟩) (K:=fun r h'=>r=.ret (.sl 0 l.length)/\h'=⟨1,[(0,.vec l.length (chG (mostF l)) 1 3)]⟩) (by
  refine cast (kf_ev l _).symm ⟨?_,hn,rfl,rfl⟩
  exact ⟨⟨rfl,rfl,⟨rfl,rfl,rfl,fun i hi=>by omega⟩,trivial⟩,rfl,rfl,rfl,trivial⟩)
 exact hc
theorem rblR_ok (l:List Stk) (t:Tst) (D:List Int):SpOk Try.prog (rblR l t D).1 (rblR l t D).2:=by
 intro lock args h K hK
 simp only [rblR] at hK
 split at hK
 ·obtain ⟨h1,h2,h3,h4,hK⟩:=hK
  exact rblT_ok lock _ h K ⟨l,t,D,h1,h2,h3,h4,hK⟩
 ·exact hK.elim
theorem rmeets_v (hh:conB l t (chD D)) (hD:D.length=l.length) (hy:0<=y/\y<=1000):∃ h',CallsV Try.prog 58 [stD l,.agg (tsL t),I y,I m,inD D] ⟨0,[]⟩ (.ret (.bool (meetsF l t (chD D) y m))) h':=by
 obtain ⟨r,h',rfl,hc⟩:=of_callN (noL_good (tab1 (rblR_ok l t D))) (f:=58) (args:=[stD l,.agg (tsL t),I y,I m,inD D]) (h:=⟨0,[]⟩) (K:=fun r _=>r=.ret (.bool (meetsF l t (chD D) y m))) (by
  refine cast (rm_ev l t y m D _).symm ⟨isD_l,isD_t,isD_d,⟨hh,hD,hy⟩,?_⟩
  rintro V rfl
  unfold meetsF
  have hv:(vtF l t (chD D) y).v=volF l (chD D):=rfl
  rw [hv]
  refine cond_d (fun h=>by rw [if_pos h]) (fun h=>?_)
  rw [if_neg h]
  refine cond_i (fun h2=>?_) (fun h2=>?_)
  ·rw [h2,Bool.and_true]
   by_cases h3:volF l (chD D)<m
   ·rw [decide_eq_true h3,decide_eq_false (by omega)]; rfl
   ·rw [decide_eq_false h3,decide_eq_true (by omega)]; rfl
  ·rw [h2,Bool.and_false])
 exact ⟨h',hc⟩
end
def rmeT:FuncId × Spec1:=(58,fun _ args h K=>match args with
 | [x,z,.int .i64 y,.int .i64 m,w]=>∃ (l:List Stk) (t:Tst) (D:List Int),isD h 4 x (stD l)/\isD h 4 z (.agg (tsL t))/\isD h 4 w (inD D)/\(conB l t (chD D)/\D.length=l.length/\0<=y/\y<=1000)/\K (.ret (.bool (meetsF l t (chD D) y m))) h
 | _=>False)
theorem rmeT_ok:SpOk Try.prog rmeT.1 rmeT.2:=by
 intro lock args h K hK
 simp only [rmeT] at hK
 split at hK
 ·obtain ⟨l,t,D,hx,hz,hw,⟨h1,h2,h3⟩,hK⟩:=hK
  obtain ⟨h',hv⟩:=rmeets_v h1 h2 h3
  exact ⟨_,h,hK,lockP_refl _ _,calls_lendDP 4 hv rfl ⟨hx,hz,⟨rfl,rfl⟩,⟨rfl,rfl⟩,hw,trivial⟩⟩
 ·exact hK.elim
section
variable {l:List Stk} {t:Tst} {y m:Int}
def dC (l:List Stk) (c:Nat->Int):List Int:=(List.range l.length).map c
theorem dC_get {c:Nat->Int} {i:Nat} (hi:i<l.length):(dC l c).getD i 0=c i:=by
 unfold dC
 rw [List.getD_eq_getElem?_getD,List.getElem?_map,List.getElem?_range hi]
 rfl
theorem isD_dC {h:VH} {k:Nat} {c:Nat->Int}:isD h (k+1) (.tl l.length 1 (chG c)) (inD (dC l c)):=by
 refine ⟨?_,rfl,fun i hi=>?_⟩
 ·unfold dC; rw [List.length_map,List.length_range]
 ·unfold dG chG
  rw [dC_get hi]
theorem dC_len {c:Nat->Int}:(dC l c).length=l.length:=by unfold dC; rw [List.length_map,List.length_range]
end
section
variable (l:List Stk) (t:Tst) (y m:Int)
end
end Go.Sx.Bln
