/- stream: Ce4 Cf4 Cg4 Rb4 Rc4 Rd0 Rt1 Rd1 Da1 Da2 Da3 Da4 Da5 Db1 Db2 Db3 Cj1 Cj2, in one text. -/
import Derived.Test.YtlboglkgbhjpeaaWW2
import Derived.Test.YtlboglkgbhjpeaaWW3
import Derived.Test.YtlboglkgbhjpeaaSxBu
import Derived.Test.YtlboglkgbhjpeaaWW1
namespace Go.Sx.Bln
open Go Go.Sx Go.Proofs
set_option maxRecDepth 1000000
def BP4 (l:List Stk) (t:Tst) (P:List (List Int)) (Y:Nat) (M:Mde) (es:Lst):List VB:=[.cells (tsL t) 25,.cells [pthD P] 26,.cells (stD l::tsL t) 74,.cells [.ptr (.own 2 0)] 72,.cells [I Y] 3,.cells [sFa 7 Y,sFa 8 Y,sFa 9 Y,sFa 10 Y] 76,.cells [.slice (.own 5 0) 4 4] 75,.fam [] (Y*6) (M 0) 80,.fam [] (Y*6) (M 1) 80,.fam [] (Y*6) (M 2) 80,.fam [] (Y*6) (M 3) 80,
 .map kS .bool es,.cells [.mp 11] 77,.cells [.func 44 [] [.ptr (.own 4 0),.ptr (.own 12 0),.ptr (.own 1 0),.ptr (.own 14 0)]] 78,.cells [.func 40 [] [.ptr (.own 3 0),.ptr (.own 13 0),.ptr (.own 1 0),.ptr (.own 6 0)]] 88]
def nsB4:List Nat:=[0,1,2,3,4,5,6,7,8,9,10,11,12,13,14]
def findR4 (l:List Stk) (t:Tst) (P:List (List Int)) (Y k:Nat):FuncId × Spec1:=(44,fun lock args h K=>match args,h with
 | [.agg (.int .i64 y::.int .i64 S::ns),x1,x2,x3,x4],⟨nx,bs⟩=>∃ (S':Nat) (a:Nat->Int) (M:Mde) (es:Lst),(x1=.ptr (.own 4 0)/\x2=.ptr (.own 12 0)/\x3=.ptr (.own 1 0)/\x4=.ptr (.own 14 0))/\(lock=0/\15<=nx)/\atL nsB4 (BP4 l t P Y M es) ⟨nx,bs⟩/\(y=(Y:Int) - k/\S=S'/\ns=nL a)/\PreF l t P Y k S' a es /\
   ∀ (b:Bool) (s:St),PostF l t P Y k S' a M b s->K (.ret (.bool b)) ⟨nx,(7,.fam [] (Y*6) (s.M 0) 80)::(8,.fam [] (Y*6) (s.M 1) 80)::(9,.fam [] (Y*6) (s.M 2) 80)::(10,.fam [] (Y*6) (s.M 3) 80)::(11,.map kS .bool s.es)::bs⟩
 | _,_=>False)
def folR4 (l:List Stk) (t:Tst) (P:List (List Int)) (Y k:Nat):FuncId × Spec1:=(40,fun lock args h K=>match args,h with
 | [.agg (.int .i64 y::.int .i64 S::ns),.int .i64 o,.int .i64 d,x1,x2,x3,x4],⟨nx,bs⟩=>∃ (S' O:Nat) (a:Nat->Int) (M:Mde) (es:Lst),(x1=.ptr (.own 3 0)/\x2=.ptr (.own 13 0)/\x3=.ptr (.own 1 0)/\x4=.ptr (.own 6 0))/\(lock=0/\15<=nx)/\atL nsB4 (BP4 l t P Y M es) ⟨nx,bs⟩/\(y=(Y:Int) - (k+1:Nat)/\S=S'/\o=O/\ns=nL a)/\PreW l t P Y k O a es /\
   ∀ (b:Bool) (s:St),PostW l t P Y k O d a M b s->K (.ret (.bool b)) ⟨nx,(7,.fam [] (Y*6) (s.M 0) 80)::(8,.fam [] (Y*6) (s.M 1) 80)::(9,.fam [] (Y*6) (s.M 2) 80)::(10,.fam [] (Y*6) (s.M 3) 80)::(11,.map kS .bool s.es)::bs⟩
 | _,_=>False)
def slFo4 (y S own need:Int) (a:Nat->Int):Slots:=[(16,VV.func 74 [] [.ptr (.own 19 0),.ptr (.own 20 0)]),(15,VV.agg (nL a)),(14,VV.ptr (VA.own 15 2)),(13,.ptr (.own 2 0)),(10,.ptr (.own 18 0)),(9,.ptr (.own 17 0)),(8,.ptr (.own 16 0)),(7,.ptr (.own 15 0)),(0,VV.agg (I y::I S::nL a)),(1,I own),(2,I need),(3,.ptr (.own 3 0)),(4,.ptr (.own 13 0)),(5,.ptr (.own 1 0)),(6,.ptr (.own 6 0))]
def VFo4:List VV:=[.ptr (.own 22 0),.yld 21,.ptr (.own 19 0),.ptr (.own 20 0)]
def VFi4 (i:Int):List VV:=I i::VFo4
def nsFo4:List Nat:=[0,1,2,3,4,5,6,7,8,9,10,11,12,13,14,15,16,17,18,19,20,21,22]
noncomputable def BFo4 (l:List Stk) (t:Tst) (P:List (List Int)) (Y:Nat) (y S own need:Int) (a:Nat->Int) (M:Mde) (es:Lst) (n:Nat->Int):List VB:=BP4 l t P Y M es ++ [faS y S a,.cells [I own] 3,.cells [I need] 3,.cells [.bool false] 4,.cells [.ptr (.own 2 0)] 72,faN a,.loop true none (slFo4 y S own need a) 58 [17] asFo bdFo,.fam [] 6 n 80]
theorem ino4_ev (l:List Stk) (t:Tst) (P:List (List Int)) (Y:Nat) (y S own need i:Int) (a:Nat->Int) (M:Mde) (es:Lst) (n:Nat->Int) (X:VEx->List VV->List VB->Prop):codeE Try.prog (callN Try.prog noSpec noL 10 20) (fun _=>none) true 10 (ntOf Try.prog 74) 0 (loopB 2 (bodyOf Try.prog 74)) (dsI.zip (VFi4 i)) ⟨24,nsFo4.zip (BFo4 l t P Y y S own need a M es n)⟩ (obs 24 dsI nsFo4 X) =
 (bif decide (i ≥ (0:Int)) then
 bif decide ((0:Int)<=i/\i<(6:Int)) then
 bif decide (i.toNat*(1)<6) then
 bif decide ((0:Int)<=i/\i<(6:Int)) then
 bif decide (i.toNat*(1)<6) then
 bif decide (n (i.toNat*(1))=(fun (k:Nat)=>(ch a).getD k (0:Int)) (i.toNat*(1))) then
 bif decide ((0:Int)<=i/\i<(6:Int)) then
 bif decide (i.toNat*(1)+(1)<=6) then
 bif inK .i64 (i - (1:Int)) then
 X .normal [I (i - (1:Int)),.ptr (.own 22 0),.yld 21,.ptr (.own 19 0),.ptr (.own 20 0)] (BFo4 l t P Y y S own need a M es (setF n (i.toNat*(1)) [(0:Int)]))
 else False
 else False
 else False
 else X (.exit 2) [I i,.ptr (.own 22 0),.yld 21,.ptr (.own 19 0),.ptr (.own 20 0)] (BFo4 l t P Y y S own need a M es n)
 else False
 else False
 else False
 else False
 else X (.exit 2) [I i,.ptr (.own 22 0),.yld 21,.ptr (.own 19 0),.ptr (.own 20 0)] (BFo4 l t P Y y S own need a M es n)):=by kernel_rfl
noncomputable abbrev BQf4 (l:List Stk) (t:Tst) (P:List (List Int)) (Y:Nat) (y S own need:Int) (a:Nat->Int) (A0 A1 A2 A3:Nat->Int) (es:Lst) (b:Bool) (n:Nat->Int):List VB:=[.cells (tsL t) 25,.cells [pthD P] 26,.cells (stD l::tsL t) 74,.cells [.ptr (.own 2 0)] 72,.cells [I Y] 3,.cells [sFa 7 Y,sFa 8 Y,sFa 9 Y,sFa 10 Y] 76,.cells [.slice (.own 5 0) 4 4] 75,.fam [] (Y*6) A0 80,.fam [] (Y*6) A1 80,.fam [] (Y*6) A2 80,.fam [] (Y*6) A3 80,
 .map kS .bool es,.cells [.mp 11] 77,.cells [.func 44 [] [.ptr (.own 4 0),.ptr (.own 12 0),.ptr (.own 1 0),.ptr (.own 14 0)]] 78,.cells [.func 40 [] [.ptr (.own 3 0),.ptr (.own 13 0),.ptr (.own 1 0),.ptr (.own 6 0)]] 88] ++ [faS y S a,.cells [I own] 3,.cells [I need] 3,.cells [.bool b] 4,.cells [.ptr (.own 2 0)] 72,faN a,.loop (!b) (bif b then some .ret else none) (slFo4 y S own need a) 58 [17] asFo bdFo,.fam [] 6 n 80]
noncomputable def lIo4 (l:List Stk) (t:Tst) (P:List (List Int)) (Y:Nat) (y S own need:Int) (a:Nat->Int):LT:=fun lock tt h K=>
 ∃ M es n,FitP lock h tt ⟨24,nsFo4.zip (BFo4 l t P Y y S own need a M es n)⟩ (dsI.zip (VFi4 (l.length - 1)))/\l.length<=6/\∀ (k:Nat) (n':Nat->Int),scanC a l.length n=(k,n')->K .normal (dsI.zip (VFi4 (k - 1))) ⟨24,nsFo4.zip (BFo4 l t P Y y S own need a M es n')⟩
theorem fr4_ev (l:List Stk) (t:Tst) (D0 D1 D2 D3:List Int) (Y k:Nat) (M:Mde) (es:Lst) (y S need:Int) (O:Nat) (a n:Nat->Int) (X:VEx->List VV->List VB->Prop):codeE Try.prog (callN Try.prog (tabS [meetsR l t,lessT,findR4 l t [D0,D1,D2,D3] Y k]) noL 10 20) (tabB [(2,lIo4 l t [D0,D1,D2,D3] Y y S O need a)]) true 10 (ntOf Try.prog 74) 0 (loopB 0 (bodyOf Try.prog 74)) (dsC.zip VFo4) ⟨23,nsFo4.zip (BFo4 l t [D0,D1,D2,D3] Y y S O need a M es n)⟩ (obs 23 dsC nsFo4 X) =
 (let z1:=(IntKind.i64.wrap (↑(BitVec.ofInt IntKind.i64.bits ((O:Int).fdiv ((2:Int) ^ min ((0:Int)+(1:Int)+(1:Int)+(1:Int)).toNat IntKind.i64.bits)) &&& BitVec.ofInt IntKind.i64.bits (1:Int)).toNat:Int)=(1:Int));
 let z2:=[.ptr (.own 22 0),.yld 21,.ptr (.own 19 0),.ptr (.own 20 0)];
 let z3:=[n (0+0),n (0+1),n (0+2),n (0+3),n (0+4),n (0+5)];
 let z4:=(IntKind.i64.wrap (↑(BitVec.ofInt IntKind.i64.bits ((O:Int).fdiv ((2:Int) ^ min ((0:Int)+(1:Int)+(1:Int)).toNat IntKind.i64.bits)) &&& BitVec.ofInt IntKind.i64.bits (1:Int)).toNat:Int)=(1:Int));
 let z5:=((5,I ((l.length:Int) - (1:Int)))::(15,I ((l.length:Int) - (1:Int)))::(14,I (l.length:Int))::(13,.tl l.length 5 (stG l))::(12,.ptr (.own 2 0))::(11,.ptr (.own 2 0))::(10,.ptr (.own 2 0))::(9,.bool false)::(9,.bool !true)::(8,.bool true)::(7,.agg [I (n (0+0)),I (n (0+1)),I (n (0+2)),I (n (0+3)),I (n (0+4)),I (n (0+5))])::(6,.yld 21)::dsC.zip VFo4);
 let z6:=[I (setF (fun (_:Nat)=>(0:Int)) 0 z3 (0+0)),I (setF (fun (_:Nat)=>(0:Int)) 0 z3 (0+1)),I (setF (fun (_:Nat)=>(0:Int)) 0 z3 (0+2)),I (setF (fun (_:Nat)=>(0:Int)) 0 z3 (0+3)),I (setF (fun (_:Nat)=>(0:Int)) 0 z3 (0+4)),I (setF (fun (_:Nat)=>(0:Int)) 0 z3 (0+5))];
 let z7:=(VH.mk (24) ((21,.gone)::(23,.fam [] (6) (setF (fun (_:Nat)=>(0:Int)) 0 z3) 80)::(23,.fam [] (6) (fun (_:Nat)=>(0:Int)) 80)::nsFo4.zip (BFo4 l t [D0,D1,D2,D3] Y y S (O:Int) need a M es n)));
 let z8:=(IntKind.i64.wrap (↑(BitVec.ofInt IntKind.i64.bits ((O:Int).fdiv ((2:Int) ^ min ((0:Int)+(1:Int)).toNat IntKind.i64.bits)) &&& BitVec.ofInt IntKind.i64.bits (1:Int)).toNat:Int)=(1:Int));
 let z9:=(fun (k:Nat)=>(ch a).getD k (0:Int));
 (∃ (n_1:Nat->Int),isD z7 4 (VV.ptr (.own 2 0)) (VV.tp (stD l::tsL t))/\z6=nL n_1/\(conB l t n_1/\(0:Int)<=y/\y<=(1000:Int))/\bif !meetsF l t n_1 y need then
 bif inK .i64 ((l.length:Int) - (1:Int)) then
 ∃ (M_1:Mde),∃ (es_1:Lst),∃ (n_2:Nat->Int),FitP 0 (VH.mk (24) ((21,.loop true none (slFo4 y S (O:Int) need a) 58 [17] asFo bdFo)::(21,.gone)::(23,.fam [] (6) (setF (fun (_:Nat)=>(0:Int)) 0 z3) 80)::(23,.fam [] (6) (fun (_:Nat)=>(0:Int)) 80)::nsFo4.zip (BFo4 l t [D0,D1,D2,D3] Y y S (O:Int) need a M es n))) z5 (VH.mk 24 (nsFo4.zip (BFo4 l t [D0,D1,D2,D3] Y y S (O:Int) need a M_1 es_1 n_2))) (dsI.zip (VFi4 ((l.length:Int) - (1:Int))))/\l.length<=6/\∀ (k:Nat) (n':Nat->Int),scanC a l.length n_2=(k,n')->bif decide ((k:Int) - (1:Int)<(0:Int)) then
 X .ret z2 (BFo4 l t [D0,D1,D2,D3] Y y S O need a M_1 es_1 n')
 else bif decide ((0:Int)<=(k:Int) - (1:Int)/\(k:Int) - (1:Int)<(6:Int)) then
 bif decide (((k:Int) - (1:Int)).toNat*(1)<6) then
 bif inK .i64 (n' (((k:Int) - (1:Int)).toNat*(1))+(1:Int)) then
 bif decide ((0:Int)<=(k:Int) - (1:Int)/\(k:Int) - (1:Int)<(6:Int)) then
 bif decide (((k:Int) - (1:Int)).toNat*(1)+(1)<=6) then
 X .normal z2 (BFo4 l t [D0,D1,D2,D3] Y y S O need a M_1 es_1 (setF n' (((k:Int) - (1:Int)).toNat*(1)) [n' (((k:Int) - (1:Int)).toNat*(1))+(1:Int)]))
 else False
 else False
 else False
 else False
 else False
 else False
 else bif inK .i64 (y+(1:Int)) then
 ∃ (a_1:Nat->Int),∃ (b:Nat->Int),[I (z9 (0+0)),I (z9 (0+1)),I (z9 (0+2)),I (z9 (0+3)),I (z9 (0+4)),I (z9 (0+5))]=nL a_1/\z6=nL b/\bdL a_1 b/\∃ (S':Nat),∃ (a_2:Nat->Int),∃ (M_1:Mde),∃ (es_1:Lst),(VV.ptr (.own 4 0)=VV.ptr (.own 4 0)/\VV.ptr (.own 12 0)=VV.ptr (.own 12 0)/\VV.ptr (.own 1 0)=VV.ptr (.own 1 0)/\VV.ptr (.own 14 0)=VV.ptr (.own 14 0))/\(0=0/\15<=24)/\atL nsB4 (BP4 l t [D0,D1,D2,D3] Y M_1 es_1) z7/\(y+(1:Int)=(Y:Int) - (k:Int)/\(O:Int)=(S':Int)/\[I (lsF a_1 b 6 0),I (lsF a_1 b 6 1),I (lsF a_1 b 6 2),I (lsF a_1 b 6 3),I (lsF a_1 b 6 4),I (lsF a_1 b 6 5)]=nL a_2)/\PreF l t [D0,D1,D2,D3] Y k S' a_2 es_1/\∀ (b:Bool) (s:St),PostF l t [D0,D1,D2,D3] Y k S' a_2 M_1 b s->bif !b then
 bif inK .i64 ((l.length:Int) - (1:Int)) then
 ∃ (M_2:Mde),∃ (es_2:Lst),∃ (n_2:Nat->Int),FitP 0 (VH.mk (24) ((21,.loop true none (slFo4 y S (O:Int) need a) 58 [17] asFo bdFo)::(7,.fam [] (Y*6) (s.M 0) 80)::(8,.fam [] (Y*6) (s.M 1) 80)::(9,.fam [] (Y*6) (s.M 2) 80)::(10,.fam [] (Y*6) (s.M 3) 80)::(11,.map kS PK.bool s.es)::(21,.gone)::(23,.fam [] (6) (setF (fun (_:Nat)=>(0:Int)) 0 z3) 80)::(23,.fam [] (6) (fun (_:Nat)=>(0:Int)) 80)::nsFo4.zip (BFo4 l t [D0,D1,D2,D3] Y y S (O:Int) need a M es n))) z5 (VH.mk 24 (nsFo4.zip (BFo4 l t [D0,D1,D2,D3] Y y S (O:Int) need a M_2 es_2 n_2))) (dsI.zip (VFi4 ((l.length:Int) - (1:Int))))/\l.length<=6/\∀ (k:Nat) (n':Nat->Int),scanC a l.length n_2=(k,n')->bif decide ((k:Int) - (1:Int)<(0:Int)) then
 X .ret z2 (BFo4 l t [D0,D1,D2,D3] Y y S O need a M_2 es_2 n')
 else bif decide ((0:Int)<=(k:Int) - (1:Int)/\(k:Int) - (1:Int)<(6:Int)) then
 bif decide (((k:Int) - (1:Int)).toNat*(1)<6) then
 bif inK .i64 (n' (((k:Int) - (1:Int)).toNat*(1))+(1:Int)) then
 bif decide ((0:Int)<=(k:Int) - (1:Int)/\(k:Int) - (1:Int)<(6:Int)) then
 bif decide (((k:Int) - (1:Int)).toNat*(1)+(1)<=6) then
 X .normal z2 (BFo4 l t [D0,D1,D2,D3] Y y S O need a M_2 es_2 (setF n' (((k:Int) - (1:Int)).toNat*(1)) [n' (((k:Int) - (1:Int)).toNat*(1))+(1:Int)]))
 else False
 else False
 else False
 else False
 else False
 else False
 else bif decide (IntKind.i64.wrap (↑(BitVec.ofInt IntKind.i64.bits ((O:Int).fdiv ((2:Int) ^ min (Int.toNat (0:Int)) IntKind.i64.bits)) &&& BitVec.ofInt IntKind.i64.bits (1:Int)).toNat:Int)=(1:Int)) then
 bif decide ((0:Int)<=y/\y<(Y:Int)) then
 bif decide (0+y.toNat*(6)+(6)<=Y*6) then
 bif decide z8 then
 bif decide ((0:Int)<=y/\y<(Y:Int)) then
 bif decide (0+y.toNat*(6)+(6)<=Y*6) then
 bif decide z4 then
 bif decide ((0:Int)<=y/\y<(Y:Int)) then
 bif decide (0+y.toNat*(6)+(6)<=Y*6) then
 bif decide z1 then
 bif decide ((0:Int)<=y/\y<(Y:Int)) then
 bif decide (0+y.toNat*(6)+(6)<=Y*6) then
 X .ret z2 (BQf4 l t [D0,D1,D2,D3] Y y S O need a (s6 s 0 y n) (s6 s 1 y n) (s6 s 2 y n) (s6 s 3 y n) s.es true n)
 else False
 else False
 else X .ret z2 (BQf4 l t [D0,D1,D2,D3] Y y S O need a (s6 s 0 y n) (s6 s 1 y n) (s6 s 2 y n) (s.M 3) s.es true n)
 else False
 else False
 else bif decide z1 then
 bif decide ((0:Int)<=y/\y<(Y:Int)) then
 bif decide (0+y.toNat*(6)+(6)<=Y*6) then
 X .ret z2 (BQf4 l t [D0,D1,D2,D3] Y y S O need a (s6 s 0 y n) (s6 s 1 y n) (s.M 2) (s6 s 3 y n) s.es true n)
 else False
 else False
 else X .ret z2 (BQf4 l t [D0,D1,D2,D3] Y y S O need a (s6 s 0 y n) (s6 s 1 y n) (s.M 2) (s.M 3) s.es true n)
 else False
 else False
 else bif decide z4 then
 bif decide ((0:Int)<=y/\y<(Y:Int)) then
 bif decide (0+y.toNat*(6)+(6)<=Y*6) then
 bif decide z1 then
 bif decide ((0:Int)<=y/\y<(Y:Int)) then
 bif decide (0+y.toNat*(6)+(6)<=Y*6) then
 X .ret z2 (BQf4 l t [D0,D1,D2,D3] Y y S O need a (s6 s 0 y n) (s.M 1) (s6 s 2 y n) (s6 s 3 y n) s.es true n)
 else False
 else False
 else X .ret z2 (BQf4 l t [D0,D1,D2,D3] Y y S O need a (s6 s 0 y n) (s.M 1) (s6 s 2 y n) (s.M 3) s.es true n)
 else False
 else False
 else bif decide z1 then
 bif decide ((0:Int)<=y/\y<(Y:Int)) then
 bif decide (0+y.toNat*(6)+(6)<=Y*6) then
 X .ret z2 (BQf4 l t [D0,D1,D2,D3] Y y S O need a (s6 s 0 y n) (s.M 1) (s.M 2) (s6 s 3 y n) s.es true n)
 else False
 else False
 else X .ret z2 (BQf4 l t [D0,D1,D2,D3] Y y S O need a (s6 s 0 y n) (s.M 1) (s.M 2) (s.M 3) s.es true n)
 else False
 else False
 else bif decide z8 then
 bif decide ((0:Int)<=y/\y<(Y:Int)) then
 bif decide (0+y.toNat*(6)+(6)<=Y*6) then
 bif decide z4 then
 bif decide ((0:Int)<=y/\y<(Y:Int)) then
 bif decide (0+y.toNat*(6)+(6)<=Y*6) then
 bif decide z1 then
 bif decide ((0:Int)<=y/\y<(Y:Int)) then
 bif decide (0+y.toNat*(6)+(6)<=Y*6) then
 X .ret z2 (BQf4 l t [D0,D1,D2,D3] Y y S O need a (s.M 0) (s6 s 1 y n) (s6 s 2 y n) (s6 s 3 y n) s.es true n)
 else False
 else False
 else X .ret z2 (BQf4 l t [D0,D1,D2,D3] Y y S O need a (s.M 0) (s6 s 1 y n) (s6 s 2 y n) (s.M 3) s.es true n)
 else False
 else False
 else bif decide z1 then
 bif decide ((0:Int)<=y/\y<(Y:Int)) then
 bif decide (0+y.toNat*(6)+(6)<=Y*6) then
 X .ret z2 (BQf4 l t [D0,D1,D2,D3] Y y S O need a (s.M 0) (s6 s 1 y n) (s.M 2) (s6 s 3 y n) s.es true n)
 else False
 else False
 else X .ret z2 (BQf4 l t [D0,D1,D2,D3] Y y S O need a (s.M 0) (s6 s 1 y n) (s.M 2) (s.M 3) s.es true n)
 else False
 else False
 else bif decide z4 then
 bif decide ((0:Int)<=y/\y<(Y:Int)) then
 bif decide (0+y.toNat*(6)+(6)<=Y*6) then
 bif decide z1 then
 bif decide ((0:Int)<=y/\y<(Y:Int)) then
 bif decide (0+y.toNat*(6)+(6)<=Y*6) then
 X .ret z2 (BQf4 l t [D0,D1,D2,D3] Y y S O need a (s.M 0) (s.M 1) (s6 s 2 y n) (s6 s 3 y n) s.es true n)
 else False
 else False
 else X .ret z2 (BQf4 l t [D0,D1,D2,D3] Y y S O need a (s.M 0) (s.M 1) (s6 s 2 y n) (s.M 3) s.es true n)
 else False
 else False
 else bif decide z1 then
 bif decide ((0:Int)<=y/\y<(Y:Int)) then
 bif decide (0+y.toNat*(6)+(6)<=Y*6) then
 X .ret z2 (BQf4 l t [D0,D1,D2,D3] Y y S O need a (s.M 0) (s.M 1) (s.M 2) (s6 s 3 y n) s.es true n)
 else False
 else False
 else X .ret z2 (BQf4 l t [D0,D1,D2,D3] Y y S O need a (s.M 0) (s.M 1) (s.M 2) (s.M 3) s.es true n)
 else False)):=by kernel_rfl
noncomputable def BFoT4 (l:List Stk) (t:Tst) (P:List (List Int)) (Y:Nat) (y S own need:Int) (a:Nat->Int) (M:Mde) (es:Lst) (n:Nat->Int):List VB:=BP4 l t P Y M es ++ [faS y S a,.cells [I own] 3,.cells [I need] 3,.cells [.bool true] 4,.cells [.ptr (.own 2 0)] 72,faN a,.loop false (some .ret) (slFo4 y S own need a) 58 [17] asFo bdFo,.fam [] 6 n 80]
noncomputable def lFo4 (l:List Stk) (t:Tst) (P:List (List Int)) (Y k:Nat) (y S d:Int) (O:Nat) (a:Nat->Int):LT:=fun lock tt h K=>
 ∃ M es,FitP lock h tt ⟨23,nsFo4.zip (BFo4 l t P Y y S O d a M es fun _=>0)⟩ (dsC.zip VFo4)/\(y=(Y:Int) - (k+1:Nat)/\Cfg l t P Y/\PreW l t P Y k O a es)/\(∀ s n',PostW l t P Y k O d a M false s->K .ret (dsC.zip VFo4) ⟨23,nsFo4.zip (BFo4 l t P Y y S O d a s.M s.es n')⟩) /\
  ∀ s n',PostW l t P Y k O d a M true s->K .ret (dsC.zip VFo4) ⟨23,nsFo4.zip (BFoT4 l t P Y y S O d a s.M s.es n')⟩
theorem fob4_ev (l:List Stk) (t:Tst) (D0 D1 D2 D3:List Int) (Y k:Nat) (M:Mde) (es:Lst) (y S d:Int) (O:Nat) (a:Nat->Int) (Q:VRes->VH->Prop):callN Try.prog noSpec (atF 74 [(0,lFo4 l t [D0,D1,D2,D3] Y k y S d O a)]) 10 20 0 (.fn 40) [.agg (I y::I S::nL a),I O,I d,.ptr (.own 3 0),.ptr (.own 13 0),.ptr (.own 1 0),.ptr (.own 6 0)] ⟨15,nsB4.zip (BP4 l t [D0,D1,D2,D3] Y M es)⟩ (fun r h=>Q r h) =
 (∃ (M_1:Mde),∃ (es_1:Lst),FitP 0 (VH.mk (23) ((22,.fam [] (6) (fun (_:Nat)=>(0:Int)) 80)::(21,.loop true none [(16,.func 74 [] [.ptr (.own (19) 0),.ptr (.own (20) 0)]),(15,.agg [I ((f6 a) (0+0)),I ((f6 a) (0+1)),I ((f6 a) (0+2)),I ((f6 a) (0+3)),I ((f6 a) (0+4)),I ((f6 a) (0+5))]),(14,.ptr (.own (15) (2))),(13,.ptr (.own 2 0)),(10,.ptr (.own (18) 0)),(9,.ptr (.own (17) 0)),(8,.ptr (.own (16) 0)),(7,.ptr (.own (15) 0)),(0,.agg (I y::I S::nL a)),(1,I (O:Int)),(2,I d),(3,.ptr (.own 3 0)),(4,.ptr (.own 13 0)),(5,.ptr (.own 1 0)),(6,.ptr (.own 6 0))] 58 [17] asFo bdFo)::(20,.fam [] (6) (fun (k:Nat)=>[(f6 a) (0+0),(f6 a) (0+1),(f6 a) (0+2),(f6 a) (0+3),(f6 a) (0+4),(f6 a) (0+5)].getD k (0:Int)) 80)::(19,.cells [.ptr (.own 2 0)] 72)::(18,.cells [.bool false] 4)::(17,.cells [I d] 3)::(16,.cells [I (O:Int)] 3)::(15,.fam [I y,I S] (6) (f6 a) 82)::nsB4.zip (BP4 l t [D0,D1,D2,D3] Y M es))) [(4,.ptr (.own (22) 0)),(0,.yld (21)),(1,.ptr (.own (19) 0)),(2,.ptr (.own (20) 0))] (VH.mk 23 (nsFo4.zip (BFo4 l t [D0,D1,D2,D3] Y y S (O:Int) d a M_1 es_1 fun (_:Nat)=>(0:Int)))) (dsC.zip VFo4)/\(y=(Y:Int) - (↑(k+1):Int)/\Cfg l t [D0,D1,D2,D3] Y/\PreW l t [D0,D1,D2,D3] Y k O a es_1)/\(∀ (s:St) (n':Nat->Int),PostW l t [D0,D1,D2,D3] Y k O d a M_1 false s->Q (.ret (.bool false)) (VH.mk 23 [(18,.cells [.bool false] 4),(21,.gone),(0,.cells [.tl t.T.length 1 (dG t.T),I t.far,I t.least] 25),(1,.cells [.tl [D0,D1,D2,D3].length 1 (pthG [D0,D1,D2,D3])] 26),(2,.cells (stD l::tsL t) 74),(3,.cells [.ptr (.own 2 0)] 72),(4,.cells [I (Y:Int)] 3),(5,.cells [sFa 7 Y,sFa 8 Y,sFa 9 Y,sFa 10 Y] 76),(6,.cells [.slice (.own 5 0) 4 4] 75),(7,.fam [] (Y*6) (s.M 0) 80),(8,.fam [] (Y*6) (s.M 1) 80),(9,.fam [] (Y*6) (s.M 2) 80),(10,.fam [] (Y*6) (s.M 3) 80),(11,.map kS PK.bool s.es),(12,.cells [.mp 11] 77),(13,.cells [.func 44 [] [.ptr (.own 4 0),.ptr (.own 12 0),.ptr (.own 1 0),.ptr (.own 14 0)]] 78),(14,.cells [.func 40 [] [.ptr (.own 3 0),.ptr (.own 13 0),.ptr (.own 1 0),.ptr (.own 6 0)]] 88),(15,.fam [I y,I S] 6 (fun (k:Nat)=>(ch a).getD k (0:Int)) 82),(16,.cells [I (O:Int)] 3),(17,.cells [I d] 3),(18,.cells [.bool false] 4),(19,.cells [.ptr (.own 2 0)] 72),(20,.fam [] 6 (fun (k:Nat)=>(ch a).getD k (0:Int)) 80),(21,.loop true none (slFo4 y S (O:Int) d a) 58 [17] asFo bdFo),(22,.fam [] 6 n' 80)]))/\∀ (s:St) (n':Nat->Int),PostW l t [D0,D1,D2,D3] Y k O d a M_1 true s->Q (.ret (.bool true)) (VH.mk 23 [(21,.gone),(0,.cells [.tl t.T.length 1 (dG t.T),I t.far,I t.least] 25),(1,.cells [.tl [D0,D1,D2,D3].length 1 (pthG [D0,D1,D2,D3])] 26),(2,.cells (stD l::tsL t) 74),(3,.cells [.ptr (.own 2 0)] 72),(4,.cells [I (Y:Int)] 3),(5,.cells [sFa 7 Y,sFa 8 Y,sFa 9 Y,sFa 10 Y] 76),(6,.cells [.slice (.own 5 0) 4 4] 75),(7,.fam [] (Y*6) (s.M 0) 80),(8,.fam [] (Y*6) (s.M 1) 80),(9,.fam [] (Y*6) (s.M 2) 80),(10,.fam [] (Y*6) (s.M 3) 80),(11,.map kS PK.bool s.es),(12,.cells [.mp 11] 77),(13,.cells [.func 44 [] [.ptr (.own 4 0),.ptr (.own 12 0),.ptr (.own 1 0),.ptr (.own 14 0)]] 78),(14,.cells [.func 40 [] [.ptr (.own 3 0),.ptr (.own 13 0),.ptr (.own 1 0),.ptr (.own 6 0)]] 88),(15,.fam [I y,I S] 6 (fun (k:Nat)=>(ch a).getD k (0:Int)) 82),(16,.cells [I (O:Int)] 3),(17,.cells [I d] 3),(18,.cells [.bool true] 4),(19,.cells [.ptr (.own 2 0)] 72),(20,.fam [] 6 (fun (k:Nat)=>(ch a).getD k (0:Int)) 80),(21,.loop false (some VEx.ret) (slFo4 y S (O:Int) d a) 58 [17] asFo bdFo),(22,.fam [] 6 n' 80)])):=by kernel_rfl
def dsF4:List Nat:=[7,6,5,0,1,2,3,4]
def VF4 (y S:Int) (a:Nat->Int) (r:Int):List VV:=[I r,.bool false,.ptr (.own 15 0),.agg (I y::I S::nL a),.ptr (.own 4 0),.ptr (.own 12 0),.ptr (.own 1 0),.ptr (.own 14 0)]
def nsF4:List Nat:=[0,1,2,3,4,5,6,7,8,9,10,11,12,13,14,15]
def BF4 (l:List Stk) (t:Tst) (P:List (List Int)) (Y:Nat) (y S:Int) (a:Nat->Int) (M:Mde) (es:Lst):List VB:=BP4 l t P Y M es ++ [faS y S a]
def dsG4:List Nat:=[25,24,23,9,8] ++ dsF4
def VG4 (P:List (List Int)) (y S:Int) (a:Nat->Int) (r i d o:Int):List VV:=[I i,I P.length,pthD P,I d,I o] ++ VF4 y S a r
theorem gi4_ev (l:List Stk) (t:Tst) (P:List (List Int)) (Y:Nat) (M:Mde) (es:Lst) (y S i d:Int) (o r:Nat) (a:Nat->Int) (X:VEx->List VV->List VB->Prop):codeE Try.prog (callN Try.prog noSpec noL 10 20) (fun _=>none) true 10 (ntOf Try.prog 44) 0 (loopB 2 (bodyOf Try.prog 44)) (dsG4.zip (VG4 P y S a r i d o)) ⟨16,nsF4.zip (BF4 l t P Y y S a M es)⟩ (obs 16 dsG4 nsF4 X) =
 (let z1:=[.cells [.tl t.T.length 1 (dG t.T),I t.far,I t.least] 25,.cells [.tl P.length 1 (pthG P)] 26,.cells (stD l::tsL t) 74,.cells [.ptr (.own 2 0)] 72,.cells [I (Y:Int)] 3,.cells [sFa 7 Y,sFa 8 Y,sFa 9 Y,sFa 10 Y] 76,.cells [.slice (.own 5 0) 4 4] 75,.fam [] (Y*6) (M 0) 80,.fam [] (Y*6) (M 1) 80,.fam [] (Y*6) (M 2) 80,.fam [] (Y*6) (M 3) 80,.map kS PK.bool es,.cells [.mp 11] 77,.cells [.func 44 [] [.ptr (.own 4 0),.ptr (.own 12 0),.ptr (.own 1 0),.ptr (.own 14 0)]] 78,.cells [.func 40 [] [.ptr (.own 3 0),.ptr (.own 13 0),.ptr (.own 1 0),.ptr (.own 6 0)]] 88,.fam [I y,I S] 6 (fun (k:Nat)=>(ch a).getD k (0:Int)) 82];
 let z2:=[I (i+(1:Int)),I (P.length:Int),.tl P.length 1 (pthG P),I ((P.getD i.toNat []).getD y.toNat (0:Int)),I (IntKind.i64.wrap (↑(BitVec.ofInt IntKind.i64.bits (o:Int) ||| BitVec.ofInt IntKind.i64.bits ((1:Int)*(2:Int) ^ min i.toNat IntKind.i64.bits)).toNat:Int)),I (r:Int),.bool false,.ptr (.own 15 0),.agg [I y,I S,I (a 0),I (a 1),I (a 2),I (a 3),I (a 4),I (a 5)],.ptr (.own 4 0),.ptr (.own 12 0),.ptr (.own 1 0),.ptr (.own 14 0)];
 let z3:=[I (i+(1:Int)),I (P.length:Int),.tl P.length 1 (pthG P),I d,I (o:Int),I (r:Int),.bool false,.ptr (.own 15 0),.agg [I y,I S,I (a 0),I (a 1),I (a 2),I (a 3),I (a 4),I (a 5)],.ptr (.own 4 0),.ptr (.own 12 0),.ptr (.own 1 0),.ptr (.own 14 0)];
 (bif decide (i<(P.length:Int)) then
 bif decide ((0:Int)<=i/\i<(P.length:Int)) then
 bif decide (i<(0:Int)) then
 False
 else bif decide (IntKind.i64.wrap (↑(BitVec.ofInt IntKind.i64.bits ((r:Int).fdiv ((2:Int) ^ min i.toNat IntKind.i64.bits)) &&& BitVec.ofInt IntKind.i64.bits (1:Int)).toNat:Int)=(1:Int)) then
 bif decide (d<(0:Int)) then
 bif decide (i<(0:Int)) then
 False
 else bif inK .i64 ((1:Int)*(2:Int) ^ min i.toNat IntKind.i64.bits) then
 bif decide ((0:Int)<=y/\y<(↑(P.getD i.toNat []).length:Int)) then
 bif inK .i64 (i+(1:Int)) then
 X .normal z2 z1
 else False
 else False
 else False
 else bif decide ((0:Int)<=y/\y<(↑(P.getD i.toNat []).length:Int)) then
 bif decide ((P.getD i.toNat []).getD y.toNat (0:Int)=d) then
 bif decide (i<(0:Int)) then
 False
 else bif inK .i64 ((1:Int)*(2:Int) ^ min i.toNat IntKind.i64.bits) then
 bif decide ((0:Int)<=y/\y<(↑(P.getD i.toNat []).length:Int)) then
 bif inK .i64 (i+(1:Int)) then
 X .normal z2 z1
 else False
 else False
 else False
 else bif inK .i64 (i+(1:Int)) then
 X .normal z3 z1
 else False
 else False
 else bif inK .i64 (i+(1:Int)) then
 X .normal z3 z1
 else False
 else False
 else X (.exit 2) [I i,I (P.length:Int),.tl P.length 1 (pthG P),I d,I (o:Int),I (r:Int),.bool false,.ptr (.own 15 0),.agg [I y,I S,I (a 0),I (a 1),I (a 2),I (a 3),I (a 4),I (a 5)],.ptr (.own 4 0),.ptr (.own 12 0),.ptr (.own 1 0),.ptr (.own 14 0)] z1)):=by kernel_rfl
def lG4 (l:List Stk) (t:Tst) (P:List (List Int)) (Y k:Nat) (y S:Int) (a:Nat->Int) (r:Nat):LT:=fun lock tt h K=>
 ∃ M es,FitP lock h tt ⟨16,nsF4.zip (BF4 l t P Y y S a M es)⟩ (dsG4.zip (VG4 P y S a r 0 (-1) 0))/\(y=((Y - (k+1):Nat):Int)/\k+1<=Y/\Cfg l t P Y/\r<16)/\∀ o d,grpF P (Y - (k+1)) r P.length=(o,d)->K .normal (dsG4.zip (VG4 P y S a r P.length d o)) ⟨16,nsF4.zip (BF4 l t P Y y S a M es)⟩
theorem gm4_ev (l:List Stk) (t:Tst) (D0 D1 D2 D3:List Int) (Y k:Nat) (M:Mde) (es:Lst) (y:Int) (S r:Nat) (a:Nat->Int) (X:VEx->List VV->List VB->Prop):codeE Try.prog (callN Try.prog (tabS [folR4 l t [D0,D1,D2,D3] Y k]) noL 10 20) (tabB [(2,lG4 l t [D0,D1,D2,D3] Y k y S a r)]) true 10 (ntOf Try.prog 44) 0 (loopB 0 (bodyOf Try.prog 44)) (dsF4.zip (VF4 y S a r)) ⟨16,nsF4.zip (BF4 l t [D0,D1,D2,D3] Y y S a M es)⟩ (obs 16 dsF4 nsF4 X) =
 (let z1:=(fun (k:Nat)=>(ch a).getD k (0:Int));
 let z2:=[I (r:Int),.bool false,.ptr (.own 15 0),.agg [I y,I (S:Int),I (a 0),I (a 1),I (a 2),I (a 3),I (a 4),I (a 5)],.ptr (.own 4 0),.ptr (.own 12 0),.ptr (.own 1 0),.ptr (.own 14 0)];
 let z3:=[.func 44 [] [.ptr (.own 4 0),.ptr (.own 12 0),.ptr (.own 1 0),.ptr (.own 14 0)]];
 let z4:=[.func 40 [] [.ptr (.own 3 0),.ptr (.own 13 0),.ptr (.own 1 0),.ptr (.own 6 0)]];
 (bif decide ((r:Int) > (0:Int)) then
 ∃ (M_1:Mde),∃ (es_1:Lst),FitP 0 (VH.mk 16 (nsF4.zip (BF4 l t [D0,D1,D2,D3] Y y (S:Int) a M es))) ((25,I 0)::(24,I (↑[D0,D1,D2,D3].length:Int))::(23,.tl [D0,D1,D2,D3].length 1 (pthG [D0,D1,D2,D3]))::(9,I (-1))::(8,I 0)::(22,.bool true)::(22,.bool (decide ((r:Int) > (0:Int))))::(21,I (r:Int))::dsF4.zip (VF4 y (S:Int) a (r:Int))) (VH.mk 16 (nsF4.zip (BF4 l t [D0,D1,D2,D3] Y y (S:Int) a M_1 es_1))) (dsG4.zip (VG4 [D0,D1,D2,D3] y (S:Int) a (r:Int) (0:Int) (-1:Int) (0:Int)))/\(y=(↑(Y - (k+1)):Int)/\k+1<=Y/\Cfg l t [D0,D1,D2,D3] Y/\r<16)/\∀ (o:Nat) (d:Int),grpF [D0,D1,D2,D3] (Y - (k+1)) r [D0,D1,D2,D3].length=(o,d)->∃ (S':Nat),∃ (O:Nat),∃ (a_2:Nat->Int),∃ (M:Mde),∃ (es:Lst),(VV.ptr (.own 3 0)=VV.ptr (.own 3 0)/\VV.ptr (.own 13 0)=VV.ptr (.own 13 0)/\VV.ptr (.own 1 0)=VV.ptr (.own 1 0)/\VV.ptr (.own 6 0)=VV.ptr (.own 6 0))/\(0=0/\15<=16)/\atL nsB4 (BP4 l t [D0,D1,D2,D3] Y M es) (VH.mk 16 (nsF4.zip (BF4 l t [D0,D1,D2,D3] Y y (S:Int) a M_1 es_1)))/\(y=(Y:Int) - (↑(k+1):Int)/\(S:Int)=(S':Int)/\(o:Int)=(O:Int)/\[I (z1 (0+0)),I (z1 (0+1)),I (z1 (0+2)),I (z1 (0+3)),I (z1 (0+4)),I (z1 (0+5))]=nL a_2)/\PreW l t [D0,D1,D2,D3] Y k O a_2 es/\∀ (b:Bool) (s:St),PostW l t [D0,D1,D2,D3] Y k O d a_2 M b s->bif !b then
 KeyLaw Try.prog 82 kS/\X .ret z2 [.cells [.tl t.T.length 1 (dG t.T),I t.far,I t.least] 25,.cells [.tl [D0,D1,D2,D3].length 1 (pthG [D0,D1,D2,D3])] 26,.cells (stD l::tsL t) 74,.cells [.ptr (.own 2 0)] 72,.cells [I (Y:Int)] 3,.cells [sFa 7 Y,sFa 8 Y,sFa 9 Y,sFa 10 Y] 76,.cells [.slice (.own 5 0) 4 4] 75,.fam [] (Y*6) (s.M 0) 80,.fam [] (Y*6) (s.M 1) 80,.fam [] (Y*6) (s.M 2) 80,.fam [] (Y*6) (s.M 3) 80,.map kS PK.bool (setE s.es [y,(S:Int),z1 (0+0),z1 (0+1),z1 (0+2),z1 (0+3),z1 (0+4),z1 (0+5)] (bif true then
 (1:Int)
 else (0:Int))),.cells [.mp 11] 77,.cells z3 78,.cells z4 88,.fam [I y,I (S:Int)] 6 z1 82]
 else X .normal [I (IntKind.i64.wrap (↑(BitVec.ofInt IntKind.i64.bits (r:Int) &&& ~~~BitVec.ofInt IntKind.i64.bits (o:Int)).toNat:Int)),.bool false,.ptr (.own 15 0),.agg [I y,I (S:Int),I (a 0),I (a 1),I (a 2),I (a 3),I (a 4),I (a 5)],.ptr (.own 4 0),.ptr (.own 12 0),.ptr (.own 1 0),.ptr (.own 14 0)] [.cells [.tl t.T.length 1 (dG t.T),I t.far,I t.least] 25,.cells [.tl [D0,D1,D2,D3].length 1 (pthG [D0,D1,D2,D3])] 26,.cells (stD l::tsL t) 74,.cells [.ptr (.own 2 0)] 72,.cells [I (Y:Int)] 3,.cells [sFa 7 Y,sFa 8 Y,sFa 9 Y,sFa 10 Y] 76,.cells [.slice (.own 5 0) 4 4] 75,.fam [] (Y*6) (s.M 0) 80,.fam [] (Y*6) (s.M 1) 80,.fam [] (Y*6) (s.M 2) 80,.fam [] (Y*6) (s.M 3) 80,.map kS PK.bool s.es,.cells [.mp 11] 77,.cells z3 78,.cells z4 88,.fam [I y,I (S:Int)] 6 z1 82]
 else X (.exit 0) z2 [.cells [.tl t.T.length 1 (dG t.T),I t.far,I t.least] 25,.cells [.tl [D0,D1,D2,D3].length 1 (pthG [D0,D1,D2,D3])] 26,.cells (stD l::tsL t) 74,.cells [.ptr (.own 2 0)] 72,.cells [I (Y:Int)] 3,.cells [sFa 7 Y,sFa 8 Y,sFa 9 Y,sFa 10 Y] 76,.cells [.slice (.own 5 0) 4 4] 75,.fam [] (Y*6) (M 0) 80,.fam [] (Y*6) (M 1) 80,.fam [] (Y*6) (M 2) 80,.fam [] (Y*6) (M 3) 80,.map kS PK.bool es,.cells [.mp 11] 77,.cells z3 78,.cells z4 88,.fam [I y,I (S:Int)] 6 z1 82])):=by kernel_rfl
def lFi4 (l:List Stk) (t:Tst) (P:List (List Int)) (Y k:Nat) (y:Int) (S:Nat) (a:Nat->Int):LT:=fun lock tt h K=>
 ∃ M es,FitP lock h tt ⟨16,nsF4.zip (BF4 l t P Y y S a M es)⟩ (dsF4.zip (VF4 y S a S))/\(y=(Y:Int) - (k+1:Nat)/\Cfg l t P Y/\PreF l t P Y (k+1) S a es)/\(∀ s,PostF l t P Y (k+1) S a M true s->K .normal (dsF4.zip (VF4 y S a 0)) ⟨16,nsF4.zip (BF4 l t P Y y S a s.M s.es)⟩) /\
  ∀ s (r:Int),PostF l t P Y (k+1) S a M false s->K .ret (dsF4.zip (VF4 y S a r)) ⟨16,nsF4.zip (BF4 l t P Y y S a s.M s.es)⟩
theorem fib4_ev (l:List Stk) (t:Tst) (D0 D1 D2 D3:List Int) (Y k:Nat) (M:Mde) (es:Lst) (y:Int) (S:Nat) (a:Nat->Int) (Q:VRes->VH->Prop):callN Try.prog noSpec (atF 44 [(0,lFi4 l t [D0,D1,D2,D3] Y k y S a)]) 10 20 0 (.fn 44) [.agg (I y::I S::nL a),.ptr (.own 4 0),.ptr (.own 12 0),.ptr (.own 1 0),.ptr (.own 14 0)] ⟨15,nsB4.zip (BP4 l t [D0,D1,D2,D3] Y M es)⟩ (fun r h=>Q r h) =
 (let z2:=(13,.cells [.func 44 [] [.ptr (.own 4 0),.ptr (.own 12 0),.ptr (.own 1 0),.ptr (.own 14 0)]] 78);
 let z3:=(14,.cells [.func 40 [] [.ptr (.own 3 0),.ptr (.own 13 0),.ptr (.own 1 0),.ptr (.own 6 0)]] 88);
 let z1:=(VH.mk (16) [(15,.fam [I y,I (S:Int)] (6) (f6 a) 82),(0,.cells [.tl t.T.length 1 (dG t.T),I t.far,I t.least] 25),(1,.cells [.tl [D0,D1,D2,D3].length 1 (pthG [D0,D1,D2,D3])] 26),(2,.cells (stD l::tsL t) 74),(3,.cells [.ptr (.own 2 0)] 72),(4,.cells [I (Y:Int)] 3),(5,.cells [sFa 7 Y,sFa 8 Y,sFa 9 Y,sFa 10 Y] 76),(6,.cells [.slice (.own 5 0) 4 4] 75),(7,.fam [] (Y*6) (M 0) 80),(8,.fam [] (Y*6) (M 1) 80),(9,.fam [] (Y*6) (M 2) 80),(10,.fam [] (Y*6) (M 3) 80),(11,.map kS PK.bool es),(12,.cells [.mp 11] 77),z2,z3]);
 (bif decide (y=(Y:Int)) then
 Q (.ret (.bool true)) z1
 else KeyLaw Try.prog 82 kS/\bif decide (valOf es [y,(S:Int),(f6 a) (0+0),(f6 a) (0+1),(f6 a) (0+2),(f6 a) (0+3),(f6 a) (0+4),(f6 a) (0+5)]=(1:Int)) then
 Q (.ret (.bool false)) z1
 else ∃ (M_1:Mde),∃ (es_1:Lst),FitP 0 (VH.mk (16) ((15,.fam [I y,I (S:Int)] (6) (f6 a) 82)::nsB4.zip (BP4 l t [D0,D1,D2,D3] Y M es))) [(7,I (S:Int)),(20,I (S:Int)),(19,.ptr (.own (15) (1))),(18,.bool false),(18,.bool (decide (valOf es [y,(S:Int),(f6 a) (0+0),(f6 a) (0+1),(f6 a) (0+2),(f6 a) (0+3),(f6 a) (0+4),(f6 a) (0+5)]=(1:Int)))),(17,.agg [I y,I (S:Int),I ((f6 a) (0+0)),I ((f6 a) (0+1)),I ((f6 a) (0+2)),I ((f6 a) (0+3)),I ((f6 a) (0+4)),I ((f6 a) (0+5))]),(16,.mp 11),(15,.bool false),(15,.bool (decide (y=(Y:Int)))),(14,I (Y:Int)),(13,I y),(12,.ptr (.own (15) 0)),(6,.bool false),(5,.ptr (.own (15) 0)),(0,.agg (I y::I (S:Int)::nL a)),(1,.ptr (.own 4 0)),(2,.ptr (.own 12 0)),(3,.ptr (.own 1 0)),(4,.ptr (.own 14 0))] (VH.mk 16 (nsF4.zip (BF4 l t [D0,D1,D2,D3] Y y (S:Int) a M_1 es_1))) (dsF4.zip (VF4 y (S:Int) a (S:Int)))/\(y=(Y:Int) - (↑(k+1):Int)/\Cfg l t [D0,D1,D2,D3] Y/\PreF l t [D0,D1,D2,D3] Y (k+1) S a es_1)/\(∀ (s:St),PostF l t [D0,D1,D2,D3] Y (k+1) S a M_1 true s->Q (.ret (.bool true)) (VH.mk 16 [(0,.cells [.tl t.T.length 1 (dG t.T),I t.far,I t.least] 25),(1,.cells [.tl [D0,D1,D2,D3].length 1 (pthG [D0,D1,D2,D3])] 26),(2,.cells (stD l::tsL t) 74),(3,.cells [.ptr (.own 2 0)] 72),(4,.cells [I (Y:Int)] 3),(5,.cells [sFa 7 Y,sFa 8 Y,sFa 9 Y,sFa 10 Y] 76),(6,.cells [.slice (.own 5 0) 4 4] 75),(7,.fam [] (Y*6) (s.M 0) 80),(8,.fam [] (Y*6) (s.M 1) 80),(9,.fam [] (Y*6) (s.M 2) 80),(10,.fam [] (Y*6) (s.M 3) 80),(11,.map kS PK.bool s.es),(12,.cells [.mp 11] 77),z2,z3,(15,.fam [I y,I (S:Int)] 6 (fun (k:Nat)=>(ch a).getD k (0:Int)) 82)]))/\∀ (s:St) (r:Int),PostF l t [D0,D1,D2,D3] Y (k+1) S a M_1 false s->Q (.ret (.bool false)) (VH.mk 16 [(0,.cells [.tl t.T.length 1 (dG t.T),I t.far,I t.least] 25),(1,.cells [.tl [D0,D1,D2,D3].length 1 (pthG [D0,D1,D2,D3])] 26),(2,.cells (stD l::tsL t) 74),(3,.cells [.ptr (.own 2 0)] 72),(4,.cells [I (Y:Int)] 3),(5,.cells [sFa 7 Y,sFa 8 Y,sFa 9 Y,sFa 10 Y] 76),(6,.cells [.slice (.own 5 0) 4 4] 75),(7,.fam [] (Y*6) (s.M 0) 80),(8,.fam [] (Y*6) (s.M 1) 80),(9,.fam [] (Y*6) (s.M 2) 80),(10,.fam [] (Y*6) (s.M 3) 80),(11,.map kS PK.bool s.es),(12,.cells [.mp 11] 77),z2,z3,(15,.fam [I y,I (S:Int)] 6 (fun (k:Nat)=>(ch a).getD k (0:Int)) 82)]))):=by kernel_rfl
theorem fiz4_ev (l:List Stk) (t:Tst) (D0 D1 D2 D3:List Int) (Y:Nat) (M:Mde) (es:Lst) (y:Int) (S:Nat) (a:Nat->Int) (Q:VRes->VH->Prop):callN Try.prog noSpec (atF 44 [(0,lZ)]) 10 20 0 (.fn 44) [.agg (I y::I S::nL a),.ptr (.own 4 0),.ptr (.own 12 0),.ptr (.own 1 0),.ptr (.own 14 0)] ⟨15,nsB4.zip (BP4 l t [D0,D1,D2,D3] Y M es)⟩ (fun r h=>Q r h) =
 (bif decide (y=(Y:Int)) then
 Q (.ret (.bool true)) (VH.mk (16) [(15,.fam [I y,I (S:Int)] (6) (f6 a) 82),(0,.cells [.tl t.T.length 1 (dG t.T),I t.far,I t.least] 25),(1,.cells [.tl [D0,D1,D2,D3].length 1 (pthG [D0,D1,D2,D3])] 26),(2,.cells (stD l::tsL t) 74),(3,.cells [.ptr (.own 2 0)] 72),(4,.cells [I (Y:Int)] 3),(5,.cells [sFa 7 Y,sFa 8 Y,sFa 9 Y,sFa 10 Y] 76),(6,.cells [.slice (.own 5 0) 4 4] 75),(7,.fam [] (Y*6) (M 0) 80),(8,.fam [] (Y*6) (M 1) 80),(9,.fam [] (Y*6) (M 2) 80),(10,.fam [] (Y*6) (M 3) 80),(11,.map kS PK.bool es),(12,.cells [.mp 11] 77),(13,.cells [.func 44 [] [.ptr (.own 4 0),.ptr (.own 12 0),.ptr (.own 1 0),.ptr (.own 14 0)]] 78),(14,.cells [.func 40 [] [.ptr (.own 3 0),.ptr (.own 13 0),.ptr (.own 1 0),.ptr (.own 6 0)]] 88)])
 else KeyLaw Try.prog 82 kS/\bif decide (valOf es [y,(S:Int),(f6 a) (0+0),(f6 a) (0+1),(f6 a) (0+2),(f6 a) (0+3),(f6 a) (0+4),(f6 a) (0+5)]=(1:Int)) then
 Q (.ret (.bool false)) (VH.mk (16) [(15,.fam [I y,I (S:Int)] (6) (f6 a) 82),(0,.cells [.tl t.T.length 1 (dG t.T),I t.far,I t.least] 25),(1,.cells [.tl [D0,D1,D2,D3].length 1 (pthG [D0,D1,D2,D3])] 26),(2,.cells (stD l::tsL t) 74),(3,.cells [.ptr (.own 2 0)] 72),(4,.cells [I (Y:Int)] 3),(5,.cells [sFa 7 Y,sFa 8 Y,sFa 9 Y,sFa 10 Y] 76),(6,.cells [.slice (.own 5 0) 4 4] 75),(7,.fam [] (Y*6) (M 0) 80),(8,.fam [] (Y*6) (M 1) 80),(9,.fam [] (Y*6) (M 2) 80),(10,.fam [] (Y*6) (M 3) 80),(11,.map kS PK.bool es),(12,.cells [.mp 11] 77),(13,.cells [.func 44 [] [.ptr (.own 4 0),.ptr (.own 12 0),.ptr (.own 1 0),.ptr (.own 14 0)]] 78),(14,.cells [.func 40 [] [.ptr (.own 3 0),.ptr (.own 13 0),.ptr (.own 1 0),.ptr (.own 6 0)]] 88)])
 else False):=by kernel_rfl
section
variable {l:List Stk} {t:Tst} {P:List (List Int)} {Y k:Nat} {y S d:Int} {own:Int} {a:Nat->Int}
noncomputable def OJ4 (l:List Stk) (t:Tst) (P:List (List Int)) (Y:Nat) (y S own d:Int) (a:Nat->Int) (s:(Mde × Lst) × Nat × (Nat->Int)) (e:VEx) (vs:List VV) (bs:List VB):Prop:=
 e=.exit 2/\vs=VFi4 ((scanC a s.2.1 s.2.2).1 - 1)/\bs=BFo4 l t P Y y S own d a s.1.1 s.1.2 (scanC a s.2.1 s.2.2).2
theorem lIo4_ok:LSound Try.prog true (.block 2 (.loop (loopB 2 (bodyOf Try.prog 74)))) (ntOf Try.prog 74) (lIo4 l t P Y y S own d a):=by
 by_cases hn:l.length<=6
 ·refine loop_row hmix good0 (un:=10) (ds:=dsI) (ns:=nsFo4) (nx:=24) (fun s:(Mde × Lst) × Nat × (Nat->Int)=>VFi4 (s.2.1 - 1)) (fun s=>BFo4 l t P Y y S own d a s.1.1 s.1.2 s.2.2) (fun s=>s.2.1<=l.length) (fun s=>s.2.1) (OJ4 l t P Y y S own d a) noL_ok ?_ ?_
  ·rintro ⟨⟨M,es⟩,k,n⟩ h0
   dsimp only at h0 ⊢
   refine cast (ino4_ev l t P Y y S own d (k - 1) a M es n _).symm ?_
   cases k with
   | zero=>exact cond_d (fun h=>by omega) (fun _=>⟨rfl,rfl,rfl⟩)
   | succ k=>
    have e:(((k+1:Nat):Int) - 1)=(k:Int):=by omega
    rw [e]
    have e2:(k:Int).toNat*1=k:=by omega
    rw [e2,show (fun k=>(ch a).getD k (0:Int)) k=a k from ch_get (by omega)]
    refine cond_d (fun _=>?_) (fun h=>by omega)
    refine cond_dk ⟨by omega,by omega⟩ (cond_dk (by omega) (cond_dk ⟨by omega,by omega⟩ (cond_dk (by omega) (cond_d (fun g=>cond_dk ⟨by omega,by omega⟩ (cond_dk (by omega) (cond_r (by omega) ?_))) (fun g=>?_)))))
    ·refine ⟨((M,es),k,setC n k 0),?_,?_,rfl,fitBs_refl _,fun e vs bs he=>?_⟩
     ·show k<=_; omega
     ·show k<k+1; omega
     ·have hs:scanC a (k+1) n=scanC a k (setC n k 0):=by
       show (if _ then _ else _)=_
       rw [if_pos g]
      obtain ⟨h1,h2,h3⟩:=he
      refine ⟨h1,?_,?_⟩
      ·rw [h2]; dsimp only; rw [hs]
      ·rw [h3]; dsimp only; rw [hs]
    ·have hs:scanC a (k+1) n=(k+1,n):=by
      show (if _ then _ else _)=_
      rw [if_neg g]
     refine ⟨rfl,?_,?_⟩
     ·dsimp only; rw [hs]; dsimp only; rw [e]; rfl
     ·dsimp only; rw [hs]
  ·rintro lock tt h K ⟨M,es,n,hf,_,k1⟩
   refine ⟨((M,es),l.length,n),hf,Nat.le_refl _,?_⟩
   rintro e vs bs ⟨rfl,rfl,rfl⟩
   exact k1 _ _ rfl
 ·rintro lock tt h K ⟨M,es,n,hf,hc,_⟩
  exact (hn hc).elim
theorem lG4_ok {r:Nat}:LSound Try.prog true (.block 2 (.loop (loopB 2 (bodyOf Try.prog 44)))) (ntOf Try.prog 44) (lG4 l t P Y k y S a r):=by
 by_cases hh:y=((Y - (k+1):Nat):Int)/\k+1<=Y/\Cfg l t P Y/\r<16
 ·obtain ⟨hy,hk,cf,hr⟩:=hh
  have hp4:=cf.P4
  refine loop_row hmix good0 (un:=10) (ds:=dsG4) (ns:=nsF4) (nx:=16) (fun s:(Mde × Lst) × Nat=>VG4 P y S a r s.2 (grpF P (Y - (k+1)) r s.2).2 (grpF P (Y - (k+1)) r s.2).1) (fun s=>BF4 l t P Y y S a s.1.1 s.1.2) (fun s=>s.2<=P.length) (fun s=>P.length - s.2)
   (fun s e vs bs=>e=.exit 2/\vs=VG4 P y S a r P.length (grpF P (Y - (k+1)) r P.length).2 (grpF P (Y - (k+1)) r P.length).1/\bs=BF4 l t P Y y S a s.1.1 s.1.2) noL_ok ?_ ?_
  ·rintro ⟨⟨M,es⟩,i⟩ h0
   dsimp only at h0 ⊢
   refine cast (gi4_ev l t P Y M es y S i _ _ r a _).symm ?_
   have hgb:=grpF_le cf.nd (Y - (k+1)) r i
   have hs:grpF P (Y - (k+1)) r (i+1)=if r.testBit i/\((grpF P (Y - (k+1)) r i).2<0 ∨ (P.getD i []).getD (Y - (k+1)) 0=(grpF P (Y - (k+1)) r i).2) then ((grpF P (Y - (k+1)) r i).1 ||| 2 ^ i,(P.getD i []).getD (Y - (k+1)) 0) else grpF P (Y - (k+1)) r i:=rfl
   have h16:(grpF P (Y - (k+1)) r i).1<16:=Nat.lt_of_lt_of_le hgb (Nat.pow_le_pow_right (n:=2) (by omega) (show i<=4 by omega))
   generalize hRQ:RoundQ (σ:=(Mde × Lst) × Nat) _ _ _ _ _ ((M,es),i)=RQ
   have fin:∀ (o':Nat) (d':Int),grpF P (Y - (k+1)) r (i+1)=(o',d')->i<P.length->RQ .normal (VG4 P y S a r ((i:Int)+1) d' o') (BF4 l t P Y y S a M es):=by
    intro o' d' he hlt
    rw [<- hRQ]
    refine ⟨((M,es),i+1),?_,?_,?_,fitBs_refl _,fun _ _ _ h=>h⟩
    ·show i+1<=_; omega
    ·show P.length - (i+1)<P.length - i; omega
    ·dsimp only; rw [he]; rfl
   generalize hg:grpF P (Y - (k+1)) r i=g at hs h16 ⊢
   obtain ⟨o,dd⟩:=g
   dsimp only at hs h16 ⊢
   by_cases hlt:i<P.length
   ·have hidx:(0:Int)<=y/\y<((P.getD i []).length:Nat):=by rw [cf.len i hlt]; omega
    have hi4:i<4:=by omega
    have hpow:(1:Int)*(2:Int) ^ min i IntKind.i64.bits<=8/\0<=(1:Int)*(2:Int) ^ min i IntKind.i64.bits:=by
     match i,hi4 with
     | 0,_=>exact ⟨by decide,by decide⟩
     | 1,_=>exact ⟨by decide,by decide⟩
     | 2,_=>exact ⟨by decide,by decide⟩
     | 3,_=>exact ⟨by decide,by decide⟩
    have ey:y.toNat=Y - (k+1):=by omega
    refine cond_dk (by omega) (cond_dk ⟨by omega,by omega⟩ (cond_d (fun h=>by omega) (fun _=>?_)))
    rw [show (i:Int).toNat=i by omega,ey,or_v o h16 i hi4]
    refine cond_d (fun b=>?_) (fun b=>?_)
    ·have b:=(bit_v r hr i hi4).1 b
     refine cond_d (fun g1=>cond_d (fun h=>by omega) (fun _=>cond_r (by omega) (cond_dk hidx (cond_r (by omega) (fin _ _ ?_ hlt))))) (fun g1=>cond_dk hidx (cond_d (fun g2=>cond_d (fun h=>by omega) (fun _=>cond_r (by omega) (cond_dk hidx (cond_r (by omega) (fin _ _ ?_ hlt))))) (fun g2=>cond_r (by omega) (fin _ _ ?_ hlt))))
     ·rw [hs,if_pos ⟨b,.inl g1⟩]
     ·rw [hs,if_pos ⟨b,.inr g2⟩]
     ·rw [hs,if_neg (fun h=>h.2.elim g1 g2)]
    ·have b:¬ r.testBit i=true:=fun h=>b ((bit_v r hr i hi4).2 h)
     refine cond_r (by omega) (fin _ _ ?_ hlt)
     rw [hs,if_neg (fun h=>b h.1)]
   ·obtain rfl:i=P.length:=by omega
    refine cond_d (fun h=>by omega) (fun _=>?_)
    rw [<- hRQ]
    refine ⟨rfl,?_,rfl⟩
    rw [hg]; rfl
  ·rintro lock tt h K ⟨M,es,hf,_,k1⟩
   refine ⟨((M,es),0),hf,Nat.zero_le _,?_⟩
   rintro e vs bs ⟨rfl,rfl,rfl⟩
   exact k1 _ _ rfl
 ·rintro lock tt h K ⟨M,es,hf,hc,_⟩
  exact (hh hc).elim
end
section
variable {l:List Stk} {t:Tst} {D0 D1 D2 D3:List Int} {Y k:Nat}
theorem hc64 {h:VH} (h6:(h.at 2).cs? = some (stD l::tsL t,74)):isD h 4 (.ptr (.own 2 0)) (.tp (stD l::tsL t)):=⟨_,_,h6,isD_l,⟨rfl,rfl,fun _ _=>rfl⟩,⟨rfl,rfl⟩,⟨rfl,rfl⟩,trivial⟩
structure WS4 where
 M0:Mde
 j:Nat
 M:Mde
 es:Lst
noncomputable def OW4 (l:List Stk) (t:Tst) (P:List (List Int)) (Y k:Nat) (y S d:Int) (O:Nat) (a:Nat->Int) (s:WS4) (e:VEx) (vs:List VV) (bs:List VB):Prop:=
 e=.ret/\vs=VFo4/\∃ st n',(PostW l t P Y k O d a s.M0 false st/\bs=BFo4 l t P Y y S O d a st.M st.es n') ∨ (PostW l t P Y k O d a s.M0 true st/\bs=BFoT4 l t P Y y S O d a st.M st.es n')
theorem lFo4_ok (hfind:SpOk Try.prog (findR4 l t [D0,D1,D2,D3] Y k).1 (findR4 l t [D0,D1,D2,D3] Y k).2) {y S d:Int} {O:Nat} {a:Nat->Int}:LSound Try.prog true (.block 0 (.loop (loopB 0 (bodyOf Try.prog 74)))) (ntOf Try.prog 74) (lFo4 l t [D0,D1,D2,D3] Y k y S d O a):=by
 by_cases hh:y=(Y:Int) - (k+1:Nat)/\Cfg l t [D0,D1,D2,D3] Y/\k+1<=Y/\O<2 ^ [D0,D1,D2,D3].length/\leftB l a
 ·obtain ⟨hy,cf,hk,hO,ha⟩:=hh
  have hl6:=cf.hl.1
  have hY4:=cf.Y4
  have hm0:∀ i,i<l.length->0<=a i:=fun i hi=>(ha.1 i hi).1
  have hO16:O<16:=Nat.lt_of_lt_of_le hO (Nat.pow_le_pow_right (n:=2) (by omega) (show 4<=4 by omega))
  have htab:∀ f T,tabS [meetsR l t,lessT,findR4 l t [D0,D1,D2,D3] Y k] f=some T->SpOk Try.prog f T:=tab_ok _ (fun x hx=>by
   simp only [List.mem_cons,List.not_mem_nil,or_false] at hx
   rcases hx with rfl | rfl | rfl
   ·exact meetsR_ok l t
   ·exact lessT_ok
   ·exact hfind)
  refine loop_row hmix (noL_good htab) (lsp:=tabB [(2,lIo4 l t [D0,D1,D2,D3] Y y S O d a)]) (un:=10) (ds:=dsC) (ns:=nsFo4) (nx:=23) (fun _:WS4=>VFo4) (fun s=>BFo4 l t [D0,D1,D2,D3] Y y S O d a s.M s.es (chAt a l.length s.j))
   (fun s=>s.j<(allC a l.length).length/\LostOk l t [D0,D1,D2,D3] Y s.es/\Same Y (k+1) O s.M0 s.M/\∀ i,i<s.j->meetsF l t (chAt a l.length i) y d=true->planF l t [D0,D1,D2,D3] Y k O (lsF a (chAt a l.length i) 6)=none) (fun s=>(allC a l.length).length - s.j) (OW4 l t [D0,D1,D2,D3] Y k y S d O a) (lsp_one (by kernel_rfl) lIo4_ok) ?_ ?_
  ·rintro ⟨M0,j,M,es⟩ ⟨hj,hlost,hsame,hbad⟩
   dsimp only at hj hlost hsame hbad
   refine cast (fr4_ev l t D0 D1 D2 D3 Y k M es y S d O a _ _).symm ?_
   have hcm:=chAt_mem (most:=a) (k:=l.length) hj
   obtain ⟨hleft,hbd,hnc⟩:=left_less ha hcm hl6
   have hnx:=scan_nxt (most:=a) l.length (chAt a l.length j)
   have hnext:=chAt_next hm0 hj
   have hsucc:∀ x,meetsF l t (chAt a l.length j) y d=true->planF l t [D0,D1,D2,D3] Y k O (lsF a (chAt a l.length j) 6)=some x->folF l t [D0,D1,D2,D3] Y k a O d=some (chAt a l.length j,x):=fun x g1 g2=>by
    refine tryF_some (c0:=fun _=>0) hj (fun i hi hm=>hbad i hi ?_) ?_ g2
    ·rw [hy]; exact hm
    ·show meetsF l t (chAt a l.length j) _ d=true
     rw [<- hy]; exact g1
   generalize hRQ:RoundQ (σ:=WS4) _ _ _ _ _ ⟨M0,j,M,es⟩=RQ
   generalize hcj:chAt a l.length j=c at hcm hleft hbd hnc hnx hnext hsucc ⊢
   have fin:∀ (M':Mde) (es':Lst),LostOk l t [D0,D1,D2,D3] Y es'->Same Y (k+1) O M0 M'->(meetsF l t c y d=true->planF l t [D0,D1,D2,D3] Y k O (lsF a c 6)=none)->∀ (k2:Nat) (n':Nat->Int),scanC a l.length c=(k2,n') ->
    (bif decide ((k2:Int) - 1<0) then RQ .ret VFo4 (BFo4 l t [D0,D1,D2,D3] Y y S O d a M' es' n')
    else bif decide (0<=(k2:Int) - 1/\(k2:Int) - 1<(6:Nat)) then (bif decide (((k2:Int) - 1).toNat*1<6) then (bif inK .i64 (n' (((k2:Int) - 1).toNat*1)+1) then (bif decide (0<=(k2:Int) - 1/\(k2:Int) - 1<(6:Nat)) then (bif decide (((k2:Int) - 1).toNat*1+1<=6) then
     RQ .normal VFo4 (BFo4 l t [D0,D1,D2,D3] Y y S O d a M' es' (setF n' (((k2:Int) - 1).toNat*1) [n' (((k2:Int) - 1).toNat*1)+1])) else False) else False) else False) else False) else False):=by
    intro M' es' hl' hs' hno k2 n' hk2
    have hbad':∀ i,i<j+1->meetsF l t (chAt a l.length i) y d=true->planF l t [D0,D1,D2,D3] Y k O (lsF a (chAt a l.length i) 6)=none:=fun i hi hm=>by
     by_cases e:i=j
     ·subst e; rw [hcj] at hm ⊢; exact hno hm
     ·exact hbad i (by omega) hm
    rw [hk2] at hnx
    obtain ⟨hk1,hnx⟩:=hnx
    dsimp only at hk1
    cases k2 with
    | zero=>
     dsimp only at hnx
     have hj1:j+1=(allC a l.length).length:=by
      rcases hnext with ⟨h1,_⟩ | ⟨_,h2⟩
      ·exact h1
      ·rw [hnx] at h2; cases h2
     refine cond_d (fun _=>?_) (fun h=>by omega)
     rw [<- hRQ]
     refine ⟨rfl,rfl,⟨M',es'⟩,n',.inl ⟨?_,rfl⟩⟩
     have hf:folF l t [D0,D1,D2,D3] Y k a O d=none:=tryF_none (fun c' hc' hm'=>by
      obtain ⟨i,hi,rfl⟩:=List.getElem_of_mem hc'
      have e:chAt a l.length i=(allC a l.length)[i]:=by
       unfold chAt
       rw [List.getD_eq_getElem?_getD,List.getElem?_eq_getElem hi]; rfl
      rw [<- e]
      refine hbad' i (by omega) ?_
      rw [e,hy]; exact hm')
     exact ⟨by rw [hf]; rfl,hl',hs',fun c' x' he=>by rw [hf] at he; cases he⟩
    | succ k2=>
     dsimp only at hnx
     have e:(((k2+1:Nat):Int) - 1)=(k2:Int):=by omega
     rw [e]
     have e2:(k2:Int).toNat*1=k2:=by omega
     rw [e2]
     obtain ⟨hj1,hch⟩:j+1<(allC a l.length).length/\chAt a l.length (j+1)=setC n' k2 (n' k2+1):=by
      rcases hnext with ⟨_,h2⟩ | ⟨h1,h2⟩
      ·rw [hnx] at h2; cases h2
      ·rw [hnx] at h2
       injection h2 with h2
       exact ⟨h1,h2.symm⟩
     have hb6:=(left_less ha (chAt_mem hj1) hl6).2.2 k2 (by omega)
     rw [hch,setC_same] at hb6
     refine cond_d (fun h=>by omega) (fun _=>cond_dk ⟨by omega,by omega⟩ (cond_dk (by omega) (cond_r (by omega) (cond_dk ⟨by omega,by omega⟩ (cond_dk (by omega) ?_)))))
     rw [<- hRQ]
     refine ⟨⟨M0,j+1,M',es'⟩,⟨hj1,hl',hs',hbad'⟩,?_,rfl,?_,fun _ _ _ h=>h⟩
     ·show (allC a l.length).length - (j+1)<(allC a l.length).length - j
      omega
     ·dsimp only
      rw [hch]
      exact fitBs_refl _
   have hir : -9223372036854775808<=(l.length:Int) - 1/\(l.length:Int) - 1<=9223372036854775807:=by omega
   have hF:∀ (M':Mde) (es':Lst) (h:VH) (tt:Slots),h.nx=24->fitB (nsFo4.zip (BFo4 l t [D0,D1,D2,D3] Y y S O d a M' es' c)) h->fitS (dsI.zip (VFi4 (l.length - 1))) tt->FitP 0 h tt ⟨24,nsFo4.zip (BFo4 l t [D0,D1,D2,D3] Y y S O d a M' es' c)⟩ (dsI.zip (VFi4 (l.length - 1))):=fun _ _ _ _ h1 h2 h3=>⟨⟨rfl,h1,h2⟩,h3⟩
   refine ⟨c,hc64 rfl,rfl,⟨⟨hnc,cf.hl,cf.hp,cf.ht⟩,by omega,by omega⟩,cond_i (fun g=>?_) (fun g=>?_)⟩
   ·have g:meetsF l t c y d=false:=by simpa using g
    refine cond_r hir ⟨M,es,c,hF M es _ _ rfl ?_ ?_,hl6,fin M es hlost hsame (fun h=>by rw [g] at h; cases h)⟩
    ·exact (by repeat (first | exact trivial | refine ⟨VB.fit_refl _,?_⟩))
    ·exact ⟨rfl,rfl,rfl,rfl,rfl,trivial⟩
   ·have g:meetsF l t c y d=true:=by simpa using g
    refine cond_r (by omega) ⟨a,c,rfl,rfl,hbd,O,lsF a c 6,M,es,⟨rfl,rfl,rfl,rfl⟩,⟨rfl,by omega⟩,⟨rfl,rfl,rfl,rfl,rfl,rfl,rfl,rfl,rfl,rfl,rfl,rfl,rfl,rfl,rfl,trivial⟩,⟨by omega,rfl,rfl⟩,⟨by omega,hO,hleft,hlost⟩,?_⟩
    rintro b s ⟨p1,p2,p3,p4⟩
    refine cond_i (fun g2=>?_) (fun g2=>?_)
    ·have g2:b=false:=by simpa using g2
     refine cond_r hir ⟨s.M,s.es,c,hF s.M s.es _ _ rfl ?_ ?_,hl6,fin s.M s.es p2 (hsame.trans p3.later) (fun _=>?_)⟩
     ·exact (by repeat (first | exact trivial | refine ⟨VB.fit_refl _,?_⟩))
     ·exact ⟨rfl,rfl,rfl,rfl,rfl,trivial⟩
     ·rw [g2] at p1
      cases hx:planF l t [D0,D1,D2,D3] Y k O (lsF a c 6) with
      | none=>rfl
      | some x=>rw [hx] at p1; cases p1
    ·have g2:b=true:=by simpa using g2
     subst g2
     obtain ⟨x,hx⟩:∃ x,planF l t [D0,D1,D2,D3] Y k O (lsF a c 6)=some x:=by
      cases hx:planF l t [D0,D1,D2,D3] Y k O (lsF a c 6) with
      | none=>rw [hx] at p1; cases p1
      | some x=>exact ⟨x,rfl⟩
     have hyY:(0:Int)<=y/\y<(Y:Int):=⟨by omega,by omega⟩
     have hyY6:0+y.toNat*6+6<=Y*6:=by omega
     have fin2:∀ M2:Mde,(∀ i,i < [D0,D1,D2,D3].length->M2 i=if O.testBit i=true then wrM (s.M i) y c else s.M i)->(∀ i,[D0,D1,D2,D3].length<=i->M2 i=s.M i)->∀ bs,bs=BFoT4 l t [D0,D1,D2,D3] Y y S O d a M2 s.es c->RQ .ret VFo4 bs:=by
      rintro M2 h2 h3 bs rfl
      rw [<- hRQ]
      exact ⟨rfl,rfl,⟨M2,s.es⟩,c,.inr ⟨postW_true hk hO (by omega) (hsucc x g hx) hx hsame ⟨p1,p2,p3,p4⟩ h2 h3,rfl⟩⟩
     have fin3:∀ {m0 m1 m2 m3:Nat->Int},(m0=if O.testBit 0=true then wrM (s.M 0) y c else s.M 0)->(m1=if O.testBit 1=true then wrM (s.M 1) y c else s.M 1)->(m2=if O.testBit 2=true then wrM (s.M 2) y c else s.M 2)->(m3=if O.testBit 3=true then wrM (s.M 3) y c else s.M 3)->RQ .ret VFo4 (BFoT4 l t [D0,D1,D2,D3] Y y S O d a (fun i=>if i=0 then m0 else if i=1 then m1 else if i=2 then m2 else if i=3 then m3 else s.M i) s.es c):=fun h0 h1 h2 h3=>fin2 _ (fun i hi=>by
      match i,hi with
      | 0,_=>exact h0
      | 1,_=>exact h1
      | 2,_=>exact h2
      | 3,_=>exact h3
      | _+4,hi=>exact absurd hi (by show ¬ _+4<4; omega)) (fun i hi=>by
      have hi:4<=i:=hi
      rw [if_neg (show ¬ i=0 by omega),if_neg (show ¬ i=1 by omega),if_neg (show ¬ i=2 by omega),if_neg (show ¬ i=3 by omega)]) _ rfl
     refine cond_d (fun b0=>cond_dk hyY (cond_dk hyY6 ?_)) (fun b0=>?_)
     ·have b0:O.testBit 0=true:=(bit_v O hO16 0 (by omega)).1 b0
      refine cond_d (fun b1=>cond_dk hyY (cond_dk hyY6 ?_)) (fun b1=>?_)
      ·have b1:O.testBit 1=true:=(bit_v O hO16 1 (by omega)).1 b1
       refine cond_d (fun b2=>cond_dk hyY (cond_dk hyY6 ?_)) (fun b2=>?_)
       ·have b2:O.testBit 2=true:=(bit_v O hO16 2 (by omega)).1 b2
        refine cond_d (fun b3=>cond_dk hyY (cond_dk hyY6 ?_)) (fun b3=>?_)
        ·have b3:O.testBit 3=true:=(bit_v O hO16 3 (by omega)).1 b3
         exact fin3 (if_pos b0).symm (if_pos b1).symm (if_pos b2).symm (if_pos b3).symm
        ·have b3:¬ O.testBit 3=true:=fun h=>b3 ((bit_v O hO16 3 (by omega)).2 h)
         exact fin3 (if_pos b0).symm (if_pos b1).symm (if_pos b2).symm (if_neg b3).symm
       ·have b2:¬ O.testBit 2=true:=fun h=>b2 ((bit_v O hO16 2 (by omega)).2 h)
        refine cond_d (fun b3=>cond_dk hyY (cond_dk hyY6 ?_)) (fun b3=>?_)
        ·have b3:O.testBit 3=true:=(bit_v O hO16 3 (by omega)).1 b3
         exact fin3 (if_pos b0).symm (if_pos b1).symm (if_neg b2).symm (if_pos b3).symm
        ·have b3:¬ O.testBit 3=true:=fun h=>b3 ((bit_v O hO16 3 (by omega)).2 h)
         exact fin3 (if_pos b0).symm (if_pos b1).symm (if_neg b2).symm (if_neg b3).symm
      ·have b1:¬ O.testBit 1=true:=fun h=>b1 ((bit_v O hO16 1 (by omega)).2 h)
       refine cond_d (fun b2=>cond_dk hyY (cond_dk hyY6 ?_)) (fun b2=>?_)
       ·have b2:O.testBit 2=true:=(bit_v O hO16 2 (by omega)).1 b2
        refine cond_d (fun b3=>cond_dk hyY (cond_dk hyY6 ?_)) (fun b3=>?_)
        ·have b3:O.testBit 3=true:=(bit_v O hO16 3 (by omega)).1 b3
         exact fin3 (if_pos b0).symm (if_neg b1).symm (if_pos b2).symm (if_pos b3).symm
        ·have b3:¬ O.testBit 3=true:=fun h=>b3 ((bit_v O hO16 3 (by omega)).2 h)
         exact fin3 (if_pos b0).symm (if_neg b1).symm (if_pos b2).symm (if_neg b3).symm
       ·have b2:¬ O.testBit 2=true:=fun h=>b2 ((bit_v O hO16 2 (by omega)).2 h)
        refine cond_d (fun b3=>cond_dk hyY (cond_dk hyY6 ?_)) (fun b3=>?_)
        ·have b3:O.testBit 3=true:=(bit_v O hO16 3 (by omega)).1 b3
         exact fin3 (if_pos b0).symm (if_neg b1).symm (if_neg b2).symm (if_pos b3).symm
        ·have b3:¬ O.testBit 3=true:=fun h=>b3 ((bit_v O hO16 3 (by omega)).2 h)
         exact fin3 (if_pos b0).symm (if_neg b1).symm (if_neg b2).symm (if_neg b3).symm
     ·have b0:¬ O.testBit 0=true:=fun h=>b0 ((bit_v O hO16 0 (by omega)).2 h)
      refine cond_d (fun b1=>cond_dk hyY (cond_dk hyY6 ?_)) (fun b1=>?_)
      ·have b1:O.testBit 1=true:=(bit_v O hO16 1 (by omega)).1 b1
       refine cond_d (fun b2=>cond_dk hyY (cond_dk hyY6 ?_)) (fun b2=>?_)
       ·have b2:O.testBit 2=true:=(bit_v O hO16 2 (by omega)).1 b2
        refine cond_d (fun b3=>cond_dk hyY (cond_dk hyY6 ?_)) (fun b3=>?_)
        ·have b3:O.testBit 3=true:=(bit_v O hO16 3 (by omega)).1 b3
         exact fin3 (if_neg b0).symm (if_pos b1).symm (if_pos b2).symm (if_pos b3).symm
        ·have b3:¬ O.testBit 3=true:=fun h=>b3 ((bit_v O hO16 3 (by omega)).2 h)
         exact fin3 (if_neg b0).symm (if_pos b1).symm (if_pos b2).symm (if_neg b3).symm
       ·have b2:¬ O.testBit 2=true:=fun h=>b2 ((bit_v O hO16 2 (by omega)).2 h)
        refine cond_d (fun b3=>cond_dk hyY (cond_dk hyY6 ?_)) (fun b3=>?_)
        ·have b3:O.testBit 3=true:=(bit_v O hO16 3 (by omega)).1 b3
         exact fin3 (if_neg b0).symm (if_pos b1).symm (if_neg b2).symm (if_pos b3).symm
        ·have b3:¬ O.testBit 3=true:=fun h=>b3 ((bit_v O hO16 3 (by omega)).2 h)
         exact fin3 (if_neg b0).symm (if_pos b1).symm (if_neg b2).symm (if_neg b3).symm
      ·have b1:¬ O.testBit 1=true:=fun h=>b1 ((bit_v O hO16 1 (by omega)).2 h)
       refine cond_d (fun b2=>cond_dk hyY (cond_dk hyY6 ?_)) (fun b2=>?_)
       ·have b2:O.testBit 2=true:=(bit_v O hO16 2 (by omega)).1 b2
        refine cond_d (fun b3=>cond_dk hyY (cond_dk hyY6 ?_)) (fun b3=>?_)
        ·have b3:O.testBit 3=true:=(bit_v O hO16 3 (by omega)).1 b3
         exact fin3 (if_neg b0).symm (if_neg b1).symm (if_pos b2).symm (if_pos b3).symm
        ·have b3:¬ O.testBit 3=true:=fun h=>b3 ((bit_v O hO16 3 (by omega)).2 h)
         exact fin3 (if_neg b0).symm (if_neg b1).symm (if_pos b2).symm (if_neg b3).symm
       ·have b2:¬ O.testBit 2=true:=fun h=>b2 ((bit_v O hO16 2 (by omega)).2 h)
        refine cond_d (fun b3=>cond_dk hyY (cond_dk hyY6 ?_)) (fun b3=>?_)
        ·have b3:O.testBit 3=true:=(bit_v O hO16 3 (by omega)).1 b3
         exact fin3 (if_neg b0).symm (if_neg b1).symm (if_neg b2).symm (if_pos b3).symm
        ·have b3:¬ O.testBit 3=true:=fun h=>b3 ((bit_v O hO16 3 (by omega)).2 h)
         exact fin3 (if_neg b0).symm (if_neg b1).symm (if_neg b2).symm (if_neg b3).symm
  ·rintro lock tt h K ⟨M,es,hf,⟨_,_,hpw⟩,k1,k2⟩
   refine ⟨⟨M,0,M,es⟩,?_,⟨all_pos hm0,hpw.2.2.2,Same.refl _ _ _ _,fun i hi=>absurd hi (Nat.not_lt_zero i)⟩,?_⟩
   ·dsimp only
    rw [chAt_zero hm0]; exact hf
   ·rintro e vs bs ⟨rfl,rfl,st,n',⟨hp,rfl⟩ | ⟨hp,rfl⟩⟩
    ·exact k1 st n' hp
    ·exact k2 st n' hp
 ·rintro lock tt h K ⟨M,es,hf,⟨h1,h2,h3⟩,_⟩
  exact (hh ⟨h1,h2,h3.1,h3.2.1,h3.2.2.1⟩).elim
end
section
variable {l:List Stk} {t:Tst} {D0 D1 D2 D3:List Int} {Y k:Nat}
theorem lift4 {f:FuncId} {args:List VV} {b:Bool} {s:St} {M:Mde} {es:Lst} {nx:Nat} {bs:List (Nat × VB)} (ha:belL 15 args=true) (hr:renL id args=args) (hnx:15<=nx) (hat:atL nsB4 (BP4 l t [D0,D1,D2,D3] Y M es) ⟨nx,bs⟩)
  (hc:CallsV Try.prog f args ⟨15,nsB4.zip (BP4 l t [D0,D1,D2,D3] Y M es)⟩ (.ret (.bool b)) ⟨15,nsB4.zip (BP4 l t [D0,D1,D2,D3] Y s.M s.es)⟩) :
  CallsV Try.prog f args ⟨nx,bs⟩ (.ret (.bool b)) ⟨nx,(7,.fam [] (Y*6) (s.M 0) 80)::(8,.fam [] (Y*6) (s.M 1) 80)::(9,.fam [] (Y*6) (s.M 2) 80)::(10,.fam [] (Y*6) (s.M 3) 80)::(11,.map kS .bool s.es)::bs⟩:=by
 obtain ⟨e0,e1,e2,e3,e4,e5,e6,e7,e8,e9,e10,e11,e12,e13,e14,_⟩:=hat
 have:=calls_ren (P:=Try.prog) (h:=⟨nx,bs⟩) (h1:=⟨nx,(7,.fam [] (Y*6) (s.M 0) 80)::(8,.fam [] (Y*6) (s.M 1) 80)::(9,.fam [] (Y*6) (s.M 2) 80)::(10,.fam [] (Y*6) (s.M 3) 80)::(11,.map kS .bool s.es)::bs⟩) id (fun _ _ _ _ h=>h) hc (fun n hn=>by
  have hn:n<15:=hn
  match n,hn with
  | 0,_=>exact ⟨trivial,e0⟩
  | 1,_=>exact ⟨trivial,e1⟩
  | 2,_=>exact ⟨trivial,e2⟩
  | 3,_=>exact ⟨trivial,e3⟩
  | 4,_=>exact ⟨trivial,e4⟩
  | 5,_=>exact ⟨trivial,e5⟩
  | 6,_=>exact ⟨trivial,e6⟩
  | 7,_=>exact ⟨trivial,e7⟩
  | 8,_=>exact ⟨trivial,e8⟩
  | 9,_=>exact ⟨trivial,e9⟩
  | 10,_=>exact ⟨trivial,e10⟩
  | 11,_=>exact ⟨trivial,e11⟩
  | 12,_=>exact ⟨trivial,e12⟩
  | 13,_=>exact ⟨trivial,e13⟩
  | 14,_=>exact ⟨trivial,e14⟩
  | _+15,hn=>exact absurd hn (by omega)) (fun n hn=>by
  have hn:n<15:=hn
  match n,hn with
  | 0,_=>exact ⟨trivial,rfl,e0⟩
  | 1,_=>exact ⟨trivial,rfl,e1⟩
  | 2,_=>exact ⟨trivial,rfl,e2⟩
  | 3,_=>exact ⟨trivial,rfl,e3⟩
  | 4,_=>exact ⟨trivial,rfl,e4⟩
  | 5,_=>exact ⟨trivial,rfl,e5⟩
  | 6,_=>exact ⟨trivial,rfl,e6⟩
  | 7,_=>exact ⟨trivial,rfl,at_lt (show 7<nx by omega)⟩
  | 8,_=>exact ⟨trivial,rfl,at_lt (show 8<nx by omega)⟩
  | 9,_=>exact ⟨trivial,rfl,at_lt (show 9<nx by omega)⟩
  | 10,_=>exact ⟨trivial,rfl,at_lt (show 10<nx by omega)⟩
  | 11,_=>exact ⟨trivial,rfl,at_lt (show 11<nx by omega)⟩
  | 12,_=>exact ⟨trivial,rfl,e12⟩
  | 13,_=>exact ⟨trivial,rfl,e13⟩
  | 14,_=>exact ⟨trivial,rfl,e14⟩
  | _+15,hn=>exact absurd hn (by omega)) (fun q hq=>by
  have hq:∀ n,n<15->n ≠ q:=fun n hn=>hq n hn
  rw [at_ne (hq 7 (by omega)),at_ne (hq 8 (by omega)),at_ne (hq 9 (by omega)),at_ne (hq 10 (by omega)),at_ne (hq 11 (by omega))]) (fun n hn=>by
  have hn:n<15:=hn
  match n,hn with
  | 0,_=>rfl
  | 1,_=>rfl
  | 2,_=>rfl
  | 3,_=>rfl
  | 4,_=>rfl
  | 5,_=>rfl
  | 6,_=>rfl
  | 7,_=>rfl
  | 8,_=>rfl
  | 9,_=>rfl
  | 10,_=>rfl
  | 11,_=>rfl
  | 12,_=>rfl
  | 13,_=>rfl
  | 14,_=>rfl
  | _+15,hn=>exact absurd hn (by omega)) ha rfl
 rw [hr] at this
 exact this
theorem follow_v4 (hfind:SpOk Try.prog (findR4 l t [D0,D1,D2,D3] Y k).1 (findR4 l t [D0,D1,D2,D3] Y k).2) (cf:Cfg l t [D0,D1,D2,D3] Y) {y S d:Int} {O:Nat} {a:Nat->Int} {M:Mde} {es:Lst} (hy:y=(Y:Int) - (k+1:Nat)) (hp:PreW l t [D0,D1,D2,D3] Y k O a es) :
  ∃ b s,PostW l t [D0,D1,D2,D3] Y k O d a M b s/\CallsV Try.prog 40 [.agg (I y::I S::nL a),I O,I d,.ptr (.own 3 0),.ptr (.own 13 0),.ptr (.own 1 0),.ptr (.own 6 0)] ⟨15,nsB4.zip (BP4 l t [D0,D1,D2,D3] Y M es)⟩ (.ret (.bool b)) ⟨15,nsB4.zip (BP4 l t [D0,D1,D2,D3] Y s.M s.es)⟩:=by
 have hall:LoopsOk Try.prog 74 [(0,lFo4 l t [D0,D1,D2,D3] Y k y S d O a)]:=fun x hx=>by
  simp only [List.mem_singleton] at hx
  subst hx
  exact ⟨by kernel_rfl,lFo4_ok hfind⟩
 obtain ⟨r,h',⟨b,s,hw,rfl,hf⟩,hc⟩:=of_callN (callL_good hmix noSp hall (un:=10) 20) (f:=40) (args:=[.agg (I y::I S::nL a),I O,I d,.ptr (.own 3 0),.ptr (.own 13 0),.ptr (.own 1 0),.ptr (.own 6 0)]) (h:=⟨15,nsB4.zip (BP4 l t [D0,D1,D2,D3] Y M es)⟩) (K:=fun r h'=>∃ b s,PostW l t [D0,D1,D2,D3] Y k O d a M b s/\r=.ret (.bool b)/\fitB (nsB4.zip (BP4 l t [D0,D1,D2,D3] Y s.M s.es)) h') (by
  refine cast (fob4_ev l t D0 D1 D2 D3 Y k M es y S d O a _).symm ⟨M,es,⟨⟨rfl,rfl,by repeat (first | exact trivial | refine ⟨VB.fit_refl _,?_⟩)⟩,rfl,rfl,rfl,rfl,trivial⟩,⟨hy,cf,hp⟩,fun s n' hw=>⟨false,s,hw,rfl,by repeat (first | exact trivial | refine ⟨VB.fit_refl _,?_⟩)⟩,fun s n' hw=>⟨true,s,hw,rfl,by repeat (first | exact trivial | refine ⟨VB.fit_refl _,?_⟩)⟩⟩)
 exact ⟨b,s,hw,calls_weak hc (Nat.le_refl _) hf rfl rfl⟩
theorem folR4_ok (hfind:SpOk Try.prog (findR4 l t [D0,D1,D2,D3] Y k).1 (findR4 l t [D0,D1,D2,D3] Y k).2) (cf:Cfg l t [D0,D1,D2,D3] Y):SpOk Try.prog (folR4 l t [D0,D1,D2,D3] Y k).1 (folR4 l t [D0,D1,D2,D3] Y k).2:=by
 intro lock args h K hK
 simp only [folR4] at hK
 split at hK
 ·rename_i nx bs
  obtain ⟨S',O,a,M,es,⟨rfl,rfl,rfl,rfl⟩,⟨rfl,hnx⟩,hat,⟨hy,rfl,rfl,rfl⟩,hp,hK⟩:=hK
  obtain ⟨b,s,hw,hc⟩:=follow_v4 hfind cf hy hp
  exact ⟨_,_,hK b s hw,lock0 _ _,lift4 rfl rfl hnx hat hc⟩
 ·exact hK.elim
structure FS4 where
 M0:Mde
 r:Nat
 acc:Rsl
 s:St
def OF4 (l:List Stk) (t:Tst) (P:List (List Int)) (Y k:Nat) (y:Int) (S:Nat) (a:Nat->Int) (f:FS4) (e:VEx) (vs:List VV) (bs:List VB):Prop:=
 (e=.exit 0/\vs=VF4 y S a 0/\∃ st,PostF l t P Y (k+1) S a f.M0 true st/\bs=BF4 l t P Y y S a st.M st.es) ∨ (e=.ret/\∃ (r:Int) (st:St),PostF l t P Y (k+1) S a f.M0 false st/\vs=VF4 y S a r/\bs=BF4 l t P Y y S a st.M st.es)
theorem lFi4_ok (hfol:SpOk Try.prog (folR4 l t [D0,D1,D2,D3] Y k).1 (folR4 l t [D0,D1,D2,D3] Y k).2) {y:Int} {S:Nat} {a:Nat->Int}:LSound Try.prog true (.block 0 (.loop (loopB 0 (bodyOf Try.prog 44)))) (ntOf Try.prog 44) (lFi4 l t [D0,D1,D2,D3] Y k y S a):=by
 by_cases hh:y=(Y:Int) - (k+1:Nat)/\Cfg l t [D0,D1,D2,D3] Y/\k+1<=Y/\leftB l a
 ·obtain ⟨hy,cf,hk,ha⟩:=hh
  refine loop_rowD hmix (noL_good (tab1 hfol)) (un:=10) (ds:=dsF4) (ns:=nsF4) (nx:=16) (lsp:=fun f:FS4=>tabB [(2,lG4 l t [D0,D1,D2,D3] Y k y S a f.r)]) (fun f:FS4=>VF4 y S a f.r) (fun f=>BF4 l t [D0,D1,D2,D3] Y y S a f.s.M f.s.es) (fun f=>DoneF l t [D0,D1,D2,D3] Y k S a f.M0 f.r f.acc f.s) (fun f=>f.r) (OF4 l t [D0,D1,D2,D3] Y k y S a) (fun _ _=>lsp_one (by kernel_rfl) lG4_ok) ?_ ?_
  ·rintro ⟨M0,r,acc,s⟩ hd
   dsimp only at hd ⊢
   refine cast (gm4_ev l t D0 D1 D2 D3 Y k s.M s.es y S r a _).symm ?_
   have hr16:r<16:=Nat.lt_of_lt_of_le hd.lt (Nat.pow_le_pow_right (n:=2) (by omega) (show 4<=4 by omega))
   by_cases hr:r=0
   ·subst hr
    refine cond_d (fun h=>by omega) (fun _=>.inl ⟨rfl,rfl,s,done_end hd,rfl⟩)
   ·refine cond_dk (by omega) ⟨s.M,s.es,⟨⟨rfl,rfl,by repeat (first | exact trivial | refine ⟨VB.fit_refl _,?_⟩)⟩,rfl,rfl,rfl,rfl,rfl,rfl,rfl,rfl,rfl,rfl,rfl,rfl,rfl,trivial⟩,⟨by omega,hk,cf,hr16⟩,?_⟩
    intro o d hg
    have ho:o<2 ^ [D0,D1,D2,D3].length:=by
     have:=grpF_le cf.nd (Y - (k+1)) r [D0,D1,D2,D3].length
     rw [hg] at this; exact this
    have ho16:o<16:=Nat.lt_of_lt_of_le ho (Nat.pow_le_pow_right (n:=2) (by omega) (show 4<=4 by omega))
    refine ⟨S,o,a,s.M,s.es,⟨rfl,rfl,rfl,rfl⟩,⟨rfl,by omega⟩,⟨rfl,rfl,rfl,rfl,rfl,rfl,rfl,rfl,rfl,rfl,rfl,rfl,rfl,rfl,rfl,trivial⟩,⟨hy,rfl,rfl,rfl⟩,⟨hk,ho,ha,hd.lost⟩,?_⟩
    intro b s' hw
    obtain ⟨d1,d2⟩:=done_step cf.nd hd hr hg (s':=s')
    refine cond_i (fun g=>?_) (fun g=>?_)
    ·have g:b=false:=by simpa using g
     subst g
     obtain ⟨z1,z2,z3⟩:=d2 hw
     refine ⟨key82,.inr ⟨rfl,r,⟨s'.M,setE s'.es (kyF y S a) 1⟩,⟨by rw [z1]; rfl,?_,z3,fun x hx=>by rw [z1] at hx; cases hx⟩,rfl,rfl⟩⟩
     have:=lost_set z2 hk z1
     rw [<- hy] at this
     exact this
    ·have g:b=true:=by simpa using g
     subst g
     obtain ⟨acc',hd',hlt⟩:=d1 hw
     rw [andnot_v r hr16 o ho16]
     exact ⟨⟨M0,_,acc',s'⟩,hd',hlt,rfl,fitBs_refl _,fun _ _ _ h=>h⟩
  ·rintro lock tt h K ⟨M,es,hf,⟨_,_,hp⟩,k1,k2⟩
   refine ⟨⟨M,S,fun _ _ _=>0,⟨M,es⟩⟩,hf,done_start hp,?_⟩
   rintro e vs bs (⟨rfl,rfl,st,hp,rfl⟩ | ⟨rfl,r,st,hp,rfl,rfl⟩)
   ·exact k1 st hp
   ·exact k2 st r hp
 ·rintro lock tt h K ⟨M,es,hf,⟨h1,h2,h3⟩,_⟩
  exact (hh ⟨h1,h2,h3.1,h3.2.2.1⟩).elim
theorem find_z4 (cf:Cfg l t [D0,D1,D2,D3] Y) {y:Int} {S:Nat} {a:Nat->Int} {M:Mde} {es:Lst} (hy:y=(Y:Int)) (hp:PreF l t [D0,D1,D2,D3] Y 0 S a es) :
  ∃ b s,PostF l t [D0,D1,D2,D3] Y 0 S a M b s/\CallsV Try.prog 44 [.agg (I y::I S::nL a),.ptr (.own 4 0),.ptr (.own 12 0),.ptr (.own 1 0),.ptr (.own 14 0)] ⟨15,nsB4.zip (BP4 l t [D0,D1,D2,D3] Y M es)⟩ (.ret (.bool b)) ⟨15,nsB4.zip (BP4 l t [D0,D1,D2,D3] Y s.M s.es)⟩:=by
 have hall:LoopsOk Try.prog 44 [(0,lZ)]:=fun x hx=>by
  simp only [List.mem_singleton] at hx
  subst hx
  exact ⟨by kernel_rfl,lZ_ok⟩
 obtain ⟨r,h',⟨rfl,hf⟩,hc⟩:=of_callN (callL_good hmix noSp hall (un:=10) 20) (f:=44) (args:=[.agg (I y::I S::nL a),.ptr (.own 4 0),.ptr (.own 12 0),.ptr (.own 1 0),.ptr (.own 14 0)]) (h:=⟨15,nsB4.zip (BP4 l t [D0,D1,D2,D3] Y M es)⟩) (K:=fun r h'=>r=.ret (.bool true)/\fitB (nsB4.zip (BP4 l t [D0,D1,D2,D3] Y M es)) h') (by
  refine cast (fiz4_ev l t D0 D1 D2 D3 Y M es y S a _).symm (cond_dk hy ⟨rfl,by repeat (first | exact trivial | refine ⟨VB.fit_refl _,?_⟩)⟩))
 exact ⟨true,⟨M,es⟩,⟨rfl,hp.2.2.2,Same.refl _ _ _ _,fun x _ i y j _ _ h1 h2=>by omega⟩,calls_weak hc (Nat.le_refl _) hf rfl rfl⟩
theorem find_s4 (hfol:SpOk Try.prog (folR4 l t [D0,D1,D2,D3] Y k).1 (folR4 l t [D0,D1,D2,D3] Y k).2) (cf:Cfg l t [D0,D1,D2,D3] Y) {y:Int} {S:Nat} {a:Nat->Int} {M:Mde} {es:Lst} (hy:y=(Y:Int) - (k+1:Nat)) (hp:PreF l t [D0,D1,D2,D3] Y (k+1) S a es) :
  ∃ b s,PostF l t [D0,D1,D2,D3] Y (k+1) S a M b s/\CallsV Try.prog 44 [.agg (I y::I S::nL a),.ptr (.own 4 0),.ptr (.own 12 0),.ptr (.own 1 0),.ptr (.own 14 0)] ⟨15,nsB4.zip (BP4 l t [D0,D1,D2,D3] Y M es)⟩ (.ret (.bool b)) ⟨15,nsB4.zip (BP4 l t [D0,D1,D2,D3] Y s.M s.es)⟩:=by
 have hall:LoopsOk Try.prog 44 [(0,lFi4 l t [D0,D1,D2,D3] Y k y S a)]:=fun x hx=>by
  simp only [List.mem_singleton] at hx
  subst hx
  exact ⟨by kernel_rfl,lFi4_ok hfol⟩
 obtain ⟨r,h',⟨b,s,hw,rfl,hf⟩,hc⟩:=of_callN (callL_good hmix noSp hall (un:=10) 20) (f:=44) (args:=[.agg (I y::I S::nL a),.ptr (.own 4 0),.ptr (.own 12 0),.ptr (.own 1 0),.ptr (.own 14 0)]) (h:=⟨15,nsB4.zip (BP4 l t [D0,D1,D2,D3] Y M es)⟩) (K:=fun r h'=>∃ b s,PostF l t [D0,D1,D2,D3] Y (k+1) S a M b s/\r=.ret (.bool b)/\fitB (nsB4.zip (BP4 l t [D0,D1,D2,D3] Y s.M s.es)) h') (by
  refine cast (fib4_ev l t D0 D1 D2 D3 Y k M es y S a _).symm ?_
  have hk:=hp.1
  refine cond_d (fun h=>by omega) (fun _=>⟨key82,cond_d (fun h=>⟨false,⟨M,es⟩,?_,rfl,by repeat (first | exact trivial | refine ⟨VB.fit_refl _,?_⟩)⟩) (fun _=>⟨M,es,⟨⟨rfl,rfl,by repeat (first | exact trivial | refine ⟨VB.fit_refl _,?_⟩)⟩,rfl,rfl,rfl,rfl,rfl,rfl,rfl,rfl,trivial⟩,⟨hy,cf,hp⟩,fun s hw=>⟨true,s,hw,rfl,by repeat (first | exact trivial | refine ⟨VB.fit_refl _,?_⟩)⟩,fun s r hw=>⟨false,s,hw,rfl,by repeat (first | exact trivial | refine ⟨VB.fit_refl _,?_⟩)⟩⟩)⟩)
  have h:valOf es (kyF y S a)=1:=h
  have hn:=lost_get cf.hl.1 hp.2.2.2 (S:=S) (a:=a) hk (by rw [<- hy,h]; omega)
  exact ⟨by rw [hn]; rfl,hp.2.2.2,Same.refl _ _ _ _,fun x hx=>by rw [hn] at hx; cases hx⟩)
 exact ⟨b,s,hw,calls_weak hc (Nat.le_refl _) hf rfl rfl⟩
theorem findR4_ok (cf:Cfg l t [D0,D1,D2,D3] Y):∀ k:Nat,SpOk Try.prog (findR4 l t [D0,D1,D2,D3] Y k).1 (findR4 l t [D0,D1,D2,D3] Y k).2:=by
 have key:∀ k:Nat,(∀ (y:Int) (S:Nat) (a:Nat->Int) (M:Mde) (es:Lst),y=(Y:Int) - k->PreF l t [D0,D1,D2,D3] Y k S a es->∃ b s,PostF l t [D0,D1,D2,D3] Y k S a M b s/\CallsV Try.prog 44 [.agg (I y::I S::nL a),.ptr (.own 4 0),.ptr (.own 12 0),.ptr (.own 1 0),.ptr (.own 14 0)] ⟨15,nsB4.zip (BP4 l t [D0,D1,D2,D3] Y M es)⟩ (.ret (.bool b)) ⟨15,nsB4.zip (BP4 l t [D0,D1,D2,D3] Y s.M s.es)⟩)->SpOk Try.prog (findR4 l t [D0,D1,D2,D3] Y k).1 (findR4 l t [D0,D1,D2,D3] Y k).2:=by
  intro k hv lock args h K hK
  simp only [findR4] at hK
  split at hK
  ·rename_i nx bs
   obtain ⟨S',a,M,es,⟨rfl,rfl,rfl,rfl⟩,⟨rfl,hnx⟩,hat,⟨hy,rfl,rfl⟩,hp,hK⟩:=hK
   obtain ⟨b,s,hw,hc⟩:=hv _ S' a M es hy hp
   exact ⟨_,_,hK b s hw,lock0 _ _,lift4 rfl rfl hnx hat hc⟩
  ·exact hK.elim
 intro k
 induction k with
 | zero=>exact key 0 (fun y S a M es hy hp=>find_z4 cf (by omega) hp)
 | succ k ih=>exact key (k+1) (fun y S a M es hy hp=>find_s4 (folR4_ok ih cf) cf hy hp)
end
def nsBs4:List Nat:=[1,2,3,4,5,6,7,8,9,10,11,12,13,14,15]
def BSs4 (l:List Stk) (t:Tst) (P:List (List Int)) (Y:Nat) (M:Mde) (es:Lst):List VB:=[.cells (tsL t) 25,.cells [pthD P] 26,.cells (stD l::tsL t) 74,.cells [.ptr (.own 3 0)] 72,.cells [I Y] 3,.cells [sFa 8 Y,sFa 9 Y,sFa 10 Y,sFa 11 Y] 76,.cells [.slice (.own 6 0) 4 4] 75,.fam [] (Y*6) (M 0) 80,.fam [] (Y*6) (M 1) 80,.fam [] (Y*6) (M 2) 80,.fam [] (Y*6) (M 3) 80,.map kS .bool es,.cells [.mp 12] 77,.cells [.func 44 [] [.ptr (.own 5 0),.ptr (.own 13 0),.ptr (.own 2 0),.ptr (.own 15 0)]] 78,.cells [.func 40 [] [.ptr (.own 4 0),.ptr (.own 14 0),.ptr (.own 2 0),.ptr (.own 7 0)]] 88]
def findRs4 (l:List Stk) (t:Tst) (P:List (List Int)) (Y k:Nat):FuncId × Spec1:=(44,fun lock args h K=>match args,h with
 | [.agg (.int .i64 y::.int .i64 S::ns),x1,x2,x3,x4],⟨nx,bs⟩=>∃ (S':Nat) (a:Nat->Int) (M:Mde) (es:Lst),(x1=.ptr (.own 5 0)/\x2=.ptr (.own 13 0)/\x3=.ptr (.own 2 0)/\x4=.ptr (.own 15 0))/\(lock=0/\16<=nx)/\atL nsBs4 (BSs4 l t P Y M es) ⟨nx,bs⟩/\(y=(Y:Int) - k/\S=S'/\ns=nL a)/\PreF l t P Y k S' a es /\
   ∀ (b:Bool) (s:St),PostF l t P Y k S' a M b s->K (.ret (.bool b)) ⟨nx,(8,.fam [] (Y*6) (s.M 0) 80)::(9,.fam [] (Y*6) (s.M 1) 80)::(10,.fam [] (Y*6) (s.M 2) 80)::(11,.fam [] (Y*6) (s.M 3) 80)::(12,.map kS .bool s.es)::bs⟩
 | _,_=>False)
def nsPs4:List Nat:=[0,6,8,9,10,11]
def BPs4 (l:List Stk) (Y:Nat) (M:Mde) (r:Nat):List VB:=[.bun 7 r l.length (GM Y M) 3,.cells [sFa 8 Y,sFa 9 Y,sFa 10 Y,sFa 11 Y] 76,.fam [] (Y*6) (M 0) 80,.fam [] (Y*6) (M 1) 80,.fam [] (Y*6) (M 2) 80,.fam [] (Y*6) (M 3) 80]
def lCs4 (l:List Stk) (t:Tst) (P:List (List Int)) (Y:Nat):LT:=fun lock tt h K=>match h.nx with
 | 16=>∃ (M:Mde),FitP lock h tt ⟨16,nsPs4.zip (BPs4 l Y M 0)⟩ ((18,.nils)::dsPl.zip (VPs l t P Y 4 0 .nils 0))/\K .normal ((18,.tl Y 1 (rowH l.length 0))::(18::dsPl).zip (.sl 16 Y::VPs l t P Y 4 0 .nils Y)) ⟨17,(16,.gone)::(16::nsPs4).zip (.vec Y (rowH l.length 0) 1 23::(BPs4 l Y M (0+Y)))⟩
 | 19=>∃ (M:Mde) (gO:Nat->List VV),FitP lock h tt ⟨19,(18::nsPs4).zip (.vec 1 gO 1 26::(BPs4 l Y M (0+Y)))⟩ ((18,.nils)::dsPl.zip (VPs l t P Y 4 1 (.sl 18 1) 0))/\K .normal ((18,.tl Y 1 (rowH l.length (0+Y)))::(18::dsPl).zip (.sl 19 Y::VPs l t P Y 4 1 (.sl 18 1) Y)) ⟨20,(19,.gone)::(19::(18::nsPs4)).zip (.vec Y (rowH l.length (0+Y)) 1 23::(.vec 1 gO 1 26::(BPs4 l Y M (0+Y+Y))))⟩
 | 21=>∃ (M:Mde) (gO:Nat->List VV),FitP lock h tt ⟨21,(18::nsPs4).zip (.vec 2 gO 1 26::(BPs4 l Y M (0+Y+Y)))⟩ ((18,.nils)::dsPl.zip (VPs l t P Y 4 2 (.sl 18 2) 0))/\K .normal ((18,.tl Y 1 (rowH l.length (0+Y+Y)))::(18::dsPl).zip (.sl 21 Y::VPs l t P Y 4 2 (.sl 18 2) Y)) ⟨22,(21,.gone)::(21::(18::nsPs4)).zip (.vec Y (rowH l.length (0+Y+Y)) 1 23::(.vec 2 gO 1 26::(BPs4 l Y M (0+Y+Y+Y))))⟩
 | 23=>∃ (M:Mde) (gO:Nat->List VV),FitP lock h tt ⟨23,(18::nsPs4).zip (.vec 3 gO 1 26::(BPs4 l Y M (0+Y+Y+Y)))⟩ ((18,.nils)::dsPl.zip (VPs l t P Y 4 3 (.sl 18 3) 0))/\K .normal ((18,.tl Y 1 (rowH l.length (0+Y+Y+Y)))::(18::dsPl).zip (.sl 23 Y::VPs l t P Y 4 3 (.sl 18 3) Y)) ⟨24,(23,.gone)::(23::(18::nsPs4)).zip (.vec Y (rowH l.length (0+Y+Y+Y)) 1 23::(.vec 3 gO 1 26::(BPs4 l Y M (0+Y+Y+Y+Y))))⟩
 | _=>False
theorem cs40_ev (l:List Stk) (t:Tst) (P:List (List Int)) (Y y r:Nat) (M:Mde) (G:Nat->Nat->Int) (g:Nat->List VV) (X:VEx->List VV->List VB->Prop):codeE Try.prog (callN Try.prog (tabS [listO]) noL 10 20) (fun _=>none) true 10 (ntOf Try.prog 17) 0 (loopB 5 (bodyOf Try.prog 17)) ((18::dsPl).zip (.sl 16 y::VPs l t P Y 4 0 .nils y)) ⟨17,(16::nsPs4).zip (.vec y g 1 23::[.bun 7 r l.length G 3,.cells [sFa 8 Y,sFa 9 Y,sFa 10 Y,sFa 11 Y] 76,.fam [] (Y*6) (M 0) 80,.fam [] (Y*6) (M 1) 80,.fam [] (Y*6) (M 2) 80,.fam [] (Y*6) (M 3) 80])⟩ (obs 17 (18::dsPl) (16::nsPs4) X) =
 (bif decide ((y:Int)<(Y:Int)) then
 bif decide ((0:Int)<=(y:Int)/\(y:Int)<(Y:Int)) then
 bif decide (0+(y:Int).toNat*(6)+(6)<=Y*6) then
 ∃ (n:Nat->Int),∃ (m:Nat),∃ (r_1:Nat),∃ (g_1:Nat->Nat->Int),(g6 (m6 M 0 (y:Int)))=nL n/\(l.length:Int)=(m:Int)/\m<=6/\0=0/\(VH.mk (18) ((17,.fam [] (6) (setF (fun (_:Nat)=>(0:Int)) 0 (m6 M 0 (y:Int))) 80)::(17,.fam [] (6) (fun (_:Nat)=>(0:Int)) 80)::(16::nsPs4).zip [.vec y g 1 23,.bun 7 r l.length G 3,.cells [sFa 8 Y,sFa 9 Y,sFa 10 Y,sFa 11 Y] 76,.fam [] (Y*6) (M 0) 80,.fam [] (Y*6) (M 1) 80,.fam [] (Y*6) (M 2) 80,.fam [] (Y*6) (M 3) 80])).at 0=VB.bun 7 r_1 m g_1 3/\bif y.beq y then
 bif roomB (y+1) (24) then
 bif inK .i64 ((y:Int)+(1:Int)) then
 X .normal [.sl 16 (y+1),I ((y:Int)+(1:Int)),I (Y:Int),.slice (.fa (8+0) 0 0) Y Y,I (0:Int),I (4:Int),.slice (.own 6 0) 4 4,.nils,I 0,.nils,.ptr (.own 2 0),.ptr (.own 1 0),.tl l.length 5 (stG l),.agg [.tl t.T.length 1 (dG t.T),I t.far,I t.least],.tl P.length 1 (pthG P)] [.vec (y+1) (catG y g fun (j:Nat)=>List.take (1) (List.drop (j*(1)) [.hs 7 r_1 m])) (1) 23,.bun 7 (r_1+1) m (rowM g_1 r_1 n) 3,.cells [.slice (.fa 8 0 0) Y Y,.slice (.fa 9 0 0) Y Y,.slice (.fa 10 0 0) Y Y,.slice (.fa 11 0 0) Y Y] 76,.fam [] (Y*6) (M 0) 80,.fam [] (Y*6) (M 1) 80,.fam [] (Y*6) (M 2) 80,.fam [] (Y*6) (M 3) 80]
 else False
 else False
 else False
 else False
 else False
 else X (VEx.exit 5) [.sl 16 y,I (y:Int),I (Y:Int),.slice (.fa (8+0) 0 0) Y Y,I (0:Int),I (4:Int),.slice (.own 6 0) 4 4,.nils,I 0,.nils,.ptr (.own 2 0),.ptr (.own 1 0),.tl l.length 5 (stG l),.agg [.tl t.T.length 1 (dG t.T),I t.far,I t.least],.tl P.length 1 (pthG P)] [.vec y g 1 23,.bun 7 r l.length G 3,.cells [.slice (.fa 8 0 0) Y Y,.slice (.fa 9 0 0) Y Y,.slice (.fa 10 0 0) Y Y,.slice (.fa 11 0 0) Y Y] 76,.fam [] (Y*6) (M 0) 80,.fam [] (Y*6) (M 1) 80,.fam [] (Y*6) (M 2) 80,.fam [] (Y*6) (M 3) 80]):=by kernel_rfl
theorem cs41_ev (l:List Stk) (t:Tst) (P:List (List Int)) (Y y r:Nat) (M:Mde) (G:Nat->Nat->Int) (g gO:Nat->List VV) (X:VEx->List VV->List VB->Prop):codeE Try.prog (callN Try.prog (tabS [listO]) noL 10 20) (fun _=>none) true 10 (ntOf Try.prog 17) 0 (loopB 5 (bodyOf Try.prog 17)) ((18::dsPl).zip (.sl 19 y::VPs l t P Y 4 1 (.sl 18 1) y)) ⟨20,(19::(18::nsPs4)).zip (.vec y g 1 23::(.vec 1 gO 1 26::[.bun 7 r l.length G 3,.cells [sFa 8 Y,sFa 9 Y,sFa 10 Y,sFa 11 Y] 76,.fam [] (Y*6) (M 0) 80,.fam [] (Y*6) (M 1) 80,.fam [] (Y*6) (M 2) 80,.fam [] (Y*6) (M 3) 80]))⟩ (obs 20 (18::dsPl) (19::(18::nsPs4)) X) =
 (bif decide ((y:Int)<(Y:Int)) then
 bif decide ((0:Int)<=(y:Int)/\(y:Int)<(Y:Int)) then
 bif decide (0+(y:Int).toNat*(6)+(6)<=Y*6) then
 ∃ (n:Nat->Int),∃ (m:Nat),∃ (r_1:Nat),∃ (g_1:Nat->Nat->Int),(g6 (m6 M 1 (y:Int)))=nL n/\(l.length:Int)=(m:Int)/\m<=6/\0=0/\(VH.mk (21) ((20,.fam [] (6) (setF (fun (_:Nat)=>(0:Int)) 0 (m6 M 1 (y:Int))) 80)::(20,.fam [] (6) (fun (_:Nat)=>(0:Int)) 80)::(19::18::nsPs4).zip [.vec y g 1 23,.vec 1 gO 1 26,.bun 7 r l.length G 3,.cells [sFa 8 Y,sFa 9 Y,sFa 10 Y,sFa 11 Y] 76,.fam [] (Y*6) (M 0) 80,.fam [] (Y*6) (M 1) 80,.fam [] (Y*6) (M 2) 80,.fam [] (Y*6) (M 3) 80])).at 0=VB.bun 7 r_1 m g_1 3/\bif y.beq y then
 bif roomB (y+1) (24) then
 bif inK .i64 ((y:Int)+(1:Int)) then
 X .normal [.sl 19 (y+1),I ((y:Int)+(1:Int)),I (Y:Int),.slice (.fa (8+1) 0 0) Y Y,I (1:Int),I (4:Int),.slice (.own 6 0) 4 4,.sl 18 1,I 0,.nils,.ptr (.own 2 0),.ptr (.own 1 0),.tl l.length 5 (stG l),.agg [.tl t.T.length 1 (dG t.T),I t.far,I t.least],.tl P.length 1 (pthG P)] [.vec (y+1) (catG y g fun (j:Nat)=>List.take (1) (List.drop (j*(1)) [.hs 7 r_1 m])) (1) 23,.vec 1 gO 1 26,.bun 7 (r_1+1) m (rowM g_1 r_1 n) 3,.cells [.slice (.fa 8 0 0) Y Y,.slice (.fa 9 0 0) Y Y,.slice (.fa 10 0 0) Y Y,.slice (.fa 11 0 0) Y Y] 76,.fam [] (Y*6) (M 0) 80,.fam [] (Y*6) (M 1) 80,.fam [] (Y*6) (M 2) 80,.fam [] (Y*6) (M 3) 80]
 else False
 else False
 else False
 else False
 else False
 else X (VEx.exit 5) [.sl 19 y,I (y:Int),I (Y:Int),.slice (.fa (8+1) 0 0) Y Y,I (1:Int),I (4:Int),.slice (.own 6 0) 4 4,.sl 18 1,I 0,.nils,.ptr (.own 2 0),.ptr (.own 1 0),.tl l.length 5 (stG l),.agg [.tl t.T.length 1 (dG t.T),I t.far,I t.least],.tl P.length 1 (pthG P)] [.vec y g 1 23,.vec 1 gO 1 26,.bun 7 r l.length G 3,.cells [.slice (.fa 8 0 0) Y Y,.slice (.fa 9 0 0) Y Y,.slice (.fa 10 0 0) Y Y,.slice (.fa 11 0 0) Y Y] 76,.fam [] (Y*6) (M 0) 80,.fam [] (Y*6) (M 1) 80,.fam [] (Y*6) (M 2) 80,.fam [] (Y*6) (M 3) 80]):=by kernel_rfl
theorem cs42_ev (l:List Stk) (t:Tst) (P:List (List Int)) (Y y r:Nat) (M:Mde) (G:Nat->Nat->Int) (g gO:Nat->List VV) (X:VEx->List VV->List VB->Prop):codeE Try.prog (callN Try.prog (tabS [listO]) noL 10 20) (fun _=>none) true 10 (ntOf Try.prog 17) 0 (loopB 5 (bodyOf Try.prog 17)) ((18::dsPl).zip (.sl 21 y::VPs l t P Y 4 2 (.sl 18 2) y)) ⟨22,(21::(18::nsPs4)).zip (.vec y g 1 23::(.vec 2 gO 1 26::[.bun 7 r l.length G 3,.cells [sFa 8 Y,sFa 9 Y,sFa 10 Y,sFa 11 Y] 76,.fam [] (Y*6) (M 0) 80,.fam [] (Y*6) (M 1) 80,.fam [] (Y*6) (M 2) 80,.fam [] (Y*6) (M 3) 80]))⟩ (obs 22 (18::dsPl) (21::(18::nsPs4)) X) =
 (bif decide ((y:Int)<(Y:Int)) then
 bif decide ((0:Int)<=(y:Int)/\(y:Int)<(Y:Int)) then
 bif decide (0+(y:Int).toNat*(6)+(6)<=Y*6) then
 ∃ (n:Nat->Int),∃ (m:Nat),∃ (r_1:Nat),∃ (g_1:Nat->Nat->Int),(g6 (m6 M 2 (y:Int)))=nL n/\(l.length:Int)=(m:Int)/\m<=6/\0=0/\(VH.mk (23) ((22,.fam [] (6) (setF (fun (_:Nat)=>(0:Int)) 0 (m6 M 2 (y:Int))) 80)::(22,.fam [] (6) (fun (_:Nat)=>(0:Int)) 80)::(21::18::nsPs4).zip [.vec y g 1 23,.vec 2 gO 1 26,.bun 7 r l.length G 3,.cells [sFa 8 Y,sFa 9 Y,sFa 10 Y,sFa 11 Y] 76,.fam [] (Y*6) (M 0) 80,.fam [] (Y*6) (M 1) 80,.fam [] (Y*6) (M 2) 80,.fam [] (Y*6) (M 3) 80])).at 0=VB.bun 7 r_1 m g_1 3/\bif y.beq y then
 bif roomB (y+1) (24) then
 bif inK .i64 ((y:Int)+(1:Int)) then
 X .normal [.sl 21 (y+1),I ((y:Int)+(1:Int)),I (Y:Int),.slice (.fa (8+2) 0 0) Y Y,I (2:Int),I (4:Int),.slice (.own 6 0) 4 4,.sl 18 2,I 0,.nils,.ptr (.own 2 0),.ptr (.own 1 0),.tl l.length 5 (stG l),.agg [.tl t.T.length 1 (dG t.T),I t.far,I t.least],.tl P.length 1 (pthG P)] [.vec (y+1) (catG y g fun (j:Nat)=>List.take (1) (List.drop (j*(1)) [.hs 7 r_1 m])) (1) 23,.vec 2 gO 1 26,.bun 7 (r_1+1) m (rowM g_1 r_1 n) 3,.cells [.slice (.fa 8 0 0) Y Y,.slice (.fa 9 0 0) Y Y,.slice (.fa 10 0 0) Y Y,.slice (.fa 11 0 0) Y Y] 76,.fam [] (Y*6) (M 0) 80,.fam [] (Y*6) (M 1) 80,.fam [] (Y*6) (M 2) 80,.fam [] (Y*6) (M 3) 80]
 else False
 else False
 else False
 else False
 else False
 else X (VEx.exit 5) [.sl 21 y,I (y:Int),I (Y:Int),.slice (.fa (8+2) 0 0) Y Y,I (2:Int),I (4:Int),.slice (.own 6 0) 4 4,.sl 18 2,I 0,.nils,.ptr (.own 2 0),.ptr (.own 1 0),.tl l.length 5 (stG l),.agg [.tl t.T.length 1 (dG t.T),I t.far,I t.least],.tl P.length 1 (pthG P)] [.vec y g 1 23,.vec 2 gO 1 26,.bun 7 r l.length G 3,.cells [.slice (.fa 8 0 0) Y Y,.slice (.fa 9 0 0) Y Y,.slice (.fa 10 0 0) Y Y,.slice (.fa 11 0 0) Y Y] 76,.fam [] (Y*6) (M 0) 80,.fam [] (Y*6) (M 1) 80,.fam [] (Y*6) (M 2) 80,.fam [] (Y*6) (M 3) 80]):=by kernel_rfl
theorem cs43_ev (l:List Stk) (t:Tst) (P:List (List Int)) (Y y r:Nat) (M:Mde) (G:Nat->Nat->Int) (g gO:Nat->List VV) (X:VEx->List VV->List VB->Prop):codeE Try.prog (callN Try.prog (tabS [listO]) noL 10 20) (fun _=>none) true 10 (ntOf Try.prog 17) 0 (loopB 5 (bodyOf Try.prog 17)) ((18::dsPl).zip (.sl 23 y::VPs l t P Y 4 3 (.sl 18 3) y)) ⟨24,(23::(18::nsPs4)).zip (.vec y g 1 23::(.vec 3 gO 1 26::[.bun 7 r l.length G 3,.cells [sFa 8 Y,sFa 9 Y,sFa 10 Y,sFa 11 Y] 76,.fam [] (Y*6) (M 0) 80,.fam [] (Y*6) (M 1) 80,.fam [] (Y*6) (M 2) 80,.fam [] (Y*6) (M 3) 80]))⟩ (obs 24 (18::dsPl) (23::(18::nsPs4)) X) =
 (bif decide ((y:Int)<(Y:Int)) then
 bif decide ((0:Int)<=(y:Int)/\(y:Int)<(Y:Int)) then
 bif decide (0+(y:Int).toNat*(6)+(6)<=Y*6) then
 ∃ (n:Nat->Int),∃ (m:Nat),∃ (r_1:Nat),∃ (g_1:Nat->Nat->Int),(g6 (m6 M 3 (y:Int)))=nL n/\(l.length:Int)=(m:Int)/\m<=6/\0=0/\(VH.mk (25) ((24,.fam [] (6) (setF (fun (_:Nat)=>(0:Int)) 0 (m6 M 3 (y:Int))) 80)::(24,.fam [] (6) (fun (_:Nat)=>(0:Int)) 80)::(23::18::nsPs4).zip [.vec y g 1 23,.vec 3 gO 1 26,.bun 7 r l.length G 3,.cells [sFa 8 Y,sFa 9 Y,sFa 10 Y,sFa 11 Y] 76,.fam [] (Y*6) (M 0) 80,.fam [] (Y*6) (M 1) 80,.fam [] (Y*6) (M 2) 80,.fam [] (Y*6) (M 3) 80])).at 0=VB.bun 7 r_1 m g_1 3/\bif y.beq y then
 bif roomB (y+1) (24) then
 bif inK .i64 ((y:Int)+(1:Int)) then
 X .normal [.sl 23 (y+1),I ((y:Int)+(1:Int)),I (Y:Int),.slice (.fa (8+3) 0 0) Y Y,I (3:Int),I (4:Int),.slice (.own 6 0) 4 4,.sl 18 3,I 0,.nils,.ptr (.own 2 0),.ptr (.own 1 0),.tl l.length 5 (stG l),.agg [.tl t.T.length 1 (dG t.T),I t.far,I t.least],.tl P.length 1 (pthG P)] [.vec (y+1) (catG y g fun (j:Nat)=>List.take (1) (List.drop (j*(1)) [.hs 7 r_1 m])) (1) 23,.vec 3 gO 1 26,.bun 7 (r_1+1) m (rowM g_1 r_1 n) 3,.cells [.slice (.fa 8 0 0) Y Y,.slice (.fa 9 0 0) Y Y,.slice (.fa 10 0 0) Y Y,.slice (.fa 11 0 0) Y Y] 76,.fam [] (Y*6) (M 0) 80,.fam [] (Y*6) (M 1) 80,.fam [] (Y*6) (M 2) 80,.fam [] (Y*6) (M 3) 80]
 else False
 else False
 else False
 else False
 else False
 else X (VEx.exit 5) [.sl 23 y,I (y:Int),I (Y:Int),.slice (.fa (8+3) 0 0) Y Y,I (3:Int),I (4:Int),.slice (.own 6 0) 4 4,.sl 18 3,I 0,.nils,.ptr (.own 2 0),.ptr (.own 1 0),.tl l.length 5 (stG l),.agg [.tl t.T.length 1 (dG t.T),I t.far,I t.least],.tl P.length 1 (pthG P)] [.vec y g 1 23,.vec 3 gO 1 26,.bun 7 r l.length G 3,.cells [.slice (.fa 8 0 0) Y Y,.slice (.fa 9 0 0) Y Y,.slice (.fa 10 0 0) Y Y,.slice (.fa 11 0 0) Y Y] 76,.fam [] (Y*6) (M 0) 80,.fam [] (Y*6) (M 1) 80,.fam [] (Y*6) (M 2) 80,.fam [] (Y*6) (M 3) 80]):=by kernel_rfl
theorem ps4_ev (l:List Stk) (t:Tst) (D0 D1 D2 D3:List Int) (G:Nat->Nat->Int) (Q:VRes->VH->Prop):callN Try.prog (tabS [asR l t,casksR l t,apR [D0,D1,D2,D3],findRs4 l t [D0,D1,D2,D3] D0.length D0.length,listO]) (atF 17 [(5,lCs4 l t [D0,D1,D2,D3] D0.length)]) 10 20 0 (.fn 17) [stD l,.agg (tsL t),pthD [D0,D1,D2,D3]] ⟨1,[(0,.bun 7 0 l.length G 3)]⟩ (fun r h=>Q r h) =
 (isD (VH.mk (3) [(2,.cells [.tl [D0,D1,D2,D3].length 1 (pthG [D0,D1,D2,D3])] 26),(1,.cells [.tl t.T.length 1 (dG t.T),I t.far,I t.least] 25),(0,.bun 7 0 l.length G 3)]) 2 (VV.tl l.length 5 (stG l)) (stD l)/\isD (VH.mk (3) [(2,.cells [.tl [D0,D1,D2,D3].length 1 (pthG [D0,D1,D2,D3])] 26),(1,.cells [.tl t.T.length 1 (dG t.T),I t.far,I t.least] 25),(0,.bun 7 0 l.length G 3)]) 2 (VV.agg [.tl t.T.length 1 (dG t.T),I t.far,I t.least]) (VV.agg (tsL t))/\bif !okAll l t then
 Q (VRes.ret (VV.tup [.nils,I 1])) (VH.mk (3) [(2,.cells [.tl [D0,D1,D2,D3].length 1 (pthG [D0,D1,D2,D3])] 26),(1,.cells [.tl t.T.length 1 (dG t.T),I t.far,I t.least] 25),(0,.bun 7 0 l.length G 3)])
 else isD (VH.mk (3) [(2,.cells [.tl [D0,D1,D2,D3].length 1 (pthG [D0,D1,D2,D3])] 26),(1,.cells [.tl t.T.length 1 (dG t.T),I t.far,I t.least] 25),(0,.bun 7 0 l.length G 3)]) 4 (VV.tl [D0,D1,D2,D3].length 1 (pthG [D0,D1,D2,D3])) (pthD [D0,D1,D2,D3])/\pthB [D0,D1,D2,D3]/\bif !okPaths [D0,D1,D2,D3] then
 Q (VRes.ret (VV.tup [.nils,I 2])) (VH.mk (3) [(2,.cells [.tl [D0,D1,D2,D3].length 1 (pthG [D0,D1,D2,D3])] 26),(1,.cells [.tl t.T.length 1 (dG t.T),I t.far,I t.least] 25),(0,.bun 7 0 l.length G 3)])
 else bif decide ((0:Int)<=(D0.length:Int)/\(D0.length:Int)=(D0.length:Int)) then
 bif roomB D0.length (48) then
 bif decide ((0:Int)<=(D0.length:Int)/\(D0.length:Int)=(D0.length:Int)) then
 bif roomB D0.length (48) then
 bif decide ((0:Int)<=(D0.length:Int)/\(D0.length:Int)=(D0.length:Int)) then
 bif roomB D0.length (48) then
 bif decide ((0:Int)<=(D0.length:Int)/\(D0.length:Int)=(D0.length:Int)) then
 bif roomB D0.length (48) then
 isD (maskH [0,1,2,3,4,5,6,7,8,9,10,11,12,13,14,15] (VH.mk (16) ((14,.cells [.func 44 [] [.ptr (.own (5) 0),.ptr (.own (13) 0),.ptr (.own (2) 0),.ptr (.own (15) 0)]] 78)::(15,.cells [.func 40 [] [.ptr (.own (4) 0),.ptr (.own (14) 0),.ptr (.own (2) 0),.ptr (.own (7) 0)]] 88)::(15,.cells [.nilf] 88)::(14,.cells [.nilf] 78)::(13,.cells [.mp (12)] 77)::(13,.cells [.opq (Value.map none)] 77)::(12,.map ([.int .i64] ++ ([.int .i64] ++ ((List.replicate 6 [.int .i64]).flatten ++ []))) PK.bool [])::(6,.cells [.slice (.fa (8) 0 0) D0.length D0.length,.slice (.fa (9) 0 0) D0.length D0.length,.slice (.fa (10) 0 0) D0.length D0.length,.slice (.fa (11) 0 0) D0.length D0.length] 76)::([(11,.fam [] (D0.length*(6)) (fun (_:Nat)=>(0:Int)) 80)] ++ (6,.cells [.slice (.fa (8) 0 0) D0.length D0.length,.slice (.fa (9) 0 0) D0.length D0.length,.slice (.fa (10) 0 0) D0.length D0.length,.nils] 76)::([(10,.fam [] (D0.length*(6)) (fun (_:Nat)=>(0:Int)) 80)] ++ (6,.cells [.slice (.fa (8) 0 0) D0.length D0.length,.slice (.fa (9) 0 0) D0.length D0.length,.nils,.nils] 76)::([(9,.fam [] (D0.length*(6)) (fun (_:Nat)=>(0:Int)) 80)] ++ (6,.cells [.slice (.fa (8) 0 0) D0.length D0.length,.nils,.nils,.nils] 76)::([(8,.fam [] (D0.length*(6)) (fun (_:Nat)=>(0:Int)) 80)] ++ [(7,.cells [.slice (.own (6) 0) (4) (4)] 75),(7,.cells [.nils] 75),(6,.cells [.nils,.nils,.nils,.nils] 76),(5,.cells [I (D0.length:Int)] 3),(5,.cells [I 0] 3),(4,.cells [.ptr (.own (3) 0)] 72),(4,.cells [.nilp] 72),(3,.cells [.tl l.length 5 (stG l),.tl t.T.length 1 (dG t.T),I t.far,I t.least] 74),(2,.cells [.tl [D0,D1,D2,D3].length 1 (pthG [D0,D1,D2,D3])] 26),(1,.cells [.tl t.T.length 1 (dG t.T),I t.far,I t.least] 25),(0,.bun 7 0 l.length G 3)]))))))) 4 (VV.ptr (.own (3) 0)) (VV.tp (stD l::tsL t))/\l.length<=6/\∃ (S':Nat),∃ (a:Nat->Int),∃ (M:Mde),∃ (es:Lst),(VV.ptr (.own 5 0)=VV.ptr (.own 5 0)/\VV.ptr (.own 13 0)=VV.ptr (.own 13 0)/\VV.ptr (.own 2 0)=VV.ptr (.own 2 0)/\VV.ptr (.own 15 0)=VV.ptr (.own 15 0))/\(0=0/\16<=16)/\atL nsBs4 (BSs4 l t [D0,D1,D2,D3] D0.length M es) (VH.mk (16) ((14,.cells [.func 44 [] [.ptr (.own (5) 0),.ptr (.own (13) 0),.ptr (.own (2) 0),.ptr (.own (15) 0)]] 78)::(15,.cells [.func 40 [] [.ptr (.own (4) 0),.ptr (.own (14) 0),.ptr (.own (2) 0),.ptr (.own (7) 0)]] 88)::(15,.cells [.nilf] 88)::(14,.cells [.nilf] 78)::(13,.cells [.mp (12)] 77)::(13,.cells [.opq (Value.map none)] 77)::(12,.map ([.int .i64] ++ ([.int .i64] ++ ((List.replicate 6 [.int .i64]).flatten ++ []))) PK.bool [])::(6,.cells [.slice (.fa (8) 0 0) D0.length D0.length,.slice (.fa (9) 0 0) D0.length D0.length,.slice (.fa (10) 0 0) D0.length D0.length,.slice (.fa (11) 0 0) D0.length D0.length] 76)::([(11,.fam [] (D0.length*(6)) (fun (_:Nat)=>(0:Int)) 80)] ++ (6,.cells [.slice (.fa (8) 0 0) D0.length D0.length,.slice (.fa (9) 0 0) D0.length D0.length,.slice (.fa (10) 0 0) D0.length D0.length,.nils] 76)::([(10,.fam [] (D0.length*(6)) (fun (_:Nat)=>(0:Int)) 80)] ++ (6,.cells [.slice (.fa (8) 0 0) D0.length D0.length,.slice (.fa (9) 0 0) D0.length D0.length,.nils,.nils] 76)::([(9,.fam [] (D0.length*(6)) (fun (_:Nat)=>(0:Int)) 80)] ++ (6,.cells [.slice (.fa (8) 0 0) D0.length D0.length,.nils,.nils,.nils] 76)::([(8,.fam [] (D0.length*(6)) (fun (_:Nat)=>(0:Int)) 80)] ++ [(7,.cells [.slice (.own (6) 0) (4) (4)] 75),(7,.cells [.nils] 75),(6,.cells [.nils,.nils,.nils,.nils] 76),(5,.cells [I (D0.length:Int)] 3),(5,.cells [I 0] 3),(4,.cells [.ptr (.own (3) 0)] 72),(4,.cells [.nilp] 72),(3,.cells [.tl l.length 5 (stG l),.tl t.T.length 1 (dG t.T),I t.far,I t.least] 74),(2,.cells [.tl [D0,D1,D2,D3].length 1 (pthG [D0,D1,D2,D3])] 26),(1,.cells [.tl t.T.length 1 (dG t.T),I t.far,I t.least] 25),(0,.bun 7 0 l.length G 3)]))))))/\((0:Int)=(D0.length:Int) - (D0.length:Int)/\(1:Int)*(2:Int) ^ min (↑[D0,D1,D2,D3].length:Int).toNat IntKind.i64.bits - (1:Int)=(S':Int)/\[I (mostF l 0),I (mostF l 1),I (mostF l 2),I (mostF l 3),I (mostF l 4),I (mostF l 5)]=nL a)/\PreF l t [D0,D1,D2,D3] D0.length D0.length S' a es/\∀ (b:Bool) (s:St),PostF l t [D0,D1,D2,D3] D0.length D0.length S' a M b s->bif !b then
 Q (VRes.ret (VV.tup [.nils,I 4])) (VH.mk (16) [(8,.fam [] (D0.length*6) (s.M 0) 80),(9,.fam [] (D0.length*6) (s.M 1) 80),(10,.fam [] (D0.length*6) (s.M 2) 80),(11,.fam [] (D0.length*6) (s.M 3) 80),(12,.map [.int .i64,.int .i64,.int .i64,.int .i64,.int .i64,.int .i64,.int .i64,.int .i64] PK.bool s.es),(14,.cells [.func 44 [] [.ptr (.own (5) 0),.ptr (.own (13) 0),.ptr (.own (2) 0),.ptr (.own (15) 0)]] 78),(15,.cells [.func 40 [] [.ptr (.own (4) 0),.ptr (.own (14) 0),.ptr (.own (2) 0),.ptr (.own (7) 0)]] 88),(15,.cells [.nilf] 88),(14,.cells [.nilf] 78),(13,.cells [.mp (12)] 77),(13,.cells [.opq (Value.map none)] 77),(12,.map [.int .i64,.int .i64,.int .i64,.int .i64,.int .i64,.int .i64,.int .i64,.int .i64] PK.bool []),(6,.cells [.slice (.fa (8) 0 0) D0.length D0.length,.slice (.fa (9) 0 0) D0.length D0.length,.slice (.fa (10) 0 0) D0.length D0.length,.slice (.fa (11) 0 0) D0.length D0.length] 76),(11,.fam [] (D0.length*(6)) (fun (_:Nat)=>(0:Int)) 80),(6,.cells [.slice (.fa (8) 0 0) D0.length D0.length,.slice (.fa (9) 0 0) D0.length D0.length,.slice (.fa (10) 0 0) D0.length D0.length,.nils] 76),(10,.fam [] (D0.length*(6)) (fun (_:Nat)=>(0:Int)) 80),(6,.cells [.slice (.fa (8) 0 0) D0.length D0.length,.slice (.fa (9) 0 0) D0.length D0.length,.nils,.nils] 76),(9,.fam [] (D0.length*(6)) (fun (_:Nat)=>(0:Int)) 80),(6,.cells [.slice (.fa (8) 0 0) D0.length D0.length,.nils,.nils,.nils] 76),(8,.fam [] (D0.length*(6)) (fun (_:Nat)=>(0:Int)) 80),(7,.cells [.slice (.own (6) 0) (4) (4)] 75),(7,.cells [.nils] 75),(6,.cells [.nils,.nils,.nils,.nils] 76),(5,.cells [I (D0.length:Int)] 3),(5,.cells [I 0] 3),(4,.cells [.ptr (.own (3) 0)] 72),(4,.cells [.nilp] 72),(3,.cells [.tl l.length 5 (stG l),.tl t.T.length 1 (dG t.T),I t.far,I t.least] 74),(2,.cells [.tl [D0,D1,D2,D3].length 1 (pthG [D0,D1,D2,D3])] 26),(1,.cells [.tl t.T.length 1 (dG t.T),I t.far,I t.least] 25),(0,.bun 7 0 l.length G 3)])
 else ∃ (M:Mde),FitP 0 (VH.mk (16) ((8,.fam [] (D0.length*6) (s.M 0) 80)::(9,.fam [] (D0.length*6) (s.M 1) 80)::(10,.fam [] (D0.length*6) (s.M 2) 80)::(11,.fam [] (D0.length*6) (s.M 3) 80)::(12,.map kS PK.bool s.es)::(14,.cells [.func 44 [] [.ptr (.own (5) 0),.ptr (.own (13) 0),.ptr (.own (2) 0),.ptr (.own (15) 0)]] 78)::(15,.cells [.func 40 [] [.ptr (.own (4) 0),.ptr (.own (14) 0),.ptr (.own (2) 0),.ptr (.own (7) 0)]] 88)::(15,.cells [.nilf] 88)::(14,.cells [.nilf] 78)::(13,.cells [.mp (12)] 77)::(13,.cells [.opq (Value.map none)] 77)::(12,.map ([.int .i64] ++ ([.int .i64] ++ ((List.replicate 6 [.int .i64]).flatten ++ []))) PK.bool [])::(6,.cells [.slice (.fa (8) 0 0) D0.length D0.length,.slice (.fa (9) 0 0) D0.length D0.length,.slice (.fa (10) 0 0) D0.length D0.length,.slice (.fa (11) 0 0) D0.length D0.length] 76)::([(11,.fam [] (D0.length*(6)) (fun (_:Nat)=>(0:Int)) 80)] ++ (6,.cells [.slice (.fa (8) 0 0) D0.length D0.length,.slice (.fa (9) 0 0) D0.length D0.length,.slice (.fa (10) 0 0) D0.length D0.length,.nils] 76)::([(10,.fam [] (D0.length*(6)) (fun (_:Nat)=>(0:Int)) 80)] ++ (6,.cells [.slice (.fa (8) 0 0) D0.length D0.length,.slice (.fa (9) 0 0) D0.length D0.length,.nils,.nils] 76)::([(9,.fam [] (D0.length*(6)) (fun (_:Nat)=>(0:Int)) 80)] ++ (6,.cells [.slice (.fa (8) 0 0) D0.length D0.length,.nils,.nils,.nils] 76)::([(8,.fam [] (D0.length*(6)) (fun (_:Nat)=>(0:Int)) 80)] ++ [(7,.cells [.slice (.own (6) 0) (4) (4)] 75),(7,.cells [.nils] 75),(6,.cells [.nils,.nils,.nils,.nils] 76),(5,.cells [I (D0.length:Int)] 3),(5,.cells [I 0] 3),(4,.cells [.ptr (.own (3) 0)] 72),(4,.cells [.nilp] 72),(3,.cells [.tl l.length 5 (stG l),.tl t.T.length 1 (dG t.T),I t.far,I t.least] 74),(2,.cells [.tl [D0,D1,D2,D3].length 1 (pthG [D0,D1,D2,D3])] 26),(1,.cells [.tl t.T.length 1 (dG t.T),I t.far,I t.least] 25),(0,.bun 7 0 l.length G 3)])))))) [(73,I 0),(72,I (D0.length:Int)),(71,.slice (.fa (8) 0 0) D0.length D0.length),(18,.nils),(17,.slice (.fa (8) 0 0) D0.length D0.length),(70,.slice (.fa (8) 0 0) D0.length D0.length),(69,.ptr (.own (6) 0)),(68,.bool true),(68,.bool (decide ((0:Int)<(↑(4):Int)))),(67,I 0),(66,I (↑(4):Int)),(65,.slice (.own (6) 0) (4) (4)),(15,.nils),(64,.bool false),(64,.bool !b),(63,.bool b),(62,.agg [I 0,I ((1:Int)*(2:Int) ^ min (↑[D0,D1,D2,D3].length:Int).toNat IntKind.i64.bits - (1:Int)),I (mostF l 0),I (mostF l 1),I (mostF l 2),I (mostF l 3),I (mostF l 4),I (mostF l 5)]),(61,.agg (nL (mostF l))),(60,.ptr (.own (3) 0)),(59,I ((1:Int)*(2:Int) ^ min (↑[D0,D1,D2,D3].length:Int).toNat IntKind.i64.bits - (1:Int))),(58,I ((1:Int)*(2:Int) ^ min (↑[D0,D1,D2,D3].length:Int).toNat IntKind.i64.bits)),(57,I (↑[D0,D1,D2,D3].length:Int)),(56,.tl [D0,D1,D2,D3].length 1 (pthG [D0,D1,D2,D3])),(55,.func 44 [] [.ptr (.own (5) 0),.ptr (.own (13) 0),.ptr (.own (2) 0),.ptr (.own (15) 0)]),(54,.func 44 [] [.ptr (.own (5) 0),.ptr (.own (13) 0),.ptr (.own (2) 0),.ptr (.own (15) 0)]),(14,.ptr (.own (15) 0)),(53,.func 40 [] [.ptr (.own (4) 0),.ptr (.own (14) 0),.ptr (.own (2) 0),.ptr (.own (7) 0)]),(13,.ptr (.own (14) 0)),(12,.ptr (.own (13) 0)),(52,.mp (12)),(44,.bool false),(44,.bool (decide ((0:Int)+(1:Int)+(1:Int)+(1:Int)+(1:Int)<(↑(4):Int)))),(43,I ((0:Int)+(1:Int)+(1:Int)+(1:Int)+(1:Int))),(51,I ((0:Int)+(1:Int)+(1:Int)+(1:Int)+(1:Int))),(50,.ptr (.own (6) (3))),(49,.slice (.fa (11) 0 0) D0.length D0.length),(48,I (D0.length:Int)),(47,I ((0:Int)+(1:Int)+(1:Int)+(1:Int))),(46,.slice (.own (6) 0) (4) (4)),(11,I ((0:Int)+(1:Int)+(1:Int)+(1:Int))),(45,I ((0:Int)+(1:Int)+(1:Int)+(1:Int))),(44,.bool true),(44,.bool (decide ((0:Int)+(1:Int)+(1:Int)+(1:Int)<(↑(4):Int)))),(43,I ((0:Int)+(1:Int)+(1:Int)+(1:Int))),(51,I ((0:Int)+(1:Int)+(1:Int)+(1:Int))),(50,.ptr (.own (6) (2))),(49,.slice (.fa (10) 0 0) D0.length D0.length),(48,I (D0.length:Int)),(47,I ((0:Int)+(1:Int)+(1:Int))),(46,.slice (.own (6) 0) (4) (4)),(11,I ((0:Int)+(1:Int)+(1:Int))),(45,I ((0:Int)+(1:Int)+(1:Int))),(44,.bool true),(44,.bool (decide ((0:Int)+(1:Int)+(1:Int)<(↑(4):Int)))),(43,I ((0:Int)+(1:Int)+(1:Int))),(51,I ((0:Int)+(1:Int)+(1:Int))),(50,.ptr (.own (6) (1))),(49,.slice (.fa (9) 0 0) D0.length D0.length),(48,I (D0.length:Int)),(47,I ((0:Int)+(1:Int))),(46,.slice (.own (6) 0) (4) (4)),(11,I ((0:Int)+(1:Int))),(45,I ((0:Int)+(1:Int))),(44,.bool true),(44,.bool (decide ((0:Int)+(1:Int)<(↑(4):Int)))),(43,I ((0:Int)+(1:Int))),(51,I ((0:Int)+(1:Int))),(50,.ptr (.own (6) 0)),(49,.slice (.fa (8) 0 0) D0.length D0.length),(48,I (D0.length:Int)),(47,I 0),(46,.slice (.own (6) 0) (4) (4)),(11,I 0),(45,I 0),(44,.bool true),(44,.bool (decide ((0:Int)<(↑(4):Int)))),(43,I 0),(42,I (↑(4):Int)),(41,.slice (.own (6) 0) (4) (4)),(10,.ptr (.own (7) 0)),(40,.slice (.own (6) 0) (4) (4)),(39,I (↑[D0,D1,D2,D3].length:Int)),(38,.tl [D0,D1,D2,D3].length 1 (pthG [D0,D1,D2,D3])),(9,.ptr (.own (5) 0)),(37,I (D0.length:Int)),(36,.tl D0.length 1 (dG ([D0,D1,D2,D3].getD (Int.toNat (0:Int)) []))),(35,.tp [.tl D0.length 1 (dG ([D0,D1,D2,D3].getD (Int.toNat (0:Int)) []))]),(34,.tl [D0,D1,D2,D3].length 1 (pthG [D0,D1,D2,D3])),(8,.ptr (.own (4) 0)),(33,.ptr (.own (3) 0)),(32,.agg [.tl l.length 5 (stG l),.tl t.T.length 1 (dG t.T),I t.far,I t.least]),(31,.agg [.tl t.T.length 1 (dG t.T),I t.far,I t.least]),(30,.tl l.length 5 (stG l)),(26,.bool false),(26,.bool !okPaths [D0,D1,D2,D3]),(29,.bool !okPaths [D0,D1,D2,D3]),(28,.bool (okPaths [D0,D1,D2,D3])),(27,.tl [D0,D1,D2,D3].length 1 (pthG [D0,D1,D2,D3])),(21,.bool false),(21,.bool !okAll l t),(25,.bool !okAll l t),(24,.bool (okAll l t)),(23,.agg [.tl t.T.length 1 (dG t.T),I t.far,I t.least]),(22,.tl l.length 5 (stG l)),(7,I 0),(6,.nils),(5,.ptr (.own (2) 0)),(4,.ptr (.own (1) 0)),(0,stD l),(1,.agg (tsL t)),(2,pthD [D0,D1,D2,D3])] (VH.mk 16 (nsPs4.zip (BPs4 l D0.length M 0))) ((18,.nils)::dsPl.zip (VPs l t [D0,D1,D2,D3] D0.length 4 0 VV.nils 0))/\∃ (M_1:Mde),∃ (gO:Nat->List VV),FitP 0 (VH.mk (19) ((18,.vec 1 (fun (j:Nat)=>List.take (1) (List.drop (j*(1)) [.tl D0.length 1 (rowH l.length 0)])) (1) 26)::(17,.vec 1 (fun (j:Nat)=>List.take (1) (List.drop (j*(1)) [.tl D0.length 1 (rowH l.length 0)])) (1) 26)::(16,.gone)::(16::nsPs4).zip (VB.vec D0.length (rowH l.length 0) 1 23::BPs4 l D0.length M (0+D0.length)))) ((73,I 0)::(72,I (D0.length:Int))::(71,.slice (.fa 9 0 0) D0.length D0.length)::(18,.nils)::(17,.slice (.fa 9 0 0) D0.length D0.length)::(70,.slice (.fa 9 0 0) D0.length D0.length)::(69,.ptr (.own 6 (1)))::(68,.bool true)::(68,.bool (decide ((0:Int)+(1:Int)<(4:Int))))::(67,I ((0:Int)+(1:Int)))::(89,I ((0:Int)+(1:Int)))::(15,.sl (18) 1)::(88,.sl (18) 1)::(87,.sl (17) 1)::(86,.tl D0.length 1 (rowH l.length 0))::(85,.nils)::(18,.tl D0.length 1 (rowH l.length 0))::(18::dsPl).zip (VV.sl 16 D0.length::VPs l t [D0,D1,D2,D3] D0.length 4 0 VV.nils D0.length)) (VH.mk 19 ((18::nsPs4).zip (VB.vec 1 gO 1 26::BPs4 l D0.length M_1 (0+D0.length)))) ((18,.nils)::dsPl.zip (VPs l t [D0,D1,D2,D3] D0.length 4 1 (VV.sl 18 1) 0))/\∃ (M:Mde),∃ (gO_1:Nat->List VV),FitP 0 (VH.mk (21) ((18,.vec (1+1) (catG 1 gO fun (j:Nat)=>List.take (1) (List.drop (j*(1)) [.tl D0.length 1 (rowH l.length (0+D0.length))])) (1) 26)::(20,.vec 1 (fun (j:Nat)=>List.take (1) (List.drop (j*(1)) [.tl D0.length 1 (rowH l.length (0+D0.length))])) (1) 26)::(19,.gone)::(19::18::nsPs4).zip (VB.vec D0.length (rowH l.length (0+D0.length)) 1 23::.vec 1 gO 1 26::BPs4 l D0.length M_1 (0+D0.length+D0.length)))) ((73,I 0)::(72,I (D0.length:Int))::(71,.slice (.fa 10 0 0) D0.length D0.length)::(18,.nils)::(17,.slice (.fa 10 0 0) D0.length D0.length)::(70,.slice (.fa 10 0 0) D0.length D0.length)::(69,.ptr (.own 6 (2)))::(68,.bool true)::(68,.bool (decide ((1:Int)+(1:Int)<(4:Int))))::(67,I ((1:Int)+(1:Int)))::(89,I ((1:Int)+(1:Int)))::(15,.sl 18 (1+1))::(88,.sl 18 (1+1))::(87,.sl (20) 1)::(86,.tl D0.length 1 (rowH l.length (0+D0.length)))::(85,.sl 18 1)::(18,.tl D0.length 1 (rowH l.length (0+D0.length)))::(18::dsPl).zip (VV.sl 19 D0.length::VPs l t [D0,D1,D2,D3] D0.length 4 1 (VV.sl 18 1) D0.length)) (VH.mk 21 ((18::nsPs4).zip (VB.vec 2 gO_1 1 26::BPs4 l D0.length M (0+D0.length+D0.length)))) ((18,.nils)::dsPl.zip (VPs l t [D0,D1,D2,D3] D0.length 4 2 (VV.sl 18 2) 0))/\∃ (M_2:Mde),∃ (gO:Nat->List VV),FitP 0 (VH.mk (23) ((18,.vec (2+1) (catG 2 gO_1 fun (j:Nat)=>List.take (1) (List.drop (j*(1)) [.tl D0.length 1 (rowH l.length (0+D0.length+D0.length))])) (1) 26)::(22,.vec 1 (fun (j:Nat)=>List.take (1) (List.drop (j*(1)) [.tl D0.length 1 (rowH l.length (0+D0.length+D0.length))])) (1) 26)::(21,.gone)::(21::18::nsPs4).zip (VB.vec D0.length (rowH l.length (0+D0.length+D0.length)) 1 23::.vec 2 gO_1 1 26::BPs4 l D0.length M (0+D0.length+D0.length+D0.length)))) ((73,I 0)::(72,I (D0.length:Int))::(71,.slice (.fa 11 0 0) D0.length D0.length)::(18,.nils)::(17,.slice (.fa 11 0 0) D0.length D0.length)::(70,.slice (.fa 11 0 0) D0.length D0.length)::(69,.ptr (.own 6 (3)))::(68,.bool true)::(68,.bool (decide ((2:Int)+(1:Int)<(4:Int))))::(67,I ((2:Int)+(1:Int)))::(89,I ((2:Int)+(1:Int)))::(15,.sl 18 (2+1))::(88,.sl 18 (2+1))::(87,.sl (22) 1)::(86,.tl D0.length 1 (rowH l.length (0+D0.length+D0.length)))::(85,.sl 18 2)::(18,.tl D0.length 1 (rowH l.length (0+D0.length+D0.length)))::(18::dsPl).zip (VV.sl 21 D0.length::VPs l t [D0,D1,D2,D3] D0.length 4 2 (VV.sl 18 2) D0.length)) (VH.mk 23 ((18::nsPs4).zip (VB.vec 3 gO 1 26::BPs4 l D0.length M_2 (0+D0.length+D0.length+D0.length)))) ((18,.nils)::dsPl.zip (VPs l t [D0,D1,D2,D3] D0.length 4 3 (VV.sl 18 3) 0))/\Q (VRes.ret (VV.tup [.sl 18 (3+1),I 0])) (VH.mk (25) [(18,.vec (3+1) (catG 3 gO fun (j:Nat)=>List.take (1) (List.drop (j*(1)) [.tl D0.length 1 (rowH l.length (0+D0.length+D0.length+D0.length))])) (1) 26),(24,.vec 1 (fun (j:Nat)=>List.take (1) (List.drop (j*(1)) [.tl D0.length 1 (rowH l.length (0+D0.length+D0.length+D0.length))])) (1) 26),(23,.gone),(23,.vec D0.length (rowH l.length (0+D0.length+D0.length+D0.length)) 1 23),(18,.vec 3 gO 1 26),(0,.bun 7 (0+D0.length+D0.length+D0.length+D0.length) l.length (GM D0.length M_2) 3),(6,.cells [.slice (.fa 8 0 0) D0.length D0.length,.slice (.fa 9 0 0) D0.length D0.length,.slice (.fa 10 0 0) D0.length D0.length,.slice (.fa 11 0 0) D0.length D0.length] 76),(8,.fam [] (D0.length*6) (M_2 0) 80),(9,.fam [] (D0.length*6) (M_2 1) 80),(10,.fam [] (D0.length*6) (M_2 2) 80),(11,.fam [] (D0.length*6) (M_2 3) 80)])
 else False
 else False
 else False
 else False
 else False
 else False
 else False
 else False):=by kernel_rfl
section
variable {l:List Stk} {t:Tst} {P:List (List Int)} {Y:Nat}
theorem findRs4_ok {D0 D1 D2 D3:List Int} (cf:Cfg l t [D0,D1,D2,D3] Y) (k:Nat):SpOk Try.prog (findRs4 l t [D0,D1,D2,D3] Y k).1 (findRs4 l t [D0,D1,D2,D3] Y k).2:=by
 intro lock args h K hK
 simp only [findRs4] at hK
 split at hK
 ·rename_i nx bs
  obtain ⟨S',a,M,es,⟨rfl,rfl,rfl,rfl⟩,⟨rfl,hnx⟩,⟨e0,e1,e2,e3,e4,e5,e6,e7,e8,e9,e10,e11,e12,e13,e14,_⟩,⟨rfl,rfl,rfl⟩,hp,hK⟩:=hK
  obtain ⟨r,h',⟨b,s,hw,rfl,rfl⟩,_,hc⟩:=findR4_ok cf k 0 [.agg (I ((Y:Int) - k)::I S'::nL a),.ptr (.own 4 0),.ptr (.own 12 0),.ptr (.own 1 0),.ptr (.own 14 0)] ⟨15,nsB4.zip (BP4 l t [D0,D1,D2,D3] Y M es)⟩ (fun r h'=>∃ b s,PostF l t [D0,D1,D2,D3] Y k S' a M b s/\r=.ret (.bool b)/\h'=⟨15,(7,.fam [] (Y*6) (s.M 0) 80)::(8,.fam [] (Y*6) (s.M 1) 80)::(9,.fam [] (Y*6) (s.M 2) 80)::(10,.fam [] (Y*6) (s.M 3) 80)::(11,.map kS .bool s.es)::nsB4.zip (BP4 l t [D0,D1,D2,D3] Y M es)⟩)
   ⟨S',a,M,es,⟨rfl,rfl,rfl,rfl⟩,⟨rfl,Nat.le_refl _⟩,⟨rfl,rfl,rfl,rfl,rfl,rfl,rfl,rfl,rfl,rfl,rfl,rfl,rfl,rfl,rfl,trivial⟩,⟨rfl,rfl,rfl⟩,hp,fun b s h=>⟨b,s,h,rfl,rfl⟩⟩
  have:=calls_ren (P:=Try.prog) (h:=⟨nx,bs⟩) (h1:=⟨nx,(8,.fam [] (Y*6) (s.M 0) 80)::(9,.fam [] (Y*6) (s.M 1) 80)::(10,.fam [] (Y*6) (s.M 2) 80)::(11,.fam [] (Y*6) (s.M 3) 80)::(12,.map kS .bool s.es)::bs⟩) (fun n=>n+1) (fun _ _ _ _ h=>Nat.succ.inj h) hc (fun n hn=>by
  have hn:n<15:=hn
  match n,hn with
  | 0,_=>exact ⟨trivial,e0⟩
  | 1,_=>exact ⟨trivial,e1⟩
  | 2,_=>exact ⟨trivial,e2⟩
  | 3,_=>exact ⟨trivial,e3⟩
  | 4,_=>exact ⟨trivial,e4⟩
  | 5,_=>exact ⟨trivial,e5⟩
  | 6,_=>exact ⟨trivial,e6⟩
  | 7,_=>exact ⟨trivial,e7⟩
  | 8,_=>exact ⟨trivial,e8⟩
  | 9,_=>exact ⟨trivial,e9⟩
  | 10,_=>exact ⟨trivial,e10⟩
  | 11,_=>exact ⟨trivial,e11⟩
  | 12,_=>exact ⟨trivial,e12⟩
  | 13,_=>exact ⟨trivial,e13⟩
  | 14,_=>exact ⟨trivial,e14⟩
  | _+15,hn=>exact absurd hn (by omega)) (fun n hn=>by
  have hn:n<15:=hn
  match n,hn with
  | 0,_=>exact ⟨trivial,rfl,e0⟩
  | 1,_=>exact ⟨trivial,rfl,e1⟩
  | 2,_=>exact ⟨trivial,rfl,e2⟩
  | 3,_=>exact ⟨trivial,rfl,e3⟩
  | 4,_=>exact ⟨trivial,rfl,e4⟩
  | 5,_=>exact ⟨trivial,rfl,e5⟩
  | 6,_=>exact ⟨trivial,rfl,e6⟩
  | 7,_=>exact ⟨trivial,rfl,at_lt (show 8<nx by omega)⟩
  | 8,_=>exact ⟨trivial,rfl,at_lt (show 9<nx by omega)⟩
  | 9,_=>exact ⟨trivial,rfl,at_lt (show 10<nx by omega)⟩
  | 10,_=>exact ⟨trivial,rfl,at_lt (show 11<nx by omega)⟩
  | 11,_=>exact ⟨trivial,rfl,at_lt (show 12<nx by omega)⟩
  | 12,_=>exact ⟨trivial,rfl,e12⟩
  | 13,_=>exact ⟨trivial,rfl,e13⟩
  | 14,_=>exact ⟨trivial,rfl,e14⟩
  | _+15,hn=>exact absurd hn (by omega)) (fun q hq=>by
  have hq:∀ n,n<15->n+1 ≠ q:=fun n hn=>hq n hn
  rw [at_ne (hq 7 (by omega)),at_ne (hq 8 (by omega)),at_ne (hq 9 (by omega)),at_ne (hq 10 (by omega)),at_ne (hq 11 (by omega))]) (fun n hn=>by
  have hn:n<15:=hn
  match n,hn with
  | 0,_=>exact rfl
  | 1,_=>exact rfl
  | 2,_=>exact rfl
  | 3,_=>exact rfl
  | 4,_=>exact rfl
  | 5,_=>exact rfl
  | 6,_=>exact rfl
  | 7,_=>exact rfl
  | 8,_=>exact rfl
  | 9,_=>exact rfl
  | 10,_=>exact rfl
  | 11,_=>exact rfl
  | 12,_=>exact rfl
  | 13,_=>exact rfl
  | 14,_=>exact rfl
  | _+15,hn=>exact absurd hn (by omega)) rfl rfl
  exact ⟨_,_,hK b s hw,lock0 _ _,this⟩
 ·exact hK.elim
theorem csr40 {M:Mde} (hY:Y<=4) (hl6:l.length<=6):LSound Try.prog true (.block 5 (.loop (loopB 5 (bodyOf Try.prog 17)))) (ntOf Try.prog 17) (fun lock tt h K=>FitP lock h tt ⟨16,nsPs4.zip (BPs4 l Y M 0)⟩ ((18,.nils)::dsPl.zip (VPs l t P Y 4 0 .nils 0))/\K .normal ((18,.tl Y 1 (rowH l.length 0))::(18::dsPl).zip (.sl 16 Y::VPs l t P Y 4 0 .nils Y)) ⟨17,(16,.gone)::(16::nsPs4).zip (.vec Y (rowH l.length 0) 1 23::(BPs4 l Y M (0+Y)))⟩):=by
 have hb:0=0*Y:=by omega
 refine copy_row2 (n:=16) (ns:=nsPs4) (W:=fun y=>VPs l t P Y 4 0 .nils y) (B0:=(BPs4 l Y M 0)) (B1:=(BPs4 l Y M (0+Y))) rfl ?_ rfl
 refine loop_row hmix (noL_good (tab1 listO_ok)) (un:=10) (ds:=18::dsPl) (ns:=16::nsPs4) (nx:=17) (fun y:Nat=>.sl 16 y::VPs l t P Y 4 0 .nils y) (fun y=>.vec y (rowH l.length 0) 1 23::(BPs4 l Y M (0+y))) (fun y=>y<=Y) (fun y=>Y - y) (fun _ ex vs bs=>ex=.exit 5/\bs=.vec Y (rowH l.length 0) 1 23::(BPs4 l Y M (0+Y))/\vs=.sl 16 Y::VPs l t P Y 4 0 .nils Y) noL_ok ?_ ?_
 ·rintro y h0
  refine cast (cs40_ev l t P Y y _ M _ _ _).symm ?_
  refine cond_d (fun hy=>cond_dk ⟨by omega,by omega⟩ (cond_dk (by omega) ⟨fun j=>M 0 (y*6+j),l.length,0+y,GM Y M,g6_row,rfl,hl6,rfl,rfl,cond_k (Nat.beq_refl _) (cond_k (roomC y (by omega)) (cond_r (by omega) ⟨y+1,by show y+1<=Y; omega,by dsimp only; omega,rfl,⟨⟨rfl,rfl,rfl,fun j hj=>cat_rowH hj⟩,fit_gm hb (by omega),fitBs_refl _⟩,fun _ _ _ h=>h⟩))⟩)) (fun hy=>?_)
  obtain rfl:y=Y:=by omega
  exact ⟨rfl,rfl,rfl⟩
 ·rintro lock tt h K ⟨hf,k1⟩
  refine ⟨0,hf,Nat.zero_le _,?_⟩
  rintro ex vs bs ⟨rfl,rfl,rfl⟩
  exact k1
theorem csr41 {M:Mde} {gO:Nat->List VV} (hY:Y<=4) (hl6:l.length<=6):LSound Try.prog true (.block 5 (.loop (loopB 5 (bodyOf Try.prog 17)))) (ntOf Try.prog 17) (fun lock tt h K=>FitP lock h tt ⟨19,(18::nsPs4).zip (.vec 1 gO 1 26::(BPs4 l Y M (0+Y)))⟩ ((18,.nils)::dsPl.zip (VPs l t P Y 4 1 (.sl 18 1) 0))/\K .normal ((18,.tl Y 1 (rowH l.length (0+Y)))::(18::dsPl).zip (.sl 19 Y::VPs l t P Y 4 1 (.sl 18 1) Y)) ⟨20,(19,.gone)::(19::(18::nsPs4)).zip (.vec Y (rowH l.length (0+Y)) 1 23::(.vec 1 gO 1 26::(BPs4 l Y M (0+Y+Y))))⟩):=by
 have hb:(0+Y)=1*Y:=by omega
 refine copy_row2 (n:=19) (ns:=(18::nsPs4)) (W:=fun y=>VPs l t P Y 4 1 (.sl 18 1) y) (B0:=(.vec 1 gO 1 26::(BPs4 l Y M (0+Y)))) (B1:=(.vec 1 gO 1 26::(BPs4 l Y M (0+Y+Y)))) rfl ?_ rfl
 refine loop_row hmix (noL_good (tab1 listO_ok)) (un:=10) (ds:=18::dsPl) (ns:=19::(18::nsPs4)) (nx:=20) (fun y:Nat=>.sl 19 y::VPs l t P Y 4 1 (.sl 18 1) y) (fun y=>.vec y (rowH l.length (0+Y)) 1 23::(.vec 1 gO 1 26::(BPs4 l Y M ((0+Y)+y)))) (fun y=>y<=Y) (fun y=>Y - y) (fun _ ex vs bs=>ex=.exit 5/\bs=.vec Y (rowH l.length (0+Y)) 1 23::(.vec 1 gO 1 26::(BPs4 l Y M (0+Y+Y)))/\vs=.sl 19 Y::VPs l t P Y 4 1 (.sl 18 1) Y) noL_ok ?_ ?_
 ·rintro y h0
  refine cast (cs41_ev l t P Y y _ M _ _ _ _).symm ?_
  refine cond_d (fun hy=>cond_dk ⟨by omega,by omega⟩ (cond_dk (by omega) ⟨fun j=>M 1 (y*6+j),l.length,(0+Y)+y,GM Y M,g6_row,rfl,hl6,rfl,rfl,cond_k (Nat.beq_refl _) (cond_k (roomC y (by omega)) (cond_r (by omega) ⟨y+1,by show y+1<=Y; omega,by dsimp only; omega,rfl,⟨⟨rfl,rfl,rfl,fun j hj=>cat_rowH hj⟩,VB.fit_refl _,fit_gm hb (by omega),fitBs_refl _⟩,fun _ _ _ h=>h⟩))⟩)) (fun hy=>?_)
  obtain rfl:y=Y:=by omega
  exact ⟨rfl,rfl,rfl⟩
 ·rintro lock tt h K ⟨hf,k1⟩
  refine ⟨0,hf,Nat.zero_le _,?_⟩
  rintro ex vs bs ⟨rfl,rfl,rfl⟩
  exact k1
theorem csr42 {M:Mde} {gO:Nat->List VV} (hY:Y<=4) (hl6:l.length<=6):LSound Try.prog true (.block 5 (.loop (loopB 5 (bodyOf Try.prog 17)))) (ntOf Try.prog 17) (fun lock tt h K=>FitP lock h tt ⟨21,(18::nsPs4).zip (.vec 2 gO 1 26::(BPs4 l Y M (0+Y+Y)))⟩ ((18,.nils)::dsPl.zip (VPs l t P Y 4 2 (.sl 18 2) 0))/\K .normal ((18,.tl Y 1 (rowH l.length (0+Y+Y)))::(18::dsPl).zip (.sl 21 Y::VPs l t P Y 4 2 (.sl 18 2) Y)) ⟨22,(21,.gone)::(21::(18::nsPs4)).zip (.vec Y (rowH l.length (0+Y+Y)) 1 23::(.vec 2 gO 1 26::(BPs4 l Y M (0+Y+Y+Y))))⟩):=by
 have hb:(0+Y+Y)=2*Y:=by omega
 refine copy_row2 (n:=21) (ns:=(18::nsPs4)) (W:=fun y=>VPs l t P Y 4 2 (.sl 18 2) y) (B0:=(.vec 2 gO 1 26::(BPs4 l Y M (0+Y+Y)))) (B1:=(.vec 2 gO 1 26::(BPs4 l Y M (0+Y+Y+Y)))) rfl ?_ rfl
 refine loop_row hmix (noL_good (tab1 listO_ok)) (un:=10) (ds:=18::dsPl) (ns:=21::(18::nsPs4)) (nx:=22) (fun y:Nat=>.sl 21 y::VPs l t P Y 4 2 (.sl 18 2) y) (fun y=>.vec y (rowH l.length (0+Y+Y)) 1 23::(.vec 2 gO 1 26::(BPs4 l Y M ((0+Y+Y)+y)))) (fun y=>y<=Y) (fun y=>Y - y) (fun _ ex vs bs=>ex=.exit 5/\bs=.vec Y (rowH l.length (0+Y+Y)) 1 23::(.vec 2 gO 1 26::(BPs4 l Y M (0+Y+Y+Y)))/\vs=.sl 21 Y::VPs l t P Y 4 2 (.sl 18 2) Y) noL_ok ?_ ?_
 ·rintro y h0
  refine cast (cs42_ev l t P Y y _ M _ _ _ _).symm ?_
  refine cond_d (fun hy=>cond_dk ⟨by omega,by omega⟩ (cond_dk (by omega) ⟨fun j=>M 2 (y*6+j),l.length,(0+Y+Y)+y,GM Y M,g6_row,rfl,hl6,rfl,rfl,cond_k (Nat.beq_refl _) (cond_k (roomC y (by omega)) (cond_r (by omega) ⟨y+1,by show y+1<=Y; omega,by dsimp only; omega,rfl,⟨⟨rfl,rfl,rfl,fun j hj=>cat_rowH hj⟩,VB.fit_refl _,fit_gm hb (by omega),fitBs_refl _⟩,fun _ _ _ h=>h⟩))⟩)) (fun hy=>?_)
  obtain rfl:y=Y:=by omega
  exact ⟨rfl,rfl,rfl⟩
 ·rintro lock tt h K ⟨hf,k1⟩
  refine ⟨0,hf,Nat.zero_le _,?_⟩
  rintro ex vs bs ⟨rfl,rfl,rfl⟩
  exact k1
theorem csr43 {M:Mde} {gO:Nat->List VV} (hY:Y<=4) (hl6:l.length<=6):LSound Try.prog true (.block 5 (.loop (loopB 5 (bodyOf Try.prog 17)))) (ntOf Try.prog 17) (fun lock tt h K=>FitP lock h tt ⟨23,(18::nsPs4).zip (.vec 3 gO 1 26::(BPs4 l Y M (0+Y+Y+Y)))⟩ ((18,.nils)::dsPl.zip (VPs l t P Y 4 3 (.sl 18 3) 0))/\K .normal ((18,.tl Y 1 (rowH l.length (0+Y+Y+Y)))::(18::dsPl).zip (.sl 23 Y::VPs l t P Y 4 3 (.sl 18 3) Y)) ⟨24,(23,.gone)::(23::(18::nsPs4)).zip (.vec Y (rowH l.length (0+Y+Y+Y)) 1 23::(.vec 3 gO 1 26::(BPs4 l Y M (0+Y+Y+Y+Y))))⟩):=by
 have hb:(0+Y+Y+Y)=3*Y:=by omega
 refine copy_row2 (n:=23) (ns:=(18::nsPs4)) (W:=fun y=>VPs l t P Y 4 3 (.sl 18 3) y) (B0:=(.vec 3 gO 1 26::(BPs4 l Y M (0+Y+Y+Y)))) (B1:=(.vec 3 gO 1 26::(BPs4 l Y M (0+Y+Y+Y+Y)))) rfl ?_ rfl
 refine loop_row hmix (noL_good (tab1 listO_ok)) (un:=10) (ds:=18::dsPl) (ns:=23::(18::nsPs4)) (nx:=24) (fun y:Nat=>.sl 23 y::VPs l t P Y 4 3 (.sl 18 3) y) (fun y=>.vec y (rowH l.length (0+Y+Y+Y)) 1 23::(.vec 3 gO 1 26::(BPs4 l Y M ((0+Y+Y+Y)+y)))) (fun y=>y<=Y) (fun y=>Y - y) (fun _ ex vs bs=>ex=.exit 5/\bs=.vec Y (rowH l.length (0+Y+Y+Y)) 1 23::(.vec 3 gO 1 26::(BPs4 l Y M (0+Y+Y+Y+Y)))/\vs=.sl 23 Y::VPs l t P Y 4 3 (.sl 18 3) Y) noL_ok ?_ ?_
 ·rintro y h0
  refine cast (cs43_ev l t P Y y _ M _ _ _ _).symm ?_
  refine cond_d (fun hy=>cond_dk ⟨by omega,by omega⟩ (cond_dk (by omega) ⟨fun j=>M 3 (y*6+j),l.length,(0+Y+Y+Y)+y,GM Y M,g6_row,rfl,hl6,rfl,rfl,cond_k (Nat.beq_refl _) (cond_k (roomC y (by omega)) (cond_r (by omega) ⟨y+1,by show y+1<=Y; omega,by dsimp only; omega,rfl,⟨⟨rfl,rfl,rfl,fun j hj=>cat_rowH hj⟩,VB.fit_refl _,fit_gm hb (by omega),fitBs_refl _⟩,fun _ _ _ h=>h⟩))⟩)) (fun hy=>?_)
  obtain rfl:y=Y:=by omega
  exact ⟨rfl,rfl,rfl⟩
 ·rintro lock tt h K ⟨hf,k1⟩
  refine ⟨0,hf,Nat.zero_le _,?_⟩
  rintro ex vs bs ⟨rfl,rfl,rfl⟩
  exact k1
theorem lCs4_ok (hY:Y<=4) (hl6:l.length<=6):LSound Try.prog true (.block 5 (.loop (loopB 5 (bodyOf Try.prog 17)))) (ntOf Try.prog 17) (lCs4 l t P Y):=by
 intro lock tt h K hK
 unfold lCs4 at hK
 split at hK
 ·obtain ⟨M,hf,k1⟩:=hK
  exact csr40 hY hl6 lock tt h K ⟨hf,k1⟩
 ·obtain ⟨M,gO,hf,k1⟩:=hK
  exact csr41 hY hl6 lock tt h K ⟨hf,k1⟩
 ·obtain ⟨M,gO,hf,k1⟩:=hK
  exact csr42 hY hl6 lock tt h K ⟨hf,k1⟩
 ·obtain ⟨M,gO,hf,k1⟩:=hK
  exact csr43 hY hl6 lock tt h K ⟨hf,k1⟩
 ·exact hK.elim
end
theorem plo4 {l:List Stk} {t:Tst} {D0 D1 D2 D3:List Int} {G:Nat->Nat->Int} (h1:okAll l t=true) (h2:okPaths [D0,D1,D2,D3]=true) (cf:Cfg l t [D0,D1,D2,D3] D0.length) (hpb:pthB [D0,D1,D2,D3]):∃ r h',CallsV Try.prog 17 [stD l,.agg (tsL t),pthD [D0,D1,D2,D3]] ⟨1,[(0,.bun 7 0 l.length G 3)]⟩ r h'/\PlnO l t [D0,D1,D2,D3] D0.length r h':=by
 have hl6:=cf.hl.1
 have hY:=cf.Y4
 have hrm:roomB ((([D0,D1,D2,D3].getD (Int.toNat 0) []).length:Int)).toNat 48=true:=roomY _ hY
 have htab:∀ f T,tabS [asR l t,casksR l t,apR [D0,D1,D2,D3],findRs4 l t [D0,D1,D2,D3] D0.length D0.length,listO] f=some T->SpOk Try.prog f T:=tab_ok _ (fun x hx=>by
  simp only [List.mem_cons,List.not_mem_nil,or_false] at hx
  rcases hx with rfl | rfl | rfl | rfl | rfl
  ·exact asR_ok l t
  ·exact casksR_ok l t
  ·exact apR_ok _
  ·exact findRs4_ok cf D0.length
  ·exact listO_ok)
 have hall:LoopsOk Try.prog 17 [(5,lCs4 l t [D0,D1,D2,D3] D0.length)]:=fun x hx=>by
  simp only [List.mem_singleton] at hx
  subst hx
  exact ⟨by kernel_rfl,lCs4_ok hY hl6⟩
 obtain ⟨r,h',hk,hc⟩:=of_callN (callL_good hmix htab hall (un:=10) 20) (f:=17) (args:=[stD l,.agg (tsL t),pthD [D0,D1,D2,D3]]) (h:=⟨1,[(0,.bun 7 0 l.length G 3)]⟩) (K:=PlnO l t [D0,D1,D2,D3] D0.length) (by
  refine cast (ps4_ev l t D0 D1 D2 D3 G _).symm ⟨isD_l,⟨⟨rfl,rfl,fun _ _=>rfl⟩,⟨rfl,rfl⟩,⟨rfl,rfl⟩,trivial⟩,cond_i (fun h=>by rw [h1] at h; cases h) (fun _=>⟨⟨rfl,rfl,fun _ _=>rfl⟩,hpb,cond_i (fun h=>by rw [h2] at h; cases h) (fun _=>?_)⟩)⟩
  refine cond_dk ⟨by omega,rfl⟩ (cond_k hrm (cond_dk ⟨by omega,rfl⟩ (cond_k hrm (cond_dk ⟨by omega,rfl⟩ (cond_k hrm (cond_dk ⟨by omega,rfl⟩ (cond_k hrm (⟨hcO rfl,hl6,15,mostF l,fun _ _=>0,[],⟨rfl,rfl,rfl,rfl⟩,⟨rfl,Nat.le_refl _⟩,⟨rfl,rfl,rfl,rfl,rfl,rfl,rfl,rfl,rfl,rfl,rfl,rfl,rfl,rfl,rfl,trivial⟩,⟨by omega,rfl,rfl⟩,⟨Nat.le_refl _,(by show 15<2 ^ 4; decide),most_left cf.hl,lost_nil⟩,?_⟩))))))))
  rintro b s ⟨p1,p2,p3,p4⟩
  refine cond_i (fun g=>?_) (fun g=>?_)
  ·have g:b=false:=by simpa using g
   subst g
   refine .inl ⟨?_,rfl,_,rfl⟩
   cases hx:planF l t [D0,D1,D2,D3] D0.length D0.length 15 (mostF l) with
   | none=>exact hx
   | some x=>rw [hx] at p1; cases p1
  ·have g:b=true:=by simpa using g
   subst g
   obtain ⟨x,hx⟩:∃ x,planF l t [D0,D1,D2,D3] D0.length D0.length 15 (mostF l)=some x:=by
    cases hx:planF l t [D0,D1,D2,D3] D0.length D0.length 15 (mostF l) with
    | none=>rw [hx] at p1; cases p1
    | some x=>exact ⟨x,rfl⟩
   refine ⟨s.M,⟨⟨rfl,rfl,fit_g0,rfl,⟨rfl,rfl,rfl,fun _ _=>rfl⟩,⟨rfl,rfl,rfl,fun _ _=>rfl⟩,⟨rfl,rfl,rfl,fun _ _=>rfl⟩,⟨rfl,rfl,rfl,fun _ _=>rfl⟩,trivial⟩,rfl,rfl,rfl,rfl,rfl,rfl,rfl,rfl,rfl,rfl,rfl,rfl,rfl,rfl,rfl,trivial⟩,s.M,_,⟨⟨rfl,rfl,VB.fit_refl _,VB.fit_refl _,VB.fit_refl _,VB.fit_refl _,VB.fit_refl _,VB.fit_refl _,VB.fit_refl _,trivial⟩,rfl,rfl,rfl,rfl,rfl,rfl,rfl,rfl,rfl,rfl,rfl,rfl,rfl,rfl,rfl,trivial⟩,s.M,_,⟨⟨rfl,rfl,VB.fit_refl _,VB.fit_refl _,VB.fit_refl _,VB.fit_refl _,VB.fit_refl _,VB.fit_refl _,VB.fit_refl _,trivial⟩,rfl,rfl,rfl,rfl,rfl,rfl,rfl,rfl,rfl,rfl,rfl,rfl,rfl,rfl,rfl,trivial⟩,s.M,_,⟨⟨rfl,rfl,VB.fit_refl _,VB.fit_refl _,VB.fit_refl _,VB.fit_refl _,VB.fit_refl _,VB.fit_refl _,VB.fit_refl _,trivial⟩,rfl,rfl,rfl,rfl,rfl,rfl,rfl,rfl,rfl,rfl,rfl,rfl,rfl,rfl,rfl,trivial⟩,.inr ⟨x,18,_,_,_,hx,rfl,rfl,fun i hi=>?_,rfl,fun i y k hi hy hk=>?_⟩⟩
   ·have hi:i<4:=hi
    match i,hi with
    | 0,_=>exact rfl
    | 1,_=>exact rfl
    | 2,_=>exact rfl
    | 3,_=>exact rfl
    | _+4,hi=>exact absurd hi (by omega)
   ·have hi:i<4:=hi
    match i,hi with
    | 0,_=>exact (gm_row (bI_mul _ 0) hy k).trans (p4 x hx 0 y k (by omega) rfl (by omega) hy)
    | 1,_=>exact (gm_row (bI_mul _ 1) hy k).trans (p4 x hx 1 y k (by omega) rfl (by omega) hy)
    | 2,_=>exact (gm_row (bI_mul _ 2) hy k).trans (p4 x hx 2 y k (by omega) rfl (by omega) hy)
    | 3,_=>exact (gm_row (bI_mul _ 3) hy k).trans (p4 x hx 3 y k (by omega) rfl (by omega) hy)
    | _+4,hi=>exact absurd hi (by omega))
 exact ⟨r,h',hc,hk⟩
section
variable {l:List Stk} {t:Tst} {p:List (List Int)} {m:Int}
theorem paths_of (h:okPaths p=true):(1<=p.length/\p.length<=4)/\(1<=(p.getD 0 []).length/\(p.getD 0 []).length<=4)/\(∀ i,i<p.length->(p.getD i []).length=(p.getD 0 []).length)/\ndB p:=by
 unfold okPaths at h
 simp only [Bool.and_eq_true,decide_eq_true_eq,Bool.not_eq_true'] at h
 obtain ⟨⟨h1,h2⟩,h3⟩:=h
 unfold anyPt at h3
 rw [List.any_eq_false] at h3
 have h4:∀ i,i<p.length->(p.getD i []).length=(p.getD 0 []).length/\anyNd (p.getD i [])=false:=fun i hi=>by
  have:=h3 i (List.mem_range.2 hi)
  unfold qPt okPt at this
  simpa using this
 refine ⟨h1,h2,fun i hi=>(h4 i hi).1,fun i j=>?_⟩
 by_cases hi:i<p.length
 ·have h5:=(h4 i hi).2
  by_cases hj:j<(p.getD i []).length
  ·unfold anyNd at h5
   rw [List.any_eq_false] at h5
   have:=h5 j (List.mem_range.2 hj)
   unfold qNd okW at this
   simpa using this
  ·rw [List.getD_eq_getElem?_getD (l:=p.getD i []),List.getElem?_eq_none (by omega)]
   exact ⟨by decide,by decide⟩
 ·rw [List.getD_eq_getElem?_getD (l:=p),List.getElem?_eq_none (by omega)]
  exact ⟨by simp,by simp⟩
theorem cfg_of (ho:okAll l t=true) (h:okPaths p=true):Cfg l t p (p.getD 0 []).length:=by
 obtain ⟨hl,hp,ht,_⟩:=okAll_l ho
 obtain ⟨h1,h2,h3,h4⟩:=paths_of h
 exact ⟨hl,hp,okT_tB ht,h2.2,h1.2,h3,h4⟩
theorem pthB_of (h:okPaths p=true):pthB p:=by
 obtain ⟨h1,h2,h3,_⟩:=paths_of h
 refine ⟨⟨h1.1,by omega⟩,fun i=>?_⟩
 by_cases hi:i<p.length
 ·rw [h3 i hi]; omega
 ·rw [List.getD_eq_getElem?_getD (l:=p),List.getElem?_eq_none (by omega)]
  exact Nat.zero_le _
end
end Go.Sx.Bln
namespace Go.Sx
open Go RowKit
def Rn.nor (R:Rn):Rn:=⟨R.blk,R.arr,R.str,R.vec,fun k=>match k with | .blk b=>R.frz (.blk b) | .reg _ _=>none⟩
def celW (w:World) (b:Nat):Option (List Value):=match w.heap[b]? with | some (.cells cur _ _)=>some cur.toList | _=>none
section
variable {P:Program}
theorem calls_unbun {f:FuncId} {args:List VV} {v v2:VV} {h1:VH} {t C r:Nat} {g0 g:Nat->Nat->Int} {te te':TypeId} (hs:CallsV P f args ⟨1,[(0,.bun t 0 C g0 te)]⟩ (.ret v) h1) (h0:h1.at 0=.bun t r C g te')
  (ha:∀ R xs,VRelL R args xs->VRelL R.nor args xs)
  (hv:∀ R R' x,(∀ b xs,R.frz (.blk b)=some xs->R'.frz (.blk b)=some xs)->(∀ j x,j<r->VRel R.no.no (.hs t j C) x->VRel R'.no.no (.tl C 1 fun k=>[.int .i64 (g j k)]) x)->VRel R v x->VRel R' v2 x) :
  CallsV P f args ⟨0,[]⟩ (.ret v2) ⟨0,[]⟩:=by
 classical
 intro B R w xs em hx
 have hfree:∀ n,(VH.mk 0 []).at n=.free:=fun n=>at_ge (Nat.not_lt_zero n)
 have hat:∀ n,(VH.mk 1 [(0,VB.bun t 0 C g0 te)]).at n=.bun t 0 C g0 te/\n=0 ∨ (VH.mk 1 [(0,VB.bun t 0 C g0 te)]).at n=.free:=fun n=>by
  by_cases hn:n=0
  ·subst hn; exact .inl ⟨rfl,rfl⟩
  ·exact .inr (at_ge (by show ¬ n<1; omega))
 have how:∀ n b,¬ R.nor.ow n ((VH.mk 1 [(0,VB.bun t 0 C g0 te)]).at n) b:=fun n b hb=>by
  rcases hat n with ⟨h1,_⟩ | h1
  ·rw [h1] at hb
   obtain ⟨j,_,_,hj,_⟩:=hb
   exact absurd hj (Nat.not_lt_zero j)
  ·rw [h1] at hb; cases hb
 have only:∀ n b,(VH.mk 1 [(0,VB.bun t 0 C g0 te)]).at n=b->(∀ t r C g te,b ≠ .bun t r C g te)->b=.free:=fun n b hn hb=>by
  rcases hat n with ⟨h1,_⟩ | h1
  ·rw [h1] at hn; exact (hb _ _ _ _ _ hn.symm).elim
  ·rw [h1] at hn; exact hn.symm
 have e0:Emb B R.nor (VH.mk 1 [(0,VB.bun t 0 C g0 te)]).at w:=by
  refine ⟨em.base,fun n cs t hn=>?_,fun n k b g1 g2=>(how n b g1).elim,fun n s ok g hn=>?_,fun n hn=>em.fresh n (hfree n),fun n st pd t m ps ai bd hn=>?_,fun n L g s t hn=>?_,fun n hn L=>em.fvec n (hfree n) L,fun n ks vk es hn=>?_,fun n K r C g t te hn=>?_,fun n t1 r1 C1 g1 te1 hn=>?_,fun b ys hb'=>⟨(em.frz b ys hb').1,fun n=>how n b,(em.frz b ys hb').2.2⟩⟩
  ·have:=only n _ rfl (fun t r C g te h=>by rw [h] at hn; simp at hn)
   rw [this] at hn; simp at hn
  ·cases only n _ hn (by simp)
  ·cases only n _ hn (by simp)
  ·cases only n _ hn (by simp)
  ·cases only n _ hn (by simp)
  ·cases only n _ hn (by simp)
  ·rcases hat n with ⟨h1,rfl⟩ | h1
   ·rw [h1] at hn
    cases hn
    exact ⟨⟨fun i hi=>absurd hi (Nat.not_lt_zero i),fun i _ _ _ _ _ _ hi=>absurd hi (Nat.not_lt_zero i),fun _ _=>rfl⟩,fun m _ _ _ _ hm=>by
     rcases hat m with ⟨_,h2⟩ | h2
     ·exact h2
     ·rw [h2] at hm; cases hm⟩
   ·rw [h1] at hn; cases hn
 refine (hs B R.nor w xs e0 (ha R xs hx)).mono ?_
 rintro e w' ⟨R1,n1,e1,x,hx1,he⟩
 have hrow:=(e1.bun 0 _ _ _ _ _ h0).1.rows
 let R':Rn:=⟨R.blk,R.arr,R.str,R.vec,fun k=>match k with | .reg t j=>R.frz (.reg t j) | .blk b=>if R1.ow 0 (h1.at 0) b then celW w' b else R1.frz (.blk b)⟩
 have hkeep:∀ b ys,R1.frz (.blk b)=some ys->R'.frz (.blk b)=some ys:=fun b ys h=>(if_neg ((e1.frz b ys h).2.1 0)).trans h
 have hel:∀ b,¬ R1.ow 0 (h1.at 0) b->R'.frz (.blk b)=R1.frz (.blk b):=fun b h=>if_neg h
 have hin:∀ b,R1.ow 0 (h1.at 0) b->R'.frz (.blk b)=celW w' b:=fun b h=>if_pos h
 refine ⟨R',⟨fun n hn=>hn,fun _ _=>rfl,rfl,rfl,fun _ _ _ h=>h,fun n L v k1 k2=>(by rw [show R'.vec n L=R.vec n L from rfl,k1] at k2; cases k2),fun n L hn=>.inl (hfree n),fun n b hb=>(by rw [hfree n] at hb; cases hb),n1.size,fun b hb _=>n1.frame b hb (fun n=>how n b),n1.os,n1.tape,n1.output,fun k ys hk=>?_,fun b ys hb=>?_,⟨fun _ _ _ h=>.inl h,fun n t r C g te h=>by rw [hfree n] at h; cases h⟩⟩,
  ⟨Nat.le_trans em.base n1.size,fun n cs t hn=>(by rw [hfree n] at hn; simp at hn),fun n k b g1 g2=>(by rw [hfree n] at g1; cases g1),fun n s ok g hn=>(by rw [hfree n] at hn; cases hn),fun n hn=>em.fresh n hn,fun n st pd t m ps ai bd hn=>(by rw [hfree n] at hn; cases hn),fun n L g s t hn=>(by rw [hfree n] at hn; cases hn),fun n hn L=>em.fvec n hn L,fun n ks vk es hn=>(by rw [hfree n] at hn; cases hn),fun n K r C g t te hn=>(by rw [hfree n] at hn; cases hn),fun n t r C g te hn=>(by rw [hfree n] at hn; cases hn),fun b ys hb=>?_⟩,x,hv R1 R' x hkeep (fun j y hj hy=>?_) hx1,he⟩
 ·cases k with
  | blk b=>exact hkeep b ys (n1.fmono (.blk b) ys hk)
  | reg t j=>exact hk
 ·by_cases h:R1.ow 0 (h1.at 0) b
  ·exact (n1.own 0 b h).elim (fun ⟨n,hn⟩=>(how n b hn).elim) (fun h=>.inr (.inr h))
  ·rw [hel b h] at hb
   rcases n1.fnew b ys hb with k | ⟨n,k⟩ | k
   ·exact .inl k
   ·exact (how n b k).elim
   ·exact .inr (.inr k)
 ·refine ⟨?_,fun n hn=>(by rw [hfree n] at hn; cases hn),?_⟩ <;> by_cases h:R1.ow 0 (h1.at 0) b
  ·exact e1.lt h
  ·rw [hel b h] at hb
   exact (e1.frz b ys hb).1
  ·rw [hin b h] at hb
   unfold celW at hb
   split at hb
   ·rename_i cur _ _ hc
    cases hb
    intro k x hx
    simpa [World.cell?,hc] using hx
   ·cases hb
  ·rw [hel b h] at hb
   exact (e1.frz b ys hb).2.2
 ·obtain ⟨ys,q1,q2,a,c,rfl⟩:=hy
  obtain ⟨ys',v',zs,p1,p2,p3,p4⟩:=hrow j hj
  have q1:R1.frz (.reg t j)=some ys:=q1
  rw [p1] at q1
  cases q1
  rw [p2] at q2
  cases q2
  rcases p3.2 with ⟨k1,k2⟩ | ⟨b,cap,cur,k1,k2,k3,k4,k5,k6,k7⟩
  ·subst k2
   cases k1
   exact ⟨none,0,rfl,⟨Nat.le_refl _,fun _=>rfl⟩,fun i hi=>absurd hi (Nat.not_lt_zero i)⟩
  ·cases k1
   have hb:R1.ow 0 (h1.at 0) b:=by rw [h0]; exact ⟨j,_,_,hj,p1,p2,rfl⟩
   have hf:R'.frz (.blk b)=some cur.toList:=by rw [hin b hb]; unfold celW; rw [k3]
   refine ⟨_,_,rfl,⟨k4,fun h=>by cases h⟩,fun i hi=>⟨b,0,cur.toList,rfl,hf,?_,rfl,?_⟩⟩
   ·rw [Array.length_toList,k6]; omega
   ·have k8:=p4 i hi
    rw [<- k7,List.getElem?_take,if_pos (by omega)] at k8
    refine ⟨_,[],rfl,rfl,?_⟩
    rw [Nat.zero_add,Nat.mul_one]
    have hlt:i<cur.toList.length:=by rw [Array.length_toList,k6]; omega
    rw [List.getElem?_eq_getElem hlt] at k8
    rw [List.drop_eq_getElem_cons hlt]
    have k9:cur.toList[i]=.int .i64 (g j i):=by injection k8
    rw [k9]; rfl
theorem tl_tell {R R':Rn} {L s:Nat} {g g':Nat->List VV} (hk:∀ b xs,R.frz (.blk b)=some xs->R'.frz (.blk b)=some xs) (h:∀ i,i<L->((g i).all VV.one=true->(g' i).all VV.one=true)/\∀ xs,VRelL R.no (g i) xs->VRelL R'.no (g' i) xs) {x:Value} (hx:VRel R (.tl L s g) x):VRel R' (.tl L s g') x:=by
 obtain ⟨p,cap,h1,h2,h3⟩:=hx
 refine ⟨p,cap,h1,h2,fun i hi=>?_⟩
 obtain ⟨b,o,xs,g1,g2,g3,g4,g5⟩:=h3 i hi
 exact ⟨b,o,xs,g1,hk _ _ g2,g3,(h i hi).1 g4,(h i hi).2 _ g5⟩
end
end Go.Sx
namespace Go.Sx.Bln
open Go Go.Sx Go.Proofs
set_option maxRecDepth 1000000
def XG (Y:Nat) (x:Rsl):Nat->Nat->Int:=fun r k=>x (r / Y) (r % Y) k
def plnH (C P Y:Nat):VV:=.tl P 1 (fun i=>[.tl Y 1 (rowH C (i*Y))])
section
variable {l:List Stk} {t:Tst} {p:List (List Int)} {x:Rsl} {h:VH} {G:Nat->Nat->Int}
def Nh (v:VV):Prop:=∀ (R R':Rn) (x:Value),(∀ b xs,R.frz (.blk b)=some xs->R'.frz (.blk b)=some xs)->VRel R v x->VRel R' v x
theorem nh_L:∀ {cs:List VV},(∀ v ∈ cs,Nh v)->∀ (R R':Rn) (xs:List Value),(∀ b xs,R.frz (.blk b)=some xs->R'.frz (.blk b)=some xs)->VRelL R cs xs->VRelL R' cs xs
 | [],_,_,_,_,_,hx=>hx
 | _::_,h,R,R',_,hk,⟨_,_,h1,h2,e⟩=>⟨_,_,h _ List.mem_cons_self R R' _ hk h1,nh_L (fun v hv=>h v (List.mem_cons_of_mem _ hv)) R R' _ hk h2,e⟩
theorem nh_tl {L s:Nat} {g:Nat->List VV} (h:∀ i,∀ v ∈ g i,Nh v):Nh (.tl L s g):=fun R R' _ hk hx=>tl_tell hk (fun i _=>⟨id,fun xs hx=>nh_L (h i) R.no R'.no xs hk hx⟩) hx
theorem nh_I (n:Int):Nh (I n):=fun _ _ _ _ hx=>hx
theorem nh_in (D:List Int):Nh (inD D):=nh_tl (fun i v hv=>by
 cases List.mem_singleton.1 hv
 exact nh_I _)
theorem nh_st (l:List Stk):Nh (stD l):=nh_tl (fun i v hv=>by
 simp only [stG,stL,List.mem_cons,List.not_mem_nil,or_false] at hv
 rcases hv with rfl | rfl | rfl | rfl | rfl
 ·exact nh_I _
 ·exact nh_I _
 ·exact nh_I _
 ·exact nh_I _
 ·refine nh_tl (fun j v hv=>?_)
  simp only [spG,List.mem_cons,List.not_mem_nil,or_false] at hv
  rcases hv with rfl | rfl
  ·exact nh_I _
  ·exact nh_I _)
theorem nh_ts (t:Tst):Nh (.agg (tsL t)):=fun R R' x hk hx=>by
 obtain ⟨xs,h,rfl⟩:=hx
 refine ⟨xs,nh_L (fun v hv=>?_) R R' xs hk h,rfl⟩
 simp only [tsL,List.mem_cons,List.not_mem_nil,or_false] at hv
 rcases hv with rfl | rfl | rfl
 ·exact nh_in _
 ·exact nh_I _
 ·exact nh_I _
theorem nh_pt (p:List (List Int)):Nh (pthD p):=nh_tl (fun i v hv=>by
 cases List.mem_singleton.1 hv
 exact nh_in _)
theorem plo_args (R:Rn) (xs:List Value) (hx:VRelL R [stD l,.agg (tsL t),pthD p] xs):VRelL R.nor [stD l,.agg (tsL t),pthD p] xs:=nh_L (fun v hv=>by
 simp only [List.mem_cons,List.not_mem_nil,or_false] at hv
 rcases hv with rfl | rfl | rfl
 ·exact nh_st _
 ·exact nh_ts _
 ·exact nh_pt _) R R.nor xs (fun _ _ h=>h) hx
theorem plo_b {Y:Nat} {r:VRes} {h':VH} (hc:CallsV Try.prog 17 [stD l,.agg (tsL t),pthD p] ⟨1,[(0,.bun 7 0 l.length G 3)]⟩ r h') (hk:PlnO l t p Y r h') (hx:planF l t p Y Y (2 ^ p.length - 1) (mostF l)=some x) :
  CallsV Try.prog 17 [stD l,.agg (tsL t),pthD p] ⟨1,[(0,.bun 7 0 l.length G 3)]⟩ (.ret (.tup [plnH l.length p.length Y,I 0])) ⟨1,[(0,.bun 7 (p.length*Y) l.length (XG Y x) 3)]⟩:=by
 rcases hk with ⟨h1,_⟩ | ⟨x',m,g,ty,G',h1,rfl,h2,h3,h4,h5⟩
 ·rw [hx] at h1; cases h1
 ·rw [hx] at h1
  cases h1
  have hm0:m ≠ 0:=fun e=>by rw [e,h4] at h2; cases h2
  have c1:=calls_tell (v2:=.tup [.tl p.length 1 g,I 0]) hc h2 (fun R R' y hle hv hx=>by
   obtain ⟨xs,⟨y0,ys,k1,k2,rfl⟩,rfl⟩:=hx
   exact ⟨_,⟨y0,ys,hv y0 k1,VRelL.mono hle _ _ k2,rfl⟩,rfl⟩)
  have hat2:(VH.mk h'.nx ((m,.gone)::h'.bs)).at 0=.bun 7 (bI Y p.length) l.length G' 3:=by rw [at_ne hm0]; exact h4
  have hw:wkL [.tl p.length 1 g] [plnH l.length p.length Y]:=tl_weak rfl (fun i hi=>by
   rw [h3 i hi,bI_mul]
   exact wkL_refl _)
  have c2:=calls_res (v2:=.tup [plnH l.length p.length Y,I 0]) c1 (fun R y hx=>by
   obtain ⟨xs,⟨y0,ys,k1,k2,rfl⟩,rfl⟩:=hx
   obtain ⟨z,zs,q1,q2,q3⟩:=hw.1 R [y0] ⟨y0,[],k1,rfl,rfl⟩
   simp only [List.cons.injEq] at q3
   obtain ⟨rfl,_⟩:=q3
   exact ⟨_,⟨y0,ys,q1,k2,rfl⟩,rfl⟩)
  exact calls_weak (k:=1) (bs:=[(0,.bun 7 (p.length*Y) l.length (XG Y x) 3)]) c2 (Nat.le_refl _) ⟨by
   rw [hat2,bI_mul]
   refine ⟨rfl,rfl,rfl,rfl,fun i k hi hk=>?_⟩
   have hY:0<Y:=by
    rcases Nat.eq_zero_or_pos Y with e | e
    ·rw [e,Nat.mul_zero] at hi; exact absurd hi (Nat.not_lt_zero i)
    ·exact e
   have h6:=h5 (i / Y) (i % Y) k (Nat.div_lt_of_lt_mul (by rw [Nat.mul_comm]; exact hi)) (Nat.mod_lt _ hY) hk
   rw [bI_mul,Nat.mul_comm,Nat.div_add_mod] at h6
   exact h6,trivial⟩ rfl rfl
theorem plo_tell {Y:Nat} {r:VRes} {h':VH} (hc:CallsV Try.prog 17 [stD l,.agg (tsL t),pthD p] ⟨1,[(0,.bun 7 0 l.length G 3)]⟩ r h') (hk:PlnO l t p Y r h') (hx:planF l t p Y Y (2 ^ p.length - 1) (mostF l)=some x) (hat:h.at 0=.bun 7 0 l.length G 3) :
  CallsV Try.prog 17 [stD l,.agg (tsL t),pthD p] h (.ret (.tup [plnH l.length p.length Y,I 0])) (h.put 0 (.bun 7 (p.length*Y) l.length (XG Y x) 3)):=calls_bun (plo_b hc hk hx) rfl hat rfl rfl
theorem plo_out {Y:Nat} {r:VRes} {h':VH} (hc:CallsV Try.prog 17 [stD l,.agg (tsL t),pthD p] ⟨1,[(0,.bun 7 0 l.length G 3)]⟩ r h') (hk:PlnO l t p Y r h') :
  (planF l t p Y Y (2 ^ p.length - 1) (mostF l)=none/\CallsV Try.prog 17 [stD l,.agg (tsL t),pthD p] ⟨0,[]⟩ (.ret (.tup [.nils,I 4])) ⟨0,[]⟩) ∨ ∃ x,planF l t p Y Y (2 ^ p.length - 1) (mostF l)=some x/\CallsV Try.prog 17 [stD l,.agg (tsL t),pthD p] ⟨0,[]⟩ (.ret (.tup [plnD l.length p.length Y x,I 0])) ⟨0,[]⟩:=by
 cases hx:planF l t p Y Y (2 ^ p.length - 1) (mostF l) with
 | none=>
  rcases hk with ⟨_,rfl,g,h2⟩ | ⟨x',m,g,ty,G',h1,_⟩
  ·exact .inl ⟨rfl,calls_unbun hc h2 plo_args (fun R R' y hk _ hx=>hx)⟩
  ·rw [hx] at h1; cases h1
 | some x=>
  refine .inr ⟨x,rfl,calls_unbun (plo_b hc hk hx) rfl plo_args (fun R R' y hk hr hx=>?_)⟩
  obtain ⟨xs,⟨y0,ys,k1,k2,rfl⟩,rfl⟩:=hx
  refine ⟨_,⟨y0,ys,?_,k2,rfl⟩,rfl⟩
  refine tl_tell hk (fun i hi=>⟨fun _=>rfl,fun xs hx=>?_⟩) k1
  obtain ⟨y,ys,a,b,rfl⟩:=hx
  refine ⟨y,ys,tl_tell hk (fun j hj=>⟨fun _=>rfl,fun xs hx=>?_⟩) a,b,rfl⟩
  obtain ⟨y,ys,a,b,rfl⟩:=hx
  have hlt:i*Y+j<p.length*Y:=Nat.lt_of_lt_of_le (by rw [Nat.succ_mul]; omega) (show (i+1)*Y<=p.length*Y from Nat.mul_le_mul_right _ hi)
  have:=hr (i*Y+j) y hlt a
  have e:(fun k=>[VV.int .i64 (XG Y x (i*Y+j) k)])=chG (x i j):=by
   funext k
   unfold XG chG
   rw [Nat.mul_comm,Nat.mul_add_div (by omega),Nat.div_eq_of_lt hj,Nat.mul_add_mod,Nat.mod_eq_of_lt hj,Nat.add_zero]
  rw [e] at this
  exact ⟨y,ys,this,b,rfl⟩
theorem plo_all (ho:okAll l t=true) (hp:okPaths p=true):∃ r h',CallsV Try.prog 17 [stD l,.agg (tsL t),pthD p] ⟨1,[(0,.bun 7 0 l.length G 3)]⟩ r h'/\PlnO l t p (p.getD 0 []).length r h':=by
 have hl:=(paths_of hp).1
 match p,hl,hp with
 | [d0],_,hp=>exact plo1 (G:=G) ho hp (cfg_of ho hp) (pthB_of hp)
 | [d0,d1],_,hp=>exact plo2 (G:=G) ho hp (cfg_of ho hp) (pthB_of hp)
 | [d0,d1,d2],_,hp=>exact plo3 (G:=G) ho hp (cfg_of ho hp) (pthB_of hp)
 | [d0,d1,d2,d3],_,hp=>exact plo4 (G:=G) ho hp (cfg_of ho hp) (pthB_of hp)
 | [],hl,_=>exact absurd hl.1 (by decide)
 | _::_::_::_::_::_,hl,_=>exact absurd hl.2 (by simp)
theorem plo_ok (ho:okAll l t=true) (hp:okPaths p=true) (hx:planF l t p (p.getD 0 []).length (p.getD 0 []).length (2 ^ p.length - 1) (mostF l)=some x) (hat:h.at 0=.bun 7 0 l.length G 3) :
  CallsV Try.prog 17 [stD l,.agg (tsL t),pthD p] h (.ret (.tup [plnH l.length p.length (p.getD 0 []).length,I 0])) (h.put 0 (.bun 7 (p.length*(p.getD 0 []).length) l.length (XG (p.getD 0 []).length x) 3)):=by
 obtain ⟨r,h',hc,hk⟩:=plo_all (G:=G) ho hp
 exact plo_tell hc hk hx hat
end
section
variable {D:List Int} {t:Tst} {s:Stk}
end
section
variable {l:List Stk} {t:Tst} {y m u:Int} {D:List Int}
end
section
variable {l:List Stk} {t:Tst} {y m u:Int} {D:List Int}
end
section
variable {l:List Stk} {t:Tst} {y m u:Int} {D:List Int}
end
section
variable {l:List Stk} {t:Tst} {y m u:Int} {D:List Int}
end
theorem sm_ev (Q:VRes->VH->Prop):callN Try.prog noSpec noL 10 20 0 (.fn 37) [] ⟨0,[]⟩ (fun r h=>frzR 0 6 15 0 h (fun h=>Q r h)) =
 (Q (.ret (.tup [.slice (.own (6) 0) 3 3,.agg [.sl (7) 2,I 20,I 10]])) (VH.mk (8) [(6,.cells [I 2,I 100,I 12,I 50,.tl 2 (2) fun (j:Nat)=>List.take (2) (List.drop (j*(2)) [I 480,I 490,I 60,I 70]),I 2,I 100,I 10,I 30,.tl 2 (2) fun (j:Nat)=>List.take (2) (List.drop (j*(2)) [I 530,I 540,I 130,I 140]),I 3,I 200,I 8,I 90,.tl 2 (2) fun (j:Nat)=>List.take (2) (List.drop (j*(2)) [I 500,I 500,I 100,I 100])] 32),(5,.gone),(6,.cells [I 2,I 100,I 12,I 50,.tl 2 (2) fun (j:Nat)=>List.take (2) (List.drop (j*(2)) [I 480,I 490,I 60,I 70]),I 2,I 100,I 10,I 30,.tl 2 (2) fun (j:Nat)=>List.take (2) (List.drop (j*(2)) [I 530,I 540,I 130,I 140]),I 3,I 200,I 8,I 90,.sl (5) 2] 32),(2,.gone),(6,.cells [I 2,I 100,I 12,I 50,.tl 2 (2) fun (j:Nat)=>List.take (2) (List.drop (j*(2)) [I 480,I 490,I 60,I 70]),I 2,I 100,I 10,I 30,.sl (2) 2,I 3,I 200,I 8,I 90,.sl (5) 2] 32),(1,.gone),(0,.cells [.sl (7) 2,I 20,I 10] 25),(7,.vec 2 (fun (j:Nat)=>List.take (1) (List.drop (j*(1)) [I 500,I 100])) (1) 3),(6,.cells [I 2,I 100,I 12,I 50,.sl (1) 2,I 2,I 100,I 10,I 30,.sl (2) 2,I 3,I 200,I 8,I 90,.sl (5) 2] 32),(5,.vec 2 (fun (j:Nat)=>List.take (2) (List.drop (j*(2)) [I 500,I 500,I 100,I 100])) (2) 34),(4,.cells [I 100,I 100] 34),(4,.cells [I 0,I 0] 34),(3,.cells [I 500,I 500] 34),(3,.cells [I 0,I 0] 34),(2,.vec 2 (fun (j:Nat)=>List.take (2) (List.drop (j*(2)) [I 530,I 540,I 130,I 140])) (2) 34),(1,.vec 2 (fun (j:Nat)=>List.take (2) (List.drop (j*(2)) [I 480,I 490,I 60,I 70])) (2) 34),(0,.cells [.nils,I 0,I 0] 25)])):=by kernel_rfl
section
variable {P:Program}
theorem calls_toldR {f:FuncId} {args:List VV} {h h1 h2:VH} {v:VV} (hs:CallsV P f args h (.ret v) h1) (ht:Told h1 h2):CallsV P f args h (.ret v) h2:=by
 intro B R w xs em hx
 refine (hs B R w xs em hx).mono ?_
 rintro e w' ⟨R',n1,e1,x,hx1,he⟩
 obtain ⟨R2,n2,e2⟩:=ht B R' w' e1
 exact ⟨R2,n1.trans n2,e2,x,VRel.mono (n2.le e1) _ _ hx1,he⟩
theorem calls_tellC {f:FuncId} {args:List VV} {h h':VH} {v v2:VV} {m s:Nat} {cs:List VV} {t:TypeId} (hs:CallsV P f args h (.ret v) h') (hm:h'.at m=.cells cs t) (hb:belL 0 cs=true) (ho:cs.all VV.one=true) (_:1<=s)
  (hv:∀ (R R':Rn) (x:Value),R.le R'->(∀ k c y,k*s<=cs.length->VRel R (.slice (.own m 0) k c) y->VRel R' (.tl k s (fun j=>(cs.drop (j*s)).take s)) y)->VRel R v x->VRel R' v2 x):CallsV P f args h (.ret v2) ⟨h'.nx,(m,.gone)::h'.bs⟩:=by
 intro B R w xs em hx
 refine (hs B R w xs em hx).mono ?_
 rintro e w' ⟨R',n1,e1,x,hx1,he⟩
 obtain ⟨b,ys,h1,h2,h3,h4⟩:=e1.own m cs t hm
 have how:R'.ow m (h'.at m) b:=by rw [hm]; exact h1
 obtain ⟨f1,f2,f3⟩:=emb_frz e1 how (xs:=ys) (fun k x hk=>by simp [World.cell?,h4,hk])
 have hat:(VH.mk h'.nx ((m,.gone)::h'.bs)).at=upd h'.at m .gone:=VH.at_put h' m .gone (by rw [hm]; simp)
 refine ⟨R'.addF b ys,by rw [hat]; exact n1.trans f3,by rw [hat]; exact f2,x,hv R' _ x f1 (fun k c y hk hy=>?_) hx1,he⟩
 obtain ⟨hkc,p,hp,rfl⟩:=hy
 have hlen:ys.length=cs.length:=h3.length.symm
 refine ⟨p,c,rfl,⟨hkc,fun hn=>?_⟩,fun i hi=>?_⟩
 ·rcases hp with hp | ⟨q,hp,_⟩
  ·exact hp
  ·rw [hn] at hp; cases hp
 ·obtain ⟨q,rfl,b',hb',rfl⟩:=hp.resolve_left (by omega)
  rw [h1] at hb'
  cases hb'
  have h5:i*s+s<=k*s:=by
   rw [<- Nat.succ_mul]
   exact Nat.mul_le_mul_right s hi
  refine ⟨b,0,ys,rfl,by simp [Rn.addF],by omega,chunk_all ho,?_⟩
  have h6:VRelL (R'.addF b ys).no cs ys:=VRelL.mono f1.no _ _ (bel0_noL cs ys hb h3)
  rw [Nat.zero_add]
  exact (h6.drop (i*s)).take s
end
def L0:List Stk:=[⟨2,100,12,50,[⟨480,490⟩,⟨60,70⟩]⟩,⟨2,100,10,30,[⟨530,540⟩,⟨130,140⟩]⟩,⟨3,200,8,90,[⟨500,500⟩,⟨100,100⟩]⟩]
def T0:Tst:=⟨[500,100],20,10⟩
theorem sample_v:∃ h',CallsV Try.prog 37 [] ⟨0,[]⟩ (.ret (.tup [stD L0,.agg (tsL T0)])) h':=by
 obtain ⟨r,h1,hk,hc⟩:=of_callN good0 (f:=37) (args:=[]) (h:=⟨0,[]⟩) (K:=fun r h=>frzR 0 6 15 0 h (fun h2=>r=.ret (.tup [.slice (.own 6 0) 3 3,.agg [.sl 7 2,I 20,I 10]])/\h2.at 6=.cells [I 2,I 100,I 12,I 50,.tl 2 2 (fun j=>List.take 2 (List.drop (j*2) [I 480,I 490,I 60,I 70])),I 2,I 100,I 10,I 30,.tl 2 2 (fun j=>List.take 2 (List.drop (j*2) [I 530,I 540,I 130,I 140])),I 3,I 200,I 8,I 90,.tl 2 2 (fun j=>List.take 2 (List.drop (j*2) [I 500,I 500,I 100,I 100]))] 32/\h2.at 7=.vec 2 (fun j=>List.take 1 (List.drop (j*1) [I 500,I 100])) 1 3)) (cast (sm_ev _).symm ⟨rfl,rfl,rfl⟩)
 obtain ⟨h2,⟨rfl,a1,a2⟩,_,ht⟩:=frzR_sound 15 0 _ _ hk
 have hc2:=calls_toldR hc ht
 have hc3:=calls_tell (v2:=.tup [.slice (.own 6 0) 3 3,.agg [.tl 2 1 (fun j=>List.take 1 (List.drop (j*1) [I 500,I 100])),I 20,I 10]]) hc2 a2 (fun R R' x hle hv hx=>by
  obtain ⟨xs,⟨y0,ys,k1,⟨y1,_,⟨zs,⟨z0,_,k2,k3,rfl⟩,rfl⟩,k4,rfl⟩,rfl⟩,rfl⟩:=hx
  exact ⟨_,⟨y0,_,VRel.mono hle _ _ k1,⟨_,_,⟨_,⟨z0,_,hv z0 k2,VRelL.mono hle _ _ k3,rfl⟩,rfl⟩,k4,rfl⟩,rfl⟩,rfl⟩)
 have a3:(VH.mk h2.nx ((7,VB.gone)::h2.bs)).at 6=h2.at 6:=by
  rw [show (VH.mk h2.nx ((7,VB.gone)::h2.bs)).at=upd h2.at 7 .gone from VH.at_put h2 7 .gone (by rw [a2]; simp)]
  rfl
 rw [a1] at a3
 have hc4:=calls_tellC (s:=5) (v2:=.tup [.tl 3 5 (fun j=>List.take 5 (List.drop (j*5) [I 2,I 100,I 12,I 50,.tl 2 2 (fun j=>List.take 2 (List.drop (j*2) [I 480,I 490,I 60,I 70])),I 2,I 100,I 10,I 30,.tl 2 2 (fun j=>List.take 2 (List.drop (j*2) [I 530,I 540,I 130,I 140])),I 3,I 200,I 8,I 90,.tl 2 2 (fun j=>List.take 2 (List.drop (j*2) [I 500,I 500,I 100,I 100]))])),.agg [.tl 2 1 (fun j=>List.take 1 (List.drop (j*1) [I 500,I 100])),I 20,I 10]]) hc3 a3 rfl rfl (by omega) (fun R R' x hle hv hx=>by
  obtain ⟨xs,⟨y0,ys,k1,k2,rfl⟩,rfl⟩:=hx
  exact ⟨_,⟨y0,_,hv 3 3 y0 (by decide) k1,VRelL.mono hle _ _ k2,rfl⟩,rfl⟩)
 refine ⟨_,calls_res hc4 (fun R x hx=>?_)⟩
 obtain ⟨xs,⟨y0,_,k1,⟨y1,_,⟨zs,⟨z0,_,k2,k3,rfl⟩,rfl⟩,k4,rfl⟩,rfl⟩,rfl⟩:=hx
 have w1:wkL [.tl 3 5 (fun j=>List.take 5 (List.drop (j*5) [I 2,I 100,I 12,I 50,.tl 2 2 (fun j=>List.take 2 (List.drop (j*2) [I 480,I 490,I 60,I 70])),I 2,I 100,I 10,I 30,.tl 2 2 (fun j=>List.take 2 (List.drop (j*2) [I 530,I 540,I 130,I 140])),I 3,I 200,I 8,I 90,.tl 2 2 (fun j=>List.take 2 (List.drop (j*2) [I 500,I 500,I 100,I 100]))]))] [stD L0]:=tl_weak rfl (fun i hi=>by
  have key:∀ (a b c d:Int) (g g':Nat->List VV),(∀ j,j<2->g j=g' j)->wkL [I a,I b,I c,I d,.tl 2 2 g] [I a,I b,I c,I d,.tl 2 2 g']:=fun a b c d g g' hg=>by
   refine ⟨fun R xs hx=>?_,fun _=>rfl,rfl⟩
   obtain ⟨_,_,q1,⟨_,_,q2,⟨_,_,q3,⟨_,_,q4,q5,rfl⟩,rfl⟩,rfl⟩,rfl⟩:=hx
   exact ⟨_,_,q1,⟨_,_,q2,⟨_,_,q3,⟨_,_,q4,(tl_weak (g:=g) (g':=g') rfl (fun j hj=>by rw [hg j hj]; exact wkL_refl _)).1 R _ q5,rfl⟩,rfl⟩,rfl⟩,rfl⟩
  match i,hi with
  | 0,_=>exact key _ _ _ _ _ _ (fun j hj=>by match j,hj with | 0,_=>rfl | 1,_=>rfl | _+2,hj=>omega)
  | 1,_=>exact key _ _ _ _ _ _ (fun j hj=>by match j,hj with | 0,_=>rfl | 1,_=>rfl | _+2,hj=>omega)
  | 2,_=>exact key _ _ _ _ _ _ (fun j hj=>by match j,hj with | 0,_=>rfl | 1,_=>rfl | _+2,hj=>omega)
  | _+3,hi=>omega)
 have w2:wkL [.tl 2 1 (fun j=>List.take 1 (List.drop (j*1) [I 500,I 100]))] [inD T0.T]:=tl_weak rfl (fun i hi=>by
  match i,hi with
  | 0,_=>exact wkL_refl _
  | 1,_=>exact wkL_refl _
  | _+2,hi=>omega)
 obtain ⟨_,_,u1,u2,e1⟩:=w1.1 R [y0] ⟨y0,[],k1,rfl,rfl⟩
 obtain ⟨_,_,u3,u4,e2⟩:=w2.1 R [z0] ⟨z0,[],k2,rfl,rfl⟩
 cases e1
 cases e2
 exact ⟨_,⟨y0,_,u1,⟨_,_,⟨_,⟨z0,_,u3,k3,rfl⟩,rfl⟩,k4,rfl⟩,rfl⟩,rfl⟩
end Go.Sx.Bln
