/- stream: Rc1 Ce2 Cf2 Cg2 Rb2 Rc2 Ce3 Cf3 Cg3 Rb3 Rc3, in one text. -/
import Derived.Test.YtlboglkgbhjpeaaWW2
namespace Go.Sx.Bln
open Go Go.Sx Go.Proofs
set_option maxRecDepth 1000000
section
variable {l:List Stk} {t:Tst} {P:List (List Int)} {Y:Nat}
theorem findRs1_ok {D0:List Int} (cf:Cfg l t [D0] Y) (k:Nat):SpOk Try.prog (findRs1 l t [D0] Y k).1 (findRs1 l t [D0] Y k).2:=by
 intro lock args h K hK
 simp only [findRs1] at hK
 split at hK
 ·rename_i nx bs
  obtain ⟨S',a,M,es,⟨rfl,rfl,rfl,rfl⟩,⟨rfl,hnx⟩,⟨e0,e1,e2,e3,e4,e5,e6,e7,e8,e9,e10,e11,_⟩,⟨rfl,rfl,rfl⟩,hp,hK⟩:=hK
  obtain ⟨r,h',⟨b,s,hw,rfl,rfl⟩,_,hc⟩:=findR1_ok cf k 0 [.agg (I ((Y:Int) - k)::I S'::nL a),.ptr (.own 4 0),.ptr (.own 9 0),.ptr (.own 1 0),.ptr (.own 11 0)] ⟨12,nsB1.zip (BP1 l t [D0] Y M es)⟩ (fun r h'=>∃ b s,PostF l t [D0] Y k S' a M b s/\r=.ret (.bool b)/\h'=⟨12,(7,.fam [] (Y*6) (s.M 0) 80)::(8,.map kS .bool s.es)::nsB1.zip (BP1 l t [D0] Y M es)⟩)
   ⟨S',a,M,es,⟨rfl,rfl,rfl,rfl⟩,⟨rfl,Nat.le_refl _⟩,⟨rfl,rfl,rfl,rfl,rfl,rfl,rfl,rfl,rfl,rfl,rfl,rfl,trivial⟩,⟨rfl,rfl,rfl⟩,hp,fun b s h=>⟨b,s,h,rfl,rfl⟩⟩
  have:=calls_ren (P:=Try.prog) (h:=⟨nx,bs⟩) (h1:=⟨nx,(8,.fam [] (Y*6) (s.M 0) 80)::(9,.map kS .bool s.es)::bs⟩) (fun n=>n+1) (fun _ _ _ _ h=>Nat.succ.inj h) hc (fun n hn=>by
  have hn:n<12:=hn
  match n,hn with
  | 0,_=>exact ⟨trivial,e0⟩
  | 1,_=>exact ⟨trivial,e1⟩
  | 2,_=>exact ⟨trivial,e2⟩
  | 3,_=>exact ⟨trivial,e3⟩
  | 4,_=>exact ⟨trivial,e4⟩
  | 5,_=>exact ⟨trivial,e5⟩
  | 6,_=>exact ⟨trivial,e6⟩
  | 7,_=>exact ⟨trivial,e7⟩
  | 8,_=>exact ⟨trivial,e8⟩
  | 9,_=>exact ⟨trivial,e9⟩
  | 10,_=>exact ⟨trivial,e10⟩
  | 11,_=>exact ⟨trivial,e11⟩
  | _+12,hn=>exact absurd hn (by omega)) (fun n hn=>by
  have hn:n<12:=hn
  match n,hn with
  | 0,_=>exact ⟨trivial,rfl,e0⟩
  | 1,_=>exact ⟨trivial,rfl,e1⟩
  | 2,_=>exact ⟨trivial,rfl,e2⟩
  | 3,_=>exact ⟨trivial,rfl,e3⟩
  | 4,_=>exact ⟨trivial,rfl,e4⟩
  | 5,_=>exact ⟨trivial,rfl,e5⟩
  | 6,_=>exact ⟨trivial,rfl,e6⟩
  | 7,_=>exact ⟨trivial,rfl,at_lt (show 8<nx by omega)⟩
  | 8,_=>exact ⟨trivial,rfl,at_lt (show 9<nx by omega)⟩
  | 9,_=>exact ⟨trivial,rfl,e9⟩
  | 10,_=>exact ⟨trivial,rfl,e10⟩
  | 11,_=>exact ⟨trivial,rfl,e11⟩
  | _+12,hn=>exact absurd hn (by omega)) (fun q hq=>by
  have hq:∀ n,n<12->n+1 ≠ q:=fun n hn=>hq n hn
  rw [at_ne (hq 7 (by omega)),at_ne (hq 8 (by omega))]) (fun n hn=>by
  have hn:n<12:=hn
  match n,hn with
  | 0,_=>exact rfl
  | 1,_=>exact rfl
  | 2,_=>exact rfl
  | 3,_=>exact rfl
  | 4,_=>exact rfl
  | 5,_=>exact rfl
  | 6,_=>exact rfl
  | 7,_=>exact rfl
  | 8,_=>exact rfl
  | 9,_=>exact rfl
  | 10,_=>exact rfl
  | 11,_=>exact rfl
  | _+12,hn=>exact absurd hn (by omega)) rfl rfl
  exact ⟨_,_,hK b s hw,lock0 _ _,this⟩
 ·exact hK.elim
theorem csr10 {M:Mde} (hY:Y<=4) (hl6:l.length<=6):LSound Try.prog true (.block 5 (.loop (loopB 5 (bodyOf Try.prog 17)))) (ntOf Try.prog 17) (fun lock tt h K=>FitP lock h tt ⟨13,nsPs1.zip (BPs1 l Y M 0)⟩ ((18,.nils)::dsPl.zip (VPs l t P Y 1 0 .nils 0))/\K .normal ((18,.tl Y 1 (rowH l.length 0))::(18::dsPl).zip (.sl 13 Y::VPs l t P Y 1 0 .nils Y)) ⟨14,(13,.gone)::(13::nsPs1).zip (.vec Y (rowH l.length 0) 1 23::(BPs1 l Y M (0+Y)))⟩):=by
 have hb:0=0*Y:=by omega
 refine copy_row2 (n:=13) (ns:=nsPs1) (W:=fun y=>VPs l t P Y 1 0 .nils y) (B0:=(BPs1 l Y M 0)) (B1:=(BPs1 l Y M (0+Y))) rfl ?_ rfl
 refine loop_row hmix (noL_good (tab1 listO_ok)) (un:=10) (ds:=18::dsPl) (ns:=13::nsPs1) (nx:=14) (fun y:Nat=>.sl 13 y::VPs l t P Y 1 0 .nils y) (fun y=>.vec y (rowH l.length 0) 1 23::(BPs1 l Y M (0+y))) (fun y=>y<=Y) (fun y=>Y - y) (fun _ ex vs bs=>ex=.exit 5/\bs=.vec Y (rowH l.length 0) 1 23::(BPs1 l Y M (0+Y))/\vs=.sl 13 Y::VPs l t P Y 1 0 .nils Y) noL_ok ?_ ?_
 ·rintro y h0
  refine cast (cs10_ev l t P Y y _ M _ _ _).symm ?_
  refine cond_d (fun hy=>cond_dk ⟨by omega,by omega⟩ (cond_dk (by omega) ⟨fun j=>M 0 (y*6+j),l.length,0+y,GM Y M,g6_row,rfl,hl6,rfl,rfl,cond_k (Nat.beq_refl _) (cond_k (roomC y (by omega)) (cond_r (by omega) ⟨y+1,by show y+1<=Y; omega,by dsimp only; omega,rfl,⟨⟨rfl,rfl,rfl,fun j hj=>cat_rowH hj⟩,fit_gm hb (by omega),fitBs_refl _⟩,fun _ _ _ h=>h⟩))⟩)) (fun hy=>?_)
  obtain rfl:y=Y:=by omega
  exact ⟨rfl,rfl,rfl⟩
 ·rintro lock tt h K ⟨hf,k1⟩
  refine ⟨0,hf,Nat.zero_le _,?_⟩
  rintro ex vs bs ⟨rfl,rfl,rfl⟩
  exact k1
theorem lCs1_ok (hY:Y<=4) (hl6:l.length<=6):LSound Try.prog true (.block 5 (.loop (loopB 5 (bodyOf Try.prog 17)))) (ntOf Try.prog 17) (lCs1 l t P Y):=by
 intro lock tt h K hK
 unfold lCs1 at hK
 split at hK
 ·obtain ⟨M,hf,k1⟩:=hK
  exact csr10 hY hl6 lock tt h K ⟨hf,k1⟩
 ·exact hK.elim
end
theorem plo1 {l:List Stk} {t:Tst} {D0:List Int} {G:Nat->Nat->Int} (h1:okAll l t=true) (h2:okPaths [D0]=true) (cf:Cfg l t [D0] D0.length) (hpb:pthB [D0]):∃ r h',CallsV Try.prog 17 [stD l,.agg (tsL t),pthD [D0]] ⟨1,[(0,.bun 7 0 l.length G 3)]⟩ r h'/\PlnO l t [D0] D0.length r h':=by
 have hl6:=cf.hl.1
 have hY:=cf.Y4
 have hrm:roomB ((([D0].getD (Int.toNat 0) []).length:Int)).toNat 48=true:=roomY _ hY
 have htab:∀ f T,tabS [asR l t,casksR l t,apR [D0],findRs1 l t [D0] D0.length D0.length,listO] f=some T->SpOk Try.prog f T:=tab_ok _ (fun x hx=>by
  simp only [List.mem_cons,List.not_mem_nil,or_false] at hx
  rcases hx with rfl | rfl | rfl | rfl | rfl
  ·exact asR_ok l t
  ·exact casksR_ok l t
  ·exact apR_ok _
  ·exact findRs1_ok cf D0.length
  ·exact listO_ok)
 have hall:LoopsOk Try.prog 17 [(5,lCs1 l t [D0] D0.length)]:=fun x hx=>by
  simp only [List.mem_singleton] at hx
  subst hx
  exact ⟨by kernel_rfl,lCs1_ok hY hl6⟩
 obtain ⟨r,h',hk,hc⟩:=of_callN (callL_good hmix htab hall (un:=10) 20) (f:=17) (args:=[stD l,.agg (tsL t),pthD [D0]]) (h:=⟨1,[(0,.bun 7 0 l.length G 3)]⟩) (K:=PlnO l t [D0] D0.length) (by
  refine cast (ps1_ev l t D0 G _).symm ⟨isD_l,⟨⟨rfl,rfl,fun _ _=>rfl⟩,⟨rfl,rfl⟩,⟨rfl,rfl⟩,trivial⟩,cond_i (fun h=>by rw [h1] at h; cases h) (fun _=>⟨⟨rfl,rfl,fun _ _=>rfl⟩,hpb,cond_i (fun h=>by rw [h2] at h; cases h) (fun _=>?_)⟩)⟩
  refine cond_dk ⟨by omega,rfl⟩ (cond_k hrm (⟨hcO rfl,hl6,1,mostF l,fun _ _=>0,[],⟨rfl,rfl,rfl,rfl⟩,⟨rfl,Nat.le_refl _⟩,⟨rfl,rfl,rfl,rfl,rfl,rfl,rfl,rfl,rfl,rfl,rfl,rfl,trivial⟩,⟨by omega,rfl,rfl⟩,⟨Nat.le_refl _,(by show 1<2 ^ 1; decide),most_left cf.hl,lost_nil⟩,?_⟩))
  rintro b s ⟨p1,p2,p3,p4⟩
  refine cond_i (fun g=>?_) (fun g=>?_)
  ·have g:b=false:=by simpa using g
   subst g
   refine .inl ⟨?_,rfl,_,rfl⟩
   cases hx:planF l t [D0] D0.length D0.length 1 (mostF l) with
   | none=>exact hx
   | some x=>rw [hx] at p1; cases p1
  ·have g:b=true:=by simpa using g
   subst g
   obtain ⟨x,hx⟩:∃ x,planF l t [D0] D0.length D0.length 1 (mostF l)=some x:=by
    cases hx:planF l t [D0] D0.length D0.length 1 (mostF l) with
    | none=>rw [hx] at p1; cases p1
    | some x=>exact ⟨x,rfl⟩
   refine ⟨s.M,⟨⟨rfl,rfl,fit_g0,rfl,⟨rfl,rfl,rfl,fun _ _=>rfl⟩,trivial⟩,rfl,rfl,rfl,rfl,rfl,rfl,rfl,rfl,rfl,rfl,rfl,rfl,rfl,rfl,rfl,trivial⟩,.inr ⟨x,15,_,_,_,hx,rfl,rfl,fun i hi=>?_,rfl,fun i y k hi hy hk=>?_⟩⟩
   ·have hi:i<1:=hi
    match i,hi with
    | 0,_=>exact rfl
    | _+1,hi=>exact absurd hi (by omega)
   ·have hi:i<1:=hi
    match i,hi with
    | 0,_=>exact (gm_row (bI_mul _ 0) hy k).trans (p4 x hx 0 y k (by omega) rfl (by omega) hy)
    | _+1,hi=>exact absurd hi (by omega))
 exact ⟨r,h',hc,hk⟩
def BP2 (l:List Stk) (t:Tst) (P:List (List Int)) (Y:Nat) (M:Mde) (es:Lst):List VB:=[.cells (tsL t) 25,.cells [pthD P] 26,.cells (stD l::tsL t) 74,.cells [.ptr (.own 2 0)] 72,.cells [I Y] 3,.cells [sFa 7 Y,sFa 8 Y] 76,.cells [.slice (.own 5 0) 2 2] 75,.fam [] (Y*6) (M 0) 80,.fam [] (Y*6) (M 1) 80,
 .map kS .bool es,.cells [.mp 9] 77,.cells [.func 44 [] [.ptr (.own 4 0),.ptr (.own 10 0),.ptr (.own 1 0),.ptr (.own 12 0)]] 78,.cells [.func 40 [] [.ptr (.own 3 0),.ptr (.own 11 0),.ptr (.own 1 0),.ptr (.own 6 0)]] 88]
def nsB2:List Nat:=[0,1,2,3,4,5,6,7,8,9,10,11,12]
def findR2 (l:List Stk) (t:Tst) (P:List (List Int)) (Y k:Nat):FuncId × Spec1:=(44,fun lock args h K=>match args,h with
 | [.agg (.int .i64 y::.int .i64 S::ns),x1,x2,x3,x4],⟨nx,bs⟩=>∃ (S':Nat) (a:Nat->Int) (M:Mde) (es:Lst),(x1=.ptr (.own 4 0)/\x2=.ptr (.own 10 0)/\x3=.ptr (.own 1 0)/\x4=.ptr (.own 12 0))/\(lock=0/\13<=nx)/\atL nsB2 (BP2 l t P Y M es) ⟨nx,bs⟩/\(y=(Y:Int) - k/\S=S'/\ns=nL a)/\PreF l t P Y k S' a es /\
   ∀ (b:Bool) (s:St),PostF l t P Y k S' a M b s->K (.ret (.bool b)) ⟨nx,(7,.fam [] (Y*6) (s.M 0) 80)::(8,.fam [] (Y*6) (s.M 1) 80)::(9,.map kS .bool s.es)::bs⟩
 | _,_=>False)
def folR2 (l:List Stk) (t:Tst) (P:List (List Int)) (Y k:Nat):FuncId × Spec1:=(40,fun lock args h K=>match args,h with
 | [.agg (.int .i64 y::.int .i64 S::ns),.int .i64 o,.int .i64 d,x1,x2,x3,x4],⟨nx,bs⟩=>∃ (S' O:Nat) (a:Nat->Int) (M:Mde) (es:Lst),(x1=.ptr (.own 3 0)/\x2=.ptr (.own 11 0)/\x3=.ptr (.own 1 0)/\x4=.ptr (.own 6 0))/\(lock=0/\13<=nx)/\atL nsB2 (BP2 l t P Y M es) ⟨nx,bs⟩/\(y=(Y:Int) - (k+1:Nat)/\S=S'/\o=O/\ns=nL a)/\PreW l t P Y k O a es /\
   ∀ (b:Bool) (s:St),PostW l t P Y k O d a M b s->K (.ret (.bool b)) ⟨nx,(7,.fam [] (Y*6) (s.M 0) 80)::(8,.fam [] (Y*6) (s.M 1) 80)::(9,.map kS .bool s.es)::bs⟩
 | _,_=>False)
def slFo2 (y S own need:Int) (a:Nat->Int):Slots:=[(16,VV.func 74 [] [.ptr (.own 17 0),.ptr (.own 18 0)]),(15,VV.agg (nL a)),(14,VV.ptr (VA.own 13 2)),(13,.ptr (.own 2 0)),(10,.ptr (.own 16 0)),(9,.ptr (.own 15 0)),(8,.ptr (.own 14 0)),(7,.ptr (.own 13 0)),(0,VV.agg (I y::I S::nL a)),(1,I own),(2,I need),(3,.ptr (.own 3 0)),(4,.ptr (.own 11 0)),(5,.ptr (.own 1 0)),(6,.ptr (.own 6 0))]
def VFo2:List VV:=[.ptr (.own 20 0),.yld 19,.ptr (.own 17 0),.ptr (.own 18 0)]
def VFi2 (i:Int):List VV:=I i::VFo2
def nsFo2:List Nat:=[0,1,2,3,4,5,6,7,8,9,10,11,12,13,14,15,16,17,18,19,20]
noncomputable def BFo2 (l:List Stk) (t:Tst) (P:List (List Int)) (Y:Nat) (y S own need:Int) (a:Nat->Int) (M:Mde) (es:Lst) (n:Nat->Int):List VB:=BP2 l t P Y M es ++ [faS y S a,.cells [I own] 3,.cells [I need] 3,.cells [.bool false] 4,.cells [.ptr (.own 2 0)] 72,faN a,.loop true none (slFo2 y S own need a) 58 [17] asFo bdFo,.fam [] 6 n 80]
theorem ino2_ev (l:List Stk) (t:Tst) (P:List (List Int)) (Y:Nat) (y S own need i:Int) (a:Nat->Int) (M:Mde) (es:Lst) (n:Nat->Int) (X:VEx->List VV->List VB->Prop):codeE Try.prog (callN Try.prog noSpec noL 10 20) (fun _=>none) true 10 (ntOf Try.prog 74) 0 (loopB 2 (bodyOf Try.prog 74)) (dsI.zip (VFi2 i)) ⟨22,nsFo2.zip (BFo2 l t P Y y S own need a M es n)⟩ (obs 22 dsI nsFo2 X) =
 (bif decide (i ≥ (0:Int)) then
 bif decide ((0:Int)<=i/\i<(6:Int)) then
 bif decide (i.toNat*(1)<6) then
 bif decide ((0:Int)<=i/\i<(6:Int)) then
 bif decide (i.toNat*(1)<6) then
 bif decide (n (i.toNat*(1))=(fun (k:Nat)=>(ch a).getD k (0:Int)) (i.toNat*(1))) then
 bif decide ((0:Int)<=i/\i<(6:Int)) then
 bif decide (i.toNat*(1)+(1)<=6) then
 bif inK .i64 (i - (1:Int)) then
 X .normal [I (i - (1:Int)),.ptr (.own 20 0),.yld 19,.ptr (.own 17 0),.ptr (.own 18 0)] (BFo2 l t P Y y S own need a M es (setF n (i.toNat*(1)) [(0:Int)]))
 else False
 else False
 else False
 else X (.exit 2) [I i,.ptr (.own 20 0),.yld 19,.ptr (.own 17 0),.ptr (.own 18 0)] (BFo2 l t P Y y S own need a M es n)
 else False
 else False
 else False
 else False
 else X (.exit 2) [I i,.ptr (.own 20 0),.yld 19,.ptr (.own 17 0),.ptr (.own 18 0)] (BFo2 l t P Y y S own need a M es n)):=by kernel_rfl
noncomputable abbrev BQf2 (l:List Stk) (t:Tst) (P:List (List Int)) (Y:Nat) (y S own need:Int) (a:Nat->Int) (A0 A1:Nat->Int) (es:Lst) (b:Bool) (n:Nat->Int):List VB:=[.cells (tsL t) 25,.cells [pthD P] 26,.cells (stD l::tsL t) 74,.cells [.ptr (.own 2 0)] 72,.cells [I Y] 3,.cells [sFa 7 Y,sFa 8 Y] 76,.cells [.slice (.own 5 0) 2 2] 75,.fam [] (Y*6) A0 80,.fam [] (Y*6) A1 80,
 .map kS .bool es,.cells [.mp 9] 77,.cells [.func 44 [] [.ptr (.own 4 0),.ptr (.own 10 0),.ptr (.own 1 0),.ptr (.own 12 0)]] 78,.cells [.func 40 [] [.ptr (.own 3 0),.ptr (.own 11 0),.ptr (.own 1 0),.ptr (.own 6 0)]] 88] ++ [faS y S a,.cells [I own] 3,.cells [I need] 3,.cells [.bool b] 4,.cells [.ptr (.own 2 0)] 72,faN a,.loop (!b) (bif b then some .ret else none) (slFo2 y S own need a) 58 [17] asFo bdFo,.fam [] 6 n 80]
noncomputable def lIo2 (l:List Stk) (t:Tst) (P:List (List Int)) (Y:Nat) (y S own need:Int) (a:Nat->Int):LT:=fun lock tt h K=>
 ∃ M es n,FitP lock h tt ⟨22,nsFo2.zip (BFo2 l t P Y y S own need a M es n)⟩ (dsI.zip (VFi2 (l.length - 1)))/\l.length<=6/\∀ (k:Nat) (n':Nat->Int),scanC a l.length n=(k,n')->K .normal (dsI.zip (VFi2 (k - 1))) ⟨22,nsFo2.zip (BFo2 l t P Y y S own need a M es n')⟩
theorem fr2_ev (l:List Stk) (t:Tst) (D0 D1:List Int) (Y k:Nat) (M:Mde) (es:Lst) (y S need:Int) (O:Nat) (a n:Nat->Int) (X:VEx->List VV->List VB->Prop):codeE Try.prog (callN Try.prog (tabS [meetsR l t,lessT,findR2 l t [D0,D1] Y k]) noL 10 20) (tabB [(2,lIo2 l t [D0,D1] Y y S O need a)]) true 10 (ntOf Try.prog 74) 0 (loopB 0 (bodyOf Try.prog 74)) (dsC.zip VFo2) ⟨21,nsFo2.zip (BFo2 l t [D0,D1] Y y S O need a M es n)⟩ (obs 21 dsC nsFo2 X) =
 (let z1:=[n (0+0),n (0+1),n (0+2),n (0+3),n (0+4),n (0+5)];
 let z2:=[.ptr (.own 20 0),.yld 19,.ptr (.own 17 0),.ptr (.own 18 0)];
 let z3:=((5,I ((l.length:Int) - (1:Int)))::(15,I ((l.length:Int) - (1:Int)))::(14,I (l.length:Int))::(13,.tl l.length 5 (stG l))::(12,.ptr (.own 2 0))::(11,.ptr (.own 2 0))::(10,.ptr (.own 2 0))::(9,.bool false)::(9,.bool !true)::(8,.bool true)::(7,.agg [I (n (0+0)),I (n (0+1)),I (n (0+2)),I (n (0+3)),I (n (0+4)),I (n (0+5))])::(6,.yld 19)::dsC.zip VFo2);
 let z4:=[I (setF (fun (_:Nat)=>(0:Int)) 0 z1 (0+0)),I (setF (fun (_:Nat)=>(0:Int)) 0 z1 (0+1)),I (setF (fun (_:Nat)=>(0:Int)) 0 z1 (0+2)),I (setF (fun (_:Nat)=>(0:Int)) 0 z1 (0+3)),I (setF (fun (_:Nat)=>(0:Int)) 0 z1 (0+4)),I (setF (fun (_:Nat)=>(0:Int)) 0 z1 (0+5))];
 let z5:=(VH.mk (22) ((19,.gone)::(21,.fam [] (6) (setF (fun (_:Nat)=>(0:Int)) 0 z1) 80)::(21,.fam [] (6) (fun (_:Nat)=>(0:Int)) 80)::nsFo2.zip (BFo2 l t [D0,D1] Y y S (O:Int) need a M es n)));
 let z6:=(IntKind.i64.wrap (↑(BitVec.ofInt IntKind.i64.bits ((O:Int).fdiv ((2:Int) ^ min ((0:Int)+(1:Int)).toNat IntKind.i64.bits)) &&& BitVec.ofInt IntKind.i64.bits (1:Int)).toNat:Int)=(1:Int));
 let z7:=(fun (k:Nat)=>(ch a).getD k (0:Int));
 (∃ (n_1:Nat->Int),isD z5 4 (VV.ptr (.own 2 0)) (VV.tp (stD l::tsL t))/\z4=nL n_1/\(conB l t n_1/\(0:Int)<=y/\y<=(1000:Int))/\bif !meetsF l t n_1 y need then
 bif inK .i64 ((l.length:Int) - (1:Int)) then
 ∃ (M_1:Mde),∃ (es_1:Lst),∃ (n_2:Nat->Int),FitP 0 (VH.mk (22) ((19,.loop true none (slFo2 y S (O:Int) need a) 58 [17] asFo bdFo)::(19,.gone)::(21,.fam [] (6) (setF (fun (_:Nat)=>(0:Int)) 0 z1) 80)::(21,.fam [] (6) (fun (_:Nat)=>(0:Int)) 80)::nsFo2.zip (BFo2 l t [D0,D1] Y y S (O:Int) need a M es n))) z3 (VH.mk 22 (nsFo2.zip (BFo2 l t [D0,D1] Y y S (O:Int) need a M_1 es_1 n_2))) (dsI.zip (VFi2 ((l.length:Int) - (1:Int))))/\l.length<=6/\∀ (k:Nat) (n':Nat->Int),scanC a l.length n_2=(k,n')->bif decide ((k:Int) - (1:Int)<(0:Int)) then
 X .ret z2 (BFo2 l t [D0,D1] Y y S O need a M_1 es_1 n')
 else bif decide ((0:Int)<=(k:Int) - (1:Int)/\(k:Int) - (1:Int)<(6:Int)) then
 bif decide (((k:Int) - (1:Int)).toNat*(1)<6) then
 bif inK .i64 (n' (((k:Int) - (1:Int)).toNat*(1))+(1:Int)) then
 bif decide ((0:Int)<=(k:Int) - (1:Int)/\(k:Int) - (1:Int)<(6:Int)) then
 bif decide (((k:Int) - (1:Int)).toNat*(1)+(1)<=6) then
 X .normal z2 (BFo2 l t [D0,D1] Y y S O need a M_1 es_1 (setF n' (((k:Int) - (1:Int)).toNat*(1)) [n' (((k:Int) - (1:Int)).toNat*(1))+(1:Int)]))
 else False
 else False
 else False
 else False
 else False
 else False
 else bif inK .i64 (y+(1:Int)) then
 ∃ (a_1:Nat->Int),∃ (b:Nat->Int),[I (z7 (0+0)),I (z7 (0+1)),I (z7 (0+2)),I (z7 (0+3)),I (z7 (0+4)),I (z7 (0+5))]=nL a_1/\z4=nL b/\bdL a_1 b/\∃ (S':Nat),∃ (a_2:Nat->Int),∃ (M_1:Mde),∃ (es_1:Lst),(VV.ptr (.own 4 0)=VV.ptr (.own 4 0)/\VV.ptr (.own 10 0)=VV.ptr (.own 10 0)/\VV.ptr (.own 1 0)=VV.ptr (.own 1 0)/\VV.ptr (.own 12 0)=VV.ptr (.own 12 0))/\(0=0/\13<=22)/\atL nsB2 (BP2 l t [D0,D1] Y M_1 es_1) z5/\(y+(1:Int)=(Y:Int) - (k:Int)/\(O:Int)=(S':Int)/\[I (lsF a_1 b 6 0),I (lsF a_1 b 6 1),I (lsF a_1 b 6 2),I (lsF a_1 b 6 3),I (lsF a_1 b 6 4),I (lsF a_1 b 6 5)]=nL a_2)/\PreF l t [D0,D1] Y k S' a_2 es_1/\∀ (b:Bool) (s:St),PostF l t [D0,D1] Y k S' a_2 M_1 b s->bif !b then
 bif inK .i64 ((l.length:Int) - (1:Int)) then
 ∃ (M_2:Mde),∃ (es_2:Lst),∃ (n_2:Nat->Int),FitP 0 (VH.mk (22) ((19,.loop true none (slFo2 y S (O:Int) need a) 58 [17] asFo bdFo)::(7,.fam [] (Y*6) (s.M 0) 80)::(8,.fam [] (Y*6) (s.M 1) 80)::(9,.map kS PK.bool s.es)::(19,.gone)::(21,.fam [] (6) (setF (fun (_:Nat)=>(0:Int)) 0 z1) 80)::(21,.fam [] (6) (fun (_:Nat)=>(0:Int)) 80)::nsFo2.zip (BFo2 l t [D0,D1] Y y S (O:Int) need a M es n))) z3 (VH.mk 22 (nsFo2.zip (BFo2 l t [D0,D1] Y y S (O:Int) need a M_2 es_2 n_2))) (dsI.zip (VFi2 ((l.length:Int) - (1:Int))))/\l.length<=6/\∀ (k:Nat) (n':Nat->Int),scanC a l.length n_2=(k,n')->bif decide ((k:Int) - (1:Int)<(0:Int)) then
 X .ret z2 (BFo2 l t [D0,D1] Y y S O need a M_2 es_2 n')
 else bif decide ((0:Int)<=(k:Int) - (1:Int)/\(k:Int) - (1:Int)<(6:Int)) then
 bif decide (((k:Int) - (1:Int)).toNat*(1)<6) then
 bif inK .i64 (n' (((k:Int) - (1:Int)).toNat*(1))+(1:Int)) then
 bif decide ((0:Int)<=(k:Int) - (1:Int)/\(k:Int) - (1:Int)<(6:Int)) then
 bif decide (((k:Int) - (1:Int)).toNat*(1)+(1)<=6) then
 X .normal z2 (BFo2 l t [D0,D1] Y y S O need a M_2 es_2 (setF n' (((k:Int) - (1:Int)).toNat*(1)) [n' (((k:Int) - (1:Int)).toNat*(1))+(1:Int)]))
 else False
 else False
 else False
 else False
 else False
 else False
 else bif decide (IntKind.i64.wrap (↑(BitVec.ofInt IntKind.i64.bits ((O:Int).fdiv ((2:Int) ^ min (Int.toNat (0:Int)) IntKind.i64.bits)) &&& BitVec.ofInt IntKind.i64.bits (1:Int)).toNat:Int)=(1:Int)) then
 bif decide ((0:Int)<=y/\y<(Y:Int)) then
 bif decide (0+y.toNat*(6)+(6)<=Y*6) then
 bif decide z6 then
 bif decide ((0:Int)<=y/\y<(Y:Int)) then
 bif decide (0+y.toNat*(6)+(6)<=Y*6) then
 X .ret z2 (BQf2 l t [D0,D1] Y y S O need a (s6 s 0 y n) (s6 s 1 y n) s.es true n)
 else False
 else False
 else X .ret z2 (BQf2 l t [D0,D1] Y y S O need a (s6 s 0 y n) (s.M 1) s.es true n)
 else False
 else False
 else bif decide z6 then
 bif decide ((0:Int)<=y/\y<(Y:Int)) then
 bif decide (0+y.toNat*(6)+(6)<=Y*6) then
 X .ret z2 (BQf2 l t [D0,D1] Y y S O need a (s.M 0) (s6 s 1 y n) s.es true n)
 else False
 else False
 else X .ret z2 (BQf2 l t [D0,D1] Y y S O need a (s.M 0) (s.M 1) s.es true n)
 else False)):=by kernel_rfl
noncomputable def BFoT2 (l:List Stk) (t:Tst) (P:List (List Int)) (Y:Nat) (y S own need:Int) (a:Nat->Int) (M:Mde) (es:Lst) (n:Nat->Int):List VB:=BP2 l t P Y M es ++ [faS y S a,.cells [I own] 3,.cells [I need] 3,.cells [.bool true] 4,.cells [.ptr (.own 2 0)] 72,faN a,.loop false (some .ret) (slFo2 y S own need a) 58 [17] asFo bdFo,.fam [] 6 n 80]
noncomputable def lFo2 (l:List Stk) (t:Tst) (P:List (List Int)) (Y k:Nat) (y S d:Int) (O:Nat) (a:Nat->Int):LT:=fun lock tt h K=>
 ∃ M es,FitP lock h tt ⟨21,nsFo2.zip (BFo2 l t P Y y S O d a M es fun _=>0)⟩ (dsC.zip VFo2)/\(y=(Y:Int) - (k+1:Nat)/\Cfg l t P Y/\PreW l t P Y k O a es)/\(∀ s n',PostW l t P Y k O d a M false s->K .ret (dsC.zip VFo2) ⟨21,nsFo2.zip (BFo2 l t P Y y S O d a s.M s.es n')⟩) /\
  ∀ s n',PostW l t P Y k O d a M true s->K .ret (dsC.zip VFo2) ⟨21,nsFo2.zip (BFoT2 l t P Y y S O d a s.M s.es n')⟩
theorem fob2_ev (l:List Stk) (t:Tst) (D0 D1:List Int) (Y k:Nat) (M:Mde) (es:Lst) (y S d:Int) (O:Nat) (a:Nat->Int) (Q:VRes->VH->Prop):callN Try.prog noSpec (atF 74 [(0,lFo2 l t [D0,D1] Y k y S d O a)]) 10 20 0 (.fn 40) [.agg (I y::I S::nL a),I O,I d,.ptr (.own 3 0),.ptr (.own 11 0),.ptr (.own 1 0),.ptr (.own 6 0)] ⟨13,nsB2.zip (BP2 l t [D0,D1] Y M es)⟩ (fun r h=>Q r h) =
 (∃ (M_1:Mde),∃ (es_1:Lst),FitP 0 (VH.mk (21) ((20,.fam [] (6) (fun (_:Nat)=>(0:Int)) 80)::(19,.loop true none [(16,.func 74 [] [.ptr (.own (17) 0),.ptr (.own (18) 0)]),(15,.agg [I ((f6 a) (0+0)),I ((f6 a) (0+1)),I ((f6 a) (0+2)),I ((f6 a) (0+3)),I ((f6 a) (0+4)),I ((f6 a) (0+5))]),(14,.ptr (.own (13) (2))),(13,.ptr (.own 2 0)),(10,.ptr (.own (16) 0)),(9,.ptr (.own (15) 0)),(8,.ptr (.own (14) 0)),(7,.ptr (.own (13) 0)),(0,.agg (I y::I S::nL a)),(1,I (O:Int)),(2,I d),(3,.ptr (.own 3 0)),(4,.ptr (.own 11 0)),(5,.ptr (.own 1 0)),(6,.ptr (.own 6 0))] 58 [17] asFo bdFo)::(18,.fam [] (6) (fun (k:Nat)=>[(f6 a) (0+0),(f6 a) (0+1),(f6 a) (0+2),(f6 a) (0+3),(f6 a) (0+4),(f6 a) (0+5)].getD k (0:Int)) 80)::(17,.cells [.ptr (.own 2 0)] 72)::(16,.cells [.bool false] 4)::(15,.cells [I d] 3)::(14,.cells [I (O:Int)] 3)::(13,.fam [I y,I S] (6) (f6 a) 82)::nsB2.zip (BP2 l t [D0,D1] Y M es))) [(4,.ptr (.own (20) 0)),(0,.yld (19)),(1,.ptr (.own (17) 0)),(2,.ptr (.own (18) 0))] (VH.mk 21 (nsFo2.zip (BFo2 l t [D0,D1] Y y S (O:Int) d a M_1 es_1 fun (_:Nat)=>(0:Int)))) (dsC.zip VFo2)/\(y=(Y:Int) - (↑(k+1):Int)/\Cfg l t [D0,D1] Y/\PreW l t [D0,D1] Y k O a es_1)/\(∀ (s:St) (n':Nat->Int),PostW l t [D0,D1] Y k O d a M_1 false s->Q (.ret (.bool false)) (VH.mk 21 [(16,.cells [.bool false] 4),(19,.gone),(0,.cells [.tl t.T.length 1 (dG t.T),I t.far,I t.least] 25),(1,.cells [.tl [D0,D1].length 1 (pthG [D0,D1])] 26),(2,.cells (stD l::tsL t) 74),(3,.cells [.ptr (.own 2 0)] 72),(4,.cells [I (Y:Int)] 3),(5,.cells [sFa 7 Y,sFa 8 Y] 76),(6,.cells [.slice (.own 5 0) 2 2] 75),(7,.fam [] (Y*6) (s.M 0) 80),(8,.fam [] (Y*6) (s.M 1) 80),(9,.map kS PK.bool s.es),(10,.cells [.mp 9] 77),(11,.cells [.func 44 [] [.ptr (.own 4 0),.ptr (.own 10 0),.ptr (.own 1 0),.ptr (.own 12 0)]] 78),(12,.cells [.func 40 [] [.ptr (.own 3 0),.ptr (.own 11 0),.ptr (.own 1 0),.ptr (.own 6 0)]] 88),(13,.fam [I y,I S] 6 (fun (k:Nat)=>(ch a).getD k (0:Int)) 82),(14,.cells [I (O:Int)] 3),(15,.cells [I d] 3),(16,.cells [.bool false] 4),(17,.cells [.ptr (.own 2 0)] 72),(18,.fam [] 6 (fun (k:Nat)=>(ch a).getD k (0:Int)) 80),(19,.loop true none (slFo2 y S (O:Int) d a) 58 [17] asFo bdFo),(20,.fam [] 6 n' 80)]))/\∀ (s:St) (n':Nat->Int),PostW l t [D0,D1] Y k O d a M_1 true s->Q (.ret (.bool true)) (VH.mk 21 [(19,.gone),(0,.cells [.tl t.T.length 1 (dG t.T),I t.far,I t.least] 25),(1,.cells [.tl [D0,D1].length 1 (pthG [D0,D1])] 26),(2,.cells (stD l::tsL t) 74),(3,.cells [.ptr (.own 2 0)] 72),(4,.cells [I (Y:Int)] 3),(5,.cells [sFa 7 Y,sFa 8 Y] 76),(6,.cells [.slice (.own 5 0) 2 2] 75),(7,.fam [] (Y*6) (s.M 0) 80),(8,.fam [] (Y*6) (s.M 1) 80),(9,.map kS PK.bool s.es),(10,.cells [.mp 9] 77),(11,.cells [.func 44 [] [.ptr (.own 4 0),.ptr (.own 10 0),.ptr (.own 1 0),.ptr (.own 12 0)]] 78),(12,.cells [.func 40 [] [.ptr (.own 3 0),.ptr (.own 11 0),.ptr (.own 1 0),.ptr (.own 6 0)]] 88),(13,.fam [I y,I S] 6 (fun (k:Nat)=>(ch a).getD k (0:Int)) 82),(14,.cells [I (O:Int)] 3),(15,.cells [I d] 3),(16,.cells [.bool true] 4),(17,.cells [.ptr (.own 2 0)] 72),(18,.fam [] 6 (fun (k:Nat)=>(ch a).getD k (0:Int)) 80),(19,.loop false (some VEx.ret) (slFo2 y S (O:Int) d a) 58 [17] asFo bdFo),(20,.fam [] 6 n' 80)])):=by kernel_rfl
def dsF2:List Nat:=[7,6,5,0,1,2,3,4]
def VF2 (y S:Int) (a:Nat->Int) (r:Int):List VV:=[I r,.bool false,.ptr (.own 13 0),.agg (I y::I S::nL a),.ptr (.own 4 0),.ptr (.own 10 0),.ptr (.own 1 0),.ptr (.own 12 0)]
def nsF2:List Nat:=[0,1,2,3,4,5,6,7,8,9,10,11,12,13]
def BF2 (l:List Stk) (t:Tst) (P:List (List Int)) (Y:Nat) (y S:Int) (a:Nat->Int) (M:Mde) (es:Lst):List VB:=BP2 l t P Y M es ++ [faS y S a]
def dsG2:List Nat:=[25,24,23,9,8] ++ dsF2
def VG2 (P:List (List Int)) (y S:Int) (a:Nat->Int) (r i d o:Int):List VV:=[I i,I P.length,pthD P,I d,I o] ++ VF2 y S a r
theorem gi2_ev (l:List Stk) (t:Tst) (P:List (List Int)) (Y:Nat) (M:Mde) (es:Lst) (y S i d:Int) (o r:Nat) (a:Nat->Int) (X:VEx->List VV->List VB->Prop):codeE Try.prog (callN Try.prog noSpec noL 10 20) (fun _=>none) true 10 (ntOf Try.prog 44) 0 (loopB 2 (bodyOf Try.prog 44)) (dsG2.zip (VG2 P y S a r i d o)) ⟨14,nsF2.zip (BF2 l t P Y y S a M es)⟩ (obs 14 dsG2 nsF2 X) =
 (let z1:=[.cells [.tl t.T.length 1 (dG t.T),I t.far,I t.least] 25,.cells [.tl P.length 1 (pthG P)] 26,.cells (stD l::tsL t) 74,.cells [.ptr (.own 2 0)] 72,.cells [I (Y:Int)] 3,.cells [sFa 7 Y,sFa 8 Y] 76,.cells [.slice (.own 5 0) 2 2] 75,.fam [] (Y*6) (M 0) 80,.fam [] (Y*6) (M 1) 80,.map kS PK.bool es,.cells [.mp 9] 77,.cells [.func 44 [] [.ptr (.own 4 0),.ptr (.own 10 0),.ptr (.own 1 0),.ptr (.own 12 0)]] 78,.cells [.func 40 [] [.ptr (.own 3 0),.ptr (.own 11 0),.ptr (.own 1 0),.ptr (.own 6 0)]] 88,.fam [I y,I S] 6 (fun (k:Nat)=>(ch a).getD k (0:Int)) 82];
 let z2:=[I (i+(1:Int)),I (P.length:Int),.tl P.length 1 (pthG P),I ((P.getD i.toNat []).getD y.toNat (0:Int)),I (IntKind.i64.wrap (↑(BitVec.ofInt IntKind.i64.bits (o:Int) ||| BitVec.ofInt IntKind.i64.bits ((1:Int)*(2:Int) ^ min i.toNat IntKind.i64.bits)).toNat:Int)),I (r:Int),.bool false,.ptr (.own 13 0),.agg [I y,I S,I (a 0),I (a 1),I (a 2),I (a 3),I (a 4),I (a 5)],.ptr (.own 4 0),.ptr (.own 10 0),.ptr (.own 1 0),.ptr (.own 12 0)];
 let z3:=[I (i+(1:Int)),I (P.length:Int),.tl P.length 1 (pthG P),I d,I (o:Int),I (r:Int),.bool false,.ptr (.own 13 0),.agg [I y,I S,I (a 0),I (a 1),I (a 2),I (a 3),I (a 4),I (a 5)],.ptr (.own 4 0),.ptr (.own 10 0),.ptr (.own 1 0),.ptr (.own 12 0)];
 (bif decide (i<(P.length:Int)) then
 bif decide ((0:Int)<=i/\i<(P.length:Int)) then
 bif decide (i<(0:Int)) then
 False
 else bif decide (IntKind.i64.wrap (↑(BitVec.ofInt IntKind.i64.bits ((r:Int).fdiv ((2:Int) ^ min i.toNat IntKind.i64.bits)) &&& BitVec.ofInt IntKind.i64.bits (1:Int)).toNat:Int)=(1:Int)) then
 bif decide (d<(0:Int)) then
 bif decide (i<(0:Int)) then
 False
 else bif inK .i64 ((1:Int)*(2:Int) ^ min i.toNat IntKind.i64.bits) then
 bif decide ((0:Int)<=y/\y<(↑(P.getD i.toNat []).length:Int)) then
 bif inK .i64 (i+(1:Int)) then
 X .normal z2 z1
 else False
 else False
 else False
 else bif decide ((0:Int)<=y/\y<(↑(P.getD i.toNat []).length:Int)) then
 bif decide ((P.getD i.toNat []).getD y.toNat (0:Int)=d) then
 bif decide (i<(0:Int)) then
 False
 else bif inK .i64 ((1:Int)*(2:Int) ^ min i.toNat IntKind.i64.bits) then
 bif decide ((0:Int)<=y/\y<(↑(P.getD i.toNat []).length:Int)) then
 bif inK .i64 (i+(1:Int)) then
 X .normal z2 z1
 else False
 else False
 else False
 else bif inK .i64 (i+(1:Int)) then
 X .normal z3 z1
 else False
 else False
 else bif inK .i64 (i+(1:Int)) then
 X .normal z3 z1
 else False
 else False
 else X (.exit 2) [I i,I (P.length:Int),.tl P.length 1 (pthG P),I d,I (o:Int),I (r:Int),.bool false,.ptr (.own 13 0),.agg [I y,I S,I (a 0),I (a 1),I (a 2),I (a 3),I (a 4),I (a 5)],.ptr (.own 4 0),.ptr (.own 10 0),.ptr (.own 1 0),.ptr (.own 12 0)] z1)):=by kernel_rfl
def lG2 (l:List Stk) (t:Tst) (P:List (List Int)) (Y k:Nat) (y S:Int) (a:Nat->Int) (r:Nat):LT:=fun lock tt h K=>
 ∃ M es,FitP lock h tt ⟨14,nsF2.zip (BF2 l t P Y y S a M es)⟩ (dsG2.zip (VG2 P y S a r 0 (-1) 0))/\(y=((Y - (k+1):Nat):Int)/\k+1<=Y/\Cfg l t P Y/\r<16)/\∀ o d,grpF P (Y - (k+1)) r P.length=(o,d)->K .normal (dsG2.zip (VG2 P y S a r P.length d o)) ⟨14,nsF2.zip (BF2 l t P Y y S a M es)⟩
theorem gm2_ev (l:List Stk) (t:Tst) (D0 D1:List Int) (Y k:Nat) (M:Mde) (es:Lst) (y:Int) (S r:Nat) (a:Nat->Int) (X:VEx->List VV->List VB->Prop):codeE Try.prog (callN Try.prog (tabS [folR2 l t [D0,D1] Y k]) noL 10 20) (tabB [(2,lG2 l t [D0,D1] Y k y S a r)]) true 10 (ntOf Try.prog 44) 0 (loopB 0 (bodyOf Try.prog 44)) (dsF2.zip (VF2 y S a r)) ⟨14,nsF2.zip (BF2 l t [D0,D1] Y y S a M es)⟩ (obs 14 dsF2 nsF2 X) =
 (let z1:=(fun (k:Nat)=>(ch a).getD k (0:Int));
 let z2:=[I (r:Int),.bool false,.ptr (.own 13 0),.agg [I y,I (S:Int),I (a 0),I (a 1),I (a 2),I (a 3),I (a 4),I (a 5)],.ptr (.own 4 0),.ptr (.own 10 0),.ptr (.own 1 0),.ptr (.own 12 0)];
 let z3:=[.func 44 [] [.ptr (.own 4 0),.ptr (.own 10 0),.ptr (.own 1 0),.ptr (.own 12 0)]];
 let z4:=[.func 40 [] [.ptr (.own 3 0),.ptr (.own 11 0),.ptr (.own 1 0),.ptr (.own 6 0)]];
 (bif decide ((r:Int) > (0:Int)) then
 ∃ (M_1:Mde),∃ (es_1:Lst),FitP 0 (VH.mk 14 (nsF2.zip (BF2 l t [D0,D1] Y y (S:Int) a M es))) ((25,I 0)::(24,I (↑[D0,D1].length:Int))::(23,.tl [D0,D1].length 1 (pthG [D0,D1]))::(9,I (-1))::(8,I 0)::(22,.bool true)::(22,.bool (decide ((r:Int) > (0:Int))))::(21,I (r:Int))::dsF2.zip (VF2 y (S:Int) a (r:Int))) (VH.mk 14 (nsF2.zip (BF2 l t [D0,D1] Y y (S:Int) a M_1 es_1))) (dsG2.zip (VG2 [D0,D1] y (S:Int) a (r:Int) (0:Int) (-1:Int) (0:Int)))/\(y=(↑(Y - (k+1)):Int)/\k+1<=Y/\Cfg l t [D0,D1] Y/\r<16)/\∀ (o:Nat) (d:Int),grpF [D0,D1] (Y - (k+1)) r [D0,D1].length=(o,d)->∃ (S':Nat),∃ (O:Nat),∃ (a_2:Nat->Int),∃ (M:Mde),∃ (es:Lst),(VV.ptr (.own 3 0)=VV.ptr (.own 3 0)/\VV.ptr (.own 11 0)=VV.ptr (.own 11 0)/\VV.ptr (.own 1 0)=VV.ptr (.own 1 0)/\VV.ptr (.own 6 0)=VV.ptr (.own 6 0))/\(0=0/\13<=14)/\atL nsB2 (BP2 l t [D0,D1] Y M es) (VH.mk 14 (nsF2.zip (BF2 l t [D0,D1] Y y (S:Int) a M_1 es_1)))/\(y=(Y:Int) - (↑(k+1):Int)/\(S:Int)=(S':Int)/\(o:Int)=(O:Int)/\[I (z1 (0+0)),I (z1 (0+1)),I (z1 (0+2)),I (z1 (0+3)),I (z1 (0+4)),I (z1 (0+5))]=nL a_2)/\PreW l t [D0,D1] Y k O a_2 es/\∀ (b:Bool) (s:St),PostW l t [D0,D1] Y k O d a_2 M b s->bif !b then
 KeyLaw Try.prog 82 kS/\X .ret z2 [.cells [.tl t.T.length 1 (dG t.T),I t.far,I t.least] 25,.cells [.tl [D0,D1].length 1 (pthG [D0,D1])] 26,.cells (stD l::tsL t) 74,.cells [.ptr (.own 2 0)] 72,.cells [I (Y:Int)] 3,.cells [sFa 7 Y,sFa 8 Y] 76,.cells [.slice (.own 5 0) 2 2] 75,.fam [] (Y*6) (s.M 0) 80,.fam [] (Y*6) (s.M 1) 80,.map kS PK.bool (setE s.es [y,(S:Int),z1 (0+0),z1 (0+1),z1 (0+2),z1 (0+3),z1 (0+4),z1 (0+5)] (bif true then
 (1:Int)
 else (0:Int))),.cells [.mp 9] 77,.cells z3 78,.cells z4 88,.fam [I y,I (S:Int)] 6 z1 82]
 else X .normal [I (IntKind.i64.wrap (↑(BitVec.ofInt IntKind.i64.bits (r:Int) &&& ~~~BitVec.ofInt IntKind.i64.bits (o:Int)).toNat:Int)),.bool false,.ptr (.own 13 0),.agg [I y,I (S:Int),I (a 0),I (a 1),I (a 2),I (a 3),I (a 4),I (a 5)],.ptr (.own 4 0),.ptr (.own 10 0),.ptr (.own 1 0),.ptr (.own 12 0)] [.cells [.tl t.T.length 1 (dG t.T),I t.far,I t.least] 25,.cells [.tl [D0,D1].length 1 (pthG [D0,D1])] 26,.cells (stD l::tsL t) 74,.cells [.ptr (.own 2 0)] 72,.cells [I (Y:Int)] 3,.cells [sFa 7 Y,sFa 8 Y] 76,.cells [.slice (.own 5 0) 2 2] 75,.fam [] (Y*6) (s.M 0) 80,.fam [] (Y*6) (s.M 1) 80,.map kS PK.bool s.es,.cells [.mp 9] 77,.cells z3 78,.cells z4 88,.fam [I y,I (S:Int)] 6 z1 82]
 else X (.exit 0) z2 [.cells [.tl t.T.length 1 (dG t.T),I t.far,I t.least] 25,.cells [.tl [D0,D1].length 1 (pthG [D0,D1])] 26,.cells (stD l::tsL t) 74,.cells [.ptr (.own 2 0)] 72,.cells [I (Y:Int)] 3,.cells [sFa 7 Y,sFa 8 Y] 76,.cells [.slice (.own 5 0) 2 2] 75,.fam [] (Y*6) (M 0) 80,.fam [] (Y*6) (M 1) 80,.map kS PK.bool es,.cells [.mp 9] 77,.cells z3 78,.cells z4 88,.fam [I y,I (S:Int)] 6 z1 82])):=by kernel_rfl
def lFi2 (l:List Stk) (t:Tst) (P:List (List Int)) (Y k:Nat) (y:Int) (S:Nat) (a:Nat->Int):LT:=fun lock tt h K=>
 ∃ M es,FitP lock h tt ⟨14,nsF2.zip (BF2 l t P Y y S a M es)⟩ (dsF2.zip (VF2 y S a S))/\(y=(Y:Int) - (k+1:Nat)/\Cfg l t P Y/\PreF l t P Y (k+1) S a es)/\(∀ s,PostF l t P Y (k+1) S a M true s->K .normal (dsF2.zip (VF2 y S a 0)) ⟨14,nsF2.zip (BF2 l t P Y y S a s.M s.es)⟩) /\
  ∀ s (r:Int),PostF l t P Y (k+1) S a M false s->K .ret (dsF2.zip (VF2 y S a r)) ⟨14,nsF2.zip (BF2 l t P Y y S a s.M s.es)⟩
theorem fib2_ev (l:List Stk) (t:Tst) (D0 D1:List Int) (Y k:Nat) (M:Mde) (es:Lst) (y:Int) (S:Nat) (a:Nat->Int) (Q:VRes->VH->Prop):callN Try.prog noSpec (atF 44 [(0,lFi2 l t [D0,D1] Y k y S a)]) 10 20 0 (.fn 44) [.agg (I y::I S::nL a),.ptr (.own 4 0),.ptr (.own 10 0),.ptr (.own 1 0),.ptr (.own 12 0)] ⟨13,nsB2.zip (BP2 l t [D0,D1] Y M es)⟩ (fun r h=>Q r h) =
 (let z2:=(11,.cells [.func 44 [] [.ptr (.own 4 0),.ptr (.own 10 0),.ptr (.own 1 0),.ptr (.own 12 0)]] 78);
 let z3:=(12,.cells [.func 40 [] [.ptr (.own 3 0),.ptr (.own 11 0),.ptr (.own 1 0),.ptr (.own 6 0)]] 88);
 let z1:=(VH.mk (14) [(13,.fam [I y,I (S:Int)] (6) (f6 a) 82),(0,.cells [.tl t.T.length 1 (dG t.T),I t.far,I t.least] 25),(1,.cells [.tl [D0,D1].length 1 (pthG [D0,D1])] 26),(2,.cells (stD l::tsL t) 74),(3,.cells [.ptr (.own 2 0)] 72),(4,.cells [I (Y:Int)] 3),(5,.cells [sFa 7 Y,sFa 8 Y] 76),(6,.cells [.slice (.own 5 0) 2 2] 75),(7,.fam [] (Y*6) (M 0) 80),(8,.fam [] (Y*6) (M 1) 80),(9,.map kS PK.bool es),(10,.cells [.mp 9] 77),z2,z3]);
 (bif decide (y=(Y:Int)) then
 Q (.ret (.bool true)) z1
 else KeyLaw Try.prog 82 kS/\bif decide (valOf es [y,(S:Int),(f6 a) (0+0),(f6 a) (0+1),(f6 a) (0+2),(f6 a) (0+3),(f6 a) (0+4),(f6 a) (0+5)]=(1:Int)) then
 Q (.ret (.bool false)) z1
 else ∃ (M_1:Mde),∃ (es_1:Lst),FitP 0 (VH.mk (14) ((13,.fam [I y,I (S:Int)] (6) (f6 a) 82)::nsB2.zip (BP2 l t [D0,D1] Y M es))) [(7,I (S:Int)),(20,I (S:Int)),(19,.ptr (.own (13) (1))),(18,.bool false),(18,.bool (decide (valOf es [y,(S:Int),(f6 a) (0+0),(f6 a) (0+1),(f6 a) (0+2),(f6 a) (0+3),(f6 a) (0+4),(f6 a) (0+5)]=(1:Int)))),(17,.agg [I y,I (S:Int),I ((f6 a) (0+0)),I ((f6 a) (0+1)),I ((f6 a) (0+2)),I ((f6 a) (0+3)),I ((f6 a) (0+4)),I ((f6 a) (0+5))]),(16,.mp 9),(15,.bool false),(15,.bool (decide (y=(Y:Int)))),(14,I (Y:Int)),(13,I y),(12,.ptr (.own (13) 0)),(6,.bool false),(5,.ptr (.own (13) 0)),(0,.agg (I y::I (S:Int)::nL a)),(1,.ptr (.own 4 0)),(2,.ptr (.own 10 0)),(3,.ptr (.own 1 0)),(4,.ptr (.own 12 0))] (VH.mk 14 (nsF2.zip (BF2 l t [D0,D1] Y y (S:Int) a M_1 es_1))) (dsF2.zip (VF2 y (S:Int) a (S:Int)))/\(y=(Y:Int) - (↑(k+1):Int)/\Cfg l t [D0,D1] Y/\PreF l t [D0,D1] Y (k+1) S a es_1)/\(∀ (s:St),PostF l t [D0,D1] Y (k+1) S a M_1 true s->Q (.ret (.bool true)) (VH.mk 14 [(0,.cells [.tl t.T.length 1 (dG t.T),I t.far,I t.least] 25),(1,.cells [.tl [D0,D1].length 1 (pthG [D0,D1])] 26),(2,.cells (stD l::tsL t) 74),(3,.cells [.ptr (.own 2 0)] 72),(4,.cells [I (Y:Int)] 3),(5,.cells [sFa 7 Y,sFa 8 Y] 76),(6,.cells [.slice (.own 5 0) 2 2] 75),(7,.fam [] (Y*6) (s.M 0) 80),(8,.fam [] (Y*6) (s.M 1) 80),(9,.map kS PK.bool s.es),(10,.cells [.mp 9] 77),z2,z3,(13,.fam [I y,I (S:Int)] 6 (fun (k:Nat)=>(ch a).getD k (0:Int)) 82)]))/\∀ (s:St) (r:Int),PostF l t [D0,D1] Y (k+1) S a M_1 false s->Q (.ret (.bool false)) (VH.mk 14 [(0,.cells [.tl t.T.length 1 (dG t.T),I t.far,I t.least] 25),(1,.cells [.tl [D0,D1].length 1 (pthG [D0,D1])] 26),(2,.cells (stD l::tsL t) 74),(3,.cells [.ptr (.own 2 0)] 72),(4,.cells [I (Y:Int)] 3),(5,.cells [sFa 7 Y,sFa 8 Y] 76),(6,.cells [.slice (.own 5 0) 2 2] 75),(7,.fam [] (Y*6) (s.M 0) 80),(8,.fam [] (Y*6) (s.M 1) 80),(9,.map kS PK.bool s.es),(10,.cells [.mp 9] 77),z2,z3,(13,.fam [I y,I (S:Int)] 6 (fun (k:Nat)=>(ch a).getD k (0:Int)) 82)]))):=by kernel_rfl
theorem fiz2_ev (l:List Stk) (t:Tst) (D0 D1:List Int) (Y:Nat) (M:Mde) (es:Lst) (y:Int) (S:Nat) (a:Nat->Int) (Q:VRes->VH->Prop):callN Try.prog noSpec (atF 44 [(0,lZ)]) 10 20 0 (.fn 44) [.agg (I y::I S::nL a),.ptr (.own 4 0),.ptr (.own 10 0),.ptr (.own 1 0),.ptr (.own 12 0)] ⟨13,nsB2.zip (BP2 l t [D0,D1] Y M es)⟩ (fun r h=>Q r h) =
 (bif decide (y=(Y:Int)) then
 Q (.ret (.bool true)) (VH.mk (14) [(13,.fam [I y,I (S:Int)] (6) (f6 a) 82),(0,.cells [.tl t.T.length 1 (dG t.T),I t.far,I t.least] 25),(1,.cells [.tl [D0,D1].length 1 (pthG [D0,D1])] 26),(2,.cells (stD l::tsL t) 74),(3,.cells [.ptr (.own 2 0)] 72),(4,.cells [I (Y:Int)] 3),(5,.cells [sFa 7 Y,sFa 8 Y] 76),(6,.cells [.slice (.own 5 0) 2 2] 75),(7,.fam [] (Y*6) (M 0) 80),(8,.fam [] (Y*6) (M 1) 80),(9,.map kS PK.bool es),(10,.cells [.mp 9] 77),(11,.cells [.func 44 [] [.ptr (.own 4 0),.ptr (.own 10 0),.ptr (.own 1 0),.ptr (.own 12 0)]] 78),(12,.cells [.func 40 [] [.ptr (.own 3 0),.ptr (.own 11 0),.ptr (.own 1 0),.ptr (.own 6 0)]] 88)])
 else KeyLaw Try.prog 82 kS/\bif decide (valOf es [y,(S:Int),(f6 a) (0+0),(f6 a) (0+1),(f6 a) (0+2),(f6 a) (0+3),(f6 a) (0+4),(f6 a) (0+5)]=(1:Int)) then
 Q (.ret (.bool false)) (VH.mk (14) [(13,.fam [I y,I (S:Int)] (6) (f6 a) 82),(0,.cells [.tl t.T.length 1 (dG t.T),I t.far,I t.least] 25),(1,.cells [.tl [D0,D1].length 1 (pthG [D0,D1])] 26),(2,.cells (stD l::tsL t) 74),(3,.cells [.ptr (.own 2 0)] 72),(4,.cells [I (Y:Int)] 3),(5,.cells [sFa 7 Y,sFa 8 Y] 76),(6,.cells [.slice (.own 5 0) 2 2] 75),(7,.fam [] (Y*6) (M 0) 80),(8,.fam [] (Y*6) (M 1) 80),(9,.map kS PK.bool es),(10,.cells [.mp 9] 77),(11,.cells [.func 44 [] [.ptr (.own 4 0),.ptr (.own 10 0),.ptr (.own 1 0),.ptr (.own 12 0)]] 78),(12,.cells [.func 40 [] [.ptr (.own 3 0),.ptr (.own 11 0),.ptr (.own 1 0),.ptr (.own 6 0)]] 88)])
 else False):=by kernel_rfl
section
variable {l:List Stk} {t:Tst} {P:List (List Int)} {Y k:Nat} {y S d:Int} {own:Int} {a:Nat->Int}
noncomputable def OJ2 (l:List Stk) (t:Tst) (P:List (List Int)) (Y:Nat) (y S own d:Int) (a:Nat->Int) (s:(Mde × Lst) × Nat × (Nat->Int)) (e:VEx) (vs:List VV) (bs:List VB):Prop:=
 e=.exit 2/\vs=VFi2 ((scanC a s.2.1 s.2.2).1 - 1)/\bs=BFo2 l t P Y y S own d a s.1.1 s.1.2 (scanC a s.2.1 s.2.2).2
theorem lIo2_ok:LSound Try.prog true (.block 2 (.loop (loopB 2 (bodyOf Try.prog 74)))) (ntOf Try.prog 74) (lIo2 l t P Y y S own d a):=by
 by_cases hn:l.length<=6
 ·refine loop_row hmix good0 (un:=10) (ds:=dsI) (ns:=nsFo2) (nx:=22) (fun s:(Mde × Lst) × Nat × (Nat->Int)=>VFi2 (s.2.1 - 1)) (fun s=>BFo2 l t P Y y S own d a s.1.1 s.1.2 s.2.2) (fun s=>s.2.1<=l.length) (fun s=>s.2.1) (OJ2 l t P Y y S own d a) noL_ok ?_ ?_
  ·rintro ⟨⟨M,es⟩,k,n⟩ h0
   dsimp only at h0 ⊢
   refine cast (ino2_ev l t P Y y S own d (k - 1) a M es n _).symm ?_
   cases k with
   | zero=>exact cond_d (fun h=>by omega) (fun _=>⟨rfl,rfl,rfl⟩)
   | succ k=>
    have e:(((k+1:Nat):Int) - 1)=(k:Int):=by omega
    rw [e]
    have e2:(k:Int).toNat*1=k:=by omega
    rw [e2,show (fun k=>(ch a).getD k (0:Int)) k=a k from ch_get (by omega)]
    refine cond_d (fun _=>?_) (fun h=>by omega)
    refine cond_dk ⟨by omega,by omega⟩ (cond_dk (by omega) (cond_dk ⟨by omega,by omega⟩ (cond_dk (by omega) (cond_d (fun g=>cond_dk ⟨by omega,by omega⟩ (cond_dk (by omega) (cond_r (by omega) ?_))) (fun g=>?_)))))
    ·refine ⟨((M,es),k,setC n k 0),?_,?_,rfl,fitBs_refl _,fun e vs bs he=>?_⟩
     ·show k<=_; omega
     ·show k<k+1; omega
     ·have hs:scanC a (k+1) n=scanC a k (setC n k 0):=by
       show (if _ then _ else _)=_
       rw [if_pos g]
      obtain ⟨h1,h2,h3⟩:=he
      refine ⟨h1,?_,?_⟩
      ·rw [h2]; dsimp only; rw [hs]
      ·rw [h3]; dsimp only; rw [hs]
    ·have hs:scanC a (k+1) n=(k+1,n):=by
      show (if _ then _ else _)=_
      rw [if_neg g]
     refine ⟨rfl,?_,?_⟩
     ·dsimp only; rw [hs]; dsimp only; rw [e]; rfl
     ·dsimp only; rw [hs]
  ·rintro lock tt h K ⟨M,es,n,hf,_,k1⟩
   refine ⟨((M,es),l.length,n),hf,Nat.le_refl _,?_⟩
   rintro e vs bs ⟨rfl,rfl,rfl⟩
   exact k1 _ _ rfl
 ·rintro lock tt h K ⟨M,es,n,hf,hc,_⟩
  exact (hn hc).elim
theorem lG2_ok {r:Nat}:LSound Try.prog true (.block 2 (.loop (loopB 2 (bodyOf Try.prog 44)))) (ntOf Try.prog 44) (lG2 l t P Y k y S a r):=by
 by_cases hh:y=((Y - (k+1):Nat):Int)/\k+1<=Y/\Cfg l t P Y/\r<16
 ·obtain ⟨hy,hk,cf,hr⟩:=hh
  have hp4:=cf.P4
  refine loop_row hmix good0 (un:=10) (ds:=dsG2) (ns:=nsF2) (nx:=14) (fun s:(Mde × Lst) × Nat=>VG2 P y S a r s.2 (grpF P (Y - (k+1)) r s.2).2 (grpF P (Y - (k+1)) r s.2).1) (fun s=>BF2 l t P Y y S a s.1.1 s.1.2) (fun s=>s.2<=P.length) (fun s=>P.length - s.2)
   (fun s e vs bs=>e=.exit 2/\vs=VG2 P y S a r P.length (grpF P (Y - (k+1)) r P.length).2 (grpF P (Y - (k+1)) r P.length).1/\bs=BF2 l t P Y y S a s.1.1 s.1.2) noL_ok ?_ ?_
  ·rintro ⟨⟨M,es⟩,i⟩ h0
   dsimp only at h0 ⊢
   refine cast (gi2_ev l t P Y M es y S i _ _ r a _).symm ?_
   have hgb:=grpF_le cf.nd (Y - (k+1)) r i
   have hs:grpF P (Y - (k+1)) r (i+1)=if r.testBit i/\((grpF P (Y - (k+1)) r i).2<0 ∨ (P.getD i []).getD (Y - (k+1)) 0=(grpF P (Y - (k+1)) r i).2) then ((grpF P (Y - (k+1)) r i).1 ||| 2 ^ i,(P.getD i []).getD (Y - (k+1)) 0) else grpF P (Y - (k+1)) r i:=rfl
   have h16:(grpF P (Y - (k+1)) r i).1<16:=Nat.lt_of_lt_of_le hgb (Nat.pow_le_pow_right (n:=2) (by omega) (show i<=4 by omega))
   generalize hRQ:RoundQ (σ:=(Mde × Lst) × Nat) _ _ _ _ _ ((M,es),i)=RQ
   have fin:∀ (o':Nat) (d':Int),grpF P (Y - (k+1)) r (i+1)=(o',d')->i<P.length->RQ .normal (VG2 P y S a r ((i:Int)+1) d' o') (BF2 l t P Y y S a M es):=by
    intro o' d' he hlt
    rw [<- hRQ]
    refine ⟨((M,es),i+1),?_,?_,?_,fitBs_refl _,fun _ _ _ h=>h⟩
    ·show i+1<=_; omega
    ·show P.length - (i+1)<P.length - i; omega
    ·dsimp only; rw [he]; rfl
   generalize hg:grpF P (Y - (k+1)) r i=g at hs h16 ⊢
   obtain ⟨o,dd⟩:=g
   dsimp only at hs h16 ⊢
   by_cases hlt:i<P.length
   ·have hidx:(0:Int)<=y/\y<((P.getD i []).length:Nat):=by rw [cf.len i hlt]; omega
    have hi4:i<4:=by omega
    have hpow:(1:Int)*(2:Int) ^ min i IntKind.i64.bits<=8/\0<=(1:Int)*(2:Int) ^ min i IntKind.i64.bits:=by
     match i,hi4 with
     | 0,_=>exact ⟨by decide,by decide⟩
     | 1,_=>exact ⟨by decide,by decide⟩
     | 2,_=>exact ⟨by decide,by decide⟩
     | 3,_=>exact ⟨by decide,by decide⟩
    have ey:y.toNat=Y - (k+1):=by omega
    refine cond_dk (by omega) (cond_dk ⟨by omega,by omega⟩ (cond_d (fun h=>by omega) (fun _=>?_)))
    rw [show (i:Int).toNat=i by omega,ey,or_v o h16 i hi4]
    refine cond_d (fun b=>?_) (fun b=>?_)
    ·have b:=(bit_v r hr i hi4).1 b
     refine cond_d (fun g1=>cond_d (fun h=>by omega) (fun _=>cond_r (by omega) (cond_dk hidx (cond_r (by omega) (fin _ _ ?_ hlt))))) (fun g1=>cond_dk hidx (cond_d (fun g2=>cond_d (fun h=>by omega) (fun _=>cond_r (by omega) (cond_dk hidx (cond_r (by omega) (fin _ _ ?_ hlt))))) (fun g2=>cond_r (by omega) (fin _ _ ?_ hlt))))
     ·rw [hs,if_pos ⟨b,.inl g1⟩]
     ·rw [hs,if_pos ⟨b,.inr g2⟩]
     ·rw [hs,if_neg (fun h=>h.2.elim g1 g2)]
    ·have b:¬ r.testBit i=true:=fun h=>b ((bit_v r hr i hi4).2 h)
     refine cond_r (by omega) (fin _ _ ?_ hlt)
     rw [hs,if_neg (fun h=>b h.1)]
   ·obtain rfl:i=P.length:=by omega
    refine cond_d (fun h=>by omega) (fun _=>?_)
    rw [<- hRQ]
    refine ⟨rfl,?_,rfl⟩
    rw [hg]; rfl
  ·rintro lock tt h K ⟨M,es,hf,_,k1⟩
   refine ⟨((M,es),0),hf,Nat.zero_le _,?_⟩
   rintro e vs bs ⟨rfl,rfl,rfl⟩
   exact k1 _ _ rfl
 ·rintro lock tt h K ⟨M,es,hf,hc,_⟩
  exact (hh hc).elim
end
section
variable {l:List Stk} {t:Tst} {D0 D1:List Int} {Y k:Nat}
theorem hc62 {h:VH} (h6:(h.at 2).cs? = some (stD l::tsL t,74)):isD h 4 (.ptr (.own 2 0)) (.tp (stD l::tsL t)):=⟨_,_,h6,isD_l,⟨rfl,rfl,fun _ _=>rfl⟩,⟨rfl,rfl⟩,⟨rfl,rfl⟩,trivial⟩
structure WS2 where
 M0:Mde
 j:Nat
 M:Mde
 es:Lst
noncomputable def OW2 (l:List Stk) (t:Tst) (P:List (List Int)) (Y k:Nat) (y S d:Int) (O:Nat) (a:Nat->Int) (s:WS2) (e:VEx) (vs:List VV) (bs:List VB):Prop:=
 e=.ret/\vs=VFo2/\∃ st n',(PostW l t P Y k O d a s.M0 false st/\bs=BFo2 l t P Y y S O d a st.M st.es n') ∨ (PostW l t P Y k O d a s.M0 true st/\bs=BFoT2 l t P Y y S O d a st.M st.es n')
theorem lFo2_ok (hfind:SpOk Try.prog (findR2 l t [D0,D1] Y k).1 (findR2 l t [D0,D1] Y k).2) {y S d:Int} {O:Nat} {a:Nat->Int}:LSound Try.prog true (.block 0 (.loop (loopB 0 (bodyOf Try.prog 74)))) (ntOf Try.prog 74) (lFo2 l t [D0,D1] Y k y S d O a):=by
 by_cases hh:y=(Y:Int) - (k+1:Nat)/\Cfg l t [D0,D1] Y/\k+1<=Y/\O<2 ^ [D0,D1].length/\leftB l a
 ·obtain ⟨hy,cf,hk,hO,ha⟩:=hh
  have hl6:=cf.hl.1
  have hY4:=cf.Y4
  have hm0:∀ i,i<l.length->0<=a i:=fun i hi=>(ha.1 i hi).1
  have hO16:O<16:=Nat.lt_of_lt_of_le hO (Nat.pow_le_pow_right (n:=2) (by omega) (show 2<=4 by omega))
  have htab:∀ f T,tabS [meetsR l t,lessT,findR2 l t [D0,D1] Y k] f=some T->SpOk Try.prog f T:=tab_ok _ (fun x hx=>by
   simp only [List.mem_cons,List.not_mem_nil,or_false] at hx
   rcases hx with rfl | rfl | rfl
   ·exact meetsR_ok l t
   ·exact lessT_ok
   ·exact hfind)
  refine loop_row hmix (noL_good htab) (lsp:=tabB [(2,lIo2 l t [D0,D1] Y y S O d a)]) (un:=10) (ds:=dsC) (ns:=nsFo2) (nx:=21) (fun _:WS2=>VFo2) (fun s=>BFo2 l t [D0,D1] Y y S O d a s.M s.es (chAt a l.length s.j))
   (fun s=>s.j<(allC a l.length).length/\LostOk l t [D0,D1] Y s.es/\Same Y (k+1) O s.M0 s.M/\∀ i,i<s.j->meetsF l t (chAt a l.length i) y d=true->planF l t [D0,D1] Y k O (lsF a (chAt a l.length i) 6)=none) (fun s=>(allC a l.length).length - s.j) (OW2 l t [D0,D1] Y k y S d O a) (lsp_one (by kernel_rfl) lIo2_ok) ?_ ?_
  ·rintro ⟨M0,j,M,es⟩ ⟨hj,hlost,hsame,hbad⟩
   dsimp only at hj hlost hsame hbad
   refine cast (fr2_ev l t D0 D1 Y k M es y S d O a _ _).symm ?_
   have hcm:=chAt_mem (most:=a) (k:=l.length) hj
   obtain ⟨hleft,hbd,hnc⟩:=left_less ha hcm hl6
   have hnx:=scan_nxt (most:=a) l.length (chAt a l.length j)
   have hnext:=chAt_next hm0 hj
   have hsucc:∀ x,meetsF l t (chAt a l.length j) y d=true->planF l t [D0,D1] Y k O (lsF a (chAt a l.length j) 6)=some x->folF l t [D0,D1] Y k a O d=some (chAt a l.length j,x):=fun x g1 g2=>by
    refine tryF_some (c0:=fun _=>0) hj (fun i hi hm=>hbad i hi ?_) ?_ g2
    ·rw [hy]; exact hm
    ·show meetsF l t (chAt a l.length j) _ d=true
     rw [<- hy]; exact g1
   generalize hRQ:RoundQ (σ:=WS2) _ _ _ _ _ ⟨M0,j,M,es⟩=RQ
   generalize hcj:chAt a l.length j=c at hcm hleft hbd hnc hnx hnext hsucc ⊢
   have fin:∀ (M':Mde) (es':Lst),LostOk l t [D0,D1] Y es'->Same Y (k+1) O M0 M'->(meetsF l t c y d=true->planF l t [D0,D1] Y k O (lsF a c 6)=none)->∀ (k2:Nat) (n':Nat->Int),scanC a l.length c=(k2,n') ->
    (bif decide ((k2:Int) - 1<0) then RQ .ret VFo2 (BFo2 l t [D0,D1] Y y S O d a M' es' n')
    else bif decide (0<=(k2:Int) - 1/\(k2:Int) - 1<(6:Nat)) then (bif decide (((k2:Int) - 1).toNat*1<6) then (bif inK .i64 (n' (((k2:Int) - 1).toNat*1)+1) then (bif decide (0<=(k2:Int) - 1/\(k2:Int) - 1<(6:Nat)) then (bif decide (((k2:Int) - 1).toNat*1+1<=6) then
     RQ .normal VFo2 (BFo2 l t [D0,D1] Y y S O d a M' es' (setF n' (((k2:Int) - 1).toNat*1) [n' (((k2:Int) - 1).toNat*1)+1])) else False) else False) else False) else False) else False):=by
    intro M' es' hl' hs' hno k2 n' hk2
    have hbad':∀ i,i<j+1->meetsF l t (chAt a l.length i) y d=true->planF l t [D0,D1] Y k O (lsF a (chAt a l.length i) 6)=none:=fun i hi hm=>by
     by_cases e:i=j
     ·subst e; rw [hcj] at hm ⊢; exact hno hm
     ·exact hbad i (by omega) hm
    rw [hk2] at hnx
    obtain ⟨hk1,hnx⟩:=hnx
    dsimp only at hk1
    cases k2 with
    | zero=>
     dsimp only at hnx
     have hj1:j+1=(allC a l.length).length:=by
      rcases hnext with ⟨h1,_⟩ | ⟨_,h2⟩
      ·exact h1
      ·rw [hnx] at h2; cases h2
     refine cond_d (fun _=>?_) (fun h=>by omega)
     rw [<- hRQ]
     refine ⟨rfl,rfl,⟨M',es'⟩,n',.inl ⟨?_,rfl⟩⟩
     have hf:folF l t [D0,D1] Y k a O d=none:=tryF_none (fun c' hc' hm'=>by
      obtain ⟨i,hi,rfl⟩:=List.getElem_of_mem hc'
      have e:chAt a l.length i=(allC a l.length)[i]:=by
       unfold chAt
       rw [List.getD_eq_getElem?_getD,List.getElem?_eq_getElem hi]; rfl
      rw [<- e]
      refine hbad' i (by omega) ?_
      rw [e,hy]; exact hm')
     exact ⟨by rw [hf]; rfl,hl',hs',fun c' x' he=>by rw [hf] at he; cases he⟩
    | succ k2=>
     dsimp only at hnx
     have e:(((k2+1:Nat):Int) - 1)=(k2:Int):=by omega
     rw [e]
     have e2:(k2:Int).toNat*1=k2:=by omega
     rw [e2]
     obtain ⟨hj1,hch⟩:j+1<(allC a l.length).length/\chAt a l.length (j+1)=setC n' k2 (n' k2+1):=by
      rcases hnext with ⟨_,h2⟩ | ⟨h1,h2⟩
      ·rw [hnx] at h2; cases h2
      ·rw [hnx] at h2
       injection h2 with h2
       exact ⟨h1,h2.symm⟩
     have hb6:=(left_less ha (chAt_mem hj1) hl6).2.2 k2 (by omega)
     rw [hch,setC_same] at hb6
     refine cond_d (fun h=>by omega) (fun _=>cond_dk ⟨by omega,by omega⟩ (cond_dk (by omega) (cond_r (by omega) (cond_dk ⟨by omega,by omega⟩ (cond_dk (by omega) ?_)))))
     rw [<- hRQ]
     refine ⟨⟨M0,j+1,M',es'⟩,⟨hj1,hl',hs',hbad'⟩,?_,rfl,?_,fun _ _ _ h=>h⟩
     ·show (allC a l.length).length - (j+1)<(allC a l.length).length - j
      omega
     ·dsimp only
      rw [hch]
      exact fitBs_refl _
   have hir : -9223372036854775808<=(l.length:Int) - 1/\(l.length:Int) - 1<=9223372036854775807:=by omega
   have hF:∀ (M':Mde) (es':Lst) (h:VH) (tt:Slots),h.nx=22->fitB (nsFo2.zip (BFo2 l t [D0,D1] Y y S O d a M' es' c)) h->fitS (dsI.zip (VFi2 (l.length - 1))) tt->FitP 0 h tt ⟨22,nsFo2.zip (BFo2 l t [D0,D1] Y y S O d a M' es' c)⟩ (dsI.zip (VFi2 (l.length - 1))):=fun _ _ _ _ h1 h2 h3=>⟨⟨rfl,h1,h2⟩,h3⟩
   refine ⟨c,hc62 rfl,rfl,⟨⟨hnc,cf.hl,cf.hp,cf.ht⟩,by omega,by omega⟩,cond_i (fun g=>?_) (fun g=>?_)⟩
   ·have g:meetsF l t c y d=false:=by simpa using g
    refine cond_r hir ⟨M,es,c,hF M es _ _ rfl ?_ ?_,hl6,fin M es hlost hsame (fun h=>by rw [g] at h; cases h)⟩
    ·exact (by repeat (first | exact trivial | refine ⟨VB.fit_refl _,?_⟩))
    ·exact ⟨rfl,rfl,rfl,rfl,rfl,trivial⟩
   ·have g:meetsF l t c y d=true:=by simpa using g
    refine cond_r (by omega) ⟨a,c,rfl,rfl,hbd,O,lsF a c 6,M,es,⟨rfl,rfl,rfl,rfl⟩,⟨rfl,by omega⟩,⟨rfl,rfl,rfl,rfl,rfl,rfl,rfl,rfl,rfl,rfl,rfl,rfl,rfl,trivial⟩,⟨by omega,rfl,rfl⟩,⟨by omega,hO,hleft,hlost⟩,?_⟩
    rintro b s ⟨p1,p2,p3,p4⟩
    refine cond_i (fun g2=>?_) (fun g2=>?_)
    ·have g2:b=false:=by simpa using g2
     refine cond_r hir ⟨s.M,s.es,c,hF s.M s.es _ _ rfl ?_ ?_,hl6,fin s.M s.es p2 (hsame.trans p3.later) (fun _=>?_)⟩
     ·exact (by repeat (first | exact trivial | refine ⟨VB.fit_refl _,?_⟩))
     ·exact ⟨rfl,rfl,rfl,rfl,rfl,trivial⟩
     ·rw [g2] at p1
      cases hx:planF l t [D0,D1] Y k O (lsF a c 6) with
      | none=>rfl
      | some x=>rw [hx] at p1; cases p1
    ·have g2:b=true:=by simpa using g2
     subst g2
     obtain ⟨x,hx⟩:∃ x,planF l t [D0,D1] Y k O (lsF a c 6)=some x:=by
      cases hx:planF l t [D0,D1] Y k O (lsF a c 6) with
      | none=>rw [hx] at p1; cases p1
      | some x=>exact ⟨x,rfl⟩
     have hyY:(0:Int)<=y/\y<(Y:Int):=⟨by omega,by omega⟩
     have hyY6:0+y.toNat*6+6<=Y*6:=by omega
     have fin2:∀ M2:Mde,(∀ i,i < [D0,D1].length->M2 i=if O.testBit i=true then wrM (s.M i) y c else s.M i)->(∀ i,[D0,D1].length<=i->M2 i=s.M i)->∀ bs,bs=BFoT2 l t [D0,D1] Y y S O d a M2 s.es c->RQ .ret VFo2 bs:=by
      rintro M2 h2 h3 bs rfl
      rw [<- hRQ]
      exact ⟨rfl,rfl,⟨M2,s.es⟩,c,.inr ⟨postW_true hk hO (by omega) (hsucc x g hx) hx hsame ⟨p1,p2,p3,p4⟩ h2 h3,rfl⟩⟩
     have fin3:∀ {m0 m1:Nat->Int},(m0=if O.testBit 0=true then wrM (s.M 0) y c else s.M 0)->(m1=if O.testBit 1=true then wrM (s.M 1) y c else s.M 1)->RQ .ret VFo2 (BFoT2 l t [D0,D1] Y y S O d a (fun i=>if i=0 then m0 else if i=1 then m1 else s.M i) s.es c):=fun h0 h1=>fin2 _ (fun i hi=>by
      match i,hi with
      | 0,_=>exact h0
      | 1,_=>exact h1
      | _+2,hi=>exact absurd hi (by show ¬ _+2<2; omega)) (fun i hi=>by
      have hi:2<=i:=hi
      rw [if_neg (show ¬ i=0 by omega),if_neg (show ¬ i=1 by omega)]) _ rfl
     refine cond_d (fun b0=>cond_dk hyY (cond_dk hyY6 ?_)) (fun b0=>?_)
     ·have b0:O.testBit 0=true:=(bit_v O hO16 0 (by omega)).1 b0
      refine cond_d (fun b1=>cond_dk hyY (cond_dk hyY6 ?_)) (fun b1=>?_)
      ·have b1:O.testBit 1=true:=(bit_v O hO16 1 (by omega)).1 b1
       exact fin3 (if_pos b0).symm (if_pos b1).symm
      ·have b1:¬ O.testBit 1=true:=fun h=>b1 ((bit_v O hO16 1 (by omega)).2 h)
       exact fin3 (if_pos b0).symm (if_neg b1).symm
     ·have b0:¬ O.testBit 0=true:=fun h=>b0 ((bit_v O hO16 0 (by omega)).2 h)
      refine cond_d (fun b1=>cond_dk hyY (cond_dk hyY6 ?_)) (fun b1=>?_)
      ·have b1:O.testBit 1=true:=(bit_v O hO16 1 (by omega)).1 b1
       exact fin3 (if_neg b0).symm (if_pos b1).symm
      ·have b1:¬ O.testBit 1=true:=fun h=>b1 ((bit_v O hO16 1 (by omega)).2 h)
       exact fin3 (if_neg b0).symm (if_neg b1).symm
  ·rintro lock tt h K ⟨M,es,hf,⟨_,_,hpw⟩,k1,k2⟩
   refine ⟨⟨M,0,M,es⟩,?_,⟨all_pos hm0,hpw.2.2.2,Same.refl _ _ _ _,fun i hi=>absurd hi (Nat.not_lt_zero i)⟩,?_⟩
   ·dsimp only
    rw [chAt_zero hm0]; exact hf
   ·rintro e vs bs ⟨rfl,rfl,st,n',⟨hp,rfl⟩ | ⟨hp,rfl⟩⟩
    ·exact k1 st n' hp
    ·exact k2 st n' hp
 ·rintro lock tt h K ⟨M,es,hf,⟨h1,h2,h3⟩,_⟩
  exact (hh ⟨h1,h2,h3.1,h3.2.1,h3.2.2.1⟩).elim
end
section
variable {l:List Stk} {t:Tst} {D0 D1:List Int} {Y k:Nat}
theorem lift2 {f:FuncId} {args:List VV} {b:Bool} {s:St} {M:Mde} {es:Lst} {nx:Nat} {bs:List (Nat × VB)} (ha:belL 13 args=true) (hr:renL id args=args) (hnx:13<=nx) (hat:atL nsB2 (BP2 l t [D0,D1] Y M es) ⟨nx,bs⟩)
  (hc:CallsV Try.prog f args ⟨13,nsB2.zip (BP2 l t [D0,D1] Y M es)⟩ (.ret (.bool b)) ⟨13,nsB2.zip (BP2 l t [D0,D1] Y s.M s.es)⟩) :
  CallsV Try.prog f args ⟨nx,bs⟩ (.ret (.bool b)) ⟨nx,(7,.fam [] (Y*6) (s.M 0) 80)::(8,.fam [] (Y*6) (s.M 1) 80)::(9,.map kS .bool s.es)::bs⟩:=by
 obtain ⟨e0,e1,e2,e3,e4,e5,e6,e7,e8,e9,e10,e11,e12,_⟩:=hat
 have:=calls_ren (P:=Try.prog) (h:=⟨nx,bs⟩) (h1:=⟨nx,(7,.fam [] (Y*6) (s.M 0) 80)::(8,.fam [] (Y*6) (s.M 1) 80)::(9,.map kS .bool s.es)::bs⟩) id (fun _ _ _ _ h=>h) hc (fun n hn=>by
  have hn:n<13:=hn
  match n,hn with
  | 0,_=>exact ⟨trivial,e0⟩
  | 1,_=>exact ⟨trivial,e1⟩
  | 2,_=>exact ⟨trivial,e2⟩
  | 3,_=>exact ⟨trivial,e3⟩
  | 4,_=>exact ⟨trivial,e4⟩
  | 5,_=>exact ⟨trivial,e5⟩
  | 6,_=>exact ⟨trivial,e6⟩
  | 7,_=>exact ⟨trivial,e7⟩
  | 8,_=>exact ⟨trivial,e8⟩
  | 9,_=>exact ⟨trivial,e9⟩
  | 10,_=>exact ⟨trivial,e10⟩
  | 11,_=>exact ⟨trivial,e11⟩
  | 12,_=>exact ⟨trivial,e12⟩
  | _+13,hn=>exact absurd hn (by omega)) (fun n hn=>by
  have hn:n<13:=hn
  match n,hn with
  | 0,_=>exact ⟨trivial,rfl,e0⟩
  | 1,_=>exact ⟨trivial,rfl,e1⟩
  | 2,_=>exact ⟨trivial,rfl,e2⟩
  | 3,_=>exact ⟨trivial,rfl,e3⟩
  | 4,_=>exact ⟨trivial,rfl,e4⟩
  | 5,_=>exact ⟨trivial,rfl,e5⟩
  | 6,_=>exact ⟨trivial,rfl,e6⟩
  | 7,_=>exact ⟨trivial,rfl,at_lt (show 7<nx by omega)⟩
  | 8,_=>exact ⟨trivial,rfl,at_lt (show 8<nx by omega)⟩
  | 9,_=>exact ⟨trivial,rfl,at_lt (show 9<nx by omega)⟩
  | 10,_=>exact ⟨trivial,rfl,e10⟩
  | 11,_=>exact ⟨trivial,rfl,e11⟩
  | 12,_=>exact ⟨trivial,rfl,e12⟩
  | _+13,hn=>exact absurd hn (by omega)) (fun q hq=>by
  have hq:∀ n,n<13->n ≠ q:=fun n hn=>hq n hn
  rw [at_ne (hq 7 (by omega)),at_ne (hq 8 (by omega)),at_ne (hq 9 (by omega))]) (fun n hn=>by
  have hn:n<13:=hn
  match n,hn with
  | 0,_=>rfl
  | 1,_=>rfl
  | 2,_=>rfl
  | 3,_=>rfl
  | 4,_=>rfl
  | 5,_=>rfl
  | 6,_=>rfl
  | 7,_=>rfl
  | 8,_=>rfl
  | 9,_=>rfl
  | 10,_=>rfl
  | 11,_=>rfl
  | 12,_=>rfl
  | _+13,hn=>exact absurd hn (by omega)) ha rfl
 rw [hr] at this
 exact this
theorem follow_v2 (hfind:SpOk Try.prog (findR2 l t [D0,D1] Y k).1 (findR2 l t [D0,D1] Y k).2) (cf:Cfg l t [D0,D1] Y) {y S d:Int} {O:Nat} {a:Nat->Int} {M:Mde} {es:Lst} (hy:y=(Y:Int) - (k+1:Nat)) (hp:PreW l t [D0,D1] Y k O a es) :
  ∃ b s,PostW l t [D0,D1] Y k O d a M b s/\CallsV Try.prog 40 [.agg (I y::I S::nL a),I O,I d,.ptr (.own 3 0),.ptr (.own 11 0),.ptr (.own 1 0),.ptr (.own 6 0)] ⟨13,nsB2.zip (BP2 l t [D0,D1] Y M es)⟩ (.ret (.bool b)) ⟨13,nsB2.zip (BP2 l t [D0,D1] Y s.M s.es)⟩:=by
 have hall:LoopsOk Try.prog 74 [(0,lFo2 l t [D0,D1] Y k y S d O a)]:=fun x hx=>by
  simp only [List.mem_singleton] at hx
  subst hx
  exact ⟨by kernel_rfl,lFo2_ok hfind⟩
 obtain ⟨r,h',⟨b,s,hw,rfl,hf⟩,hc⟩:=of_callN (callL_good hmix noSp hall (un:=10) 20) (f:=40) (args:=[.agg (I y::I S::nL a),I O,I d,.ptr (.own 3 0),.ptr (.own 11 0),.ptr (.own 1 0),.ptr (.own 6 0)]) (h:=⟨13,nsB2.zip (BP2 l t [D0,D1] Y M es)⟩) (K:=fun r h'=>∃ b s,PostW l t [D0,D1] Y k O d a M b s/\r=.ret (.bool b)/\fitB (nsB2.zip (BP2 l t [D0,D1] Y s.M s.es)) h') (by
  refine cast (fob2_ev l t D0 D1 Y k M es y S d O a _).symm ⟨M,es,⟨⟨rfl,rfl,by repeat (first | exact trivial | refine ⟨VB.fit_refl _,?_⟩)⟩,rfl,rfl,rfl,rfl,trivial⟩,⟨hy,cf,hp⟩,fun s n' hw=>⟨false,s,hw,rfl,by repeat (first | exact trivial | refine ⟨VB.fit_refl _,?_⟩)⟩,fun s n' hw=>⟨true,s,hw,rfl,by repeat (first | exact trivial | refine ⟨VB.fit_refl _,?_⟩)⟩⟩)
 exact ⟨b,s,hw,calls_weak hc (Nat.le_refl _) hf rfl rfl⟩
theorem folR2_ok (hfind:SpOk Try.prog (findR2 l t [D0,D1] Y k).1 (findR2 l t [D0,D1] Y k).2) (cf:Cfg l t [D0,D1] Y):SpOk Try.prog (folR2 l t [D0,D1] Y k).1 (folR2 l t [D0,D1] Y k).2:=by
 intro lock args h K hK
 simp only [folR2] at hK
 split at hK
 ·rename_i nx bs
  obtain ⟨S',O,a,M,es,⟨rfl,rfl,rfl,rfl⟩,⟨rfl,hnx⟩,hat,⟨hy,rfl,rfl,rfl⟩,hp,hK⟩:=hK
  obtain ⟨b,s,hw,hc⟩:=follow_v2 hfind cf hy hp
  exact ⟨_,_,hK b s hw,lock0 _ _,lift2 rfl rfl hnx hat hc⟩
 ·exact hK.elim
structure FS2 where
 M0:Mde
 r:Nat
 acc:Rsl
 s:St
def OF2 (l:List Stk) (t:Tst) (P:List (List Int)) (Y k:Nat) (y:Int) (S:Nat) (a:Nat->Int) (f:FS2) (e:VEx) (vs:List VV) (bs:List VB):Prop:=
 (e=.exit 0/\vs=VF2 y S a 0/\∃ st,PostF l t P Y (k+1) S a f.M0 true st/\bs=BF2 l t P Y y S a st.M st.es) ∨ (e=.ret/\∃ (r:Int) (st:St),PostF l t P Y (k+1) S a f.M0 false st/\vs=VF2 y S a r/\bs=BF2 l t P Y y S a st.M st.es)
theorem lFi2_ok (hfol:SpOk Try.prog (folR2 l t [D0,D1] Y k).1 (folR2 l t [D0,D1] Y k).2) {y:Int} {S:Nat} {a:Nat->Int}:LSound Try.prog true (.block 0 (.loop (loopB 0 (bodyOf Try.prog 44)))) (ntOf Try.prog 44) (lFi2 l t [D0,D1] Y k y S a):=by
 by_cases hh:y=(Y:Int) - (k+1:Nat)/\Cfg l t [D0,D1] Y/\k+1<=Y/\leftB l a
 ·obtain ⟨hy,cf,hk,ha⟩:=hh
  refine loop_rowD hmix (noL_good (tab1 hfol)) (un:=10) (ds:=dsF2) (ns:=nsF2) (nx:=14) (lsp:=fun f:FS2=>tabB [(2,lG2 l t [D0,D1] Y k y S a f.r)]) (fun f:FS2=>VF2 y S a f.r) (fun f=>BF2 l t [D0,D1] Y y S a f.s.M f.s.es) (fun f=>DoneF l t [D0,D1] Y k S a f.M0 f.r f.acc f.s) (fun f=>f.r) (OF2 l t [D0,D1] Y k y S a) (fun _ _=>lsp_one (by kernel_rfl) lG2_ok) ?_ ?_
  ·rintro ⟨M0,r,acc,s⟩ hd
   dsimp only at hd ⊢
   refine cast (gm2_ev l t D0 D1 Y k s.M s.es y S r a _).symm ?_
   have hr16:r<16:=Nat.lt_of_lt_of_le hd.lt (Nat.pow_le_pow_right (n:=2) (by omega) (show 2<=4 by omega))
   by_cases hr:r=0
   ·subst hr
    refine cond_d (fun h=>by omega) (fun _=>.inl ⟨rfl,rfl,s,done_end hd,rfl⟩)
   ·refine cond_dk (by omega) ⟨s.M,s.es,⟨⟨rfl,rfl,by repeat (first | exact trivial | refine ⟨VB.fit_refl _,?_⟩)⟩,rfl,rfl,rfl,rfl,rfl,rfl,rfl,rfl,rfl,rfl,rfl,rfl,rfl,trivial⟩,⟨by omega,hk,cf,hr16⟩,?_⟩
    intro o d hg
    have ho:o<2 ^ [D0,D1].length:=by
     have:=grpF_le cf.nd (Y - (k+1)) r [D0,D1].length
     rw [hg] at this; exact this
    have ho16:o<16:=Nat.lt_of_lt_of_le ho (Nat.pow_le_pow_right (n:=2) (by omega) (show 2<=4 by omega))
    refine ⟨S,o,a,s.M,s.es,⟨rfl,rfl,rfl,rfl⟩,⟨rfl,by omega⟩,⟨rfl,rfl,rfl,rfl,rfl,rfl,rfl,rfl,rfl,rfl,rfl,rfl,rfl,trivial⟩,⟨hy,rfl,rfl,rfl⟩,⟨hk,ho,ha,hd.lost⟩,?_⟩
    intro b s' hw
    obtain ⟨d1,d2⟩:=done_step cf.nd hd hr hg (s':=s')
    refine cond_i (fun g=>?_) (fun g=>?_)
    ·have g:b=false:=by simpa using g
     subst g
     obtain ⟨z1,z2,z3⟩:=d2 hw
     refine ⟨key82,.inr ⟨rfl,r,⟨s'.M,setE s'.es (kyF y S a) 1⟩,⟨by rw [z1]; rfl,?_,z3,fun x hx=>by rw [z1] at hx; cases hx⟩,rfl,rfl⟩⟩
     have:=lost_set z2 hk z1
     rw [<- hy] at this
     exact this
    ·have g:b=true:=by simpa using g
     subst g
     obtain ⟨acc',hd',hlt⟩:=d1 hw
     rw [andnot_v r hr16 o ho16]
     exact ⟨⟨M0,_,acc',s'⟩,hd',hlt,rfl,fitBs_refl _,fun _ _ _ h=>h⟩
  ·rintro lock tt h K ⟨M,es,hf,⟨_,_,hp⟩,k1,k2⟩
   refine ⟨⟨M,S,fun _ _ _=>0,⟨M,es⟩⟩,hf,done_start hp,?_⟩
   rintro e vs bs (⟨rfl,rfl,st,hp,rfl⟩ | ⟨rfl,r,st,hp,rfl,rfl⟩)
   ·exact k1 st hp
   ·exact k2 st r hp
 ·rintro lock tt h K ⟨M,es,hf,⟨h1,h2,h3⟩,_⟩
  exact (hh ⟨h1,h2,h3.1,h3.2.2.1⟩).elim
theorem find_z2 (cf:Cfg l t [D0,D1] Y) {y:Int} {S:Nat} {a:Nat->Int} {M:Mde} {es:Lst} (hy:y=(Y:Int)) (hp:PreF l t [D0,D1] Y 0 S a es) :
  ∃ b s,PostF l t [D0,D1] Y 0 S a M b s/\CallsV Try.prog 44 [.agg (I y::I S::nL a),.ptr (.own 4 0),.ptr (.own 10 0),.ptr (.own 1 0),.ptr (.own 12 0)] ⟨13,nsB2.zip (BP2 l t [D0,D1] Y M es)⟩ (.ret (.bool b)) ⟨13,nsB2.zip (BP2 l t [D0,D1] Y s.M s.es)⟩:=by
 have hall:LoopsOk Try.prog 44 [(0,lZ)]:=fun x hx=>by
  simp only [List.mem_singleton] at hx
  subst hx
  exact ⟨by kernel_rfl,lZ_ok⟩
 obtain ⟨r,h',⟨rfl,hf⟩,hc⟩:=of_callN (callL_good hmix noSp hall (un:=10) 20) (f:=44) (args:=[.agg (I y::I S::nL a),.ptr (.own 4 0),.ptr (.own 10 0),.ptr (.own 1 0),.ptr (.own 12 0)]) (h:=⟨13,nsB2.zip (BP2 l t [D0,D1] Y M es)⟩) (K:=fun r h'=>r=.ret (.bool true)/\fitB (nsB2.zip (BP2 l t [D0,D1] Y M es)) h') (by
  refine cast (fiz2_ev l t D0 D1 Y M es y S a _).symm (cond_dk hy ⟨rfl,by repeat (first | exact trivial | refine ⟨VB.fit_refl _,?_⟩)⟩))
 exact ⟨true,⟨M,es⟩,⟨rfl,hp.2.2.2,Same.refl _ _ _ _,fun x _ i y j _ _ h1 h2=>by omega⟩,calls_weak hc (Nat.le_refl _) hf rfl rfl⟩
theorem find_s2 (hfol:SpOk Try.prog (folR2 l t [D0,D1] Y k).1 (folR2 l t [D0,D1] Y k).2) (cf:Cfg l t [D0,D1] Y) {y:Int} {S:Nat} {a:Nat->Int} {M:Mde} {es:Lst} (hy:y=(Y:Int) - (k+1:Nat)) (hp:PreF l t [D0,D1] Y (k+1) S a es) :
  ∃ b s,PostF l t [D0,D1] Y (k+1) S a M b s/\CallsV Try.prog 44 [.agg (I y::I S::nL a),.ptr (.own 4 0),.ptr (.own 10 0),.ptr (.own 1 0),.ptr (.own 12 0)] ⟨13,nsB2.zip (BP2 l t [D0,D1] Y M es)⟩ (.ret (.bool b)) ⟨13,nsB2.zip (BP2 l t [D0,D1] Y s.M s.es)⟩:=by
 have hall:LoopsOk Try.prog 44 [(0,lFi2 l t [D0,D1] Y k y S a)]:=fun x hx=>by
  simp only [List.mem_singleton] at hx
  subst hx
  exact ⟨by kernel_rfl,lFi2_ok hfol⟩
 obtain ⟨r,h',⟨b,s,hw,rfl,hf⟩,hc⟩:=of_callN (callL_good hmix noSp hall (un:=10) 20) (f:=44) (args:=[.agg (I y::I S::nL a),.ptr (.own 4 0),.ptr (.own 10 0),.ptr (.own 1 0),.ptr (.own 12 0)]) (h:=⟨13,nsB2.zip (BP2 l t [D0,D1] Y M es)⟩) (K:=fun r h'=>∃ b s,PostF l t [D0,D1] Y (k+1) S a M b s/\r=.ret (.bool b)/\fitB (nsB2.zip (BP2 l t [D0,D1] Y s.M s.es)) h') (by
  refine cast (fib2_ev l t D0 D1 Y k M es y S a _).symm ?_
  have hk:=hp.1
  refine cond_d (fun h=>by omega) (fun _=>⟨key82,cond_d (fun h=>⟨false,⟨M,es⟩,?_,rfl,by repeat (first | exact trivial | refine ⟨VB.fit_refl _,?_⟩)⟩) (fun _=>⟨M,es,⟨⟨rfl,rfl,by repeat (first | exact trivial | refine ⟨VB.fit_refl _,?_⟩)⟩,rfl,rfl,rfl,rfl,rfl,rfl,rfl,rfl,trivial⟩,⟨hy,cf,hp⟩,fun s hw=>⟨true,s,hw,rfl,by repeat (first | exact trivial | refine ⟨VB.fit_refl _,?_⟩)⟩,fun s r hw=>⟨false,s,hw,rfl,by repeat (first | exact trivial | refine ⟨VB.fit_refl _,?_⟩)⟩⟩)⟩)
  have h:valOf es (kyF y S a)=1:=h
  have hn:=lost_get cf.hl.1 hp.2.2.2 (S:=S) (a:=a) hk (by rw [<- hy,h]; omega)
  exact ⟨by rw [hn]; rfl,hp.2.2.2,Same.refl _ _ _ _,fun x hx=>by rw [hn] at hx; cases hx⟩)
 exact ⟨b,s,hw,calls_weak hc (Nat.le_refl _) hf rfl rfl⟩
theorem findR2_ok (cf:Cfg l t [D0,D1] Y):∀ k:Nat,SpOk Try.prog (findR2 l t [D0,D1] Y k).1 (findR2 l t [D0,D1] Y k).2:=by
 have key:∀ k:Nat,(∀ (y:Int) (S:Nat) (a:Nat->Int) (M:Mde) (es:Lst),y=(Y:Int) - k->PreF l t [D0,D1] Y k S a es->∃ b s,PostF l t [D0,D1] Y k S a M b s/\CallsV Try.prog 44 [.agg (I y::I S::nL a),.ptr (.own 4 0),.ptr (.own 10 0),.ptr (.own 1 0),.ptr (.own 12 0)] ⟨13,nsB2.zip (BP2 l t [D0,D1] Y M es)⟩ (.ret (.bool b)) ⟨13,nsB2.zip (BP2 l t [D0,D1] Y s.M s.es)⟩)->SpOk Try.prog (findR2 l t [D0,D1] Y k).1 (findR2 l t [D0,D1] Y k).2:=by
  intro k hv lock args h K hK
  simp only [findR2] at hK
  split at hK
  ·rename_i nx bs
   obtain ⟨S',a,M,es,⟨rfl,rfl,rfl,rfl⟩,⟨rfl,hnx⟩,hat,⟨hy,rfl,rfl⟩,hp,hK⟩:=hK
   obtain ⟨b,s,hw,hc⟩:=hv _ S' a M es hy hp
   exact ⟨_,_,hK b s hw,lock0 _ _,lift2 rfl rfl hnx hat hc⟩
  ·exact hK.elim
 intro k
 induction k with
 | zero=>exact key 0 (fun y S a M es hy hp=>find_z2 cf (by omega) hp)
 | succ k ih=>exact key (k+1) (fun y S a M es hy hp=>find_s2 (folR2_ok ih cf) cf hy hp)
end
def nsBs2:List Nat:=[1,2,3,4,5,6,7,8,9,10,11,12,13]
def BSs2 (l:List Stk) (t:Tst) (P:List (List Int)) (Y:Nat) (M:Mde) (es:Lst):List VB:=[.cells (tsL t) 25,.cells [pthD P] 26,.cells (stD l::tsL t) 74,.cells [.ptr (.own 3 0)] 72,.cells [I Y] 3,.cells [sFa 8 Y,sFa 9 Y] 76,.cells [.slice (.own 6 0) 2 2] 75,.fam [] (Y*6) (M 0) 80,.fam [] (Y*6) (M 1) 80,.map kS .bool es,.cells [.mp 10] 77,.cells [.func 44 [] [.ptr (.own 5 0),.ptr (.own 11 0),.ptr (.own 2 0),.ptr (.own 13 0)]] 78,.cells [.func 40 [] [.ptr (.own 4 0),.ptr (.own 12 0),.ptr (.own 2 0),.ptr (.own 7 0)]] 88]
def findRs2 (l:List Stk) (t:Tst) (P:List (List Int)) (Y k:Nat):FuncId × Spec1:=(44,fun lock args h K=>match args,h with
 | [.agg (.int .i64 y::.int .i64 S::ns),x1,x2,x3,x4],⟨nx,bs⟩=>∃ (S':Nat) (a:Nat->Int) (M:Mde) (es:Lst),(x1=.ptr (.own 5 0)/\x2=.ptr (.own 11 0)/\x3=.ptr (.own 2 0)/\x4=.ptr (.own 13 0))/\(lock=0/\14<=nx)/\atL nsBs2 (BSs2 l t P Y M es) ⟨nx,bs⟩/\(y=(Y:Int) - k/\S=S'/\ns=nL a)/\PreF l t P Y k S' a es /\
   ∀ (b:Bool) (s:St),PostF l t P Y k S' a M b s->K (.ret (.bool b)) ⟨nx,(8,.fam [] (Y*6) (s.M 0) 80)::(9,.fam [] (Y*6) (s.M 1) 80)::(10,.map kS .bool s.es)::bs⟩
 | _,_=>False)
def nsPs2:List Nat:=[0,6,8,9]
def BPs2 (l:List Stk) (Y:Nat) (M:Mde) (r:Nat):List VB:=[.bun 7 r l.length (GM Y M) 3,.cells [sFa 8 Y,sFa 9 Y] 76,.fam [] (Y*6) (M 0) 80,.fam [] (Y*6) (M 1) 80]
def lCs2 (l:List Stk) (t:Tst) (P:List (List Int)) (Y:Nat):LT:=fun lock tt h K=>match h.nx with
 | 14=>∃ (M:Mde),FitP lock h tt ⟨14,nsPs2.zip (BPs2 l Y M 0)⟩ ((18,.nils)::dsPl.zip (VPs l t P Y 2 0 .nils 0))/\K .normal ((18,.tl Y 1 (rowH l.length 0))::(18::dsPl).zip (.sl 14 Y::VPs l t P Y 2 0 .nils Y)) ⟨15,(14,.gone)::(14::nsPs2).zip (.vec Y (rowH l.length 0) 1 23::(BPs2 l Y M (0+Y)))⟩
 | 17=>∃ (M:Mde) (gO:Nat->List VV),FitP lock h tt ⟨17,(16::nsPs2).zip (.vec 1 gO 1 26::(BPs2 l Y M (0+Y)))⟩ ((18,.nils)::dsPl.zip (VPs l t P Y 2 1 (.sl 16 1) 0))/\K .normal ((18,.tl Y 1 (rowH l.length (0+Y)))::(18::dsPl).zip (.sl 17 Y::VPs l t P Y 2 1 (.sl 16 1) Y)) ⟨18,(17,.gone)::(17::(16::nsPs2)).zip (.vec Y (rowH l.length (0+Y)) 1 23::(.vec 1 gO 1 26::(BPs2 l Y M (0+Y+Y))))⟩
 | _=>False
theorem cs20_ev (l:List Stk) (t:Tst) (P:List (List Int)) (Y y r:Nat) (M:Mde) (G:Nat->Nat->Int) (g:Nat->List VV) (X:VEx->List VV->List VB->Prop):codeE Try.prog (callN Try.prog (tabS [listO]) noL 10 20) (fun _=>none) true 10 (ntOf Try.prog 17) 0 (loopB 5 (bodyOf Try.prog 17)) ((18::dsPl).zip (.sl 14 y::VPs l t P Y 2 0 .nils y)) ⟨15,(14::nsPs2).zip (.vec y g 1 23::[.bun 7 r l.length G 3,.cells [sFa 8 Y,sFa 9 Y] 76,.fam [] (Y*6) (M 0) 80,.fam [] (Y*6) (M 1) 80])⟩ (obs 15 (18::dsPl) (14::nsPs2) X) =
 (bif decide ((y:Int)<(Y:Int)) then
 bif decide ((0:Int)<=(y:Int)/\(y:Int)<(Y:Int)) then
 bif decide (0+(y:Int).toNat*(6)+(6)<=Y*6) then
 ∃ (n:Nat->Int),∃ (m:Nat),∃ (r_1:Nat),∃ (g_1:Nat->Nat->Int),(g6 (m6 M 0 (y:Int)))=nL n/\(l.length:Int)=(m:Int)/\m<=6/\0=0/\(VH.mk (16) ((15,.fam [] (6) (setF (fun (_:Nat)=>(0:Int)) 0 (m6 M 0 (y:Int))) 80)::(15,.fam [] (6) (fun (_:Nat)=>(0:Int)) 80)::(14::nsPs2).zip [.vec y g 1 23,.bun 7 r l.length G 3,.cells [sFa 8 Y,sFa 9 Y] 76,.fam [] (Y*6) (M 0) 80,.fam [] (Y*6) (M 1) 80])).at 0=VB.bun 7 r_1 m g_1 3/\bif y.beq y then
 bif roomB (y+1) (24) then
 bif inK .i64 ((y:Int)+(1:Int)) then
 X .normal [.sl 14 (y+1),I ((y:Int)+(1:Int)),I (Y:Int),.slice (.fa (8+0) 0 0) Y Y,I (0:Int),I (2:Int),.slice (.own 6 0) 2 2,.nils,I 0,.nils,.ptr (.own 2 0),.ptr (.own 1 0),.tl l.length 5 (stG l),.agg [.tl t.T.length 1 (dG t.T),I t.far,I t.least],.tl P.length 1 (pthG P)] [.vec (y+1) (catG y g fun (j:Nat)=>List.take (1) (List.drop (j*(1)) [.hs 7 r_1 m])) (1) 23,.bun 7 (r_1+1) m (rowM g_1 r_1 n) 3,.cells [.slice (.fa 8 0 0) Y Y,.slice (.fa 9 0 0) Y Y] 76,.fam [] (Y*6) (M 0) 80,.fam [] (Y*6) (M 1) 80]
 else False
 else False
 else False
 else False
 else False
 else X (VEx.exit 5) [.sl 14 y,I (y:Int),I (Y:Int),.slice (.fa (8+0) 0 0) Y Y,I (0:Int),I (2:Int),.slice (.own 6 0) 2 2,.nils,I 0,.nils,.ptr (.own 2 0),.ptr (.own 1 0),.tl l.length 5 (stG l),.agg [.tl t.T.length 1 (dG t.T),I t.far,I t.least],.tl P.length 1 (pthG P)] [.vec y g 1 23,.bun 7 r l.length G 3,.cells [.slice (.fa 8 0 0) Y Y,.slice (.fa 9 0 0) Y Y] 76,.fam [] (Y*6) (M 0) 80,.fam [] (Y*6) (M 1) 80]):=by kernel_rfl
theorem cs21_ev (l:List Stk) (t:Tst) (P:List (List Int)) (Y y r:Nat) (M:Mde) (G:Nat->Nat->Int) (g gO:Nat->List VV) (X:VEx->List VV->List VB->Prop):codeE Try.prog (callN Try.prog (tabS [listO]) noL 10 20) (fun _=>none) true 10 (ntOf Try.prog 17) 0 (loopB 5 (bodyOf Try.prog 17)) ((18::dsPl).zip (.sl 17 y::VPs l t P Y 2 1 (.sl 16 1) y)) ⟨18,(17::(16::nsPs2)).zip (.vec y g 1 23::(.vec 1 gO 1 26::[.bun 7 r l.length G 3,.cells [sFa 8 Y,sFa 9 Y] 76,.fam [] (Y*6) (M 0) 80,.fam [] (Y*6) (M 1) 80]))⟩ (obs 18 (18::dsPl) (17::(16::nsPs2)) X) =
 (bif decide ((y:Int)<(Y:Int)) then
 bif decide ((0:Int)<=(y:Int)/\(y:Int)<(Y:Int)) then
 bif decide (0+(y:Int).toNat*(6)+(6)<=Y*6) then
 ∃ (n:Nat->Int),∃ (m:Nat),∃ (r_1:Nat),∃ (g_1:Nat->Nat->Int),(g6 (m6 M 1 (y:Int)))=nL n/\(l.length:Int)=(m:Int)/\m<=6/\0=0/\(VH.mk (19) ((18,.fam [] (6) (setF (fun (_:Nat)=>(0:Int)) 0 (m6 M 1 (y:Int))) 80)::(18,.fam [] (6) (fun (_:Nat)=>(0:Int)) 80)::(17::16::nsPs2).zip [.vec y g 1 23,.vec 1 gO 1 26,.bun 7 r l.length G 3,.cells [sFa 8 Y,sFa 9 Y] 76,.fam [] (Y*6) (M 0) 80,.fam [] (Y*6) (M 1) 80])).at 0=VB.bun 7 r_1 m g_1 3/\bif y.beq y then
 bif roomB (y+1) (24) then
 bif inK .i64 ((y:Int)+(1:Int)) then
 X .normal [.sl 17 (y+1),I ((y:Int)+(1:Int)),I (Y:Int),.slice (.fa (8+1) 0 0) Y Y,I (1:Int),I (2:Int),.slice (.own 6 0) 2 2,.sl 16 1,I 0,.nils,.ptr (.own 2 0),.ptr (.own 1 0),.tl l.length 5 (stG l),.agg [.tl t.T.length 1 (dG t.T),I t.far,I t.least],.tl P.length 1 (pthG P)] [.vec (y+1) (catG y g fun (j:Nat)=>List.take (1) (List.drop (j*(1)) [.hs 7 r_1 m])) (1) 23,.vec 1 gO 1 26,.bun 7 (r_1+1) m (rowM g_1 r_1 n) 3,.cells [.slice (.fa 8 0 0) Y Y,.slice (.fa 9 0 0) Y Y] 76,.fam [] (Y*6) (M 0) 80,.fam [] (Y*6) (M 1) 80]
 else False
 else False
 else False
 else False
 else False
 else X (VEx.exit 5) [.sl 17 y,I (y:Int),I (Y:Int),.slice (.fa (8+1) 0 0) Y Y,I (1:Int),I (2:Int),.slice (.own 6 0) 2 2,.sl 16 1,I 0,.nils,.ptr (.own 2 0),.ptr (.own 1 0),.tl l.length 5 (stG l),.agg [.tl t.T.length 1 (dG t.T),I t.far,I t.least],.tl P.length 1 (pthG P)] [.vec y g 1 23,.vec 1 gO 1 26,.bun 7 r l.length G 3,.cells [.slice (.fa 8 0 0) Y Y,.slice (.fa 9 0 0) Y Y] 76,.fam [] (Y*6) (M 0) 80,.fam [] (Y*6) (M 1) 80]):=by kernel_rfl
theorem ps2_ev (l:List Stk) (t:Tst) (D0 D1:List Int) (G:Nat->Nat->Int) (Q:VRes->VH->Prop):callN Try.prog (tabS [asR l t,casksR l t,apR [D0,D1],findRs2 l t [D0,D1] D0.length D0.length,listO]) (atF 17 [(5,lCs2 l t [D0,D1] D0.length)]) 10 20 0 (.fn 17) [stD l,.agg (tsL t),pthD [D0,D1]] ⟨1,[(0,.bun 7 0 l.length G 3)]⟩ (fun r h=>Q r h) =
 (isD (VH.mk (3) [(2,.cells [.tl [D0,D1].length 1 (pthG [D0,D1])] 26),(1,.cells [.tl t.T.length 1 (dG t.T),I t.far,I t.least] 25),(0,.bun 7 0 l.length G 3)]) 2 (VV.tl l.length 5 (stG l)) (stD l)/\isD (VH.mk (3) [(2,.cells [.tl [D0,D1].length 1 (pthG [D0,D1])] 26),(1,.cells [.tl t.T.length 1 (dG t.T),I t.far,I t.least] 25),(0,.bun 7 0 l.length G 3)]) 2 (VV.agg [.tl t.T.length 1 (dG t.T),I t.far,I t.least]) (VV.agg (tsL t))/\bif !okAll l t then
 Q (VRes.ret (VV.tup [.nils,I 1])) (VH.mk (3) [(2,.cells [.tl [D0,D1].length 1 (pthG [D0,D1])] 26),(1,.cells [.tl t.T.length 1 (dG t.T),I t.far,I t.least] 25),(0,.bun 7 0 l.length G 3)])
 else isD (VH.mk (3) [(2,.cells [.tl [D0,D1].length 1 (pthG [D0,D1])] 26),(1,.cells [.tl t.T.length 1 (dG t.T),I t.far,I t.least] 25),(0,.bun 7 0 l.length G 3)]) 4 (VV.tl [D0,D1].length 1 (pthG [D0,D1])) (pthD [D0,D1])/\pthB [D0,D1]/\bif !okPaths [D0,D1] then
 Q (VRes.ret (VV.tup [.nils,I 2])) (VH.mk (3) [(2,.cells [.tl [D0,D1].length 1 (pthG [D0,D1])] 26),(1,.cells [.tl t.T.length 1 (dG t.T),I t.far,I t.least] 25),(0,.bun 7 0 l.length G 3)])
 else bif decide ((0:Int)<=(D0.length:Int)/\(D0.length:Int)=(D0.length:Int)) then
 bif roomB D0.length (48) then
 bif decide ((0:Int)<=(D0.length:Int)/\(D0.length:Int)=(D0.length:Int)) then
 bif roomB D0.length (48) then
 isD (maskH [0,1,2,3,4,5,6,7,8,9,10,11,12,13] (VH.mk (14) ((12,.cells [.func 44 [] [.ptr (.own (5) 0),.ptr (.own (11) 0),.ptr (.own (2) 0),.ptr (.own (13) 0)]] 78)::(13,.cells [.func 40 [] [.ptr (.own (4) 0),.ptr (.own (12) 0),.ptr (.own (2) 0),.ptr (.own (7) 0)]] 88)::(13,.cells [.nilf] 88)::(12,.cells [.nilf] 78)::(11,.cells [.mp (10)] 77)::(11,.cells [.opq (Value.map none)] 77)::(10,.map ([.int .i64] ++ ([.int .i64] ++ ((List.replicate 6 [.int .i64]).flatten ++ []))) PK.bool [])::(6,.cells [.slice (.fa (8) 0 0) D0.length D0.length,.slice (.fa (9) 0 0) D0.length D0.length] 76)::([(9,.fam [] (D0.length*(6)) (fun (_:Nat)=>(0:Int)) 80)] ++ (6,.cells [.slice (.fa (8) 0 0) D0.length D0.length,.nils] 76)::([(8,.fam [] (D0.length*(6)) (fun (_:Nat)=>(0:Int)) 80)] ++ [(7,.cells [.slice (.own (6) 0) (2) (2)] 75),(7,.cells [.nils] 75),(6,.cells [.nils,.nils] 76),(5,.cells [I (D0.length:Int)] 3),(5,.cells [I 0] 3),(4,.cells [.ptr (.own (3) 0)] 72),(4,.cells [.nilp] 72),(3,.cells [.tl l.length 5 (stG l),.tl t.T.length 1 (dG t.T),I t.far,I t.least] 74),(2,.cells [.tl [D0,D1].length 1 (pthG [D0,D1])] 26),(1,.cells [.tl t.T.length 1 (dG t.T),I t.far,I t.least] 25),(0,.bun 7 0 l.length G 3)]))))) 4 (VV.ptr (.own (3) 0)) (VV.tp (stD l::tsL t))/\l.length<=6/\∃ (S':Nat),∃ (a:Nat->Int),∃ (M:Mde),∃ (es:Lst),(VV.ptr (.own 5 0)=VV.ptr (.own 5 0)/\VV.ptr (.own 11 0)=VV.ptr (.own 11 0)/\VV.ptr (.own 2 0)=VV.ptr (.own 2 0)/\VV.ptr (.own 13 0)=VV.ptr (.own 13 0))/\(0=0/\14<=14)/\atL nsBs2 (BSs2 l t [D0,D1] D0.length M es) (VH.mk (14) ((12,.cells [.func 44 [] [.ptr (.own (5) 0),.ptr (.own (11) 0),.ptr (.own (2) 0),.ptr (.own (13) 0)]] 78)::(13,.cells [.func 40 [] [.ptr (.own (4) 0),.ptr (.own (12) 0),.ptr (.own (2) 0),.ptr (.own (7) 0)]] 88)::(13,.cells [.nilf] 88)::(12,.cells [.nilf] 78)::(11,.cells [.mp (10)] 77)::(11,.cells [.opq (Value.map none)] 77)::(10,.map ([.int .i64] ++ ([.int .i64] ++ ((List.replicate 6 [.int .i64]).flatten ++ []))) PK.bool [])::(6,.cells [.slice (.fa (8) 0 0) D0.length D0.length,.slice (.fa (9) 0 0) D0.length D0.length] 76)::([(9,.fam [] (D0.length*(6)) (fun (_:Nat)=>(0:Int)) 80)] ++ (6,.cells [.slice (.fa (8) 0 0) D0.length D0.length,.nils] 76)::([(8,.fam [] (D0.length*(6)) (fun (_:Nat)=>(0:Int)) 80)] ++ [(7,.cells [.slice (.own (6) 0) (2) (2)] 75),(7,.cells [.nils] 75),(6,.cells [.nils,.nils] 76),(5,.cells [I (D0.length:Int)] 3),(5,.cells [I 0] 3),(4,.cells [.ptr (.own (3) 0)] 72),(4,.cells [.nilp] 72),(3,.cells [.tl l.length 5 (stG l),.tl t.T.length 1 (dG t.T),I t.far,I t.least] 74),(2,.cells [.tl [D0,D1].length 1 (pthG [D0,D1])] 26),(1,.cells [.tl t.T.length 1 (dG t.T),I t.far,I t.least] 25),(0,.bun 7 0 l.length G 3)]))))/\((0:Int)=(D0.length:Int) - (D0.length:Int)/\(1:Int)*(2:Int) ^ min (↑[D0,D1].length:Int).toNat IntKind.i64.bits - (1:Int)=(S':Int)/\[I (mostF l 0),I (mostF l 1),I (mostF l 2),I (mostF l 3),I (mostF l 4),I (mostF l 5)]=nL a)/\PreF l t [D0,D1] D0.length D0.length S' a es/\∀ (b:Bool) (s:St),PostF l t [D0,D1] D0.length D0.length S' a M b s->bif !b then
 Q (VRes.ret (VV.tup [.nils,I 4])) (VH.mk (14) [(8,.fam [] (D0.length*6) (s.M 0) 80),(9,.fam [] (D0.length*6) (s.M 1) 80),(10,.map [.int .i64,.int .i64,.int .i64,.int .i64,.int .i64,.int .i64,.int .i64,.int .i64] PK.bool s.es),(12,.cells [.func 44 [] [.ptr (.own (5) 0),.ptr (.own (11) 0),.ptr (.own (2) 0),.ptr (.own (13) 0)]] 78),(13,.cells [.func 40 [] [.ptr (.own (4) 0),.ptr (.own (12) 0),.ptr (.own (2) 0),.ptr (.own (7) 0)]] 88),(13,.cells [.nilf] 88),(12,.cells [.nilf] 78),(11,.cells [.mp (10)] 77),(11,.cells [.opq (Value.map none)] 77),(10,.map [.int .i64,.int .i64,.int .i64,.int .i64,.int .i64,.int .i64,.int .i64,.int .i64] PK.bool []),(6,.cells [.slice (.fa (8) 0 0) D0.length D0.length,.slice (.fa (9) 0 0) D0.length D0.length] 76),(9,.fam [] (D0.length*(6)) (fun (_:Nat)=>(0:Int)) 80),(6,.cells [.slice (.fa (8) 0 0) D0.length D0.length,.nils] 76),(8,.fam [] (D0.length*(6)) (fun (_:Nat)=>(0:Int)) 80),(7,.cells [.slice (.own (6) 0) (2) (2)] 75),(7,.cells [.nils] 75),(6,.cells [.nils,.nils] 76),(5,.cells [I (D0.length:Int)] 3),(5,.cells [I 0] 3),(4,.cells [.ptr (.own (3) 0)] 72),(4,.cells [.nilp] 72),(3,.cells [.tl l.length 5 (stG l),.tl t.T.length 1 (dG t.T),I t.far,I t.least] 74),(2,.cells [.tl [D0,D1].length 1 (pthG [D0,D1])] 26),(1,.cells [.tl t.T.length 1 (dG t.T),I t.far,I t.least] 25),(0,.bun 7 0 l.length G 3)])
 else ∃ (M:Mde),FitP 0 (VH.mk (14) ((8,.fam [] (D0.length*6) (s.M 0) 80)::(9,.fam [] (D0.length*6) (s.M 1) 80)::(10,.map kS PK.bool s.es)::(12,.cells [.func 44 [] [.ptr (.own (5) 0),.ptr (.own (11) 0),.ptr (.own (2) 0),.ptr (.own (13) 0)]] 78)::(13,.cells [.func 40 [] [.ptr (.own (4) 0),.ptr (.own (12) 0),.ptr (.own (2) 0),.ptr (.own (7) 0)]] 88)::(13,.cells [.nilf] 88)::(12,.cells [.nilf] 78)::(11,.cells [.mp (10)] 77)::(11,.cells [.opq (Value.map none)] 77)::(10,.map ([.int .i64] ++ ([.int .i64] ++ ((List.replicate 6 [.int .i64]).flatten ++ []))) PK.bool [])::(6,.cells [.slice (.fa (8) 0 0) D0.length D0.length,.slice (.fa (9) 0 0) D0.length D0.length] 76)::([(9,.fam [] (D0.length*(6)) (fun (_:Nat)=>(0:Int)) 80)] ++ (6,.cells [.slice (.fa (8) 0 0) D0.length D0.length,.nils] 76)::([(8,.fam [] (D0.length*(6)) (fun (_:Nat)=>(0:Int)) 80)] ++ [(7,.cells [.slice (.own (6) 0) (2) (2)] 75),(7,.cells [.nils] 75),(6,.cells [.nils,.nils] 76),(5,.cells [I (D0.length:Int)] 3),(5,.cells [I 0] 3),(4,.cells [.ptr (.own (3) 0)] 72),(4,.cells [.nilp] 72),(3,.cells [.tl l.length 5 (stG l),.tl t.T.length 1 (dG t.T),I t.far,I t.least] 74),(2,.cells [.tl [D0,D1].length 1 (pthG [D0,D1])] 26),(1,.cells [.tl t.T.length 1 (dG t.T),I t.far,I t.least] 25),(0,.bun 7 0 l.length G 3)])))) [(73,I 0),(72,I (D0.length:Int)),(71,.slice (.fa (8) 0 0) D0.length D0.length),(18,.nils),(17,.slice (.fa (8) 0 0) D0.length D0.length),(70,.slice (.fa (8) 0 0) D0.length D0.length),(69,.ptr (.own (6) 0)),(68,.bool true),(68,.bool (decide ((0:Int)<(↑(2):Int)))),(67,I 0),(66,I (↑(2):Int)),(65,.slice (.own (6) 0) (2) (2)),(15,.nils),(64,.bool false),(64,.bool !b),(63,.bool b),(62,.agg [I 0,I ((1:Int)*(2:Int) ^ min (↑[D0,D1].length:Int).toNat IntKind.i64.bits - (1:Int)),I (mostF l 0),I (mostF l 1),I (mostF l 2),I (mostF l 3),I (mostF l 4),I (mostF l 5)]),(61,.agg (nL (mostF l))),(60,.ptr (.own (3) 0)),(59,I ((1:Int)*(2:Int) ^ min (↑[D0,D1].length:Int).toNat IntKind.i64.bits - (1:Int))),(58,I ((1:Int)*(2:Int) ^ min (↑[D0,D1].length:Int).toNat IntKind.i64.bits)),(57,I (↑[D0,D1].length:Int)),(56,.tl [D0,D1].length 1 (pthG [D0,D1])),(55,.func 44 [] [.ptr (.own (5) 0),.ptr (.own (11) 0),.ptr (.own (2) 0),.ptr (.own (13) 0)]),(54,.func 44 [] [.ptr (.own (5) 0),.ptr (.own (11) 0),.ptr (.own (2) 0),.ptr (.own (13) 0)]),(14,.ptr (.own (13) 0)),(53,.func 40 [] [.ptr (.own (4) 0),.ptr (.own (12) 0),.ptr (.own (2) 0),.ptr (.own (7) 0)]),(13,.ptr (.own (12) 0)),(12,.ptr (.own (11) 0)),(52,.mp (10)),(44,.bool false),(44,.bool (decide ((0:Int)+(1:Int)+(1:Int)<(↑(2):Int)))),(43,I ((0:Int)+(1:Int)+(1:Int))),(51,I ((0:Int)+(1:Int)+(1:Int))),(50,.ptr (.own (6) (1))),(49,.slice (.fa (9) 0 0) D0.length D0.length),(48,I (D0.length:Int)),(47,I ((0:Int)+(1:Int))),(46,.slice (.own (6) 0) (2) (2)),(11,I ((0:Int)+(1:Int))),(45,I ((0:Int)+(1:Int))),(44,.bool true),(44,.bool (decide ((0:Int)+(1:Int)<(↑(2):Int)))),(43,I ((0:Int)+(1:Int))),(51,I ((0:Int)+(1:Int))),(50,.ptr (.own (6) 0)),(49,.slice (.fa (8) 0 0) D0.length D0.length),(48,I (D0.length:Int)),(47,I 0),(46,.slice (.own (6) 0) (2) (2)),(11,I 0),(45,I 0),(44,.bool true),(44,.bool (decide ((0:Int)<(↑(2):Int)))),(43,I 0),(42,I (↑(2):Int)),(41,.slice (.own (6) 0) (2) (2)),(10,.ptr (.own (7) 0)),(40,.slice (.own (6) 0) (2) (2)),(39,I (↑[D0,D1].length:Int)),(38,.tl [D0,D1].length 1 (pthG [D0,D1])),(9,.ptr (.own (5) 0)),(37,I (D0.length:Int)),(36,.tl D0.length 1 (dG ([D0,D1].getD (Int.toNat (0:Int)) []))),(35,.tp [.tl D0.length 1 (dG ([D0,D1].getD (Int.toNat (0:Int)) []))]),(34,.tl [D0,D1].length 1 (pthG [D0,D1])),(8,.ptr (.own (4) 0)),(33,.ptr (.own (3) 0)),(32,.agg [.tl l.length 5 (stG l),.tl t.T.length 1 (dG t.T),I t.far,I t.least]),(31,.agg [.tl t.T.length 1 (dG t.T),I t.far,I t.least]),(30,.tl l.length 5 (stG l)),(26,.bool false),(26,.bool !okPaths [D0,D1]),(29,.bool !okPaths [D0,D1]),(28,.bool (okPaths [D0,D1])),(27,.tl [D0,D1].length 1 (pthG [D0,D1])),(21,.bool false),(21,.bool !okAll l t),(25,.bool !okAll l t),(24,.bool (okAll l t)),(23,.agg [.tl t.T.length 1 (dG t.T),I t.far,I t.least]),(22,.tl l.length 5 (stG l)),(7,I 0),(6,.nils),(5,.ptr (.own (2) 0)),(4,.ptr (.own (1) 0)),(0,stD l),(1,.agg (tsL t)),(2,pthD [D0,D1])] (VH.mk 14 (nsPs2.zip (BPs2 l D0.length M 0))) ((18,.nils)::dsPl.zip (VPs l t [D0,D1] D0.length 2 0 VV.nils 0))/\∃ (M_1:Mde),∃ (gO:Nat->List VV),FitP 0 (VH.mk (17) ((16,.vec 1 (fun (j:Nat)=>List.take (1) (List.drop (j*(1)) [.tl D0.length 1 (rowH l.length 0)])) (1) 26)::(15,.vec 1 (fun (j:Nat)=>List.take (1) (List.drop (j*(1)) [.tl D0.length 1 (rowH l.length 0)])) (1) 26)::(14,.gone)::(14::nsPs2).zip (VB.vec D0.length (rowH l.length 0) 1 23::BPs2 l D0.length M (0+D0.length)))) ((73,I 0)::(72,I (D0.length:Int))::(71,.slice (.fa 9 0 0) D0.length D0.length)::(18,.nils)::(17,.slice (.fa 9 0 0) D0.length D0.length)::(70,.slice (.fa 9 0 0) D0.length D0.length)::(69,.ptr (.own 6 (1)))::(68,.bool true)::(68,.bool (decide ((0:Int)+(1:Int)<(2:Int))))::(67,I ((0:Int)+(1:Int)))::(89,I ((0:Int)+(1:Int)))::(15,.sl (16) 1)::(88,.sl (16) 1)::(87,.sl (15) 1)::(86,.tl D0.length 1 (rowH l.length 0))::(85,.nils)::(18,.tl D0.length 1 (rowH l.length 0))::(18::dsPl).zip (VV.sl 14 D0.length::VPs l t [D0,D1] D0.length 2 0 VV.nils D0.length)) (VH.mk 17 ((16::nsPs2).zip (VB.vec 1 gO 1 26::BPs2 l D0.length M_1 (0+D0.length)))) ((18,.nils)::dsPl.zip (VPs l t [D0,D1] D0.length 2 1 (VV.sl 16 1) 0))/\Q (VRes.ret (VV.tup [.sl 16 (1+1),I 0])) (VH.mk (19) [(16,.vec (1+1) (catG 1 gO fun (j:Nat)=>List.take (1) (List.drop (j*(1)) [.tl D0.length 1 (rowH l.length (0+D0.length))])) (1) 26),(18,.vec 1 (fun (j:Nat)=>List.take (1) (List.drop (j*(1)) [.tl D0.length 1 (rowH l.length (0+D0.length))])) (1) 26),(17,.gone),(17,.vec D0.length (rowH l.length (0+D0.length)) 1 23),(16,.vec 1 gO 1 26),(0,.bun 7 (0+D0.length+D0.length) l.length (GM D0.length M_1) 3),(6,.cells [.slice (.fa 8 0 0) D0.length D0.length,.slice (.fa 9 0 0) D0.length D0.length] 76),(8,.fam [] (D0.length*6) (M_1 0) 80),(9,.fam [] (D0.length*6) (M_1 1) 80)])
 else False
 else False
 else False
 else False):=by kernel_rfl
section
variable {l:List Stk} {t:Tst} {P:List (List Int)} {Y:Nat}
theorem findRs2_ok {D0 D1:List Int} (cf:Cfg l t [D0,D1] Y) (k:Nat):SpOk Try.prog (findRs2 l t [D0,D1] Y k).1 (findRs2 l t [D0,D1] Y k).2:=by
 intro lock args h K hK
 simp only [findRs2] at hK
 split at hK
 ·rename_i nx bs
  obtain ⟨S',a,M,es,⟨rfl,rfl,rfl,rfl⟩,⟨rfl,hnx⟩,⟨e0,e1,e2,e3,e4,e5,e6,e7,e8,e9,e10,e11,e12,_⟩,⟨rfl,rfl,rfl⟩,hp,hK⟩:=hK
  obtain ⟨r,h',⟨b,s,hw,rfl,rfl⟩,_,hc⟩:=findR2_ok cf k 0 [.agg (I ((Y:Int) - k)::I S'::nL a),.ptr (.own 4 0),.ptr (.own 10 0),.ptr (.own 1 0),.ptr (.own 12 0)] ⟨13,nsB2.zip (BP2 l t [D0,D1] Y M es)⟩ (fun r h'=>∃ b s,PostF l t [D0,D1] Y k S' a M b s/\r=.ret (.bool b)/\h'=⟨13,(7,.fam [] (Y*6) (s.M 0) 80)::(8,.fam [] (Y*6) (s.M 1) 80)::(9,.map kS .bool s.es)::nsB2.zip (BP2 l t [D0,D1] Y M es)⟩)
   ⟨S',a,M,es,⟨rfl,rfl,rfl,rfl⟩,⟨rfl,Nat.le_refl _⟩,⟨rfl,rfl,rfl,rfl,rfl,rfl,rfl,rfl,rfl,rfl,rfl,rfl,rfl,trivial⟩,⟨rfl,rfl,rfl⟩,hp,fun b s h=>⟨b,s,h,rfl,rfl⟩⟩
  have:=calls_ren (P:=Try.prog) (h:=⟨nx,bs⟩) (h1:=⟨nx,(8,.fam [] (Y*6) (s.M 0) 80)::(9,.fam [] (Y*6) (s.M 1) 80)::(10,.map kS .bool s.es)::bs⟩) (fun n=>n+1) (fun _ _ _ _ h=>Nat.succ.inj h) hc (fun n hn=>by
  have hn:n<13:=hn
  match n,hn with
  | 0,_=>exact ⟨trivial,e0⟩
  | 1,_=>exact ⟨trivial,e1⟩
  | 2,_=>exact ⟨trivial,e2⟩
  | 3,_=>exact ⟨trivial,e3⟩
  | 4,_=>exact ⟨trivial,e4⟩
  | 5,_=>exact ⟨trivial,e5⟩
  | 6,_=>exact ⟨trivial,e6⟩
  | 7,_=>exact ⟨trivial,e7⟩
  | 8,_=>exact ⟨trivial,e8⟩
  | 9,_=>exact ⟨trivial,e9⟩
  | 10,_=>exact ⟨trivial,e10⟩
  | 11,_=>exact ⟨trivial,e11⟩
  | 12,_=>exact ⟨trivial,e12⟩
  | _+13,hn=>exact absurd hn (by omega)) (fun n hn=>by
  have hn:n<13:=hn
  match n,hn with
  | 0,_=>exact ⟨trivial,rfl,e0⟩
  | 1,_=>exact ⟨trivial,rfl,e1⟩
  | 2,_=>exact ⟨trivial,rfl,e2⟩
  | 3,_=>exact ⟨trivial,rfl,e3⟩
  | 4,_=>exact ⟨trivial,rfl,e4⟩
  | 5,_=>exact ⟨trivial,rfl,e5⟩
  | 6,_=>exact ⟨trivial,rfl,e6⟩
  | 7,_=>exact ⟨trivial,rfl,at_lt (show 8<nx by omega)⟩
  | 8,_=>exact ⟨trivial,rfl,at_lt (show 9<nx by omega)⟩
  | 9,_=>exact ⟨trivial,rfl,at_lt (show 10<nx by omega)⟩
  | 10,_=>exact ⟨trivial,rfl,e10⟩
  | 11,_=>exact ⟨trivial,rfl,e11⟩
  | 12,_=>exact ⟨trivial,rfl,e12⟩
  | _+13,hn=>exact absurd hn (by omega)) (fun q hq=>by
  have hq:∀ n,n<13->n+1 ≠ q:=fun n hn=>hq n hn
  rw [at_ne (hq 7 (by omega)),at_ne (hq 8 (by omega)),at_ne (hq 9 (by omega))]) (fun n hn=>by
  have hn:n<13:=hn
  match n,hn with
  | 0,_=>exact rfl
  | 1,_=>exact rfl
  | 2,_=>exact rfl
  | 3,_=>exact rfl
  | 4,_=>exact rfl
  | 5,_=>exact rfl
  | 6,_=>exact rfl
  | 7,_=>exact rfl
  | 8,_=>exact rfl
  | 9,_=>exact rfl
  | 10,_=>exact rfl
  | 11,_=>exact rfl
  | 12,_=>exact rfl
  | _+13,hn=>exact absurd hn (by omega)) rfl rfl
  exact ⟨_,_,hK b s hw,lock0 _ _,this⟩
 ·exact hK.elim
theorem csr20 {M:Mde} (hY:Y<=4) (hl6:l.length<=6):LSound Try.prog true (.block 5 (.loop (loopB 5 (bodyOf Try.prog 17)))) (ntOf Try.prog 17) (fun lock tt h K=>FitP lock h tt ⟨14,nsPs2.zip (BPs2 l Y M 0)⟩ ((18,.nils)::dsPl.zip (VPs l t P Y 2 0 .nils 0))/\K .normal ((18,.tl Y 1 (rowH l.length 0))::(18::dsPl).zip (.sl 14 Y::VPs l t P Y 2 0 .nils Y)) ⟨15,(14,.gone)::(14::nsPs2).zip (.vec Y (rowH l.length 0) 1 23::(BPs2 l Y M (0+Y)))⟩):=by
 have hb:0=0*Y:=by omega
 refine copy_row2 (n:=14) (ns:=nsPs2) (W:=fun y=>VPs l t P Y 2 0 .nils y) (B0:=(BPs2 l Y M 0)) (B1:=(BPs2 l Y M (0+Y))) rfl ?_ rfl
 refine loop_row hmix (noL_good (tab1 listO_ok)) (un:=10) (ds:=18::dsPl) (ns:=14::nsPs2) (nx:=15) (fun y:Nat=>.sl 14 y::VPs l t P Y 2 0 .nils y) (fun y=>.vec y (rowH l.length 0) 1 23::(BPs2 l Y M (0+y))) (fun y=>y<=Y) (fun y=>Y - y) (fun _ ex vs bs=>ex=.exit 5/\bs=.vec Y (rowH l.length 0) 1 23::(BPs2 l Y M (0+Y))/\vs=.sl 14 Y::VPs l t P Y 2 0 .nils Y) noL_ok ?_ ?_
 ·rintro y h0
  refine cast (cs20_ev l t P Y y _ M _ _ _).symm ?_
  refine cond_d (fun hy=>cond_dk ⟨by omega,by omega⟩ (cond_dk (by omega) ⟨fun j=>M 0 (y*6+j),l.length,0+y,GM Y M,g6_row,rfl,hl6,rfl,rfl,cond_k (Nat.beq_refl _) (cond_k (roomC y (by omega)) (cond_r (by omega) ⟨y+1,by show y+1<=Y; omega,by dsimp only; omega,rfl,⟨⟨rfl,rfl,rfl,fun j hj=>cat_rowH hj⟩,fit_gm hb (by omega),fitBs_refl _⟩,fun _ _ _ h=>h⟩))⟩)) (fun hy=>?_)
  obtain rfl:y=Y:=by omega
  exact ⟨rfl,rfl,rfl⟩
 ·rintro lock tt h K ⟨hf,k1⟩
  refine ⟨0,hf,Nat.zero_le _,?_⟩
  rintro ex vs bs ⟨rfl,rfl,rfl⟩
  exact k1
theorem csr21 {M:Mde} {gO:Nat->List VV} (hY:Y<=4) (hl6:l.length<=6):LSound Try.prog true (.block 5 (.loop (loopB 5 (bodyOf Try.prog 17)))) (ntOf Try.prog 17) (fun lock tt h K=>FitP lock h tt ⟨17,(16::nsPs2).zip (.vec 1 gO 1 26::(BPs2 l Y M (0+Y)))⟩ ((18,.nils)::dsPl.zip (VPs l t P Y 2 1 (.sl 16 1) 0))/\K .normal ((18,.tl Y 1 (rowH l.length (0+Y)))::(18::dsPl).zip (.sl 17 Y::VPs l t P Y 2 1 (.sl 16 1) Y)) ⟨18,(17,.gone)::(17::(16::nsPs2)).zip (.vec Y (rowH l.length (0+Y)) 1 23::(.vec 1 gO 1 26::(BPs2 l Y M (0+Y+Y))))⟩):=by
 have hb:(0+Y)=1*Y:=by omega
 refine copy_row2 (n:=17) (ns:=(16::nsPs2)) (W:=fun y=>VPs l t P Y 2 1 (.sl 16 1) y) (B0:=(.vec 1 gO 1 26::(BPs2 l Y M (0+Y)))) (B1:=(.vec 1 gO 1 26::(BPs2 l Y M (0+Y+Y)))) rfl ?_ rfl
 refine loop_row hmix (noL_good (tab1 listO_ok)) (un:=10) (ds:=18::dsPl) (ns:=17::(16::nsPs2)) (nx:=18) (fun y:Nat=>.sl 17 y::VPs l t P Y 2 1 (.sl 16 1) y) (fun y=>.vec y (rowH l.length (0+Y)) 1 23::(.vec 1 gO 1 26::(BPs2 l Y M ((0+Y)+y)))) (fun y=>y<=Y) (fun y=>Y - y) (fun _ ex vs bs=>ex=.exit 5/\bs=.vec Y (rowH l.length (0+Y)) 1 23::(.vec 1 gO 1 26::(BPs2 l Y M (0+Y+Y)))/\vs=.sl 17 Y::VPs l t P Y 2 1 (.sl 16 1) Y) noL_ok ?_ ?_
 ·rintro y h0
  refine cast (cs21_ev l t P Y y _ M _ _ _ _).symm ?_
  refine cond_d (fun hy=>cond_dk ⟨by omega,by omega⟩ (cond_dk (by omega) ⟨fun j=>M 1 (y*6+j),l.length,(0+Y)+y,GM Y M,g6_row,rfl,hl6,rfl,rfl,cond_k (Nat.beq_refl _) (cond_k (roomC y (by omega)) (cond_r (by omega) ⟨y+1,by show y+1<=Y; omega,by dsimp only; omega,rfl,⟨⟨rfl,rfl,rfl,fun j hj=>cat_rowH hj⟩,VB.fit_refl _,fit_gm hb (by omega),fitBs_refl _⟩,fun _ _ _ h=>h⟩))⟩)) (fun hy=>?_)
  obtain rfl:y=Y:=by omega
  exact ⟨rfl,rfl,rfl⟩
 ·rintro lock tt h K ⟨hf,k1⟩
  refine ⟨0,hf,Nat.zero_le _,?_⟩
  rintro ex vs bs ⟨rfl,rfl,rfl⟩
  exact k1
theorem lCs2_ok (hY:Y<=4) (hl6:l.length<=6):LSound Try.prog true (.block 5 (.loop (loopB 5 (bodyOf Try.prog 17)))) (ntOf Try.prog 17) (lCs2 l t P Y):=by
 intro lock tt h K hK
 unfold lCs2 at hK
 split at hK
 ·obtain ⟨M,hf,k1⟩:=hK
  exact csr20 hY hl6 lock tt h K ⟨hf,k1⟩
 ·obtain ⟨M,gO,hf,k1⟩:=hK
  exact csr21 hY hl6 lock tt h K ⟨hf,k1⟩
 ·exact hK.elim
end
theorem plo2 {l:List Stk} {t:Tst} {D0 D1:List Int} {G:Nat->Nat->Int} (h1:okAll l t=true) (h2:okPaths [D0,D1]=true) (cf:Cfg l t [D0,D1] D0.length) (hpb:pthB [D0,D1]):∃ r h',CallsV Try.prog 17 [stD l,.agg (tsL t),pthD [D0,D1]] ⟨1,[(0,.bun 7 0 l.length G 3)]⟩ r h'/\PlnO l t [D0,D1] D0.length r h':=by
 have hl6:=cf.hl.1
 have hY:=cf.Y4
 have hrm:roomB ((([D0,D1].getD (Int.toNat 0) []).length:Int)).toNat 48=true:=roomY _ hY
 have htab:∀ f T,tabS [asR l t,casksR l t,apR [D0,D1],findRs2 l t [D0,D1] D0.length D0.length,listO] f=some T->SpOk Try.prog f T:=tab_ok _ (fun x hx=>by
  simp only [List.mem_cons,List.not_mem_nil,or_false] at hx
  rcases hx with rfl | rfl | rfl | rfl | rfl
  ·exact asR_ok l t
  ·exact casksR_ok l t
  ·exact apR_ok _
  ·exact findRs2_ok cf D0.length
  ·exact listO_ok)
 have hall:LoopsOk Try.prog 17 [(5,lCs2 l t [D0,D1] D0.length)]:=fun x hx=>by
  simp only [List.mem_singleton] at hx
  subst hx
  exact ⟨by kernel_rfl,lCs2_ok hY hl6⟩
 obtain ⟨r,h',hk,hc⟩:=of_callN (callL_good hmix htab hall (un:=10) 20) (f:=17) (args:=[stD l,.agg (tsL t),pthD [D0,D1]]) (h:=⟨1,[(0,.bun 7 0 l.length G 3)]⟩) (K:=PlnO l t [D0,D1] D0.length) (by
  refine cast (ps2_ev l t D0 D1 G _).symm ⟨isD_l,⟨⟨rfl,rfl,fun _ _=>rfl⟩,⟨rfl,rfl⟩,⟨rfl,rfl⟩,trivial⟩,cond_i (fun h=>by rw [h1] at h; cases h) (fun _=>⟨⟨rfl,rfl,fun _ _=>rfl⟩,hpb,cond_i (fun h=>by rw [h2] at h; cases h) (fun _=>?_)⟩)⟩
  refine cond_dk ⟨by omega,rfl⟩ (cond_k hrm (cond_dk ⟨by omega,rfl⟩ (cond_k hrm (⟨hcO rfl,hl6,3,mostF l,fun _ _=>0,[],⟨rfl,rfl,rfl,rfl⟩,⟨rfl,Nat.le_refl _⟩,⟨rfl,rfl,rfl,rfl,rfl,rfl,rfl,rfl,rfl,rfl,rfl,rfl,rfl,trivial⟩,⟨by omega,rfl,rfl⟩,⟨Nat.le_refl _,(by show 3<2 ^ 2; decide),most_left cf.hl,lost_nil⟩,?_⟩))))
  rintro b s ⟨p1,p2,p3,p4⟩
  refine cond_i (fun g=>?_) (fun g=>?_)
  ·have g:b=false:=by simpa using g
   subst g
   refine .inl ⟨?_,rfl,_,rfl⟩
   cases hx:planF l t [D0,D1] D0.length D0.length 3 (mostF l) with
   | none=>exact hx
   | some x=>rw [hx] at p1; cases p1
  ·have g:b=true:=by simpa using g
   subst g
   obtain ⟨x,hx⟩:∃ x,planF l t [D0,D1] D0.length D0.length 3 (mostF l)=some x:=by
    cases hx:planF l t [D0,D1] D0.length D0.length 3 (mostF l) with
    | none=>rw [hx] at p1; cases p1
    | some x=>exact ⟨x,rfl⟩
   refine ⟨s.M,⟨⟨rfl,rfl,fit_g0,rfl,⟨rfl,rfl,rfl,fun _ _=>rfl⟩,⟨rfl,rfl,rfl,fun _ _=>rfl⟩,trivial⟩,rfl,rfl,rfl,rfl,rfl,rfl,rfl,rfl,rfl,rfl,rfl,rfl,rfl,rfl,rfl,trivial⟩,s.M,_,⟨⟨rfl,rfl,VB.fit_refl _,VB.fit_refl _,VB.fit_refl _,VB.fit_refl _,VB.fit_refl _,trivial⟩,rfl,rfl,rfl,rfl,rfl,rfl,rfl,rfl,rfl,rfl,rfl,rfl,rfl,rfl,rfl,trivial⟩,.inr ⟨x,16,_,_,_,hx,rfl,rfl,fun i hi=>?_,rfl,fun i y k hi hy hk=>?_⟩⟩
   ·have hi:i<2:=hi
    match i,hi with
    | 0,_=>exact rfl
    | 1,_=>exact rfl
    | _+2,hi=>exact absurd hi (by omega)
   ·have hi:i<2:=hi
    match i,hi with
    | 0,_=>exact (gm_row (bI_mul _ 0) hy k).trans (p4 x hx 0 y k (by omega) rfl (by omega) hy)
    | 1,_=>exact (gm_row (bI_mul _ 1) hy k).trans (p4 x hx 1 y k (by omega) rfl (by omega) hy)
    | _+2,hi=>exact absurd hi (by omega))
 exact ⟨r,h',hc,hk⟩
def BP3 (l:List Stk) (t:Tst) (P:List (List Int)) (Y:Nat) (M:Mde) (es:Lst):List VB:=[.cells (tsL t) 25,.cells [pthD P] 26,.cells (stD l::tsL t) 74,.cells [.ptr (.own 2 0)] 72,.cells [I Y] 3,.cells [sFa 7 Y,sFa 8 Y,sFa 9 Y] 76,.cells [.slice (.own 5 0) 3 3] 75,.fam [] (Y*6) (M 0) 80,.fam [] (Y*6) (M 1) 80,.fam [] (Y*6) (M 2) 80,
 .map kS .bool es,.cells [.mp 10] 77,.cells [.func 44 [] [.ptr (.own 4 0),.ptr (.own 11 0),.ptr (.own 1 0),.ptr (.own 13 0)]] 78,.cells [.func 40 [] [.ptr (.own 3 0),.ptr (.own 12 0),.ptr (.own 1 0),.ptr (.own 6 0)]] 88]
def nsB3:List Nat:=[0,1,2,3,4,5,6,7,8,9,10,11,12,13]
def findR3 (l:List Stk) (t:Tst) (P:List (List Int)) (Y k:Nat):FuncId × Spec1:=(44,fun lock args h K=>match args,h with
 | [.agg (.int .i64 y::.int .i64 S::ns),x1,x2,x3,x4],⟨nx,bs⟩=>∃ (S':Nat) (a:Nat->Int) (M:Mde) (es:Lst),(x1=.ptr (.own 4 0)/\x2=.ptr (.own 11 0)/\x3=.ptr (.own 1 0)/\x4=.ptr (.own 13 0))/\(lock=0/\14<=nx)/\atL nsB3 (BP3 l t P Y M es) ⟨nx,bs⟩/\(y=(Y:Int) - k/\S=S'/\ns=nL a)/\PreF l t P Y k S' a es /\
   ∀ (b:Bool) (s:St),PostF l t P Y k S' a M b s->K (.ret (.bool b)) ⟨nx,(7,.fam [] (Y*6) (s.M 0) 80)::(8,.fam [] (Y*6) (s.M 1) 80)::(9,.fam [] (Y*6) (s.M 2) 80)::(10,.map kS .bool s.es)::bs⟩
 | _,_=>False)
def folR3 (l:List Stk) (t:Tst) (P:List (List Int)) (Y k:Nat):FuncId × Spec1:=(40,fun lock args h K=>match args,h with
 | [.agg (.int .i64 y::.int .i64 S::ns),.int .i64 o,.int .i64 d,x1,x2,x3,x4],⟨nx,bs⟩=>∃ (S' O:Nat) (a:Nat->Int) (M:Mde) (es:Lst),(x1=.ptr (.own 3 0)/\x2=.ptr (.own 12 0)/\x3=.ptr (.own 1 0)/\x4=.ptr (.own 6 0))/\(lock=0/\14<=nx)/\atL nsB3 (BP3 l t P Y M es) ⟨nx,bs⟩/\(y=(Y:Int) - (k+1:Nat)/\S=S'/\o=O/\ns=nL a)/\PreW l t P Y k O a es /\
   ∀ (b:Bool) (s:St),PostW l t P Y k O d a M b s->K (.ret (.bool b)) ⟨nx,(7,.fam [] (Y*6) (s.M 0) 80)::(8,.fam [] (Y*6) (s.M 1) 80)::(9,.fam [] (Y*6) (s.M 2) 80)::(10,.map kS .bool s.es)::bs⟩
 | _,_=>False)
def slFo3 (y S own need:Int) (a:Nat->Int):Slots:=[(16,VV.func 74 [] [.ptr (.own 18 0),.ptr (.own 19 0)]),(15,VV.agg (nL a)),(14,VV.ptr (VA.own 14 2)),(13,.ptr (.own 2 0)),(10,.ptr (.own 17 0)),(9,.ptr (.own 16 0)),(8,.ptr (.own 15 0)),(7,.ptr (.own 14 0)),(0,VV.agg (I y::I S::nL a)),(1,I own),(2,I need),(3,.ptr (.own 3 0)),(4,.ptr (.own 12 0)),(5,.ptr (.own 1 0)),(6,.ptr (.own 6 0))]
def VFo3:List VV:=[.ptr (.own 21 0),.yld 20,.ptr (.own 18 0),.ptr (.own 19 0)]
def VFi3 (i:Int):List VV:=I i::VFo3
def nsFo3:List Nat:=[0,1,2,3,4,5,6,7,8,9,10,11,12,13,14,15,16,17,18,19,20,21]
noncomputable def BFo3 (l:List Stk) (t:Tst) (P:List (List Int)) (Y:Nat) (y S own need:Int) (a:Nat->Int) (M:Mde) (es:Lst) (n:Nat->Int):List VB:=BP3 l t P Y M es ++ [faS y S a,.cells [I own] 3,.cells [I need] 3,.cells [.bool false] 4,.cells [.ptr (.own 2 0)] 72,faN a,.loop true none (slFo3 y S own need a) 58 [17] asFo bdFo,.fam [] 6 n 80]
theorem ino3_ev (l:List Stk) (t:Tst) (P:List (List Int)) (Y:Nat) (y S own need i:Int) (a:Nat->Int) (M:Mde) (es:Lst) (n:Nat->Int) (X:VEx->List VV->List VB->Prop):codeE Try.prog (callN Try.prog noSpec noL 10 20) (fun _=>none) true 10 (ntOf Try.prog 74) 0 (loopB 2 (bodyOf Try.prog 74)) (dsI.zip (VFi3 i)) ⟨23,nsFo3.zip (BFo3 l t P Y y S own need a M es n)⟩ (obs 23 dsI nsFo3 X) =
 (bif decide (i ≥ (0:Int)) then
 bif decide ((0:Int)<=i/\i<(6:Int)) then
 bif decide (i.toNat*(1)<6) then
 bif decide ((0:Int)<=i/\i<(6:Int)) then
 bif decide (i.toNat*(1)<6) then
 bif decide (n (i.toNat*(1))=(fun (k:Nat)=>(ch a).getD k (0:Int)) (i.toNat*(1))) then
 bif decide ((0:Int)<=i/\i<(6:Int)) then
 bif decide (i.toNat*(1)+(1)<=6) then
 bif inK .i64 (i - (1:Int)) then
 X .normal [I (i - (1:Int)),.ptr (.own 21 0),.yld 20,.ptr (.own 18 0),.ptr (.own 19 0)] (BFo3 l t P Y y S own need a M es (setF n (i.toNat*(1)) [(0:Int)]))
 else False
 else False
 else False
 else X (.exit 2) [I i,.ptr (.own 21 0),.yld 20,.ptr (.own 18 0),.ptr (.own 19 0)] (BFo3 l t P Y y S own need a M es n)
 else False
 else False
 else False
 else False
 else X (.exit 2) [I i,.ptr (.own 21 0),.yld 20,.ptr (.own 18 0),.ptr (.own 19 0)] (BFo3 l t P Y y S own need a M es n)):=by kernel_rfl
noncomputable abbrev BQf3 (l:List Stk) (t:Tst) (P:List (List Int)) (Y:Nat) (y S own need:Int) (a:Nat->Int) (A0 A1 A2:Nat->Int) (es:Lst) (b:Bool) (n:Nat->Int):List VB:=[.cells (tsL t) 25,.cells [pthD P] 26,.cells (stD l::tsL t) 74,.cells [.ptr (.own 2 0)] 72,.cells [I Y] 3,.cells [sFa 7 Y,sFa 8 Y,sFa 9 Y] 76,.cells [.slice (.own 5 0) 3 3] 75,.fam [] (Y*6) A0 80,.fam [] (Y*6) A1 80,.fam [] (Y*6) A2 80,
 .map kS .bool es,.cells [.mp 10] 77,.cells [.func 44 [] [.ptr (.own 4 0),.ptr (.own 11 0),.ptr (.own 1 0),.ptr (.own 13 0)]] 78,.cells [.func 40 [] [.ptr (.own 3 0),.ptr (.own 12 0),.ptr (.own 1 0),.ptr (.own 6 0)]] 88] ++ [faS y S a,.cells [I own] 3,.cells [I need] 3,.cells [.bool b] 4,.cells [.ptr (.own 2 0)] 72,faN a,.loop (!b) (bif b then some .ret else none) (slFo3 y S own need a) 58 [17] asFo bdFo,.fam [] 6 n 80]
noncomputable def lIo3 (l:List Stk) (t:Tst) (P:List (List Int)) (Y:Nat) (y S own need:Int) (a:Nat->Int):LT:=fun lock tt h K=>
 ∃ M es n,FitP lock h tt ⟨23,nsFo3.zip (BFo3 l t P Y y S own need a M es n)⟩ (dsI.zip (VFi3 (l.length - 1)))/\l.length<=6/\∀ (k:Nat) (n':Nat->Int),scanC a l.length n=(k,n')->K .normal (dsI.zip (VFi3 (k - 1))) ⟨23,nsFo3.zip (BFo3 l t P Y y S own need a M es n')⟩
theorem fr3_ev (l:List Stk) (t:Tst) (D0 D1 D2:List Int) (Y k:Nat) (M:Mde) (es:Lst) (y S need:Int) (O:Nat) (a n:Nat->Int) (X:VEx->List VV->List VB->Prop):codeE Try.prog (callN Try.prog (tabS [meetsR l t,lessT,findR3 l t [D0,D1,D2] Y k]) noL 10 20) (tabB [(2,lIo3 l t [D0,D1,D2] Y y S O need a)]) true 10 (ntOf Try.prog 74) 0 (loopB 0 (bodyOf Try.prog 74)) (dsC.zip VFo3) ⟨22,nsFo3.zip (BFo3 l t [D0,D1,D2] Y y S O need a M es n)⟩ (obs 22 dsC nsFo3 X) =
 (let z1:=[n (0+0),n (0+1),n (0+2),n (0+3),n (0+4),n (0+5)];
 let z2:=[.ptr (.own 21 0),.yld 20,.ptr (.own 18 0),.ptr (.own 19 0)];
 let z3:=(IntKind.i64.wrap (↑(BitVec.ofInt IntKind.i64.bits ((O:Int).fdiv ((2:Int) ^ min ((0:Int)+(1:Int)+(1:Int)).toNat IntKind.i64.bits)) &&& BitVec.ofInt IntKind.i64.bits (1:Int)).toNat:Int)=(1:Int));
 let z4:=((5,I ((l.length:Int) - (1:Int)))::(15,I ((l.length:Int) - (1:Int)))::(14,I (l.length:Int))::(13,.tl l.length 5 (stG l))::(12,.ptr (.own 2 0))::(11,.ptr (.own 2 0))::(10,.ptr (.own 2 0))::(9,.bool false)::(9,.bool !true)::(8,.bool true)::(7,.agg [I (n (0+0)),I (n (0+1)),I (n (0+2)),I (n (0+3)),I (n (0+4)),I (n (0+5))])::(6,.yld 20)::dsC.zip VFo3);
 let z5:=[I (setF (fun (_:Nat)=>(0:Int)) 0 z1 (0+0)),I (setF (fun (_:Nat)=>(0:Int)) 0 z1 (0+1)),I (setF (fun (_:Nat)=>(0:Int)) 0 z1 (0+2)),I (setF (fun (_:Nat)=>(0:Int)) 0 z1 (0+3)),I (setF (fun (_:Nat)=>(0:Int)) 0 z1 (0+4)),I (setF (fun (_:Nat)=>(0:Int)) 0 z1 (0+5))];
 let z6:=(VH.mk (23) ((20,.gone)::(22,.fam [] (6) (setF (fun (_:Nat)=>(0:Int)) 0 z1) 80)::(22,.fam [] (6) (fun (_:Nat)=>(0:Int)) 80)::nsFo3.zip (BFo3 l t [D0,D1,D2] Y y S (O:Int) need a M es n)));
 let z7:=(IntKind.i64.wrap (↑(BitVec.ofInt IntKind.i64.bits ((O:Int).fdiv ((2:Int) ^ min ((0:Int)+(1:Int)).toNat IntKind.i64.bits)) &&& BitVec.ofInt IntKind.i64.bits (1:Int)).toNat:Int)=(1:Int));
 let z8:=(fun (k:Nat)=>(ch a).getD k (0:Int));
 (∃ (n_1:Nat->Int),isD z6 4 (VV.ptr (.own 2 0)) (VV.tp (stD l::tsL t))/\z5=nL n_1/\(conB l t n_1/\(0:Int)<=y/\y<=(1000:Int))/\bif !meetsF l t n_1 y need then
 bif inK .i64 ((l.length:Int) - (1:Int)) then
 ∃ (M_1:Mde),∃ (es_1:Lst),∃ (n_2:Nat->Int),FitP 0 (VH.mk (23) ((20,.loop true none (slFo3 y S (O:Int) need a) 58 [17] asFo bdFo)::(20,.gone)::(22,.fam [] (6) (setF (fun (_:Nat)=>(0:Int)) 0 z1) 80)::(22,.fam [] (6) (fun (_:Nat)=>(0:Int)) 80)::nsFo3.zip (BFo3 l t [D0,D1,D2] Y y S (O:Int) need a M es n))) z4 (VH.mk 23 (nsFo3.zip (BFo3 l t [D0,D1,D2] Y y S (O:Int) need a M_1 es_1 n_2))) (dsI.zip (VFi3 ((l.length:Int) - (1:Int))))/\l.length<=6/\∀ (k:Nat) (n':Nat->Int),scanC a l.length n_2=(k,n')->bif decide ((k:Int) - (1:Int)<(0:Int)) then
 X .ret z2 (BFo3 l t [D0,D1,D2] Y y S O need a M_1 es_1 n')
 else bif decide ((0:Int)<=(k:Int) - (1:Int)/\(k:Int) - (1:Int)<(6:Int)) then
 bif decide (((k:Int) - (1:Int)).toNat*(1)<6) then
 bif inK .i64 (n' (((k:Int) - (1:Int)).toNat*(1))+(1:Int)) then
 bif decide ((0:Int)<=(k:Int) - (1:Int)/\(k:Int) - (1:Int)<(6:Int)) then
 bif decide (((k:Int) - (1:Int)).toNat*(1)+(1)<=6) then
 X .normal z2 (BFo3 l t [D0,D1,D2] Y y S O need a M_1 es_1 (setF n' (((k:Int) - (1:Int)).toNat*(1)) [n' (((k:Int) - (1:Int)).toNat*(1))+(1:Int)]))
 else False
 else False
 else False
 else False
 else False
 else False
 else bif inK .i64 (y+(1:Int)) then
 ∃ (a_1:Nat->Int),∃ (b:Nat->Int),[I (z8 (0+0)),I (z8 (0+1)),I (z8 (0+2)),I (z8 (0+3)),I (z8 (0+4)),I (z8 (0+5))]=nL a_1/\z5=nL b/\bdL a_1 b/\∃ (S':Nat),∃ (a_2:Nat->Int),∃ (M_1:Mde),∃ (es_1:Lst),(VV.ptr (.own 4 0)=VV.ptr (.own 4 0)/\VV.ptr (.own 11 0)=VV.ptr (.own 11 0)/\VV.ptr (.own 1 0)=VV.ptr (.own 1 0)/\VV.ptr (.own 13 0)=VV.ptr (.own 13 0))/\(0=0/\14<=23)/\atL nsB3 (BP3 l t [D0,D1,D2] Y M_1 es_1) z6/\(y+(1:Int)=(Y:Int) - (k:Int)/\(O:Int)=(S':Int)/\[I (lsF a_1 b 6 0),I (lsF a_1 b 6 1),I (lsF a_1 b 6 2),I (lsF a_1 b 6 3),I (lsF a_1 b 6 4),I (lsF a_1 b 6 5)]=nL a_2)/\PreF l t [D0,D1,D2] Y k S' a_2 es_1/\∀ (b:Bool) (s:St),PostF l t [D0,D1,D2] Y k S' a_2 M_1 b s->bif !b then
 bif inK .i64 ((l.length:Int) - (1:Int)) then
 ∃ (M_2:Mde),∃ (es_2:Lst),∃ (n_2:Nat->Int),FitP 0 (VH.mk (23) ((20,.loop true none (slFo3 y S (O:Int) need a) 58 [17] asFo bdFo)::(7,.fam [] (Y*6) (s.M 0) 80)::(8,.fam [] (Y*6) (s.M 1) 80)::(9,.fam [] (Y*6) (s.M 2) 80)::(10,.map kS PK.bool s.es)::(20,.gone)::(22,.fam [] (6) (setF (fun (_:Nat)=>(0:Int)) 0 z1) 80)::(22,.fam [] (6) (fun (_:Nat)=>(0:Int)) 80)::nsFo3.zip (BFo3 l t [D0,D1,D2] Y y S (O:Int) need a M es n))) z4 (VH.mk 23 (nsFo3.zip (BFo3 l t [D0,D1,D2] Y y S (O:Int) need a M_2 es_2 n_2))) (dsI.zip (VFi3 ((l.length:Int) - (1:Int))))/\l.length<=6/\∀ (k:Nat) (n':Nat->Int),scanC a l.length n_2=(k,n')->bif decide ((k:Int) - (1:Int)<(0:Int)) then
 X .ret z2 (BFo3 l t [D0,D1,D2] Y y S O need a M_2 es_2 n')
 else bif decide ((0:Int)<=(k:Int) - (1:Int)/\(k:Int) - (1:Int)<(6:Int)) then
 bif decide (((k:Int) - (1:Int)).toNat*(1)<6) then
 bif inK .i64 (n' (((k:Int) - (1:Int)).toNat*(1))+(1:Int)) then
 bif decide ((0:Int)<=(k:Int) - (1:Int)/\(k:Int) - (1:Int)<(6:Int)) then
 bif decide (((k:Int) - (1:Int)).toNat*(1)+(1)<=6) then
 X .normal z2 (BFo3 l t [D0,D1,D2] Y y S O need a M_2 es_2 (setF n' (((k:Int) - (1:Int)).toNat*(1)) [n' (((k:Int) - (1:Int)).toNat*(1))+(1:Int)]))
 else False
 else False
 else False
 else False
 else False
 else False
 else bif decide (IntKind.i64.wrap (↑(BitVec.ofInt IntKind.i64.bits ((O:Int).fdiv ((2:Int) ^ min (Int.toNat (0:Int)) IntKind.i64.bits)) &&& BitVec.ofInt IntKind.i64.bits (1:Int)).toNat:Int)=(1:Int)) then
 bif decide ((0:Int)<=y/\y<(Y:Int)) then
 bif decide (0+y.toNat*(6)+(6)<=Y*6) then
 bif decide z7 then
 bif decide ((0:Int)<=y/\y<(Y:Int)) then
 bif decide (0+y.toNat*(6)+(6)<=Y*6) then
 bif decide z3 then
 bif decide ((0:Int)<=y/\y<(Y:Int)) then
 bif decide (0+y.toNat*(6)+(6)<=Y*6) then
 X .ret z2 (BQf3 l t [D0,D1,D2] Y y S O need a (s6 s 0 y n) (s6 s 1 y n) (s6 s 2 y n) s.es true n)
 else False
 else False
 else X .ret z2 (BQf3 l t [D0,D1,D2] Y y S O need a (s6 s 0 y n) (s6 s 1 y n) (s.M 2) s.es true n)
 else False
 else False
 else bif decide z3 then
 bif decide ((0:Int)<=y/\y<(Y:Int)) then
 bif decide (0+y.toNat*(6)+(6)<=Y*6) then
 X .ret z2 (BQf3 l t [D0,D1,D2] Y y S O need a (s6 s 0 y n) (s.M 1) (s6 s 2 y n) s.es true n)
 else False
 else False
 else X .ret z2 (BQf3 l t [D0,D1,D2] Y y S O need a (s6 s 0 y n) (s.M 1) (s.M 2) s.es true n)
 else False
 else False
 else bif decide z7 then
 bif decide ((0:Int)<=y/\y<(Y:Int)) then
 bif decide (0+y.toNat*(6)+(6)<=Y*6) then
 bif decide z3 then
 bif decide ((0:Int)<=y/\y<(Y:Int)) then
 bif decide (0+y.toNat*(6)+(6)<=Y*6) then
 X .ret z2 (BQf3 l t [D0,D1,D2] Y y S O need a (s.M 0) (s6 s 1 y n) (s6 s 2 y n) s.es true n)
 else False
 else False
 else X .ret z2 (BQf3 l t [D0,D1,D2] Y y S O need a (s.M 0) (s6 s 1 y n) (s.M 2) s.es true n)
 else False
 else False
 else bif decide z3 then
 bif decide ((0:Int)<=y/\y<(Y:Int)) then
 bif decide (0+y.toNat*(6)+(6)<=Y*6) then
 X .ret z2 (BQf3 l t [D0,D1,D2] Y y S O need a (s.M 0) (s.M 1) (s6 s 2 y n) s.es true n)
 else False
 else False
 else X .ret z2 (BQf3 l t [D0,D1,D2] Y y S O need a (s.M 0) (s.M 1) (s.M 2) s.es true n)
 else False)):=by kernel_rfl
noncomputable def BFoT3 (l:List Stk) (t:Tst) (P:List (List Int)) (Y:Nat) (y S own need:Int) (a:Nat->Int) (M:Mde) (es:Lst) (n:Nat->Int):List VB:=BP3 l t P Y M es ++ [faS y S a,.cells [I own] 3,.cells [I need] 3,.cells [.bool true] 4,.cells [.ptr (.own 2 0)] 72,faN a,.loop false (some .ret) (slFo3 y S own need a) 58 [17] asFo bdFo,.fam [] 6 n 80]
noncomputable def lFo3 (l:List Stk) (t:Tst) (P:List (List Int)) (Y k:Nat) (y S d:Int) (O:Nat) (a:Nat->Int):LT:=fun lock tt h K=>
 ∃ M es,FitP lock h tt ⟨22,nsFo3.zip (BFo3 l t P Y y S O d a M es fun _=>0)⟩ (dsC.zip VFo3)/\(y=(Y:Int) - (k+1:Nat)/\Cfg l t P Y/\PreW l t P Y k O a es)/\(∀ s n',PostW l t P Y k O d a M false s->K .ret (dsC.zip VFo3) ⟨22,nsFo3.zip (BFo3 l t P Y y S O d a s.M s.es n')⟩) /\
  ∀ s n',PostW l t P Y k O d a M true s->K .ret (dsC.zip VFo3) ⟨22,nsFo3.zip (BFoT3 l t P Y y S O d a s.M s.es n')⟩
theorem fob3_ev (l:List Stk) (t:Tst) (D0 D1 D2:List Int) (Y k:Nat) (M:Mde) (es:Lst) (y S d:Int) (O:Nat) (a:Nat->Int) (Q:VRes->VH->Prop):callN Try.prog noSpec (atF 74 [(0,lFo3 l t [D0,D1,D2] Y k y S d O a)]) 10 20 0 (.fn 40) [.agg (I y::I S::nL a),I O,I d,.ptr (.own 3 0),.ptr (.own 12 0),.ptr (.own 1 0),.ptr (.own 6 0)] ⟨14,nsB3.zip (BP3 l t [D0,D1,D2] Y M es)⟩ (fun r h=>Q r h) =
 (∃ (M_1:Mde),∃ (es_1:Lst),FitP 0 (VH.mk (22) ((21,.fam [] (6) (fun (_:Nat)=>(0:Int)) 80)::(20,.loop true none [(16,.func 74 [] [.ptr (.own (18) 0),.ptr (.own (19) 0)]),(15,.agg [I ((f6 a) (0+0)),I ((f6 a) (0+1)),I ((f6 a) (0+2)),I ((f6 a) (0+3)),I ((f6 a) (0+4)),I ((f6 a) (0+5))]),(14,.ptr (.own (14) (2))),(13,.ptr (.own 2 0)),(10,.ptr (.own (17) 0)),(9,.ptr (.own (16) 0)),(8,.ptr (.own (15) 0)),(7,.ptr (.own (14) 0)),(0,.agg (I y::I S::nL a)),(1,I (O:Int)),(2,I d),(3,.ptr (.own 3 0)),(4,.ptr (.own 12 0)),(5,.ptr (.own 1 0)),(6,.ptr (.own 6 0))] 58 [17] asFo bdFo)::(19,.fam [] (6) (fun (k:Nat)=>[(f6 a) (0+0),(f6 a) (0+1),(f6 a) (0+2),(f6 a) (0+3),(f6 a) (0+4),(f6 a) (0+5)].getD k (0:Int)) 80)::(18,.cells [.ptr (.own 2 0)] 72)::(17,.cells [.bool false] 4)::(16,.cells [I d] 3)::(15,.cells [I (O:Int)] 3)::(14,.fam [I y,I S] (6) (f6 a) 82)::nsB3.zip (BP3 l t [D0,D1,D2] Y M es))) [(4,.ptr (.own (21) 0)),(0,.yld (20)),(1,.ptr (.own (18) 0)),(2,.ptr (.own (19) 0))] (VH.mk 22 (nsFo3.zip (BFo3 l t [D0,D1,D2] Y y S (O:Int) d a M_1 es_1 fun (_:Nat)=>(0:Int)))) (dsC.zip VFo3)/\(y=(Y:Int) - (↑(k+1):Int)/\Cfg l t [D0,D1,D2] Y/\PreW l t [D0,D1,D2] Y k O a es_1)/\(∀ (s:St) (n':Nat->Int),PostW l t [D0,D1,D2] Y k O d a M_1 false s->Q (.ret (.bool false)) (VH.mk 22 [(17,.cells [.bool false] 4),(20,.gone),(0,.cells [.tl t.T.length 1 (dG t.T),I t.far,I t.least] 25),(1,.cells [.tl [D0,D1,D2].length 1 (pthG [D0,D1,D2])] 26),(2,.cells (stD l::tsL t) 74),(3,.cells [.ptr (.own 2 0)] 72),(4,.cells [I (Y:Int)] 3),(5,.cells [sFa 7 Y,sFa 8 Y,sFa 9 Y] 76),(6,.cells [.slice (.own 5 0) 3 3] 75),(7,.fam [] (Y*6) (s.M 0) 80),(8,.fam [] (Y*6) (s.M 1) 80),(9,.fam [] (Y*6) (s.M 2) 80),(10,.map kS PK.bool s.es),(11,.cells [.mp 10] 77),(12,.cells [.func 44 [] [.ptr (.own 4 0),.ptr (.own 11 0),.ptr (.own 1 0),.ptr (.own 13 0)]] 78),(13,.cells [.func 40 [] [.ptr (.own 3 0),.ptr (.own 12 0),.ptr (.own 1 0),.ptr (.own 6 0)]] 88),(14,.fam [I y,I S] 6 (fun (k:Nat)=>(ch a).getD k (0:Int)) 82),(15,.cells [I (O:Int)] 3),(16,.cells [I d] 3),(17,.cells [.bool false] 4),(18,.cells [.ptr (.own 2 0)] 72),(19,.fam [] 6 (fun (k:Nat)=>(ch a).getD k (0:Int)) 80),(20,.loop true none (slFo3 y S (O:Int) d a) 58 [17] asFo bdFo),(21,.fam [] 6 n' 80)]))/\∀ (s:St) (n':Nat->Int),PostW l t [D0,D1,D2] Y k O d a M_1 true s->Q (.ret (.bool true)) (VH.mk 22 [(20,.gone),(0,.cells [.tl t.T.length 1 (dG t.T),I t.far,I t.least] 25),(1,.cells [.tl [D0,D1,D2].length 1 (pthG [D0,D1,D2])] 26),(2,.cells (stD l::tsL t) 74),(3,.cells [.ptr (.own 2 0)] 72),(4,.cells [I (Y:Int)] 3),(5,.cells [sFa 7 Y,sFa 8 Y,sFa 9 Y] 76),(6,.cells [.slice (.own 5 0) 3 3] 75),(7,.fam [] (Y*6) (s.M 0) 80),(8,.fam [] (Y*6) (s.M 1) 80),(9,.fam [] (Y*6) (s.M 2) 80),(10,.map kS PK.bool s.es),(11,.cells [.mp 10] 77),(12,.cells [.func 44 [] [.ptr (.own 4 0),.ptr (.own 11 0),.ptr (.own 1 0),.ptr (.own 13 0)]] 78),(13,.cells [.func 40 [] [.ptr (.own 3 0),.ptr (.own 12 0),.ptr (.own 1 0),.ptr (.own 6 0)]] 88),(14,.fam [I y,I S] 6 (fun (k:Nat)=>(ch a).getD k (0:Int)) 82),(15,.cells [I (O:Int)] 3),(16,.cells [I d] 3),(17,.cells [.bool true] 4),(18,.cells [.ptr (.own 2 0)] 72),(19,.fam [] 6 (fun (k:Nat)=>(ch a).getD k (0:Int)) 80),(20,.loop false (some VEx.ret) (slFo3 y S (O:Int) d a) 58 [17] asFo bdFo),(21,.fam [] 6 n' 80)])):=by kernel_rfl
def dsF3:List Nat:=[7,6,5,0,1,2,3,4]
def VF3 (y S:Int) (a:Nat->Int) (r:Int):List VV:=[I r,.bool false,.ptr (.own 14 0),.agg (I y::I S::nL a),.ptr (.own 4 0),.ptr (.own 11 0),.ptr (.own 1 0),.ptr (.own 13 0)]
def nsF3:List Nat:=[0,1,2,3,4,5,6,7,8,9,10,11,12,13,14]
def BF3 (l:List Stk) (t:Tst) (P:List (List Int)) (Y:Nat) (y S:Int) (a:Nat->Int) (M:Mde) (es:Lst):List VB:=BP3 l t P Y M es ++ [faS y S a]
def dsG3:List Nat:=[25,24,23,9,8] ++ dsF3
def VG3 (P:List (List Int)) (y S:Int) (a:Nat->Int) (r i d o:Int):List VV:=[I i,I P.length,pthD P,I d,I o] ++ VF3 y S a r
theorem gi3_ev (l:List Stk) (t:Tst) (P:List (List Int)) (Y:Nat) (M:Mde) (es:Lst) (y S i d:Int) (o r:Nat) (a:Nat->Int) (X:VEx->List VV->List VB->Prop):codeE Try.prog (callN Try.prog noSpec noL 10 20) (fun _=>none) true 10 (ntOf Try.prog 44) 0 (loopB 2 (bodyOf Try.prog 44)) (dsG3.zip (VG3 P y S a r i d o)) ⟨15,nsF3.zip (BF3 l t P Y y S a M es)⟩ (obs 15 dsG3 nsF3 X) =
 (let z1:=[.cells [.tl t.T.length 1 (dG t.T),I t.far,I t.least] 25,.cells [.tl P.length 1 (pthG P)] 26,.cells (stD l::tsL t) 74,.cells [.ptr (.own 2 0)] 72,.cells [I (Y:Int)] 3,.cells [sFa 7 Y,sFa 8 Y,sFa 9 Y] 76,.cells [.slice (.own 5 0) 3 3] 75,.fam [] (Y*6) (M 0) 80,.fam [] (Y*6) (M 1) 80,.fam [] (Y*6) (M 2) 80,.map kS PK.bool es,.cells [.mp 10] 77,.cells [.func 44 [] [.ptr (.own 4 0),.ptr (.own 11 0),.ptr (.own 1 0),.ptr (.own 13 0)]] 78,.cells [.func 40 [] [.ptr (.own 3 0),.ptr (.own 12 0),.ptr (.own 1 0),.ptr (.own 6 0)]] 88,.fam [I y,I S] 6 (fun (k:Nat)=>(ch a).getD k (0:Int)) 82];
 let z2:=[I (i+(1:Int)),I (P.length:Int),.tl P.length 1 (pthG P),I ((P.getD i.toNat []).getD y.toNat (0:Int)),I (IntKind.i64.wrap (↑(BitVec.ofInt IntKind.i64.bits (o:Int) ||| BitVec.ofInt IntKind.i64.bits ((1:Int)*(2:Int) ^ min i.toNat IntKind.i64.bits)).toNat:Int)),I (r:Int),.bool false,.ptr (.own 14 0),.agg [I y,I S,I (a 0),I (a 1),I (a 2),I (a 3),I (a 4),I (a 5)],.ptr (.own 4 0),.ptr (.own 11 0),.ptr (.own 1 0),.ptr (.own 13 0)];
 let z3:=[I (i+(1:Int)),I (P.length:Int),.tl P.length 1 (pthG P),I d,I (o:Int),I (r:Int),.bool false,.ptr (.own 14 0),.agg [I y,I S,I (a 0),I (a 1),I (a 2),I (a 3),I (a 4),I (a 5)],.ptr (.own 4 0),.ptr (.own 11 0),.ptr (.own 1 0),.ptr (.own 13 0)];
 (bif decide (i<(P.length:Int)) then
 bif decide ((0:Int)<=i/\i<(P.length:Int)) then
 bif decide (i<(0:Int)) then
 False
 else bif decide (IntKind.i64.wrap (↑(BitVec.ofInt IntKind.i64.bits ((r:Int).fdiv ((2:Int) ^ min i.toNat IntKind.i64.bits)) &&& BitVec.ofInt IntKind.i64.bits (1:Int)).toNat:Int)=(1:Int)) then
 bif decide (d<(0:Int)) then
 bif decide (i<(0:Int)) then
 False
 else bif inK .i64 ((1:Int)*(2:Int) ^ min i.toNat IntKind.i64.bits) then
 bif decide ((0:Int)<=y/\y<(↑(P.getD i.toNat []).length:Int)) then
 bif inK .i64 (i+(1:Int)) then
 X .normal z2 z1
 else False
 else False
 else False
 else bif decide ((0:Int)<=y/\y<(↑(P.getD i.toNat []).length:Int)) then
 bif decide ((P.getD i.toNat []).getD y.toNat (0:Int)=d) then
 bif decide (i<(0:Int)) then
 False
 else bif inK .i64 ((1:Int)*(2:Int) ^ min i.toNat IntKind.i64.bits) then
 bif decide ((0:Int)<=y/\y<(↑(P.getD i.toNat []).length:Int)) then
 bif inK .i64 (i+(1:Int)) then
 X .normal z2 z1
 else False
 else False
 else False
 else bif inK .i64 (i+(1:Int)) then
 X .normal z3 z1
 else False
 else False
 else bif inK .i64 (i+(1:Int)) then
 X .normal z3 z1
 else False
 else False
 else X (.exit 2) [I i,I (P.length:Int),.tl P.length 1 (pthG P),I d,I (o:Int),I (r:Int),.bool false,.ptr (.own 14 0),.agg [I y,I S,I (a 0),I (a 1),I (a 2),I (a 3),I (a 4),I (a 5)],.ptr (.own 4 0),.ptr (.own 11 0),.ptr (.own 1 0),.ptr (.own 13 0)] z1)):=by kernel_rfl
def lG3 (l:List Stk) (t:Tst) (P:List (List Int)) (Y k:Nat) (y S:Int) (a:Nat->Int) (r:Nat):LT:=fun lock tt h K=>
 ∃ M es,FitP lock h tt ⟨15,nsF3.zip (BF3 l t P Y y S a M es)⟩ (dsG3.zip (VG3 P y S a r 0 (-1) 0))/\(y=((Y - (k+1):Nat):Int)/\k+1<=Y/\Cfg l t P Y/\r<16)/\∀ o d,grpF P (Y - (k+1)) r P.length=(o,d)->K .normal (dsG3.zip (VG3 P y S a r P.length d o)) ⟨15,nsF3.zip (BF3 l t P Y y S a M es)⟩
theorem gm3_ev (l:List Stk) (t:Tst) (D0 D1 D2:List Int) (Y k:Nat) (M:Mde) (es:Lst) (y:Int) (S r:Nat) (a:Nat->Int) (X:VEx->List VV->List VB->Prop):codeE Try.prog (callN Try.prog (tabS [folR3 l t [D0,D1,D2] Y k]) noL 10 20) (tabB [(2,lG3 l t [D0,D1,D2] Y k y S a r)]) true 10 (ntOf Try.prog 44) 0 (loopB 0 (bodyOf Try.prog 44)) (dsF3.zip (VF3 y S a r)) ⟨15,nsF3.zip (BF3 l t [D0,D1,D2] Y y S a M es)⟩ (obs 15 dsF3 nsF3 X) =
 (let z1:=(fun (k:Nat)=>(ch a).getD k (0:Int));
 let z2:=[I (r:Int),.bool false,.ptr (.own 14 0),.agg [I y,I (S:Int),I (a 0),I (a 1),I (a 2),I (a 3),I (a 4),I (a 5)],.ptr (.own 4 0),.ptr (.own 11 0),.ptr (.own 1 0),.ptr (.own 13 0)];
 let z3:=[.func 44 [] [.ptr (.own 4 0),.ptr (.own 11 0),.ptr (.own 1 0),.ptr (.own 13 0)]];
 let z4:=[.func 40 [] [.ptr (.own 3 0),.ptr (.own 12 0),.ptr (.own 1 0),.ptr (.own 6 0)]];
 (bif decide ((r:Int) > (0:Int)) then
 ∃ (M_1:Mde),∃ (es_1:Lst),FitP 0 (VH.mk 15 (nsF3.zip (BF3 l t [D0,D1,D2] Y y (S:Int) a M es))) ((25,I 0)::(24,I (↑[D0,D1,D2].length:Int))::(23,.tl [D0,D1,D2].length 1 (pthG [D0,D1,D2]))::(9,I (-1))::(8,I 0)::(22,.bool true)::(22,.bool (decide ((r:Int) > (0:Int))))::(21,I (r:Int))::dsF3.zip (VF3 y (S:Int) a (r:Int))) (VH.mk 15 (nsF3.zip (BF3 l t [D0,D1,D2] Y y (S:Int) a M_1 es_1))) (dsG3.zip (VG3 [D0,D1,D2] y (S:Int) a (r:Int) (0:Int) (-1:Int) (0:Int)))/\(y=(↑(Y - (k+1)):Int)/\k+1<=Y/\Cfg l t [D0,D1,D2] Y/\r<16)/\∀ (o:Nat) (d:Int),grpF [D0,D1,D2] (Y - (k+1)) r [D0,D1,D2].length=(o,d)->∃ (S':Nat),∃ (O:Nat),∃ (a_2:Nat->Int),∃ (M:Mde),∃ (es:Lst),(VV.ptr (.own 3 0)=VV.ptr (.own 3 0)/\VV.ptr (.own 12 0)=VV.ptr (.own 12 0)/\VV.ptr (.own 1 0)=VV.ptr (.own 1 0)/\VV.ptr (.own 6 0)=VV.ptr (.own 6 0))/\(0=0/\14<=15)/\atL nsB3 (BP3 l t [D0,D1,D2] Y M es) (VH.mk 15 (nsF3.zip (BF3 l t [D0,D1,D2] Y y (S:Int) a M_1 es_1)))/\(y=(Y:Int) - (↑(k+1):Int)/\(S:Int)=(S':Int)/\(o:Int)=(O:Int)/\[I (z1 (0+0)),I (z1 (0+1)),I (z1 (0+2)),I (z1 (0+3)),I (z1 (0+4)),I (z1 (0+5))]=nL a_2)/\PreW l t [D0,D1,D2] Y k O a_2 es/\∀ (b:Bool) (s:St),PostW l t [D0,D1,D2] Y k O d a_2 M b s->bif !b then
 KeyLaw Try.prog 82 kS/\X .ret z2 [.cells [.tl t.T.length 1 (dG t.T),I t.far,I t.least] 25,.cells [.tl [D0,D1,D2].length 1 (pthG [D0,D1,D2])] 26,.cells (stD l::tsL t) 74,.cells [.ptr (.own 2 0)] 72,.cells [I (Y:Int)] 3,.cells [sFa 7 Y,sFa 8 Y,sFa 9 Y] 76,.cells [.slice (.own 5 0) 3 3] 75,.fam [] (Y*6) (s.M 0) 80,.fam [] (Y*6) (s.M 1) 80,.fam [] (Y*6) (s.M 2) 80,.map kS PK.bool (setE s.es [y,(S:Int),z1 (0+0),z1 (0+1),z1 (0+2),z1 (0+3),z1 (0+4),z1 (0+5)] (bif true then
 (1:Int)
 else (0:Int))),.cells [.mp 10] 77,.cells z3 78,.cells z4 88,.fam [I y,I (S:Int)] 6 z1 82]
 else X .normal [I (IntKind.i64.wrap (↑(BitVec.ofInt IntKind.i64.bits (r:Int) &&& ~~~BitVec.ofInt IntKind.i64.bits (o:Int)).toNat:Int)),.bool false,.ptr (.own 14 0),.agg [I y,I (S:Int),I (a 0),I (a 1),I (a 2),I (a 3),I (a 4),I (a 5)],.ptr (.own 4 0),.ptr (.own 11 0),.ptr (.own 1 0),.ptr (.own 13 0)] [.cells [.tl t.T.length 1 (dG t.T),I t.far,I t.least] 25,.cells [.tl [D0,D1,D2].length 1 (pthG [D0,D1,D2])] 26,.cells (stD l::tsL t) 74,.cells [.ptr (.own 2 0)] 72,.cells [I (Y:Int)] 3,.cells [sFa 7 Y,sFa 8 Y,sFa 9 Y] 76,.cells [.slice (.own 5 0) 3 3] 75,.fam [] (Y*6) (s.M 0) 80,.fam [] (Y*6) (s.M 1) 80,.fam [] (Y*6) (s.M 2) 80,.map kS PK.bool s.es,.cells [.mp 10] 77,.cells z3 78,.cells z4 88,.fam [I y,I (S:Int)] 6 z1 82]
 else X (.exit 0) z2 [.cells [.tl t.T.length 1 (dG t.T),I t.far,I t.least] 25,.cells [.tl [D0,D1,D2].length 1 (pthG [D0,D1,D2])] 26,.cells (stD l::tsL t) 74,.cells [.ptr (.own 2 0)] 72,.cells [I (Y:Int)] 3,.cells [sFa 7 Y,sFa 8 Y,sFa 9 Y] 76,.cells [.slice (.own 5 0) 3 3] 75,.fam [] (Y*6) (M 0) 80,.fam [] (Y*6) (M 1) 80,.fam [] (Y*6) (M 2) 80,.map kS PK.bool es,.cells [.mp 10] 77,.cells z3 78,.cells z4 88,.fam [I y,I (S:Int)] 6 z1 82])):=by kernel_rfl
def lFi3 (l:List Stk) (t:Tst) (P:List (List Int)) (Y k:Nat) (y:Int) (S:Nat) (a:Nat->Int):LT:=fun lock tt h K=>
 ∃ M es,FitP lock h tt ⟨15,nsF3.zip (BF3 l t P Y y S a M es)⟩ (dsF3.zip (VF3 y S a S))/\(y=(Y:Int) - (k+1:Nat)/\Cfg l t P Y/\PreF l t P Y (k+1) S a es)/\(∀ s,PostF l t P Y (k+1) S a M true s->K .normal (dsF3.zip (VF3 y S a 0)) ⟨15,nsF3.zip (BF3 l t P Y y S a s.M s.es)⟩) /\
  ∀ s (r:Int),PostF l t P Y (k+1) S a M false s->K .ret (dsF3.zip (VF3 y S a r)) ⟨15,nsF3.zip (BF3 l t P Y y S a s.M s.es)⟩
theorem fib3_ev (l:List Stk) (t:Tst) (D0 D1 D2:List Int) (Y k:Nat) (M:Mde) (es:Lst) (y:Int) (S:Nat) (a:Nat->Int) (Q:VRes->VH->Prop):callN Try.prog noSpec (atF 44 [(0,lFi3 l t [D0,D1,D2] Y k y S a)]) 10 20 0 (.fn 44) [.agg (I y::I S::nL a),.ptr (.own 4 0),.ptr (.own 11 0),.ptr (.own 1 0),.ptr (.own 13 0)] ⟨14,nsB3.zip (BP3 l t [D0,D1,D2] Y M es)⟩ (fun r h=>Q r h) =
 (let z2:=(12,.cells [.func 44 [] [.ptr (.own 4 0),.ptr (.own 11 0),.ptr (.own 1 0),.ptr (.own 13 0)]] 78);
 let z3:=(13,.cells [.func 40 [] [.ptr (.own 3 0),.ptr (.own 12 0),.ptr (.own 1 0),.ptr (.own 6 0)]] 88);
 let z1:=(VH.mk (15) [(14,.fam [I y,I (S:Int)] (6) (f6 a) 82),(0,.cells [.tl t.T.length 1 (dG t.T),I t.far,I t.least] 25),(1,.cells [.tl [D0,D1,D2].length 1 (pthG [D0,D1,D2])] 26),(2,.cells (stD l::tsL t) 74),(3,.cells [.ptr (.own 2 0)] 72),(4,.cells [I (Y:Int)] 3),(5,.cells [sFa 7 Y,sFa 8 Y,sFa 9 Y] 76),(6,.cells [.slice (.own 5 0) 3 3] 75),(7,.fam [] (Y*6) (M 0) 80),(8,.fam [] (Y*6) (M 1) 80),(9,.fam [] (Y*6) (M 2) 80),(10,.map kS PK.bool es),(11,.cells [.mp 10] 77),z2,z3]);
 (bif decide (y=(Y:Int)) then
 Q (.ret (.bool true)) z1
 else KeyLaw Try.prog 82 kS/\bif decide (valOf es [y,(S:Int),(f6 a) (0+0),(f6 a) (0+1),(f6 a) (0+2),(f6 a) (0+3),(f6 a) (0+4),(f6 a) (0+5)]=(1:Int)) then
 Q (.ret (.bool false)) z1
 else ∃ (M_1:Mde),∃ (es_1:Lst),FitP 0 (VH.mk (15) ((14,.fam [I y,I (S:Int)] (6) (f6 a) 82)::nsB3.zip (BP3 l t [D0,D1,D2] Y M es))) [(7,I (S:Int)),(20,I (S:Int)),(19,.ptr (.own (14) (1))),(18,.bool false),(18,.bool (decide (valOf es [y,(S:Int),(f6 a) (0+0),(f6 a) (0+1),(f6 a) (0+2),(f6 a) (0+3),(f6 a) (0+4),(f6 a) (0+5)]=(1:Int)))),(17,.agg [I y,I (S:Int),I ((f6 a) (0+0)),I ((f6 a) (0+1)),I ((f6 a) (0+2)),I ((f6 a) (0+3)),I ((f6 a) (0+4)),I ((f6 a) (0+5))]),(16,.mp 10),(15,.bool false),(15,.bool (decide (y=(Y:Int)))),(14,I (Y:Int)),(13,I y),(12,.ptr (.own (14) 0)),(6,.bool false),(5,.ptr (.own (14) 0)),(0,.agg (I y::I (S:Int)::nL a)),(1,.ptr (.own 4 0)),(2,.ptr (.own 11 0)),(3,.ptr (.own 1 0)),(4,.ptr (.own 13 0))] (VH.mk 15 (nsF3.zip (BF3 l t [D0,D1,D2] Y y (S:Int) a M_1 es_1))) (dsF3.zip (VF3 y (S:Int) a (S:Int)))/\(y=(Y:Int) - (↑(k+1):Int)/\Cfg l t [D0,D1,D2] Y/\PreF l t [D0,D1,D2] Y (k+1) S a es_1)/\(∀ (s:St),PostF l t [D0,D1,D2] Y (k+1) S a M_1 true s->Q (.ret (.bool true)) (VH.mk 15 [(0,.cells [.tl t.T.length 1 (dG t.T),I t.far,I t.least] 25),(1,.cells [.tl [D0,D1,D2].length 1 (pthG [D0,D1,D2])] 26),(2,.cells (stD l::tsL t) 74),(3,.cells [.ptr (.own 2 0)] 72),(4,.cells [I (Y:Int)] 3),(5,.cells [sFa 7 Y,sFa 8 Y,sFa 9 Y] 76),(6,.cells [.slice (.own 5 0) 3 3] 75),(7,.fam [] (Y*6) (s.M 0) 80),(8,.fam [] (Y*6) (s.M 1) 80),(9,.fam [] (Y*6) (s.M 2) 80),(10,.map kS PK.bool s.es),(11,.cells [.mp 10] 77),z2,z3,(14,.fam [I y,I (S:Int)] 6 (fun (k:Nat)=>(ch a).getD k (0:Int)) 82)]))/\∀ (s:St) (r:Int),PostF l t [D0,D1,D2] Y (k+1) S a M_1 false s->Q (.ret (.bool false)) (VH.mk 15 [(0,.cells [.tl t.T.length 1 (dG t.T),I t.far,I t.least] 25),(1,.cells [.tl [D0,D1,D2].length 1 (pthG [D0,D1,D2])] 26),(2,.cells (stD l::tsL t) 74),(3,.cells [.ptr (.own 2 0)] 72),(4,.cells [I (Y:Int)] 3),(5,.cells [sFa 7 Y,sFa 8 Y,sFa 9 Y] 76),(6,.cells [.slice (.own 5 0) 3 3] 75),(7,.fam [] (Y*6) (s.M 0) 80),(8,.fam [] (Y*6) (s.M 1) 80),(9,.fam [] (Y*6) (s.M 2) 80),(10,.map kS PK.bool s.es),(11,.cells [.mp 10] 77),z2,z3,(14,.fam [I y,I (S:Int)] 6 (fun (k:Nat)=>(ch a).getD k (0:Int)) 82)]))):=by kernel_rfl
theorem fiz3_ev (l:List Stk) (t:Tst) (D0 D1 D2:List Int) (Y:Nat) (M:Mde) (es:Lst) (y:Int) (S:Nat) (a:Nat->Int) (Q:VRes->VH->Prop):callN Try.prog noSpec (atF 44 [(0,lZ)]) 10 20 0 (.fn 44) [.agg (I y::I S::nL a),.ptr (.own 4 0),.ptr (.own 11 0),.ptr (.own 1 0),.ptr (.own 13 0)] ⟨14,nsB3.zip (BP3 l t [D0,D1,D2] Y M es)⟩ (fun r h=>Q r h) =
 (bif decide (y=(Y:Int)) then
 Q (.ret (.bool true)) (VH.mk (15) [(14,.fam [I y,I (S:Int)] (6) (f6 a) 82),(0,.cells [.tl t.T.length 1 (dG t.T),I t.far,I t.least] 25),(1,.cells [.tl [D0,D1,D2].length 1 (pthG [D0,D1,D2])] 26),(2,.cells (stD l::tsL t) 74),(3,.cells [.ptr (.own 2 0)] 72),(4,.cells [I (Y:Int)] 3),(5,.cells [sFa 7 Y,sFa 8 Y,sFa 9 Y] 76),(6,.cells [.slice (.own 5 0) 3 3] 75),(7,.fam [] (Y*6) (M 0) 80),(8,.fam [] (Y*6) (M 1) 80),(9,.fam [] (Y*6) (M 2) 80),(10,.map kS PK.bool es),(11,.cells [.mp 10] 77),(12,.cells [.func 44 [] [.ptr (.own 4 0),.ptr (.own 11 0),.ptr (.own 1 0),.ptr (.own 13 0)]] 78),(13,.cells [.func 40 [] [.ptr (.own 3 0),.ptr (.own 12 0),.ptr (.own 1 0),.ptr (.own 6 0)]] 88)])
 else KeyLaw Try.prog 82 kS/\bif decide (valOf es [y,(S:Int),(f6 a) (0+0),(f6 a) (0+1),(f6 a) (0+2),(f6 a) (0+3),(f6 a) (0+4),(f6 a) (0+5)]=(1:Int)) then
 Q (.ret (.bool false)) (VH.mk (15) [(14,.fam [I y,I (S:Int)] (6) (f6 a) 82),(0,.cells [.tl t.T.length 1 (dG t.T),I t.far,I t.least] 25),(1,.cells [.tl [D0,D1,D2].length 1 (pthG [D0,D1,D2])] 26),(2,.cells (stD l::tsL t) 74),(3,.cells [.ptr (.own 2 0)] 72),(4,.cells [I (Y:Int)] 3),(5,.cells [sFa 7 Y,sFa 8 Y,sFa 9 Y] 76),(6,.cells [.slice (.own 5 0) 3 3] 75),(7,.fam [] (Y*6) (M 0) 80),(8,.fam [] (Y*6) (M 1) 80),(9,.fam [] (Y*6) (M 2) 80),(10,.map kS PK.bool es),(11,.cells [.mp 10] 77),(12,.cells [.func 44 [] [.ptr (.own 4 0),.ptr (.own 11 0),.ptr (.own 1 0),.ptr (.own 13 0)]] 78),(13,.cells [.func 40 [] [.ptr (.own 3 0),.ptr (.own 12 0),.ptr (.own 1 0),.ptr (.own 6 0)]] 88)])
 else False):=by kernel_rfl
section
variable {l:List Stk} {t:Tst} {P:List (List Int)} {Y k:Nat} {y S d:Int} {own:Int} {a:Nat->Int}
noncomputable def OJ3 (l:List Stk) (t:Tst) (P:List (List Int)) (Y:Nat) (y S own d:Int) (a:Nat->Int) (s:(Mde × Lst) × Nat × (Nat->Int)) (e:VEx) (vs:List VV) (bs:List VB):Prop:=
 e=.exit 2/\vs=VFi3 ((scanC a s.2.1 s.2.2).1 - 1)/\bs=BFo3 l t P Y y S own d a s.1.1 s.1.2 (scanC a s.2.1 s.2.2).2
theorem lIo3_ok:LSound Try.prog true (.block 2 (.loop (loopB 2 (bodyOf Try.prog 74)))) (ntOf Try.prog 74) (lIo3 l t P Y y S own d a):=by
 by_cases hn:l.length<=6
 ·refine loop_row hmix good0 (un:=10) (ds:=dsI) (ns:=nsFo3) (nx:=23) (fun s:(Mde × Lst) × Nat × (Nat->Int)=>VFi3 (s.2.1 - 1)) (fun s=>BFo3 l t P Y y S own d a s.1.1 s.1.2 s.2.2) (fun s=>s.2.1<=l.length) (fun s=>s.2.1) (OJ3 l t P Y y S own d a) noL_ok ?_ ?_
  ·rintro ⟨⟨M,es⟩,k,n⟩ h0
   dsimp only at h0 ⊢
   refine cast (ino3_ev l t P Y y S own d (k - 1) a M es n _).symm ?_
   cases k with
   | zero=>exact cond_d (fun h=>by omega) (fun _=>⟨rfl,rfl,rfl⟩)
   | succ k=>
    have e:(((k+1:Nat):Int) - 1)=(k:Int):=by omega
    rw [e]
    have e2:(k:Int).toNat*1=k:=by omega
    rw [e2,show (fun k=>(ch a).getD k (0:Int)) k=a k from ch_get (by omega)]
    refine cond_d (fun _=>?_) (fun h=>by omega)
    refine cond_dk ⟨by omega,by omega⟩ (cond_dk (by omega) (cond_dk ⟨by omega,by omega⟩ (cond_dk (by omega) (cond_d (fun g=>cond_dk ⟨by omega,by omega⟩ (cond_dk (by omega) (cond_r (by omega) ?_))) (fun g=>?_)))))
    ·refine ⟨((M,es),k,setC n k 0),?_,?_,rfl,fitBs_refl _,fun e vs bs he=>?_⟩
     ·show k<=_; omega
     ·show k<k+1; omega
     ·have hs:scanC a (k+1) n=scanC a k (setC n k 0):=by
       show (if _ then _ else _)=_
       rw [if_pos g]
      obtain ⟨h1,h2,h3⟩:=he
      refine ⟨h1,?_,?_⟩
      ·rw [h2]; dsimp only; rw [hs]
      ·rw [h3]; dsimp only; rw [hs]
    ·have hs:scanC a (k+1) n=(k+1,n):=by
      show (if _ then _ else _)=_
      rw [if_neg g]
     refine ⟨rfl,?_,?_⟩
     ·dsimp only; rw [hs]; dsimp only; rw [e]; rfl
     ·dsimp only; rw [hs]
  ·rintro lock tt h K ⟨M,es,n,hf,_,k1⟩
   refine ⟨((M,es),l.length,n),hf,Nat.le_refl _,?_⟩
   rintro e vs bs ⟨rfl,rfl,rfl⟩
   exact k1 _ _ rfl
 ·rintro lock tt h K ⟨M,es,n,hf,hc,_⟩
  exact (hn hc).elim
theorem lG3_ok {r:Nat}:LSound Try.prog true (.block 2 (.loop (loopB 2 (bodyOf Try.prog 44)))) (ntOf Try.prog 44) (lG3 l t P Y k y S a r):=by
 by_cases hh:y=((Y - (k+1):Nat):Int)/\k+1<=Y/\Cfg l t P Y/\r<16
 ·obtain ⟨hy,hk,cf,hr⟩:=hh
  have hp4:=cf.P4
  refine loop_row hmix good0 (un:=10) (ds:=dsG3) (ns:=nsF3) (nx:=15) (fun s:(Mde × Lst) × Nat=>VG3 P y S a r s.2 (grpF P (Y - (k+1)) r s.2).2 (grpF P (Y - (k+1)) r s.2).1) (fun s=>BF3 l t P Y y S a s.1.1 s.1.2) (fun s=>s.2<=P.length) (fun s=>P.length - s.2)
   (fun s e vs bs=>e=.exit 2/\vs=VG3 P y S a r P.length (grpF P (Y - (k+1)) r P.length).2 (grpF P (Y - (k+1)) r P.length).1/\bs=BF3 l t P Y y S a s.1.1 s.1.2) noL_ok ?_ ?_
  ·rintro ⟨⟨M,es⟩,i⟩ h0
   dsimp only at h0 ⊢
   refine cast (gi3_ev l t P Y M es y S i _ _ r a _).symm ?_
   have hgb:=grpF_le cf.nd (Y - (k+1)) r i
   have hs:grpF P (Y - (k+1)) r (i+1)=if r.testBit i/\((grpF P (Y - (k+1)) r i).2<0 ∨ (P.getD i []).getD (Y - (k+1)) 0=(grpF P (Y - (k+1)) r i).2) then ((grpF P (Y - (k+1)) r i).1 ||| 2 ^ i,(P.getD i []).getD (Y - (k+1)) 0) else grpF P (Y - (k+1)) r i:=rfl
   have h16:(grpF P (Y - (k+1)) r i).1<16:=Nat.lt_of_lt_of_le hgb (Nat.pow_le_pow_right (n:=2) (by omega) (show i<=4 by omega))
   generalize hRQ:RoundQ (σ:=(Mde × Lst) × Nat) _ _ _ _ _ ((M,es),i)=RQ
   have fin:∀ (o':Nat) (d':Int),grpF P (Y - (k+1)) r (i+1)=(o',d')->i<P.length->RQ .normal (VG3 P y S a r ((i:Int)+1) d' o') (BF3 l t P Y y S a M es):=by
    intro o' d' he hlt
    rw [<- hRQ]
    refine ⟨((M,es),i+1),?_,?_,?_,fitBs_refl _,fun _ _ _ h=>h⟩
    ·show i+1<=_; omega
    ·show P.length - (i+1)<P.length - i; omega
    ·dsimp only; rw [he]; rfl
   generalize hg:grpF P (Y - (k+1)) r i=g at hs h16 ⊢
   obtain ⟨o,dd⟩:=g
   dsimp only at hs h16 ⊢
   by_cases hlt:i<P.length
   ·have hidx:(0:Int)<=y/\y<((P.getD i []).length:Nat):=by rw [cf.len i hlt]; omega
    have hi4:i<4:=by omega
    have hpow:(1:Int)*(2:Int) ^ min i IntKind.i64.bits<=8/\0<=(1:Int)*(2:Int) ^ min i IntKind.i64.bits:=by
     match i,hi4 with
     | 0,_=>exact ⟨by decide,by decide⟩
     | 1,_=>exact ⟨by decide,by decide⟩
     | 2,_=>exact ⟨by decide,by decide⟩
     | 3,_=>exact ⟨by decide,by decide⟩
    have ey:y.toNat=Y - (k+1):=by omega
    refine cond_dk (by omega) (cond_dk ⟨by omega,by omega⟩ (cond_d (fun h=>by omega) (fun _=>?_)))
    rw [show (i:Int).toNat=i by omega,ey,or_v o h16 i hi4]
    refine cond_d (fun b=>?_) (fun b=>?_)
    ·have b:=(bit_v r hr i hi4).1 b
     refine cond_d (fun g1=>cond_d (fun h=>by omega) (fun _=>cond_r (by omega) (cond_dk hidx (cond_r (by omega) (fin _ _ ?_ hlt))))) (fun g1=>cond_dk hidx (cond_d (fun g2=>cond_d (fun h=>by omega) (fun _=>cond_r (by omega) (cond_dk hidx (cond_r (by omega) (fin _ _ ?_ hlt))))) (fun g2=>cond_r (by omega) (fin _ _ ?_ hlt))))
     ·rw [hs,if_pos ⟨b,.inl g1⟩]
     ·rw [hs,if_pos ⟨b,.inr g2⟩]
     ·rw [hs,if_neg (fun h=>h.2.elim g1 g2)]
    ·have b:¬ r.testBit i=true:=fun h=>b ((bit_v r hr i hi4).2 h)
     refine cond_r (by omega) (fin _ _ ?_ hlt)
     rw [hs,if_neg (fun h=>b h.1)]
   ·obtain rfl:i=P.length:=by omega
    refine cond_d (fun h=>by omega) (fun _=>?_)
    rw [<- hRQ]
    refine ⟨rfl,?_,rfl⟩
    rw [hg]; rfl
  ·rintro lock tt h K ⟨M,es,hf,_,k1⟩
   refine ⟨((M,es),0),hf,Nat.zero_le _,?_⟩
   rintro e vs bs ⟨rfl,rfl,rfl⟩
   exact k1 _ _ rfl
 ·rintro lock tt h K ⟨M,es,hf,hc,_⟩
  exact (hh hc).elim
end
section
variable {l:List Stk} {t:Tst} {D0 D1 D2:List Int} {Y k:Nat}
theorem hc63 {h:VH} (h6:(h.at 2).cs? = some (stD l::tsL t,74)):isD h 4 (.ptr (.own 2 0)) (.tp (stD l::tsL t)):=⟨_,_,h6,isD_l,⟨rfl,rfl,fun _ _=>rfl⟩,⟨rfl,rfl⟩,⟨rfl,rfl⟩,trivial⟩
structure WS3 where
 M0:Mde
 j:Nat
 M:Mde
 es:Lst
noncomputable def OW3 (l:List Stk) (t:Tst) (P:List (List Int)) (Y k:Nat) (y S d:Int) (O:Nat) (a:Nat->Int) (s:WS3) (e:VEx) (vs:List VV) (bs:List VB):Prop:=
 e=.ret/\vs=VFo3/\∃ st n',(PostW l t P Y k O d a s.M0 false st/\bs=BFo3 l t P Y y S O d a st.M st.es n') ∨ (PostW l t P Y k O d a s.M0 true st/\bs=BFoT3 l t P Y y S O d a st.M st.es n')
theorem lFo3_ok (hfind:SpOk Try.prog (findR3 l t [D0,D1,D2] Y k).1 (findR3 l t [D0,D1,D2] Y k).2) {y S d:Int} {O:Nat} {a:Nat->Int}:LSound Try.prog true (.block 0 (.loop (loopB 0 (bodyOf Try.prog 74)))) (ntOf Try.prog 74) (lFo3 l t [D0,D1,D2] Y k y S d O a):=by
 by_cases hh:y=(Y:Int) - (k+1:Nat)/\Cfg l t [D0,D1,D2] Y/\k+1<=Y/\O<2 ^ [D0,D1,D2].length/\leftB l a
 ·obtain ⟨hy,cf,hk,hO,ha⟩:=hh
  have hl6:=cf.hl.1
  have hY4:=cf.Y4
  have hm0:∀ i,i<l.length->0<=a i:=fun i hi=>(ha.1 i hi).1
  have hO16:O<16:=Nat.lt_of_lt_of_le hO (Nat.pow_le_pow_right (n:=2) (by omega) (show 3<=4 by omega))
  have htab:∀ f T,tabS [meetsR l t,lessT,findR3 l t [D0,D1,D2] Y k] f=some T->SpOk Try.prog f T:=tab_ok _ (fun x hx=>by
   simp only [List.mem_cons,List.not_mem_nil,or_false] at hx
   rcases hx with rfl | rfl | rfl
   ·exact meetsR_ok l t
   ·exact lessT_ok
   ·exact hfind)
  refine loop_row hmix (noL_good htab) (lsp:=tabB [(2,lIo3 l t [D0,D1,D2] Y y S O d a)]) (un:=10) (ds:=dsC) (ns:=nsFo3) (nx:=22) (fun _:WS3=>VFo3) (fun s=>BFo3 l t [D0,D1,D2] Y y S O d a s.M s.es (chAt a l.length s.j))
   (fun s=>s.j<(allC a l.length).length/\LostOk l t [D0,D1,D2] Y s.es/\Same Y (k+1) O s.M0 s.M/\∀ i,i<s.j->meetsF l t (chAt a l.length i) y d=true->planF l t [D0,D1,D2] Y k O (lsF a (chAt a l.length i) 6)=none) (fun s=>(allC a l.length).length - s.j) (OW3 l t [D0,D1,D2] Y k y S d O a) (lsp_one (by kernel_rfl) lIo3_ok) ?_ ?_
  ·rintro ⟨M0,j,M,es⟩ ⟨hj,hlost,hsame,hbad⟩
   dsimp only at hj hlost hsame hbad
   refine cast (fr3_ev l t D0 D1 D2 Y k M es y S d O a _ _).symm ?_
   have hcm:=chAt_mem (most:=a) (k:=l.length) hj
   obtain ⟨hleft,hbd,hnc⟩:=left_less ha hcm hl6
   have hnx:=scan_nxt (most:=a) l.length (chAt a l.length j)
   have hnext:=chAt_next hm0 hj
   have hsucc:∀ x,meetsF l t (chAt a l.length j) y d=true->planF l t [D0,D1,D2] Y k O (lsF a (chAt a l.length j) 6)=some x->folF l t [D0,D1,D2] Y k a O d=some (chAt a l.length j,x):=fun x g1 g2=>by
    refine tryF_some (c0:=fun _=>0) hj (fun i hi hm=>hbad i hi ?_) ?_ g2
    ·rw [hy]; exact hm
    ·show meetsF l t (chAt a l.length j) _ d=true
     rw [<- hy]; exact g1
   generalize hRQ:RoundQ (σ:=WS3) _ _ _ _ _ ⟨M0,j,M,es⟩=RQ
   generalize hcj:chAt a l.length j=c at hcm hleft hbd hnc hnx hnext hsucc ⊢
   have fin:∀ (M':Mde) (es':Lst),LostOk l t [D0,D1,D2] Y es'->Same Y (k+1) O M0 M'->(meetsF l t c y d=true->planF l t [D0,D1,D2] Y k O (lsF a c 6)=none)->∀ (k2:Nat) (n':Nat->Int),scanC a l.length c=(k2,n') ->
    (bif decide ((k2:Int) - 1<0) then RQ .ret VFo3 (BFo3 l t [D0,D1,D2] Y y S O d a M' es' n')
    else bif decide (0<=(k2:Int) - 1/\(k2:Int) - 1<(6:Nat)) then (bif decide (((k2:Int) - 1).toNat*1<6) then (bif inK .i64 (n' (((k2:Int) - 1).toNat*1)+1) then (bif decide (0<=(k2:Int) - 1/\(k2:Int) - 1<(6:Nat)) then (bif decide (((k2:Int) - 1).toNat*1+1<=6) then
     RQ .normal VFo3 (BFo3 l t [D0,D1,D2] Y y S O d a M' es' (setF n' (((k2:Int) - 1).toNat*1) [n' (((k2:Int) - 1).toNat*1)+1])) else False) else False) else False) else False) else False):=by
    intro M' es' hl' hs' hno k2 n' hk2
    have hbad':∀ i,i<j+1->meetsF l t (chAt a l.length i) y d=true->planF l t [D0,D1,D2] Y k O (lsF a (chAt a l.length i) 6)=none:=fun i hi hm=>by
     by_cases e:i=j
     ·subst e; rw [hcj] at hm ⊢; exact hno hm
     ·exact hbad i (by omega) hm
    rw [hk2] at hnx
    obtain ⟨hk1,hnx⟩:=hnx
    dsimp only at hk1
    cases k2 with
    | zero=>
     dsimp only at hnx
     have hj1:j+1=(allC a l.length).length:=by
      rcases hnext with ⟨h1,_⟩ | ⟨_,h2⟩
      ·exact h1
      ·rw [hnx] at h2; cases h2
     refine cond_d (fun _=>?_) (fun h=>by omega)
     rw [<- hRQ]
     refine ⟨rfl,rfl,⟨M',es'⟩,n',.inl ⟨?_,rfl⟩⟩
     have hf:folF l t [D0,D1,D2] Y k a O d=none:=tryF_none (fun c' hc' hm'=>by
      obtain ⟨i,hi,rfl⟩:=List.getElem_of_mem hc'
      have e:chAt a l.length i=(allC a l.length)[i]:=by
       unfold chAt
       rw [List.getD_eq_getElem?_getD,List.getElem?_eq_getElem hi]; rfl
      rw [<- e]
      refine hbad' i (by omega) ?_
      rw [e,hy]; exact hm')
     exact ⟨by rw [hf]; rfl,hl',hs',fun c' x' he=>by rw [hf] at he; cases he⟩
    | succ k2=>
     dsimp only at hnx
     have e:(((k2+1:Nat):Int) - 1)=(k2:Int):=by omega
     rw [e]
     have e2:(k2:Int).toNat*1=k2:=by omega
     rw [e2]
     obtain ⟨hj1,hch⟩:j+1<(allC a l.length).length/\chAt a l.length (j+1)=setC n' k2 (n' k2+1):=by
      rcases hnext with ⟨_,h2⟩ | ⟨h1,h2⟩
      ·rw [hnx] at h2; cases h2
      ·rw [hnx] at h2
       injection h2 with h2
       exact ⟨h1,h2.symm⟩
     have hb6:=(left_less ha (chAt_mem hj1) hl6).2.2 k2 (by omega)
     rw [hch,setC_same] at hb6
     refine cond_d (fun h=>by omega) (fun _=>cond_dk ⟨by omega,by omega⟩ (cond_dk (by omega) (cond_r (by omega) (cond_dk ⟨by omega,by omega⟩ (cond_dk (by omega) ?_)))))
     rw [<- hRQ]
     refine ⟨⟨M0,j+1,M',es'⟩,⟨hj1,hl',hs',hbad'⟩,?_,rfl,?_,fun _ _ _ h=>h⟩
     ·show (allC a l.length).length - (j+1)<(allC a l.length).length - j
      omega
     ·dsimp only
      rw [hch]
      exact fitBs_refl _
   have hir : -9223372036854775808<=(l.length:Int) - 1/\(l.length:Int) - 1<=9223372036854775807:=by omega
   have hF:∀ (M':Mde) (es':Lst) (h:VH) (tt:Slots),h.nx=23->fitB (nsFo3.zip (BFo3 l t [D0,D1,D2] Y y S O d a M' es' c)) h->fitS (dsI.zip (VFi3 (l.length - 1))) tt->FitP 0 h tt ⟨23,nsFo3.zip (BFo3 l t [D0,D1,D2] Y y S O d a M' es' c)⟩ (dsI.zip (VFi3 (l.length - 1))):=fun _ _ _ _ h1 h2 h3=>⟨⟨rfl,h1,h2⟩,h3⟩
   refine ⟨c,hc63 rfl,rfl,⟨⟨hnc,cf.hl,cf.hp,cf.ht⟩,by omega,by omega⟩,cond_i (fun g=>?_) (fun g=>?_)⟩
   ·have g:meetsF l t c y d=false:=by simpa using g
    refine cond_r hir ⟨M,es,c,hF M es _ _ rfl ?_ ?_,hl6,fin M es hlost hsame (fun h=>by rw [g] at h; cases h)⟩
    ·exact (by repeat (first | exact trivial | refine ⟨VB.fit_refl _,?_⟩))
    ·exact ⟨rfl,rfl,rfl,rfl,rfl,trivial⟩
   ·have g:meetsF l t c y d=true:=by simpa using g
    refine cond_r (by omega) ⟨a,c,rfl,rfl,hbd,O,lsF a c 6,M,es,⟨rfl,rfl,rfl,rfl⟩,⟨rfl,by omega⟩,⟨rfl,rfl,rfl,rfl,rfl,rfl,rfl,rfl,rfl,rfl,rfl,rfl,rfl,rfl,trivial⟩,⟨by omega,rfl,rfl⟩,⟨by omega,hO,hleft,hlost⟩,?_⟩
    rintro b s ⟨p1,p2,p3,p4⟩
    refine cond_i (fun g2=>?_) (fun g2=>?_)
    ·have g2:b=false:=by simpa using g2
     refine cond_r hir ⟨s.M,s.es,c,hF s.M s.es _ _ rfl ?_ ?_,hl6,fin s.M s.es p2 (hsame.trans p3.later) (fun _=>?_)⟩
     ·exact (by repeat (first | exact trivial | refine ⟨VB.fit_refl _,?_⟩))
     ·exact ⟨rfl,rfl,rfl,rfl,rfl,trivial⟩
     ·rw [g2] at p1
      cases hx:planF l t [D0,D1,D2] Y k O (lsF a c 6) with
      | none=>rfl
      | some x=>rw [hx] at p1; cases p1
    ·have g2:b=true:=by simpa using g2
     subst g2
     obtain ⟨x,hx⟩:∃ x,planF l t [D0,D1,D2] Y k O (lsF a c 6)=some x:=by
      cases hx:planF l t [D0,D1,D2] Y k O (lsF a c 6) with
      | none=>rw [hx] at p1; cases p1
      | some x=>exact ⟨x,rfl⟩
     have hyY:(0:Int)<=y/\y<(Y:Int):=⟨by omega,by omega⟩
     have hyY6:0+y.toNat*6+6<=Y*6:=by omega
     have fin2:∀ M2:Mde,(∀ i,i < [D0,D1,D2].length->M2 i=if O.testBit i=true then wrM (s.M i) y c else s.M i)->(∀ i,[D0,D1,D2].length<=i->M2 i=s.M i)->∀ bs,bs=BFoT3 l t [D0,D1,D2] Y y S O d a M2 s.es c->RQ .ret VFo3 bs:=by
      rintro M2 h2 h3 bs rfl
      rw [<- hRQ]
      exact ⟨rfl,rfl,⟨M2,s.es⟩,c,.inr ⟨postW_true hk hO (by omega) (hsucc x g hx) hx hsame ⟨p1,p2,p3,p4⟩ h2 h3,rfl⟩⟩
     have fin3:∀ {m0 m1 m2:Nat->Int},(m0=if O.testBit 0=true then wrM (s.M 0) y c else s.M 0)->(m1=if O.testBit 1=true then wrM (s.M 1) y c else s.M 1)->(m2=if O.testBit 2=true then wrM (s.M 2) y c else s.M 2)->RQ .ret VFo3 (BFoT3 l t [D0,D1,D2] Y y S O d a (fun i=>if i=0 then m0 else if i=1 then m1 else if i=2 then m2 else s.M i) s.es c):=fun h0 h1 h2=>fin2 _ (fun i hi=>by
      match i,hi with
      | 0,_=>exact h0
      | 1,_=>exact h1
      | 2,_=>exact h2
      | _+3,hi=>exact absurd hi (by show ¬ _+3<3; omega)) (fun i hi=>by
      have hi:3<=i:=hi
      rw [if_neg (show ¬ i=0 by omega),if_neg (show ¬ i=1 by omega),if_neg (show ¬ i=2 by omega)]) _ rfl
     refine cond_d (fun b0=>cond_dk hyY (cond_dk hyY6 ?_)) (fun b0=>?_)
     ·have b0:O.testBit 0=true:=(bit_v O hO16 0 (by omega)).1 b0
      refine cond_d (fun b1=>cond_dk hyY (cond_dk hyY6 ?_)) (fun b1=>?_)
      ·have b1:O.testBit 1=true:=(bit_v O hO16 1 (by omega)).1 b1
       refine cond_d (fun b2=>cond_dk hyY (cond_dk hyY6 ?_)) (fun b2=>?_)
       ·have b2:O.testBit 2=true:=(bit_v O hO16 2 (by omega)).1 b2
        exact fin3 (if_pos b0).symm (if_pos b1).symm (if_pos b2).symm
       ·have b2:¬ O.testBit 2=true:=fun h=>b2 ((bit_v O hO16 2 (by omega)).2 h)
        exact fin3 (if_pos b0).symm (if_pos b1).symm (if_neg b2).symm
      ·have b1:¬ O.testBit 1=true:=fun h=>b1 ((bit_v O hO16 1 (by omega)).2 h)
       refine cond_d (fun b2=>cond_dk hyY (cond_dk hyY6 ?_)) (fun b2=>?_)
       ·have b2:O.testBit 2=true:=(bit_v O hO16 2 (by omega)).1 b2
        exact fin3 (if_pos b0).symm (if_neg b1).symm (if_pos b2).symm
       ·have b2:¬ O.testBit 2=true:=fun h=>b2 ((bit_v O hO16 2 (by omega)).2 h)
        exact fin3 (if_pos b0).symm (if_neg b1).symm (if_neg b2).symm
     ·have b0:¬ O.testBit 0=true:=fun h=>b0 ((bit_v O hO16 0 (by omega)).2 h)
      refine cond_d (fun b1=>cond_dk hyY (cond_dk hyY6 ?_)) (fun b1=>?_)
      ·have b1:O.testBit 1=true:=(bit_v O hO16 1 (by omega)).1 b1
       refine cond_d (fun b2=>cond_dk hyY (cond_dk hyY6 ?_)) (fun b2=>?_)
       ·have b2:O.testBit 2=true:=(bit_v O hO16 2 (by omega)).1 b2
        exact fin3 (if_neg b0).symm (if_pos b1).symm (if_pos b2).symm
       ·have b2:¬ O.testBit 2=true:=fun h=>b2 ((bit_v O hO16 2 (by omega)).2 h)
        exact fin3 (if_neg b0).symm (if_pos b1).symm (if_neg b2).symm
      ·have b1:¬ O.testBit 1=true:=fun h=>b1 ((bit_v O hO16 1 (by omega)).2 h)
       refine cond_d (fun b2=>cond_dk hyY (cond_dk hyY6 ?_)) (fun b2=>?_)
       ·have b2:O.testBit 2=true:=(bit_v O hO16 2 (by omega)).1 b2
        exact fin3 (if_neg b0).symm (if_neg b1).symm (if_pos b2).symm
       ·have b2:¬ O.testBit 2=true:=fun h=>b2 ((bit_v O hO16 2 (by omega)).2 h)
        exact fin3 (if_neg b0).symm (if_neg b1).symm (if_neg b2).symm
  ·rintro lock tt h K ⟨M,es,hf,⟨_,_,hpw⟩,k1,k2⟩
   refine ⟨⟨M,0,M,es⟩,?_,⟨all_pos hm0,hpw.2.2.2,Same.refl _ _ _ _,fun i hi=>absurd hi (Nat.not_lt_zero i)⟩,?_⟩
   ·dsimp only
    rw [chAt_zero hm0]; exact hf
   ·rintro e vs bs ⟨rfl,rfl,st,n',⟨hp,rfl⟩ | ⟨hp,rfl⟩⟩
    ·exact k1 st n' hp
    ·exact k2 st n' hp
 ·rintro lock tt h K ⟨M,es,hf,⟨h1,h2,h3⟩,_⟩
  exact (hh ⟨h1,h2,h3.1,h3.2.1,h3.2.2.1⟩).elim
end
section
variable {l:List Stk} {t:Tst} {D0 D1 D2:List Int} {Y k:Nat}
theorem lift3 {f:FuncId} {args:List VV} {b:Bool} {s:St} {M:Mde} {es:Lst} {nx:Nat} {bs:List (Nat × VB)} (ha:belL 14 args=true) (hr:renL id args=args) (hnx:14<=nx) (hat:atL nsB3 (BP3 l t [D0,D1,D2] Y M es) ⟨nx,bs⟩)
  (hc:CallsV Try.prog f args ⟨14,nsB3.zip (BP3 l t [D0,D1,D2] Y M es)⟩ (.ret (.bool b)) ⟨14,nsB3.zip (BP3 l t [D0,D1,D2] Y s.M s.es)⟩) :
  CallsV Try.prog f args ⟨nx,bs⟩ (.ret (.bool b)) ⟨nx,(7,.fam [] (Y*6) (s.M 0) 80)::(8,.fam [] (Y*6) (s.M 1) 80)::(9,.fam [] (Y*6) (s.M 2) 80)::(10,.map kS .bool s.es)::bs⟩:=by
 obtain ⟨e0,e1,e2,e3,e4,e5,e6,e7,e8,e9,e10,e11,e12,e13,_⟩:=hat
 have:=calls_ren (P:=Try.prog) (h:=⟨nx,bs⟩) (h1:=⟨nx,(7,.fam [] (Y*6) (s.M 0) 80)::(8,.fam [] (Y*6) (s.M 1) 80)::(9,.fam [] (Y*6) (s.M 2) 80)::(10,.map kS .bool s.es)::bs⟩) id (fun _ _ _ _ h=>h) hc (fun n hn=>by
  have hn:n<14:=hn
  match n,hn with
  | 0,_=>exact ⟨trivial,e0⟩
  | 1,_=>exact ⟨trivial,e1⟩
  | 2,_=>exact ⟨trivial,e2⟩
  | 3,_=>exact ⟨trivial,e3⟩
  | 4,_=>exact ⟨trivial,e4⟩
  | 5,_=>exact ⟨trivial,e5⟩
  | 6,_=>exact ⟨trivial,e6⟩
  | 7,_=>exact ⟨trivial,e7⟩
  | 8,_=>exact ⟨trivial,e8⟩
  | 9,_=>exact ⟨trivial,e9⟩
  | 10,_=>exact ⟨trivial,e10⟩
  | 11,_=>exact ⟨trivial,e11⟩
  | 12,_=>exact ⟨trivial,e12⟩
  | 13,_=>exact ⟨trivial,e13⟩
  | _+14,hn=>exact absurd hn (by omega)) (fun n hn=>by
  have hn:n<14:=hn
  match n,hn with
  | 0,_=>exact ⟨trivial,rfl,e0⟩
  | 1,_=>exact ⟨trivial,rfl,e1⟩
  | 2,_=>exact ⟨trivial,rfl,e2⟩
  | 3,_=>exact ⟨trivial,rfl,e3⟩
  | 4,_=>exact ⟨trivial,rfl,e4⟩
  | 5,_=>exact ⟨trivial,rfl,e5⟩
  | 6,_=>exact ⟨trivial,rfl,e6⟩
  | 7,_=>exact ⟨trivial,rfl,at_lt (show 7<nx by omega)⟩
  | 8,_=>exact ⟨trivial,rfl,at_lt (show 8<nx by omega)⟩
  | 9,_=>exact ⟨trivial,rfl,at_lt (show 9<nx by omega)⟩
  | 10,_=>exact ⟨trivial,rfl,at_lt (show 10<nx by omega)⟩
  | 11,_=>exact ⟨trivial,rfl,e11⟩
  | 12,_=>exact ⟨trivial,rfl,e12⟩
  | 13,_=>exact ⟨trivial,rfl,e13⟩
  | _+14,hn=>exact absurd hn (by omega)) (fun q hq=>by
  have hq:∀ n,n<14->n ≠ q:=fun n hn=>hq n hn
  rw [at_ne (hq 7 (by omega)),at_ne (hq 8 (by omega)),at_ne (hq 9 (by omega)),at_ne (hq 10 (by omega))]) (fun n hn=>by
  have hn:n<14:=hn
  match n,hn with
  | 0,_=>rfl
  | 1,_=>rfl
  | 2,_=>rfl
  | 3,_=>rfl
  | 4,_=>rfl
  | 5,_=>rfl
  | 6,_=>rfl
  | 7,_=>rfl
  | 8,_=>rfl
  | 9,_=>rfl
  | 10,_=>rfl
  | 11,_=>rfl
  | 12,_=>rfl
  | 13,_=>rfl
  | _+14,hn=>exact absurd hn (by omega)) ha rfl
 rw [hr] at this
 exact this
theorem follow_v3 (hfind:SpOk Try.prog (findR3 l t [D0,D1,D2] Y k).1 (findR3 l t [D0,D1,D2] Y k).2) (cf:Cfg l t [D0,D1,D2] Y) {y S d:Int} {O:Nat} {a:Nat->Int} {M:Mde} {es:Lst} (hy:y=(Y:Int) - (k+1:Nat)) (hp:PreW l t [D0,D1,D2] Y k O a es) :
  ∃ b s,PostW l t [D0,D1,D2] Y k O d a M b s/\CallsV Try.prog 40 [.agg (I y::I S::nL a),I O,I d,.ptr (.own 3 0),.ptr (.own 12 0),.ptr (.own 1 0),.ptr (.own 6 0)] ⟨14,nsB3.zip (BP3 l t [D0,D1,D2] Y M es)⟩ (.ret (.bool b)) ⟨14,nsB3.zip (BP3 l t [D0,D1,D2] Y s.M s.es)⟩:=by
 have hall:LoopsOk Try.prog 74 [(0,lFo3 l t [D0,D1,D2] Y k y S d O a)]:=fun x hx=>by
  simp only [List.mem_singleton] at hx
  subst hx
  exact ⟨by kernel_rfl,lFo3_ok hfind⟩
 obtain ⟨r,h',⟨b,s,hw,rfl,hf⟩,hc⟩:=of_callN (callL_good hmix noSp hall (un:=10) 20) (f:=40) (args:=[.agg (I y::I S::nL a),I O,I d,.ptr (.own 3 0),.ptr (.own 12 0),.ptr (.own 1 0),.ptr (.own 6 0)]) (h:=⟨14,nsB3.zip (BP3 l t [D0,D1,D2] Y M es)⟩) (K:=fun r h'=>∃ b s,PostW l t [D0,D1,D2] Y k O d a M b s/\r=.ret (.bool b)/\fitB (nsB3.zip (BP3 l t [D0,D1,D2] Y s.M s.es)) h') (by
  refine cast (fob3_ev l t D0 D1 D2 Y k M es y S d O a _).symm ⟨M,es,⟨⟨rfl,rfl,by repeat (first | exact trivial | refine ⟨VB.fit_refl _,?_⟩)⟩,rfl,rfl,rfl,rfl,trivial⟩,⟨hy,cf,hp⟩,fun s n' hw=>⟨false,s,hw,rfl,by repeat (first | exact trivial | refine ⟨VB.fit_refl _,?_⟩)⟩,fun s n' hw=>⟨true,s,hw,rfl,by repeat (first | exact trivial | refine ⟨VB.fit_refl _,?_⟩)⟩⟩)
 exact ⟨b,s,hw,calls_weak hc (Nat.le_refl _) hf rfl rfl⟩
theorem folR3_ok (hfind:SpOk Try.prog (findR3 l t [D0,D1,D2] Y k).1 (findR3 l t [D0,D1,D2] Y k).2) (cf:Cfg l t [D0,D1,D2] Y):SpOk Try.prog (folR3 l t [D0,D1,D2] Y k).1 (folR3 l t [D0,D1,D2] Y k).2:=by
 intro lock args h K hK
 simp only [folR3] at hK
 split at hK
 ·rename_i nx bs
  obtain ⟨S',O,a,M,es,⟨rfl,rfl,rfl,rfl⟩,⟨rfl,hnx⟩,hat,⟨hy,rfl,rfl,rfl⟩,hp,hK⟩:=hK
  obtain ⟨b,s,hw,hc⟩:=follow_v3 hfind cf hy hp
  exact ⟨_,_,hK b s hw,lock0 _ _,lift3 rfl rfl hnx hat hc⟩
 ·exact hK.elim
structure FS3 where
 M0:Mde
 r:Nat
 acc:Rsl
 s:St
def OF3 (l:List Stk) (t:Tst) (P:List (List Int)) (Y k:Nat) (y:Int) (S:Nat) (a:Nat->Int) (f:FS3) (e:VEx) (vs:List VV) (bs:List VB):Prop:=
 (e=.exit 0/\vs=VF3 y S a 0/\∃ st,PostF l t P Y (k+1) S a f.M0 true st/\bs=BF3 l t P Y y S a st.M st.es) ∨ (e=.ret/\∃ (r:Int) (st:St),PostF l t P Y (k+1) S a f.M0 false st/\vs=VF3 y S a r/\bs=BF3 l t P Y y S a st.M st.es)
theorem lFi3_ok (hfol:SpOk Try.prog (folR3 l t [D0,D1,D2] Y k).1 (folR3 l t [D0,D1,D2] Y k).2) {y:Int} {S:Nat} {a:Nat->Int}:LSound Try.prog true (.block 0 (.loop (loopB 0 (bodyOf Try.prog 44)))) (ntOf Try.prog 44) (lFi3 l t [D0,D1,D2] Y k y S a):=by
 by_cases hh:y=(Y:Int) - (k+1:Nat)/\Cfg l t [D0,D1,D2] Y/\k+1<=Y/\leftB l a
 ·obtain ⟨hy,cf,hk,ha⟩:=hh
  refine loop_rowD hmix (noL_good (tab1 hfol)) (un:=10) (ds:=dsF3) (ns:=nsF3) (nx:=15) (lsp:=fun f:FS3=>tabB [(2,lG3 l t [D0,D1,D2] Y k y S a f.r)]) (fun f:FS3=>VF3 y S a f.r) (fun f=>BF3 l t [D0,D1,D2] Y y S a f.s.M f.s.es) (fun f=>DoneF l t [D0,D1,D2] Y k S a f.M0 f.r f.acc f.s) (fun f=>f.r) (OF3 l t [D0,D1,D2] Y k y S a) (fun _ _=>lsp_one (by kernel_rfl) lG3_ok) ?_ ?_
  ·rintro ⟨M0,r,acc,s⟩ hd
   dsimp only at hd ⊢
   refine cast (gm3_ev l t D0 D1 D2 Y k s.M s.es y S r a _).symm ?_
   have hr16:r<16:=Nat.lt_of_lt_of_le hd.lt (Nat.pow_le_pow_right (n:=2) (by omega) (show 3<=4 by omega))
   by_cases hr:r=0
   ·subst hr
    refine cond_d (fun h=>by omega) (fun _=>.inl ⟨rfl,rfl,s,done_end hd,rfl⟩)
   ·refine cond_dk (by omega) ⟨s.M,s.es,⟨⟨rfl,rfl,by repeat (first | exact trivial | refine ⟨VB.fit_refl _,?_⟩)⟩,rfl,rfl,rfl,rfl,rfl,rfl,rfl,rfl,rfl,rfl,rfl,rfl,rfl,trivial⟩,⟨by omega,hk,cf,hr16⟩,?_⟩
    intro o d hg
    have ho:o<2 ^ [D0,D1,D2].length:=by
     have:=grpF_le cf.nd (Y - (k+1)) r [D0,D1,D2].length
     rw [hg] at this; exact this
    have ho16:o<16:=Nat.lt_of_lt_of_le ho (Nat.pow_le_pow_right (n:=2) (by omega) (show 3<=4 by omega))
    refine ⟨S,o,a,s.M,s.es,⟨rfl,rfl,rfl,rfl⟩,⟨rfl,by omega⟩,⟨rfl,rfl,rfl,rfl,rfl,rfl,rfl,rfl,rfl,rfl,rfl,rfl,rfl,rfl,trivial⟩,⟨hy,rfl,rfl,rfl⟩,⟨hk,ho,ha,hd.lost⟩,?_⟩
    intro b s' hw
    obtain ⟨d1,d2⟩:=done_step cf.nd hd hr hg (s':=s')
    refine cond_i (fun g=>?_) (fun g=>?_)
    ·have g:b=false:=by simpa using g
     subst g
     obtain ⟨z1,z2,z3⟩:=d2 hw
     refine ⟨key82,.inr ⟨rfl,r,⟨s'.M,setE s'.es (kyF y S a) 1⟩,⟨by rw [z1]; rfl,?_,z3,fun x hx=>by rw [z1] at hx; cases hx⟩,rfl,rfl⟩⟩
     have:=lost_set z2 hk z1
     rw [<- hy] at this
     exact this
    ·have g:b=true:=by simpa using g
     subst g
     obtain ⟨acc',hd',hlt⟩:=d1 hw
     rw [andnot_v r hr16 o ho16]
     exact ⟨⟨M0,_,acc',s'⟩,hd',hlt,rfl,fitBs_refl _,fun _ _ _ h=>h⟩
  ·rintro lock tt h K ⟨M,es,hf,⟨_,_,hp⟩,k1,k2⟩
   refine ⟨⟨M,S,fun _ _ _=>0,⟨M,es⟩⟩,hf,done_start hp,?_⟩
   rintro e vs bs (⟨rfl,rfl,st,hp,rfl⟩ | ⟨rfl,r,st,hp,rfl,rfl⟩)
   ·exact k1 st hp
   ·exact k2 st r hp
 ·rintro lock tt h K ⟨M,es,hf,⟨h1,h2,h3⟩,_⟩
  exact (hh ⟨h1,h2,h3.1,h3.2.2.1⟩).elim
theorem find_z3 (cf:Cfg l t [D0,D1,D2] Y) {y:Int} {S:Nat} {a:Nat->Int} {M:Mde} {es:Lst} (hy:y=(Y:Int)) (hp:PreF l t [D0,D1,D2] Y 0 S a es) :
  ∃ b s,PostF l t [D0,D1,D2] Y 0 S a M b s/\CallsV Try.prog 44 [.agg (I y::I S::nL a),.ptr (.own 4 0),.ptr (.own 11 0),.ptr (.own 1 0),.ptr (.own 13 0)] ⟨14,nsB3.zip (BP3 l t [D0,D1,D2] Y M es)⟩ (.ret (.bool b)) ⟨14,nsB3.zip (BP3 l t [D0,D1,D2] Y s.M s.es)⟩:=by
 have hall:LoopsOk Try.prog 44 [(0,lZ)]:=fun x hx=>by
  simp only [List.mem_singleton] at hx
  subst hx
  exact ⟨by kernel_rfl,lZ_ok⟩
 obtain ⟨r,h',⟨rfl,hf⟩,hc⟩:=of_callN (callL_good hmix noSp hall (un:=10) 20) (f:=44) (args:=[.agg (I y::I S::nL a),.ptr (.own 4 0),.ptr (.own 11 0),.ptr (.own 1 0),.ptr (.own 13 0)]) (h:=⟨14,nsB3.zip (BP3 l t [D0,D1,D2] Y M es)⟩) (K:=fun r h'=>r=.ret (.bool true)/\fitB (nsB3.zip (BP3 l t [D0,D1,D2] Y M es)) h') (by
  refine cast (fiz3_ev l t D0 D1 D2 Y M es y S a _).symm (cond_dk hy ⟨rfl,by repeat (first | exact trivial | refine ⟨VB.fit_refl _,?_⟩)⟩))
 exact ⟨true,⟨M,es⟩,⟨rfl,hp.2.2.2,Same.refl _ _ _ _,fun x _ i y j _ _ h1 h2=>by omega⟩,calls_weak hc (Nat.le_refl _) hf rfl rfl⟩
theorem find_s3 (hfol:SpOk Try.prog (folR3 l t [D0,D1,D2] Y k).1 (folR3 l t [D0,D1,D2] Y k).2) (cf:Cfg l t [D0,D1,D2] Y) {y:Int} {S:Nat} {a:Nat->Int} {M:Mde} {es:Lst} (hy:y=(Y:Int) - (k+1:Nat)) (hp:PreF l t [D0,D1,D2] Y (k+1) S a es) :
  ∃ b s,PostF l t [D0,D1,D2] Y (k+1) S a M b s/\CallsV Try.prog 44 [.agg (I y::I S::nL a),.ptr (.own 4 0),.ptr (.own 11 0),.ptr (.own 1 0),.ptr (.own 13 0)] ⟨14,nsB3.zip (BP3 l t [D0,D1,D2] Y M es)⟩ (.ret (.bool b)) ⟨14,nsB3.zip (BP3 l t [D0,D1,D2] Y s.M s.es)⟩:=by
 have hall:LoopsOk Try.prog 44 [(0,lFi3 l t [D0,D1,D2] Y k y S a)]:=fun x hx=>by
  simp only [List.mem_singleton] at hx
  subst hx
  exact ⟨by kernel_rfl,lFi3_ok hfol⟩
 obtain ⟨r,h',⟨b,s,hw,rfl,hf⟩,hc⟩:=of_callN (callL_good hmix noSp hall (un:=10) 20) (f:=44) (args:=[.agg (I y::I S::nL a),.ptr (.own 4 0),.ptr (.own 11 0),.ptr (.own 1 0),.ptr (.own 13 0)]) (h:=⟨14,nsB3.zip (BP3 l t [D0,D1,D2] Y M es)⟩) (K:=fun r h'=>∃ b s,PostF l t [D0,D1,D2] Y (k+1) S a M b s/\r=.ret (.bool b)/\fitB (nsB3.zip (BP3 l t [D0,D1,D2] Y s.M s.es)) h') (by
  refine cast (fib3_ev l t D0 D1 D2 Y k M es y S a _).symm ?_
  have hk:=hp.1
  refine cond_d (fun h=>by omega) (fun _=>⟨key82,cond_d (fun h=>⟨false,⟨M,es⟩,?_,rfl,by repeat (first | exact trivial | refine ⟨VB.fit_refl _,?_⟩)⟩) (fun _=>⟨M,es,⟨⟨rfl,rfl,by repeat (first | exact trivial | refine ⟨VB.fit_refl _,?_⟩)⟩,rfl,rfl,rfl,rfl,rfl,rfl,rfl,rfl,trivial⟩,⟨hy,cf,hp⟩,fun s hw=>⟨true,s,hw,rfl,by repeat (first | exact trivial | refine ⟨VB.fit_refl _,?_⟩)⟩,fun s r hw=>⟨false,s,hw,rfl,by repeat (first | exact trivial | refine ⟨VB.fit_refl _,?_⟩)⟩⟩)⟩)
  have h:valOf es (kyF y S a)=1:=h
  have hn:=lost_get cf.hl.1 hp.2.2.2 (S:=S) (a:=a) hk (by rw [<- hy,h]; omega)
  exact ⟨by rw [hn]; rfl,hp.2.2.2,Same.refl _ _ _ _,fun x hx=>by rw [hn] at hx; cases hx⟩)
 exact ⟨b,s,hw,calls_weak hc (Nat.le_refl _) hf rfl rfl⟩
theorem findR3_ok (cf:Cfg l t [D0,D1,D2] Y):∀ k:Nat,SpOk Try.prog (findR3 l t [D0,D1,D2] Y k).1 (findR3 l t [D0,D1,D2] Y k).2:=by
 have key:∀ k:Nat,(∀ (y:Int) (S:Nat) (a:Nat->Int) (M:Mde) (es:Lst),y=(Y:Int) - k->PreF l t [D0,D1,D2] Y k S a es->∃ b s,PostF l t [D0,D1,D2] Y k S a M b s/\CallsV Try.prog 44 [.agg (I y::I S::nL a),.ptr (.own 4 0),.ptr (.own 11 0),.ptr (.own 1 0),.ptr (.own 13 0)] ⟨14,nsB3.zip (BP3 l t [D0,D1,D2] Y M es)⟩ (.ret (.bool b)) ⟨14,nsB3.zip (BP3 l t [D0,D1,D2] Y s.M s.es)⟩)->SpOk Try.prog (findR3 l t [D0,D1,D2] Y k).1 (findR3 l t [D0,D1,D2] Y k).2:=by
  intro k hv lock args h K hK
  simp only [findR3] at hK
  split at hK
  ·rename_i nx bs
   obtain ⟨S',a,M,es,⟨rfl,rfl,rfl,rfl⟩,⟨rfl,hnx⟩,hat,⟨hy,rfl,rfl⟩,hp,hK⟩:=hK
   obtain ⟨b,s,hw,hc⟩:=hv _ S' a M es hy hp
   exact ⟨_,_,hK b s hw,lock0 _ _,lift3 rfl rfl hnx hat hc⟩
  ·exact hK.elim
 intro k
 induction k with
 | zero=>exact key 0 (fun y S a M es hy hp=>find_z3 cf (by omega) hp)
 | succ k ih=>exact key (k+1) (fun y S a M es hy hp=>find_s3 (folR3_ok ih cf) cf hy hp)
end
def nsBs3:List Nat:=[1,2,3,4,5,6,7,8,9,10,11,12,13,14]
def BSs3 (l:List Stk) (t:Tst) (P:List (List Int)) (Y:Nat) (M:Mde) (es:Lst):List VB:=[.cells (tsL t) 25,.cells [pthD P] 26,.cells (stD l::tsL t) 74,.cells [.ptr (.own 3 0)] 72,.cells [I Y] 3,.cells [sFa 8 Y,sFa 9 Y,sFa 10 Y] 76,.cells [.slice (.own 6 0) 3 3] 75,.fam [] (Y*6) (M 0) 80,.fam [] (Y*6) (M 1) 80,.fam [] (Y*6) (M 2) 80,.map kS .bool es,.cells [.mp 11] 77,.cells [.func 44 [] [.ptr (.own 5 0),.ptr (.own 12 0),.ptr (.own 2 0),.ptr (.own 14 0)]] 78,.cells [.func 40 [] [.ptr (.own 4 0),.ptr (.own 13 0),.ptr (.own 2 0),.ptr (.own 7 0)]] 88]
def findRs3 (l:List Stk) (t:Tst) (P:List (List Int)) (Y k:Nat):FuncId × Spec1:=(44,fun lock args h K=>match args,h with
 | [.agg (.int .i64 y::.int .i64 S::ns),x1,x2,x3,x4],⟨nx,bs⟩=>∃ (S':Nat) (a:Nat->Int) (M:Mde) (es:Lst),(x1=.ptr (.own 5 0)/\x2=.ptr (.own 12 0)/\x3=.ptr (.own 2 0)/\x4=.ptr (.own 14 0))/\(lock=0/\15<=nx)/\atL nsBs3 (BSs3 l t P Y M es) ⟨nx,bs⟩/\(y=(Y:Int) - k/\S=S'/\ns=nL a)/\PreF l t P Y k S' a es /\
   ∀ (b:Bool) (s:St),PostF l t P Y k S' a M b s->K (.ret (.bool b)) ⟨nx,(8,.fam [] (Y*6) (s.M 0) 80)::(9,.fam [] (Y*6) (s.M 1) 80)::(10,.fam [] (Y*6) (s.M 2) 80)::(11,.map kS .bool s.es)::bs⟩
 | _,_=>False)
def nsPs3:List Nat:=[0,6,8,9,10]
def BPs3 (l:List Stk) (Y:Nat) (M:Mde) (r:Nat):List VB:=[.bun 7 r l.length (GM Y M) 3,.cells [sFa 8 Y,sFa 9 Y,sFa 10 Y] 76,.fam [] (Y*6) (M 0) 80,.fam [] (Y*6) (M 1) 80,.fam [] (Y*6) (M 2) 80]
def lCs3 (l:List Stk) (t:Tst) (P:List (List Int)) (Y:Nat):LT:=fun lock tt h K=>match h.nx with
 | 15=>∃ (M:Mde),FitP lock h tt ⟨15,nsPs3.zip (BPs3 l Y M 0)⟩ ((18,.nils)::dsPl.zip (VPs l t P Y 3 0 .nils 0))/\K .normal ((18,.tl Y 1 (rowH l.length 0))::(18::dsPl).zip (.sl 15 Y::VPs l t P Y 3 0 .nils Y)) ⟨16,(15,.gone)::(15::nsPs3).zip (.vec Y (rowH l.length 0) 1 23::(BPs3 l Y M (0+Y)))⟩
 | 18=>∃ (M:Mde) (gO:Nat->List VV),FitP lock h tt ⟨18,(17::nsPs3).zip (.vec 1 gO 1 26::(BPs3 l Y M (0+Y)))⟩ ((18,.nils)::dsPl.zip (VPs l t P Y 3 1 (.sl 17 1) 0))/\K .normal ((18,.tl Y 1 (rowH l.length (0+Y)))::(18::dsPl).zip (.sl 18 Y::VPs l t P Y 3 1 (.sl 17 1) Y)) ⟨19,(18,.gone)::(18::(17::nsPs3)).zip (.vec Y (rowH l.length (0+Y)) 1 23::(.vec 1 gO 1 26::(BPs3 l Y M (0+Y+Y))))⟩
 | 20=>∃ (M:Mde) (gO:Nat->List VV),FitP lock h tt ⟨20,(17::nsPs3).zip (.vec 2 gO 1 26::(BPs3 l Y M (0+Y+Y)))⟩ ((18,.nils)::dsPl.zip (VPs l t P Y 3 2 (.sl 17 2) 0))/\K .normal ((18,.tl Y 1 (rowH l.length (0+Y+Y)))::(18::dsPl).zip (.sl 20 Y::VPs l t P Y 3 2 (.sl 17 2) Y)) ⟨21,(20,.gone)::(20::(17::nsPs3)).zip (.vec Y (rowH l.length (0+Y+Y)) 1 23::(.vec 2 gO 1 26::(BPs3 l Y M (0+Y+Y+Y))))⟩
 | _=>False
theorem cs30_ev (l:List Stk) (t:Tst) (P:List (List Int)) (Y y r:Nat) (M:Mde) (G:Nat->Nat->Int) (g:Nat->List VV) (X:VEx->List VV->List VB->Prop):codeE Try.prog (callN Try.prog (tabS [listO]) noL 10 20) (fun _=>none) true 10 (ntOf Try.prog 17) 0 (loopB 5 (bodyOf Try.prog 17)) ((18::dsPl).zip (.sl 15 y::VPs l t P Y 3 0 .nils y)) ⟨16,(15::nsPs3).zip (.vec y g 1 23::[.bun 7 r l.length G 3,.cells [sFa 8 Y,sFa 9 Y,sFa 10 Y] 76,.fam [] (Y*6) (M 0) 80,.fam [] (Y*6) (M 1) 80,.fam [] (Y*6) (M 2) 80])⟩ (obs 16 (18::dsPl) (15::nsPs3) X) =
 (bif decide ((y:Int)<(Y:Int)) then
 bif decide ((0:Int)<=(y:Int)/\(y:Int)<(Y:Int)) then
 bif decide (0+(y:Int).toNat*(6)+(6)<=Y*6) then
 ∃ (n:Nat->Int),∃ (m:Nat),∃ (r_1:Nat),∃ (g_1:Nat->Nat->Int),(g6 (m6 M 0 (y:Int)))=nL n/\(l.length:Int)=(m:Int)/\m<=6/\0=0/\(VH.mk (17) ((16,.fam [] (6) (setF (fun (_:Nat)=>(0:Int)) 0 (m6 M 0 (y:Int))) 80)::(16,.fam [] (6) (fun (_:Nat)=>(0:Int)) 80)::(15::nsPs3).zip [.vec y g 1 23,.bun 7 r l.length G 3,.cells [sFa 8 Y,sFa 9 Y,sFa 10 Y] 76,.fam [] (Y*6) (M 0) 80,.fam [] (Y*6) (M 1) 80,.fam [] (Y*6) (M 2) 80])).at 0=VB.bun 7 r_1 m g_1 3/\bif y.beq y then
 bif roomB (y+1) (24) then
 bif inK .i64 ((y:Int)+(1:Int)) then
 X .normal [.sl 15 (y+1),I ((y:Int)+(1:Int)),I (Y:Int),.slice (.fa (8+0) 0 0) Y Y,I (0:Int),I (3:Int),.slice (.own 6 0) 3 3,.nils,I 0,.nils,.ptr (.own 2 0),.ptr (.own 1 0),.tl l.length 5 (stG l),.agg [.tl t.T.length 1 (dG t.T),I t.far,I t.least],.tl P.length 1 (pthG P)] [.vec (y+1) (catG y g fun (j:Nat)=>List.take (1) (List.drop (j*(1)) [.hs 7 r_1 m])) (1) 23,.bun 7 (r_1+1) m (rowM g_1 r_1 n) 3,.cells [.slice (.fa 8 0 0) Y Y,.slice (.fa 9 0 0) Y Y,.slice (.fa 10 0 0) Y Y] 76,.fam [] (Y*6) (M 0) 80,.fam [] (Y*6) (M 1) 80,.fam [] (Y*6) (M 2) 80]
 else False
 else False
 else False
 else False
 else False
 else X (VEx.exit 5) [.sl 15 y,I (y:Int),I (Y:Int),.slice (.fa (8+0) 0 0) Y Y,I (0:Int),I (3:Int),.slice (.own 6 0) 3 3,.nils,I 0,.nils,.ptr (.own 2 0),.ptr (.own 1 0),.tl l.length 5 (stG l),.agg [.tl t.T.length 1 (dG t.T),I t.far,I t.least],.tl P.length 1 (pthG P)] [.vec y g 1 23,.bun 7 r l.length G 3,.cells [.slice (.fa 8 0 0) Y Y,.slice (.fa 9 0 0) Y Y,.slice (.fa 10 0 0) Y Y] 76,.fam [] (Y*6) (M 0) 80,.fam [] (Y*6) (M 1) 80,.fam [] (Y*6) (M 2) 80]):=by kernel_rfl
theorem cs31_ev (l:List Stk) (t:Tst) (P:List (List Int)) (Y y r:Nat) (M:Mde) (G:Nat->Nat->Int) (g gO:Nat->List VV) (X:VEx->List VV->List VB->Prop):codeE Try.prog (callN Try.prog (tabS [listO]) noL 10 20) (fun _=>none) true 10 (ntOf Try.prog 17) 0 (loopB 5 (bodyOf Try.prog 17)) ((18::dsPl).zip (.sl 18 y::VPs l t P Y 3 1 (.sl 17 1) y)) ⟨19,(18::(17::nsPs3)).zip (.vec y g 1 23::(.vec 1 gO 1 26::[.bun 7 r l.length G 3,.cells [sFa 8 Y,sFa 9 Y,sFa 10 Y] 76,.fam [] (Y*6) (M 0) 80,.fam [] (Y*6) (M 1) 80,.fam [] (Y*6) (M 2) 80]))⟩ (obs 19 (18::dsPl) (18::(17::nsPs3)) X) =
 (bif decide ((y:Int)<(Y:Int)) then
 bif decide ((0:Int)<=(y:Int)/\(y:Int)<(Y:Int)) then
 bif decide (0+(y:Int).toNat*(6)+(6)<=Y*6) then
 ∃ (n:Nat->Int),∃ (m:Nat),∃ (r_1:Nat),∃ (g_1:Nat->Nat->Int),(g6 (m6 M 1 (y:Int)))=nL n/\(l.length:Int)=(m:Int)/\m<=6/\0=0/\(VH.mk (20) ((19,.fam [] (6) (setF (fun (_:Nat)=>(0:Int)) 0 (m6 M 1 (y:Int))) 80)::(19,.fam [] (6) (fun (_:Nat)=>(0:Int)) 80)::(18::17::nsPs3).zip [.vec y g 1 23,.vec 1 gO 1 26,.bun 7 r l.length G 3,.cells [sFa 8 Y,sFa 9 Y,sFa 10 Y] 76,.fam [] (Y*6) (M 0) 80,.fam [] (Y*6) (M 1) 80,.fam [] (Y*6) (M 2) 80])).at 0=VB.bun 7 r_1 m g_1 3/\bif y.beq y then
 bif roomB (y+1) (24) then
 bif inK .i64 ((y:Int)+(1:Int)) then
 X .normal [.sl 18 (y+1),I ((y:Int)+(1:Int)),I (Y:Int),.slice (.fa (8+1) 0 0) Y Y,I (1:Int),I (3:Int),.slice (.own 6 0) 3 3,.sl 17 1,I 0,.nils,.ptr (.own 2 0),.ptr (.own 1 0),.tl l.length 5 (stG l),.agg [.tl t.T.length 1 (dG t.T),I t.far,I t.least],.tl P.length 1 (pthG P)] [.vec (y+1) (catG y g fun (j:Nat)=>List.take (1) (List.drop (j*(1)) [.hs 7 r_1 m])) (1) 23,.vec 1 gO 1 26,.bun 7 (r_1+1) m (rowM g_1 r_1 n) 3,.cells [.slice (.fa 8 0 0) Y Y,.slice (.fa 9 0 0) Y Y,.slice (.fa 10 0 0) Y Y] 76,.fam [] (Y*6) (M 0) 80,.fam [] (Y*6) (M 1) 80,.fam [] (Y*6) (M 2) 80]
 else False
 else False
 else False
 else False
 else False
 else X (VEx.exit 5) [.sl 18 y,I (y:Int),I (Y:Int),.slice (.fa (8+1) 0 0) Y Y,I (1:Int),I (3:Int),.slice (.own 6 0) 3 3,.sl 17 1,I 0,.nils,.ptr (.own 2 0),.ptr (.own 1 0),.tl l.length 5 (stG l),.agg [.tl t.T.length 1 (dG t.T),I t.far,I t.least],.tl P.length 1 (pthG P)] [.vec y g 1 23,.vec 1 gO 1 26,.bun 7 r l.length G 3,.cells [.slice (.fa 8 0 0) Y Y,.slice (.fa 9 0 0) Y Y,.slice (.fa 10 0 0) Y Y] 76,.fam [] (Y*6) (M 0) 80,.fam [] (Y*6) (M 1) 80,.fam [] (Y*6) (M 2) 80]):=by kernel_rfl
theorem cs32_ev (l:List Stk) (t:Tst) (P:List (List Int)) (Y y r:Nat) (M:Mde) (G:Nat->Nat->Int) (g gO:Nat->List VV) (X:VEx->List VV->List VB->Prop):codeE Try.prog (callN Try.prog (tabS [listO]) noL 10 20) (fun _=>none) true 10 (ntOf Try.prog 17) 0 (loopB 5 (bodyOf Try.prog 17)) ((18::dsPl).zip (.sl 20 y::VPs l t P Y 3 2 (.sl 17 2) y)) ⟨21,(20::(17::nsPs3)).zip (.vec y g 1 23::(.vec 2 gO 1 26::[.bun 7 r l.length G 3,.cells [sFa 8 Y,sFa 9 Y,sFa 10 Y] 76,.fam [] (Y*6) (M 0) 80,.fam [] (Y*6) (M 1) 80,.fam [] (Y*6) (M 2) 80]))⟩ (obs 21 (18::dsPl) (20::(17::nsPs3)) X) =
 (bif decide ((y:Int)<(Y:Int)) then
 bif decide ((0:Int)<=(y:Int)/\(y:Int)<(Y:Int)) then
 bif decide (0+(y:Int).toNat*(6)+(6)<=Y*6) then
 ∃ (n:Nat->Int),∃ (m:Nat),∃ (r_1:Nat),∃ (g_1:Nat->Nat->Int),(g6 (m6 M 2 (y:Int)))=nL n/\(l.length:Int)=(m:Int)/\m<=6/\0=0/\(VH.mk (22) ((21,.fam [] (6) (setF (fun (_:Nat)=>(0:Int)) 0 (m6 M 2 (y:Int))) 80)::(21,.fam [] (6) (fun (_:Nat)=>(0:Int)) 80)::(20::17::nsPs3).zip [.vec y g 1 23,.vec 2 gO 1 26,.bun 7 r l.length G 3,.cells [sFa 8 Y,sFa 9 Y,sFa 10 Y] 76,.fam [] (Y*6) (M 0) 80,.fam [] (Y*6) (M 1) 80,.fam [] (Y*6) (M 2) 80])).at 0=VB.bun 7 r_1 m g_1 3/\bif y.beq y then
 bif roomB (y+1) (24) then
 bif inK .i64 ((y:Int)+(1:Int)) then
 X .normal [.sl 20 (y+1),I ((y:Int)+(1:Int)),I (Y:Int),.slice (.fa (8+2) 0 0) Y Y,I (2:Int),I (3:Int),.slice (.own 6 0) 3 3,.sl 17 2,I 0,.nils,.ptr (.own 2 0),.ptr (.own 1 0),.tl l.length 5 (stG l),.agg [.tl t.T.length 1 (dG t.T),I t.far,I t.least],.tl P.length 1 (pthG P)] [.vec (y+1) (catG y g fun (j:Nat)=>List.take (1) (List.drop (j*(1)) [.hs 7 r_1 m])) (1) 23,.vec 2 gO 1 26,.bun 7 (r_1+1) m (rowM g_1 r_1 n) 3,.cells [.slice (.fa 8 0 0) Y Y,.slice (.fa 9 0 0) Y Y,.slice (.fa 10 0 0) Y Y] 76,.fam [] (Y*6) (M 0) 80,.fam [] (Y*6) (M 1) 80,.fam [] (Y*6) (M 2) 80]
 else False
 else False
 else False
 else False
 else False
 else X (VEx.exit 5) [.sl 20 y,I (y:Int),I (Y:Int),.slice (.fa (8+2) 0 0) Y Y,I (2:Int),I (3:Int),.slice (.own 6 0) 3 3,.sl 17 2,I 0,.nils,.ptr (.own 2 0),.ptr (.own 1 0),.tl l.length 5 (stG l),.agg [.tl t.T.length 1 (dG t.T),I t.far,I t.least],.tl P.length 1 (pthG P)] [.vec y g 1 23,.vec 2 gO 1 26,.bun 7 r l.length G 3,.cells [.slice (.fa 8 0 0) Y Y,.slice (.fa 9 0 0) Y Y,.slice (.fa 10 0 0) Y Y] 76,.fam [] (Y*6) (M 0) 80,.fam [] (Y*6) (M 1) 80,.fam [] (Y*6) (M 2) 80]):=by kernel_rfl
theorem ps3_ev (l:List Stk) (t:Tst) (D0 D1 D2:List Int) (G:Nat->Nat->Int) (Q:VRes->VH->Prop):callN Try.prog (tabS [asR l t,casksR l t,apR [D0,D1,D2],findRs3 l t [D0,D1,D2] D0.length D0.length,listO]) (atF 17 [(5,lCs3 l t [D0,D1,D2] D0.length)]) 10 20 0 (.fn 17) [stD l,.agg (tsL t),pthD [D0,D1,D2]] ⟨1,[(0,.bun 7 0 l.length G 3)]⟩ (fun r h=>Q r h) =
 (isD (VH.mk (3) [(2,.cells [.tl [D0,D1,D2].length 1 (pthG [D0,D1,D2])] 26),(1,.cells [.tl t.T.length 1 (dG t.T),I t.far,I t.least] 25),(0,.bun 7 0 l.length G 3)]) 2 (VV.tl l.length 5 (stG l)) (stD l)/\isD (VH.mk (3) [(2,.cells [.tl [D0,D1,D2].length 1 (pthG [D0,D1,D2])] 26),(1,.cells [.tl t.T.length 1 (dG t.T),I t.far,I t.least] 25),(0,.bun 7 0 l.length G 3)]) 2 (VV.agg [.tl t.T.length 1 (dG t.T),I t.far,I t.least]) (VV.agg (tsL t))/\bif !okAll l t then
 Q (VRes.ret (VV.tup [.nils,I 1])) (VH.mk (3) [(2,.cells [.tl [D0,D1,D2].length 1 (pthG [D0,D1,D2])] 26),(1,.cells [.tl t.T.length 1 (dG t.T),I t.far,I t.least] 25),(0,.bun 7 0 l.length G 3)])
 else isD (VH.mk (3) [(2,.cells [.tl [D0,D1,D2].length 1 (pthG [D0,D1,D2])] 26),(1,.cells [.tl t.T.length 1 (dG t.T),I t.far,I t.least] 25),(0,.bun 7 0 l.length G 3)]) 4 (VV.tl [D0,D1,D2].length 1 (pthG [D0,D1,D2])) (pthD [D0,D1,D2])/\pthB [D0,D1,D2]/\bif !okPaths [D0,D1,D2] then
 Q (VRes.ret (VV.tup [.nils,I 2])) (VH.mk (3) [(2,.cells [.tl [D0,D1,D2].length 1 (pthG [D0,D1,D2])] 26),(1,.cells [.tl t.T.length 1 (dG t.T),I t.far,I t.least] 25),(0,.bun 7 0 l.length G 3)])
 else bif decide ((0:Int)<=(D0.length:Int)/\(D0.length:Int)=(D0.length:Int)) then
 bif roomB D0.length (48) then
 bif decide ((0:Int)<=(D0.length:Int)/\(D0.length:Int)=(D0.length:Int)) then
 bif roomB D0.length (48) then
 bif decide ((0:Int)<=(D0.length:Int)/\(D0.length:Int)=(D0.length:Int)) then
 bif roomB D0.length (48) then
 isD (maskH [0,1,2,3,4,5,6,7,8,9,10,11,12,13,14] (VH.mk (15) ((13,.cells [.func 44 [] [.ptr (.own (5) 0),.ptr (.own (12) 0),.ptr (.own (2) 0),.ptr (.own (14) 0)]] 78)::(14,.cells [.func 40 [] [.ptr (.own (4) 0),.ptr (.own (13) 0),.ptr (.own (2) 0),.ptr (.own (7) 0)]] 88)::(14,.cells [.nilf] 88)::(13,.cells [.nilf] 78)::(12,.cells [.mp (11)] 77)::(12,.cells [.opq (Value.map none)] 77)::(11,.map ([.int .i64] ++ ([.int .i64] ++ ((List.replicate 6 [.int .i64]).flatten ++ []))) PK.bool [])::(6,.cells [.slice (.fa (8) 0 0) D0.length D0.length,.slice (.fa (9) 0 0) D0.length D0.length,.slice (.fa (10) 0 0) D0.length D0.length] 76)::([(10,.fam [] (D0.length*(6)) (fun (_:Nat)=>(0:Int)) 80)] ++ (6,.cells [.slice (.fa (8) 0 0) D0.length D0.length,.slice (.fa (9) 0 0) D0.length D0.length,.nils] 76)::([(9,.fam [] (D0.length*(6)) (fun (_:Nat)=>(0:Int)) 80)] ++ (6,.cells [.slice (.fa (8) 0 0) D0.length D0.length,.nils,.nils] 76)::([(8,.fam [] (D0.length*(6)) (fun (_:Nat)=>(0:Int)) 80)] ++ [(7,.cells [.slice (.own (6) 0) (3) (3)] 75),(7,.cells [.nils] 75),(6,.cells [.nils,.nils,.nils] 76),(5,.cells [I (D0.length:Int)] 3),(5,.cells [I 0] 3),(4,.cells [.ptr (.own (3) 0)] 72),(4,.cells [.nilp] 72),(3,.cells [.tl l.length 5 (stG l),.tl t.T.length 1 (dG t.T),I t.far,I t.least] 74),(2,.cells [.tl [D0,D1,D2].length 1 (pthG [D0,D1,D2])] 26),(1,.cells [.tl t.T.length 1 (dG t.T),I t.far,I t.least] 25),(0,.bun 7 0 l.length G 3)])))))) 4 (VV.ptr (.own (3) 0)) (VV.tp (stD l::tsL t))/\l.length<=6/\∃ (S':Nat),∃ (a:Nat->Int),∃ (M:Mde),∃ (es:Lst),(VV.ptr (.own 5 0)=VV.ptr (.own 5 0)/\VV.ptr (.own 12 0)=VV.ptr (.own 12 0)/\VV.ptr (.own 2 0)=VV.ptr (.own 2 0)/\VV.ptr (.own 14 0)=VV.ptr (.own 14 0))/\(0=0/\15<=15)/\atL nsBs3 (BSs3 l t [D0,D1,D2] D0.length M es) (VH.mk (15) ((13,.cells [.func 44 [] [.ptr (.own (5) 0),.ptr (.own (12) 0),.ptr (.own (2) 0),.ptr (.own (14) 0)]] 78)::(14,.cells [.func 40 [] [.ptr (.own (4) 0),.ptr (.own (13) 0),.ptr (.own (2) 0),.ptr (.own (7) 0)]] 88)::(14,.cells [.nilf] 88)::(13,.cells [.nilf] 78)::(12,.cells [.mp (11)] 77)::(12,.cells [.opq (Value.map none)] 77)::(11,.map ([.int .i64] ++ ([.int .i64] ++ ((List.replicate 6 [.int .i64]).flatten ++ []))) PK.bool [])::(6,.cells [.slice (.fa (8) 0 0) D0.length D0.length,.slice (.fa (9) 0 0) D0.length D0.length,.slice (.fa (10) 0 0) D0.length D0.length] 76)::([(10,.fam [] (D0.length*(6)) (fun (_:Nat)=>(0:Int)) 80)] ++ (6,.cells [.slice (.fa (8) 0 0) D0.length D0.length,.slice (.fa (9) 0 0) D0.length D0.length,.nils] 76)::([(9,.fam [] (D0.length*(6)) (fun (_:Nat)=>(0:Int)) 80)] ++ (6,.cells [.slice (.fa (8) 0 0) D0.length D0.length,.nils,.nils] 76)::([(8,.fam [] (D0.length*(6)) (fun (_:Nat)=>(0:Int)) 80)] ++ [(7,.cells [.slice (.own (6) 0) (3) (3)] 75),(7,.cells [.nils] 75),(6,.cells [.nils,.nils,.nils] 76),(5,.cells [I (D0.length:Int)] 3),(5,.cells [I 0] 3),(4,.cells [.ptr (.own (3) 0)] 72),(4,.cells [.nilp] 72),(3,.cells [.tl l.length 5 (stG l),.tl t.T.length 1 (dG t.T),I t.far,I t.least] 74),(2,.cells [.tl [D0,D1,D2].length 1 (pthG [D0,D1,D2])] 26),(1,.cells [.tl t.T.length 1 (dG t.T),I t.far,I t.least] 25),(0,.bun 7 0 l.length G 3)])))))/\((0:Int)=(D0.length:Int) - (D0.length:Int)/\(1:Int)*(2:Int) ^ min (↑[D0,D1,D2].length:Int).toNat IntKind.i64.bits - (1:Int)=(S':Int)/\[I (mostF l 0),I (mostF l 1),I (mostF l 2),I (mostF l 3),I (mostF l 4),I (mostF l 5)]=nL a)/\PreF l t [D0,D1,D2] D0.length D0.length S' a es/\∀ (b:Bool) (s:St),PostF l t [D0,D1,D2] D0.length D0.length S' a M b s->bif !b then
 Q (VRes.ret (VV.tup [.nils,I 4])) (VH.mk (15) [(8,.fam [] (D0.length*6) (s.M 0) 80),(9,.fam [] (D0.length*6) (s.M 1) 80),(10,.fam [] (D0.length*6) (s.M 2) 80),(11,.map [.int .i64,.int .i64,.int .i64,.int .i64,.int .i64,.int .i64,.int .i64,.int .i64] PK.bool s.es),(13,.cells [.func 44 [] [.ptr (.own (5) 0),.ptr (.own (12) 0),.ptr (.own (2) 0),.ptr (.own (14) 0)]] 78),(14,.cells [.func 40 [] [.ptr (.own (4) 0),.ptr (.own (13) 0),.ptr (.own (2) 0),.ptr (.own (7) 0)]] 88),(14,.cells [.nilf] 88),(13,.cells [.nilf] 78),(12,.cells [.mp (11)] 77),(12,.cells [.opq (Value.map none)] 77),(11,.map [.int .i64,.int .i64,.int .i64,.int .i64,.int .i64,.int .i64,.int .i64,.int .i64] PK.bool []),(6,.cells [.slice (.fa (8) 0 0) D0.length D0.length,.slice (.fa (9) 0 0) D0.length D0.length,.slice (.fa (10) 0 0) D0.length D0.length] 76),(10,.fam [] (D0.length*(6)) (fun (_:Nat)=>(0:Int)) 80),(6,.cells [.slice (.fa (8) 0 0) D0.length D0.length,.slice (.fa (9) 0 0) D0.length D0.length,.nils] 76),(9,.fam [] (D0.length*(6)) (fun (_:Nat)=>(0:Int)) 80),(6,.cells [.slice (.fa (8) 0 0) D0.length D0.length,.nils,.nils] 76),(8,.fam [] (D0.length*(6)) (fun (_:Nat)=>(0:Int)) 80),(7,.cells [.slice (.own (6) 0) (3) (3)] 75),(7,.cells [.nils] 75),(6,.cells [.nils,.nils,.nils] 76),(5,.cells [I (D0.length:Int)] 3),(5,.cells [I 0] 3),(4,.cells [.ptr (.own (3) 0)] 72),(4,.cells [.nilp] 72),(3,.cells [.tl l.length 5 (stG l),.tl t.T.length 1 (dG t.T),I t.far,I t.least] 74),(2,.cells [.tl [D0,D1,D2].length 1 (pthG [D0,D1,D2])] 26),(1,.cells [.tl t.T.length 1 (dG t.T),I t.far,I t.least] 25),(0,.bun 7 0 l.length G 3)])
 else ∃ (M:Mde),FitP 0 (VH.mk (15) ((8,.fam [] (D0.length*6) (s.M 0) 80)::(9,.fam [] (D0.length*6) (s.M 1) 80)::(10,.fam [] (D0.length*6) (s.M 2) 80)::(11,.map kS PK.bool s.es)::(13,.cells [.func 44 [] [.ptr (.own (5) 0),.ptr (.own (12) 0),.ptr (.own (2) 0),.ptr (.own (14) 0)]] 78)::(14,.cells [.func 40 [] [.ptr (.own (4) 0),.ptr (.own (13) 0),.ptr (.own (2) 0),.ptr (.own (7) 0)]] 88)::(14,.cells [.nilf] 88)::(13,.cells [.nilf] 78)::(12,.cells [.mp (11)] 77)::(12,.cells [.opq (Value.map none)] 77)::(11,.map ([.int .i64] ++ ([.int .i64] ++ ((List.replicate 6 [.int .i64]).flatten ++ []))) PK.bool [])::(6,.cells [.slice (.fa (8) 0 0) D0.length D0.length,.slice (.fa (9) 0 0) D0.length D0.length,.slice (.fa (10) 0 0) D0.length D0.length] 76)::([(10,.fam [] (D0.length*(6)) (fun (_:Nat)=>(0:Int)) 80)] ++ (6,.cells [.slice (.fa (8) 0 0) D0.length D0.length,.slice (.fa (9) 0 0) D0.length D0.length,.nils] 76)::([(9,.fam [] (D0.length*(6)) (fun (_:Nat)=>(0:Int)) 80)] ++ (6,.cells [.slice (.fa (8) 0 0) D0.length D0.length,.nils,.nils] 76)::([(8,.fam [] (D0.length*(6)) (fun (_:Nat)=>(0:Int)) 80)] ++ [(7,.cells [.slice (.own (6) 0) (3) (3)] 75),(7,.cells [.nils] 75),(6,.cells [.nils,.nils,.nils] 76),(5,.cells [I (D0.length:Int)] 3),(5,.cells [I 0] 3),(4,.cells [.ptr (.own (3) 0)] 72),(4,.cells [.nilp] 72),(3,.cells [.tl l.length 5 (stG l),.tl t.T.length 1 (dG t.T),I t.far,I t.least] 74),(2,.cells [.tl [D0,D1,D2].length 1 (pthG [D0,D1,D2])] 26),(1,.cells [.tl t.T.length 1 (dG t.T),I t.far,I t.least] 25),(0,.bun 7 0 l.length G 3)]))))) [(73,I 0),(72,I (D0.length:Int)),(71,.slice (.fa (8) 0 0) D0.length D0.length),(18,.nils),(17,.slice (.fa (8) 0 0) D0.length D0.length),(70,.slice (.fa (8) 0 0) D0.length D0.length),(69,.ptr (.own (6) 0)),(68,.bool true),(68,.bool (decide ((0:Int)<(↑(3):Int)))),(67,I 0),(66,I (↑(3):Int)),(65,.slice (.own (6) 0) (3) (3)),(15,.nils),(64,.bool false),(64,.bool !b),(63,.bool b),(62,.agg [I 0,I ((1:Int)*(2:Int) ^ min (↑[D0,D1,D2].length:Int).toNat IntKind.i64.bits - (1:Int)),I (mostF l 0),I (mostF l 1),I (mostF l 2),I (mostF l 3),I (mostF l 4),I (mostF l 5)]),(61,.agg (nL (mostF l))),(60,.ptr (.own (3) 0)),(59,I ((1:Int)*(2:Int) ^ min (↑[D0,D1,D2].length:Int).toNat IntKind.i64.bits - (1:Int))),(58,I ((1:Int)*(2:Int) ^ min (↑[D0,D1,D2].length:Int).toNat IntKind.i64.bits)),(57,I (↑[D0,D1,D2].length:Int)),(56,.tl [D0,D1,D2].length 1 (pthG [D0,D1,D2])),(55,.func 44 [] [.ptr (.own (5) 0),.ptr (.own (12) 0),.ptr (.own (2) 0),.ptr (.own (14) 0)]),(54,.func 44 [] [.ptr (.own (5) 0),.ptr (.own (12) 0),.ptr (.own (2) 0),.ptr (.own (14) 0)]),(14,.ptr (.own (14) 0)),(53,.func 40 [] [.ptr (.own (4) 0),.ptr (.own (13) 0),.ptr (.own (2) 0),.ptr (.own (7) 0)]),(13,.ptr (.own (13) 0)),(12,.ptr (.own (12) 0)),(52,.mp (11)),(44,.bool false),(44,.bool (decide ((0:Int)+(1:Int)+(1:Int)+(1:Int)<(↑(3):Int)))),(43,I ((0:Int)+(1:Int)+(1:Int)+(1:Int))),(51,I ((0:Int)+(1:Int)+(1:Int)+(1:Int))),(50,.ptr (.own (6) (2))),(49,.slice (.fa (10) 0 0) D0.length D0.length),(48,I (D0.length:Int)),(47,I ((0:Int)+(1:Int)+(1:Int))),(46,.slice (.own (6) 0) (3) (3)),(11,I ((0:Int)+(1:Int)+(1:Int))),(45,I ((0:Int)+(1:Int)+(1:Int))),(44,.bool true),(44,.bool (decide ((0:Int)+(1:Int)+(1:Int)<(↑(3):Int)))),(43,I ((0:Int)+(1:Int)+(1:Int))),(51,I ((0:Int)+(1:Int)+(1:Int))),(50,.ptr (.own (6) (1))),(49,.slice (.fa (9) 0 0) D0.length D0.length),(48,I (D0.length:Int)),(47,I ((0:Int)+(1:Int))),(46,.slice (.own (6) 0) (3) (3)),(11,I ((0:Int)+(1:Int))),(45,I ((0:Int)+(1:Int))),(44,.bool true),(44,.bool (decide ((0:Int)+(1:Int)<(↑(3):Int)))),(43,I ((0:Int)+(1:Int))),(51,I ((0:Int)+(1:Int))),(50,.ptr (.own (6) 0)),(49,.slice (.fa (8) 0 0) D0.length D0.length),(48,I (D0.length:Int)),(47,I 0),(46,.slice (.own (6) 0) (3) (3)),(11,I 0),(45,I 0),(44,.bool true),(44,.bool (decide ((0:Int)<(↑(3):Int)))),(43,I 0),(42,I (↑(3):Int)),(41,.slice (.own (6) 0) (3) (3)),(10,.ptr (.own (7) 0)),(40,.slice (.own (6) 0) (3) (3)),(39,I (↑[D0,D1,D2].length:Int)),(38,.tl [D0,D1,D2].length 1 (pthG [D0,D1,D2])),(9,.ptr (.own (5) 0)),(37,I (D0.length:Int)),(36,.tl D0.length 1 (dG ([D0,D1,D2].getD (Int.toNat (0:Int)) []))),(35,.tp [.tl D0.length 1 (dG ([D0,D1,D2].getD (Int.toNat (0:Int)) []))]),(34,.tl [D0,D1,D2].length 1 (pthG [D0,D1,D2])),(8,.ptr (.own (4) 0)),(33,.ptr (.own (3) 0)),(32,.agg [.tl l.length 5 (stG l),.tl t.T.length 1 (dG t.T),I t.far,I t.least]),(31,.agg [.tl t.T.length 1 (dG t.T),I t.far,I t.least]),(30,.tl l.length 5 (stG l)),(26,.bool false),(26,.bool !okPaths [D0,D1,D2]),(29,.bool !okPaths [D0,D1,D2]),(28,.bool (okPaths [D0,D1,D2])),(27,.tl [D0,D1,D2].length 1 (pthG [D0,D1,D2])),(21,.bool false),(21,.bool !okAll l t),(25,.bool !okAll l t),(24,.bool (okAll l t)),(23,.agg [.tl t.T.length 1 (dG t.T),I t.far,I t.least]),(22,.tl l.length 5 (stG l)),(7,I 0),(6,.nils),(5,.ptr (.own (2) 0)),(4,.ptr (.own (1) 0)),(0,stD l),(1,.agg (tsL t)),(2,pthD [D0,D1,D2])] (VH.mk 15 (nsPs3.zip (BPs3 l D0.length M 0))) ((18,.nils)::dsPl.zip (VPs l t [D0,D1,D2] D0.length 3 0 VV.nils 0))/\∃ (M_1:Mde),∃ (gO:Nat->List VV),FitP 0 (VH.mk (18) ((17,.vec 1 (fun (j:Nat)=>List.take (1) (List.drop (j*(1)) [.tl D0.length 1 (rowH l.length 0)])) (1) 26)::(16,.vec 1 (fun (j:Nat)=>List.take (1) (List.drop (j*(1)) [.tl D0.length 1 (rowH l.length 0)])) (1) 26)::(15,.gone)::(15::nsPs3).zip (VB.vec D0.length (rowH l.length 0) 1 23::BPs3 l D0.length M (0+D0.length)))) ((73,I 0)::(72,I (D0.length:Int))::(71,.slice (.fa 9 0 0) D0.length D0.length)::(18,.nils)::(17,.slice (.fa 9 0 0) D0.length D0.length)::(70,.slice (.fa 9 0 0) D0.length D0.length)::(69,.ptr (.own 6 (1)))::(68,.bool true)::(68,.bool (decide ((0:Int)+(1:Int)<(3:Int))))::(67,I ((0:Int)+(1:Int)))::(89,I ((0:Int)+(1:Int)))::(15,.sl (17) 1)::(88,.sl (17) 1)::(87,.sl (16) 1)::(86,.tl D0.length 1 (rowH l.length 0))::(85,.nils)::(18,.tl D0.length 1 (rowH l.length 0))::(18::dsPl).zip (VV.sl 15 D0.length::VPs l t [D0,D1,D2] D0.length 3 0 VV.nils D0.length)) (VH.mk 18 ((17::nsPs3).zip (VB.vec 1 gO 1 26::BPs3 l D0.length M_1 (0+D0.length)))) ((18,.nils)::dsPl.zip (VPs l t [D0,D1,D2] D0.length 3 1 (VV.sl 17 1) 0))/\∃ (M:Mde),∃ (gO_1:Nat->List VV),FitP 0 (VH.mk (20) ((17,.vec (1+1) (catG 1 gO fun (j:Nat)=>List.take (1) (List.drop (j*(1)) [.tl D0.length 1 (rowH l.length (0+D0.length))])) (1) 26)::(19,.vec 1 (fun (j:Nat)=>List.take (1) (List.drop (j*(1)) [.tl D0.length 1 (rowH l.length (0+D0.length))])) (1) 26)::(18,.gone)::(18::17::nsPs3).zip (VB.vec D0.length (rowH l.length (0+D0.length)) 1 23::.vec 1 gO 1 26::BPs3 l D0.length M_1 (0+D0.length+D0.length)))) ((73,I 0)::(72,I (D0.length:Int))::(71,.slice (.fa 10 0 0) D0.length D0.length)::(18,.nils)::(17,.slice (.fa 10 0 0) D0.length D0.length)::(70,.slice (.fa 10 0 0) D0.length D0.length)::(69,.ptr (.own 6 (2)))::(68,.bool true)::(68,.bool (decide ((1:Int)+(1:Int)<(3:Int))))::(67,I ((1:Int)+(1:Int)))::(89,I ((1:Int)+(1:Int)))::(15,.sl 17 (1+1))::(88,.sl 17 (1+1))::(87,.sl (19) 1)::(86,.tl D0.length 1 (rowH l.length (0+D0.length)))::(85,.sl 17 1)::(18,.tl D0.length 1 (rowH l.length (0+D0.length)))::(18::dsPl).zip (VV.sl 18 D0.length::VPs l t [D0,D1,D2] D0.length 3 1 (VV.sl 17 1) D0.length)) (VH.mk 20 ((17::nsPs3).zip (VB.vec 2 gO_1 1 26::BPs3 l D0.length M (0+D0.length+D0.length)))) ((18,.nils)::dsPl.zip (VPs l t [D0,D1,D2] D0.length 3 2 (VV.sl 17 2) 0))/\Q (VRes.ret (VV.tup [.sl 17 (2+1),I 0])) (VH.mk (22) [(17,.vec (2+1) (catG 2 gO_1 fun (j:Nat)=>List.take (1) (List.drop (j*(1)) [.tl D0.length 1 (rowH l.length (0+D0.length+D0.length))])) (1) 26),(21,.vec 1 (fun (j:Nat)=>List.take (1) (List.drop (j*(1)) [.tl D0.length 1 (rowH l.length (0+D0.length+D0.length))])) (1) 26),(20,.gone),(20,.vec D0.length (rowH l.length (0+D0.length+D0.length)) 1 23),(17,.vec 2 gO_1 1 26),(0,.bun 7 (0+D0.length+D0.length+D0.length) l.length (GM D0.length M) 3),(6,.cells [.slice (.fa 8 0 0) D0.length D0.length,.slice (.fa 9 0 0) D0.length D0.length,.slice (.fa 10 0 0) D0.length D0.length] 76),(8,.fam [] (D0.length*6) (M 0) 80),(9,.fam [] (D0.length*6) (M 1) 80),(10,.fam [] (D0.length*6) (M 2) 80)])
 else False
 else False
 else False
 else False
 else False
 else False):=by kernel_rfl
section
variable {l:List Stk} {t:Tst} {P:List (List Int)} {Y:Nat}
theorem findRs3_ok {D0 D1 D2:List Int} (cf:Cfg l t [D0,D1,D2] Y) (k:Nat):SpOk Try.prog (findRs3 l t [D0,D1,D2] Y k).1 (findRs3 l t [D0,D1,D2] Y k).2:=by
 intro lock args h K hK
 simp only [findRs3] at hK
 split at hK
 ·rename_i nx bs
  obtain ⟨S',a,M,es,⟨rfl,rfl,rfl,rfl⟩,⟨rfl,hnx⟩,⟨e0,e1,e2,e3,e4,e5,e6,e7,e8,e9,e10,e11,e12,e13,_⟩,⟨rfl,rfl,rfl⟩,hp,hK⟩:=hK
  obtain ⟨r,h',⟨b,s,hw,rfl,rfl⟩,_,hc⟩:=findR3_ok cf k 0 [.agg (I ((Y:Int) - k)::I S'::nL a),.ptr (.own 4 0),.ptr (.own 11 0),.ptr (.own 1 0),.ptr (.own 13 0)] ⟨14,nsB3.zip (BP3 l t [D0,D1,D2] Y M es)⟩ (fun r h'=>∃ b s,PostF l t [D0,D1,D2] Y k S' a M b s/\r=.ret (.bool b)/\h'=⟨14,(7,.fam [] (Y*6) (s.M 0) 80)::(8,.fam [] (Y*6) (s.M 1) 80)::(9,.fam [] (Y*6) (s.M 2) 80)::(10,.map kS .bool s.es)::nsB3.zip (BP3 l t [D0,D1,D2] Y M es)⟩)
   ⟨S',a,M,es,⟨rfl,rfl,rfl,rfl⟩,⟨rfl,Nat.le_refl _⟩,⟨rfl,rfl,rfl,rfl,rfl,rfl,rfl,rfl,rfl,rfl,rfl,rfl,rfl,rfl,trivial⟩,⟨rfl,rfl,rfl⟩,hp,fun b s h=>⟨b,s,h,rfl,rfl⟩⟩
  have:=calls_ren (P:=Try.prog) (h:=⟨nx,bs⟩) (h1:=⟨nx,(8,.fam [] (Y*6) (s.M 0) 80)::(9,.fam [] (Y*6) (s.M 1) 80)::(10,.fam [] (Y*6) (s.M 2) 80)::(11,.map kS .bool s.es)::bs⟩) (fun n=>n+1) (fun _ _ _ _ h=>Nat.succ.inj h) hc (fun n hn=>by
  have hn:n<14:=hn
  match n,hn with
  | 0,_=>exact ⟨trivial,e0⟩
  | 1,_=>exact ⟨trivial,e1⟩
  | 2,_=>exact ⟨trivial,e2⟩
  | 3,_=>exact ⟨trivial,e3⟩
  | 4,_=>exact ⟨trivial,e4⟩
  | 5,_=>exact ⟨trivial,e5⟩
  | 6,_=>exact ⟨trivial,e6⟩
  | 7,_=>exact ⟨trivial,e7⟩
  | 8,_=>exact ⟨trivial,e8⟩
  | 9,_=>exact ⟨trivial,e9⟩
  | 10,_=>exact ⟨trivial,e10⟩
  | 11,_=>exact ⟨trivial,e11⟩
  | 12,_=>exact ⟨trivial,e12⟩
  | 13,_=>exact ⟨trivial,e13⟩
  | _+14,hn=>exact absurd hn (by omega)) (fun n hn=>by
  have hn:n<14:=hn
  match n,hn with
  | 0,_=>exact ⟨trivial,rfl,e0⟩
  | 1,_=>exact ⟨trivial,rfl,e1⟩
  | 2,_=>exact ⟨trivial,rfl,e2⟩
  | 3,_=>exact ⟨trivial,rfl,e3⟩
  | 4,_=>exact ⟨trivial,rfl,e4⟩
  | 5,_=>exact ⟨trivial,rfl,e5⟩
  | 6,_=>exact ⟨trivial,rfl,e6⟩
  | 7,_=>exact ⟨trivial,rfl,at_lt (show 8<nx by omega)⟩
  | 8,_=>exact ⟨trivial,rfl,at_lt (show 9<nx by omega)⟩
  | 9,_=>exact ⟨trivial,rfl,at_lt (show 10<nx by omega)⟩
  | 10,_=>exact ⟨trivial,rfl,at_lt (show 11<nx by omega)⟩
  | 11,_=>exact ⟨trivial,rfl,e11⟩
  | 12,_=>exact ⟨trivial,rfl,e12⟩
  | 13,_=>exact ⟨trivial,rfl,e13⟩
  | _+14,hn=>exact absurd hn (by omega)) (fun q hq=>by
  have hq:∀ n,n<14->n+1 ≠ q:=fun n hn=>hq n hn
  rw [at_ne (hq 7 (by omega)),at_ne (hq 8 (by omega)),at_ne (hq 9 (by omega)),at_ne (hq 10 (by omega))]) (fun n hn=>by
  have hn:n<14:=hn
  match n,hn with
  | 0,_=>exact rfl
  | 1,_=>exact rfl
  | 2,_=>exact rfl
  | 3,_=>exact rfl
  | 4,_=>exact rfl
  | 5,_=>exact rfl
  | 6,_=>exact rfl
  | 7,_=>exact rfl
  | 8,_=>exact rfl
  | 9,_=>exact rfl
  | 10,_=>exact rfl
  | 11,_=>exact rfl
  | 12,_=>exact rfl
  | 13,_=>exact rfl
  | _+14,hn=>exact absurd hn (by omega)) rfl rfl
  exact ⟨_,_,hK b s hw,lock0 _ _,this⟩
 ·exact hK.elim
theorem csr30 {M:Mde} (hY:Y<=4) (hl6:l.length<=6):LSound Try.prog true (.block 5 (.loop (loopB 5 (bodyOf Try.prog 17)))) (ntOf Try.prog 17) (fun lock tt h K=>FitP lock h tt ⟨15,nsPs3.zip (BPs3 l Y M 0)⟩ ((18,.nils)::dsPl.zip (VPs l t P Y 3 0 .nils 0))/\K .normal ((18,.tl Y 1 (rowH l.length 0))::(18::dsPl).zip (.sl 15 Y::VPs l t P Y 3 0 .nils Y)) ⟨16,(15,.gone)::(15::nsPs3).zip (.vec Y (rowH l.length 0) 1 23::(BPs3 l Y M (0+Y)))⟩):=by
 have hb:0=0*Y:=by omega
 refine copy_row2 (n:=15) (ns:=nsPs3) (W:=fun y=>VPs l t P Y 3 0 .nils y) (B0:=(BPs3 l Y M 0)) (B1:=(BPs3 l Y M (0+Y))) rfl ?_ rfl
 refine loop_row hmix (noL_good (tab1 listO_ok)) (un:=10) (ds:=18::dsPl) (ns:=15::nsPs3) (nx:=16) (fun y:Nat=>.sl 15 y::VPs l t P Y 3 0 .nils y) (fun y=>.vec y (rowH l.length 0) 1 23::(BPs3 l Y M (0+y))) (fun y=>y<=Y) (fun y=>Y - y) (fun _ ex vs bs=>ex=.exit 5/\bs=.vec Y (rowH l.length 0) 1 23::(BPs3 l Y M (0+Y))/\vs=.sl 15 Y::VPs l t P Y 3 0 .nils Y) noL_ok ?_ ?_
 ·rintro y h0
  refine cast (cs30_ev l t P Y y _ M _ _ _).symm ?_
  refine cond_d (fun hy=>cond_dk ⟨by omega,by omega⟩ (cond_dk (by omega) ⟨fun j=>M 0 (y*6+j),l.length,0+y,GM Y M,g6_row,rfl,hl6,rfl,rfl,cond_k (Nat.beq_refl _) (cond_k (roomC y (by omega)) (cond_r (by omega) ⟨y+1,by show y+1<=Y; omega,by dsimp only; omega,rfl,⟨⟨rfl,rfl,rfl,fun j hj=>cat_rowH hj⟩,fit_gm hb (by omega),fitBs_refl _⟩,fun _ _ _ h=>h⟩))⟩)) (fun hy=>?_)
  obtain rfl:y=Y:=by omega
  exact ⟨rfl,rfl,rfl⟩
 ·rintro lock tt h K ⟨hf,k1⟩
  refine ⟨0,hf,Nat.zero_le _,?_⟩
  rintro ex vs bs ⟨rfl,rfl,rfl⟩
  exact k1
theorem csr31 {M:Mde} {gO:Nat->List VV} (hY:Y<=4) (hl6:l.length<=6):LSound Try.prog true (.block 5 (.loop (loopB 5 (bodyOf Try.prog 17)))) (ntOf Try.prog 17) (fun lock tt h K=>FitP lock h tt ⟨18,(17::nsPs3).zip (.vec 1 gO 1 26::(BPs3 l Y M (0+Y)))⟩ ((18,.nils)::dsPl.zip (VPs l t P Y 3 1 (.sl 17 1) 0))/\K .normal ((18,.tl Y 1 (rowH l.length (0+Y)))::(18::dsPl).zip (.sl 18 Y::VPs l t P Y 3 1 (.sl 17 1) Y)) ⟨19,(18,.gone)::(18::(17::nsPs3)).zip (.vec Y (rowH l.length (0+Y)) 1 23::(.vec 1 gO 1 26::(BPs3 l Y M (0+Y+Y))))⟩):=by
 have hb:(0+Y)=1*Y:=by omega
 refine copy_row2 (n:=18) (ns:=(17::nsPs3)) (W:=fun y=>VPs l t P Y 3 1 (.sl 17 1) y) (B0:=(.vec 1 gO 1 26::(BPs3 l Y M (0+Y)))) (B1:=(.vec 1 gO 1 26::(BPs3 l Y M (0+Y+Y)))) rfl ?_ rfl
 refine loop_row hmix (noL_good (tab1 listO_ok)) (un:=10) (ds:=18::dsPl) (ns:=18::(17::nsPs3)) (nx:=19) (fun y:Nat=>.sl 18 y::VPs l t P Y 3 1 (.sl 17 1) y) (fun y=>.vec y (rowH l.length (0+Y)) 1 23::(.vec 1 gO 1 26::(BPs3 l Y M ((0+Y)+y)))) (fun y=>y<=Y) (fun y=>Y - y) (fun _ ex vs bs=>ex=.exit 5/\bs=.vec Y (rowH l.length (0+Y)) 1 23::(.vec 1 gO 1 26::(BPs3 l Y M (0+Y+Y)))/\vs=.sl 18 Y::VPs l t P Y 3 1 (.sl 17 1) Y) noL_ok ?_ ?_
 ·rintro y h0
  refine cast (cs31_ev l t P Y y _ M _ _ _ _).symm ?_
  refine cond_d (fun hy=>cond_dk ⟨by omega,by omega⟩ (cond_dk (by omega) ⟨fun j=>M 1 (y*6+j),l.length,(0+Y)+y,GM Y M,g6_row,rfl,hl6,rfl,rfl,cond_k (Nat.beq_refl _) (cond_k (roomC y (by omega)) (cond_r (by omega) ⟨y+1,by show y+1<=Y; omega,by dsimp only; omega,rfl,⟨⟨rfl,rfl,rfl,fun j hj=>cat_rowH hj⟩,VB.fit_refl _,fit_gm hb (by omega),fitBs_refl _⟩,fun _ _ _ h=>h⟩))⟩)) (fun hy=>?_)
  obtain rfl:y=Y:=by omega
  exact ⟨rfl,rfl,rfl⟩
 ·rintro lock tt h K ⟨hf,k1⟩
  refine ⟨0,hf,Nat.zero_le _,?_⟩
  rintro ex vs bs ⟨rfl,rfl,rfl⟩
  exact k1
theorem csr32 {M:Mde} {gO:Nat->List VV} (hY:Y<=4) (hl6:l.length<=6):LSound Try.prog true (.block 5 (.loop (loopB 5 (bodyOf Try.prog 17)))) (ntOf Try.prog 17) (fun lock tt h K=>FitP lock h tt ⟨20,(17::nsPs3).zip (.vec 2 gO 1 26::(BPs3 l Y M (0+Y+Y)))⟩ ((18,.nils)::dsPl.zip (VPs l t P Y 3 2 (.sl 17 2) 0))/\K .normal ((18,.tl Y 1 (rowH l.length (0+Y+Y)))::(18::dsPl).zip (.sl 20 Y::VPs l t P Y 3 2 (.sl 17 2) Y)) ⟨21,(20,.gone)::(20::(17::nsPs3)).zip (.vec Y (rowH l.length (0+Y+Y)) 1 23::(.vec 2 gO 1 26::(BPs3 l Y M (0+Y+Y+Y))))⟩):=by
 have hb:(0+Y+Y)=2*Y:=by omega
 refine copy_row2 (n:=20) (ns:=(17::nsPs3)) (W:=fun y=>VPs l t P Y 3 2 (.sl 17 2) y) (B0:=(.vec 2 gO 1 26::(BPs3 l Y M (0+Y+Y)))) (B1:=(.vec 2 gO 1 26::(BPs3 l Y M (0+Y+Y+Y)))) rfl ?_ rfl
 refine loop_row hmix (noL_good (tab1 listO_ok)) (un:=10) (ds:=18::dsPl) (ns:=20::(17::nsPs3)) (nx:=21) (fun y:Nat=>.sl 20 y::VPs l t P Y 3 2 (.sl 17 2) y) (fun y=>.vec y (rowH l.length (0+Y+Y)) 1 23::(.vec 2 gO 1 26::(BPs3 l Y M ((0+Y+Y)+y)))) (fun y=>y<=Y) (fun y=>Y - y) (fun _ ex vs bs=>ex=.exit 5/\bs=.vec Y (rowH l.length (0+Y+Y)) 1 23::(.vec 2 gO 1 26::(BPs3 l Y M (0+Y+Y+Y)))/\vs=.sl 20 Y::VPs l t P Y 3 2 (.sl 17 2) Y) noL_ok ?_ ?_
 ·rintro y h0
  refine cast (cs32_ev l t P Y y _ M _ _ _ _).symm ?_
  refine cond_d (fun hy=>cond_dk ⟨by omega,by omega⟩ (cond_dk (by omega) ⟨fun j=>M 2 (y*6+j),l.length,(0+Y+Y)+y,GM Y M,g6_row,rfl,hl6,rfl,rfl,cond_k (Nat.beq_refl _) (cond_k (roomC y (by omega)) (cond_r (by omega) ⟨y+1,by show y+1<=Y; omega,by dsimp only; omega,rfl,⟨⟨rfl,rfl,rfl,fun j hj=>cat_rowH hj⟩,VB.fit_refl _,fit_gm hb (by omega),fitBs_refl _⟩,fun _ _ _ h=>h⟩))⟩)) (fun hy=>?_)
  obtain rfl:y=Y:=by omega
  exact ⟨rfl,rfl,rfl⟩
 ·rintro lock tt h K ⟨hf,k1⟩
  refine ⟨0,hf,Nat.zero_le _,?_⟩
  rintro ex vs bs ⟨rfl,rfl,rfl⟩
  exact k1
theorem lCs3_ok (hY:Y<=4) (hl6:l.length<=6):LSound Try.prog true (.block 5 (.loop (loopB 5 (bodyOf Try.prog 17)))) (ntOf Try.prog 17) (lCs3 l t P Y):=by
 intro lock tt h K hK
 unfold lCs3 at hK
 split at hK
 ·obtain ⟨M,hf,k1⟩:=hK
  exact csr30 hY hl6 lock tt h K ⟨hf,k1⟩
 ·obtain ⟨M,gO,hf,k1⟩:=hK
  exact csr31 hY hl6 lock tt h K ⟨hf,k1⟩
 ·obtain ⟨M,gO,hf,k1⟩:=hK
  exact csr32 hY hl6 lock tt h K ⟨hf,k1⟩
 ·exact hK.elim
end
theorem plo3 {l:List Stk} {t:Tst} {D0 D1 D2:List Int} {G:Nat->Nat->Int} (h1:okAll l t=true) (h2:okPaths [D0,D1,D2]=true) (cf:Cfg l t [D0,D1,D2] D0.length) (hpb:pthB [D0,D1,D2]):∃ r h',CallsV Try.prog 17 [stD l,.agg (tsL t),pthD [D0,D1,D2]] ⟨1,[(0,.bun 7 0 l.length G 3)]⟩ r h'/\PlnO l t [D0,D1,D2] D0.length r h':=by
 have hl6:=cf.hl.1
 have hY:=cf.Y4
 have hrm:roomB ((([D0,D1,D2].getD (Int.toNat 0) []).length:Int)).toNat 48=true:=roomY _ hY
 have htab:∀ f T,tabS [asR l t,casksR l t,apR [D0,D1,D2],findRs3 l t [D0,D1,D2] D0.length D0.length,listO] f=some T->SpOk Try.prog f T:=tab_ok _ (fun x hx=>by
  simp only [List.mem_cons,List.not_mem_nil,or_false] at hx
  rcases hx with rfl | rfl | rfl | rfl | rfl
  ·exact asR_ok l t
  ·exact casksR_ok l t
  ·exact apR_ok _
  ·exact findRs3_ok cf D0.length
  ·exact listO_ok)
 have hall:LoopsOk Try.prog 17 [(5,lCs3 l t [D0,D1,D2] D0.length)]:=fun x hx=>by
  simp only [List.mem_singleton] at hx
  subst hx
  exact ⟨by kernel_rfl,lCs3_ok hY hl6⟩
 obtain ⟨r,h',hk,hc⟩:=of_callN (callL_good hmix htab hall (un:=10) 20) (f:=17) (args:=[stD l,.agg (tsL t),pthD [D0,D1,D2]]) (h:=⟨1,[(0,.bun 7 0 l.length G 3)]⟩) (K:=PlnO l t [D0,D1,D2] D0.length) (by
  refine cast (ps3_ev l t D0 D1 D2 G _).symm ⟨isD_l,⟨⟨rfl,rfl,fun _ _=>rfl⟩,⟨rfl,rfl⟩,⟨rfl,rfl⟩,trivial⟩,cond_i (fun h=>by rw [h1] at h; cases h) (fun _=>⟨⟨rfl,rfl,fun _ _=>rfl⟩,hpb,cond_i (fun h=>by rw [h2] at h; cases h) (fun _=>?_)⟩)⟩
  refine cond_dk ⟨by omega,rfl⟩ (cond_k hrm (cond_dk ⟨by omega,rfl⟩ (cond_k hrm (cond_dk ⟨by omega,rfl⟩ (cond_k hrm (⟨hcO rfl,hl6,7,mostF l,fun _ _=>0,[],⟨rfl,rfl,rfl,rfl⟩,⟨rfl,Nat.le_refl _⟩,⟨rfl,rfl,rfl,rfl,rfl,rfl,rfl,rfl,rfl,rfl,rfl,rfl,rfl,rfl,trivial⟩,⟨by omega,rfl,rfl⟩,⟨Nat.le_refl _,(by show 7<2 ^ 3; decide),most_left cf.hl,lost_nil⟩,?_⟩))))))
  rintro b s ⟨p1,p2,p3,p4⟩
  refine cond_i (fun g=>?_) (fun g=>?_)
  ·have g:b=false:=by simpa using g
   subst g
   refine .inl ⟨?_,rfl,_,rfl⟩
   cases hx:planF l t [D0,D1,D2] D0.length D0.length 7 (mostF l) with
   | none=>exact hx
   | some x=>rw [hx] at p1; cases p1
  ·have g:b=true:=by simpa using g
   subst g
   obtain ⟨x,hx⟩:∃ x,planF l t [D0,D1,D2] D0.length D0.length 7 (mostF l)=some x:=by
    cases hx:planF l t [D0,D1,D2] D0.length D0.length 7 (mostF l) with
    | none=>rw [hx] at p1; cases p1
    | some x=>exact ⟨x,rfl⟩
   refine ⟨s.M,⟨⟨rfl,rfl,fit_g0,rfl,⟨rfl,rfl,rfl,fun _ _=>rfl⟩,⟨rfl,rfl,rfl,fun _ _=>rfl⟩,⟨rfl,rfl,rfl,fun _ _=>rfl⟩,trivial⟩,rfl,rfl,rfl,rfl,rfl,rfl,rfl,rfl,rfl,rfl,rfl,rfl,rfl,rfl,rfl,trivial⟩,s.M,_,⟨⟨rfl,rfl,VB.fit_refl _,VB.fit_refl _,VB.fit_refl _,VB.fit_refl _,VB.fit_refl _,VB.fit_refl _,trivial⟩,rfl,rfl,rfl,rfl,rfl,rfl,rfl,rfl,rfl,rfl,rfl,rfl,rfl,rfl,rfl,trivial⟩,s.M,_,⟨⟨rfl,rfl,VB.fit_refl _,VB.fit_refl _,VB.fit_refl _,VB.fit_refl _,VB.fit_refl _,VB.fit_refl _,trivial⟩,rfl,rfl,rfl,rfl,rfl,rfl,rfl,rfl,rfl,rfl,rfl,rfl,rfl,rfl,rfl,trivial⟩,.inr ⟨x,17,_,_,_,hx,rfl,rfl,fun i hi=>?_,rfl,fun i y k hi hy hk=>?_⟩⟩
   ·have hi:i<3:=hi
    match i,hi with
    | 0,_=>exact rfl
    | 1,_=>exact rfl
    | 2,_=>exact rfl
    | _+3,hi=>exact absurd hi (by omega)
   ·have hi:i<3:=hi
    match i,hi with
    | 0,_=>exact (gm_row (bI_mul _ 0) hy k).trans (p4 x hx 0 y k (by omega) rfl (by omega) hy)
    | 1,_=>exact (gm_row (bI_mul _ 1) hy k).trans (p4 x hx 1 y k (by omega) rfl (by omega) hy)
    | 2,_=>exact (gm_row (bI_mul _ 2) hy k).trans (p4 x hx 2 y k (by omega) rfl (by omega) hy)
    | _+3,hi=>exact absurd hi (by omega))
 exact ⟨r,h',hc,hk⟩
end Go.Sx.Bln
