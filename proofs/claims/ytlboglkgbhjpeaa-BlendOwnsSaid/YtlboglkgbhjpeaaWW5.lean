/- stream: Cj3 Cj4 Ck1 Bq1 Ck2 Cl1 Dc1 Dd1 Dd2 Dd3 De1 Dc2 Df1 Df2 Df3 Dg1 Dg2 Ea1 Ea2 Eb1 Eb2 Eb3 Eb4 La1 La2 Mb1 Mb2 Lc1 Fb1 Fb2 Lc2 Lc3, in one text. -/
import Derived.Test.YtlboglkgbhjpeaaWW4
import Derived.Test.YtlboglkgbhjpeaaWW1
import Derived.Test.YtlboglkgbhjpeaaSxTt
import Derived.Test.YtlboglkgbhjpeaaWW2
namespace Go.Sx.Bln
open Go Go.Sx Go.Proofs
set_option maxRecDepth 1000000
def d1 (L:Nat) (n:Nat->Int):VV:=.tl L 1 (chG n)
def d2G (q:Nat->Nat) (v:Nat->Nat->Int) (y:Nat):List VV:=[d1 (q y) (v y)]
def d3G (q:Nat->Nat) (r:Nat->Nat->Nat) (v:Nat->Nat->Nat->Int) (i:Nat):List VV:=[.tl (q i) 1 (d2G (r i) (v i))]
def d3 (p:Nat) (q:Nat->Nat) (r:Nat->Nat->Nat) (v:Nat->Nat->Nat->Int):VV:=.tl p 1 (d3G q r v)
def dsE1:List Nat:=[5,4,0,1]
def VE1 (a:VV) (i:Int):List VV:=[I i,.bool false,a,a]
theorem i1_ev (L:Nat) (n:Nat->Int) (i:Int) (X:VEx->List VV->List VB->Prop):codeE Try.prog (callN Try.prog noSpec noL 10 20) (fun _=>none) true 10 (ntOf Try.prog 19) 0 (loopB 0 (bodyOf Try.prog 19)) (dsE1.zip (VE1 (d1 L n) i)) ⟨0,([]:List Nat).zip []⟩ (obs 0 dsE1 [] X) =
 (bif decide (i<(L:Int)) then
 bif decide ((0:Int)<=i/\i<(L:Int)) then
 bif decide ((0:Int)<=i/\i<(L:Int)) then
 bif !decide (n i.toNat=n i.toNat) then
 X .ret [I i,.bool false,.tl L 1 (chG n),.tl L 1 (chG n)] []
 else bif inK .i64 (i+(1:Int)) then
 X .normal [I (i+(1:Int)),.bool false,.tl L 1 (chG n),.tl L 1 (chG n)] []
 else False
 else False
 else False
 else X (.exit 0) [I i,.bool false,.tl L 1 (chG n),.tl L 1 (chG n)] []):=by kernel_rfl
def lE1 (L:Nat) (n:Nat->Int):LT:=fun lock tt h K=>
 FitP lock h tt ⟨0,([]:List Nat).zip []⟩ (dsE1.zip (VE1 (d1 L n) 0))/\L<=100000/\K .normal (dsE1.zip (VE1 (d1 L n) L)) ⟨0,([]:List Nat).zip []⟩
theorem i1f_ev (L:Nat) (n:Nat->Int) (Q:VRes->Prop):callN Try.prog noSpec (atF 19 [(0,lE1 L n)]) 10 20 0 (.fn 19) [d1 L n,d1 L n] ⟨0,[]⟩ (fun r h=>Q r) =
 (bif !decide ((L:Int)=(L:Int)) then
 Q (.ret (.bool false))
 else FitP 0 (VH.mk 0 ([].zip [])) (dsE1.zip (VE1 (d1 L n) (0:Int))) (VH.mk 0 ([].zip [])) (dsE1.zip (VE1 (d1 L n) (0:Int)))/\L<=100000/\Q (.ret (.bool true))):=by kernel_rfl
def inR:FuncId × Spec1:=(19,fun _ args h K=>match args with
 | [x,y]=>∃ (L:Nat) (n:Nat->Int),isD h 2 x (d1 L n)/\isD h 2 y (d1 L n)/\L<=100000/\K (.ret (.bool true)) h
 | _=>False)
def dsE2:List Nat:=6::dsE1
def VE2 (a:VV) (i k:Int):List VV:=I k::VE1 a i
theorem s2_ev (p:Nat) (q:Nat->Nat) (r:Nat->Nat->Nat) (v:Nat->Nat->Nat->Int) (i k:Int) (X:VEx->List VV->List VB->Prop):codeE Try.prog (callN Try.prog (tabS [inR]) noL 10 20) (fun _=>none) true 10 (ntOf Try.prog 20) 0 (loopB 2 (bodyOf Try.prog 20)) (dsE2.zip (VE2 (d3 p q r v) i k)) ⟨0,([]:List Nat).zip []⟩ (obs 0 dsE2 [] X) =
 (bif decide ((0:Int)<=i/\i<(p:Int)) then
 bif decide (k<(↑(q i.toNat):Int)) then
 bif decide ((0:Int)<=i/\i<(p:Int)) then
 bif decide ((0:Int)<=k/\k<(↑(q i.toNat):Int)) then
 bif decide ((0:Int)<=i/\i<(p:Int)) then
 bif decide ((0:Int)<=k/\k<(↑(q i.toNat):Int)) then
 ∃ (L:Nat),∃ (n:Nat->Int),isD (VH.mk 0 ([].zip [])) 2 (VV.tl (r i.toNat k.toNat) 1 (chG (v i.toNat k.toNat))) (d1 L n)/\isD (VH.mk 0 ([].zip [])) 2 (VV.tl (r i.toNat k.toNat) 1 (chG (v i.toNat k.toNat))) (d1 L n)/\L<=100000/\bif inK .i64 (k+(1:Int)) then
 X .normal [I (k+(1:Int)),I i,.bool false,.tl p 1 (d3G q r v),.tl p 1 (d3G q r v)] []
 else False
 else False
 else False
 else False
 else False
 else X (.exit 2) [I k,I i,.bool false,.tl p 1 (d3G q r v),.tl p 1 (d3G q r v)] []
 else False):=by kernel_rfl
def okD (p:Nat) (q:Nat->Nat) (r:Nat->Nat->Nat):Prop:=p<=100000/\(∀ i,q i<=100000)/\∀ i j,r i j<=100000
def lE2 (p:Nat) (q:Nat->Nat) (r:Nat->Nat->Nat) (v:Nat->Nat->Nat->Int) (i:Nat):LT:=fun lock tt h K=>
 FitP lock h tt ⟨0,([]:List Nat).zip []⟩ (dsE2.zip (VE2 (d3 p q r v) i 0))/\(okD p q r/\i<p)/\K .normal (dsE2.zip (VE2 (d3 p q r v) i (q i))) ⟨0,([]:List Nat).zip []⟩
theorem s3_ev (p:Nat) (q:Nat->Nat) (r:Nat->Nat->Nat) (v:Nat->Nat->Nat->Int) (i:Nat) (X:VEx->List VV->List VB->Prop):codeE Try.prog (callN Try.prog noSpec noL 10 20) (tabB [(2,lE2 p q r v i)]) true 10 (ntOf Try.prog 20) 0 (loopB 0 (bodyOf Try.prog 20)) (dsE1.zip (VE1 (d3 p q r v) i)) ⟨0,([]:List Nat).zip []⟩ (obs 0 dsE1 [] X) =
 (bif decide ((i:Int)<(p:Int)) then
 bif decide ((0:Int)<=(i:Int)/\(i:Int)<(p:Int)) then
 bif decide ((0:Int)<=(i:Int)/\(i:Int)<(p:Int)) then
 bif !decide ((↑(q (i:Int).toNat):Int)=(↑(q (i:Int).toNat):Int)) then
 X .ret [I (i:Int),.bool false,.tl p 1 (d3G q r v),.tl p 1 (d3G q r v)] []
 else FitP 0 (VH.mk 0 ([].zip [])) (dsE2.zip (VE2 (d3 p q r v) (i:Int) (0:Int))) (VH.mk 0 ([].zip [])) (dsE2.zip (VE2 (d3 p q r v) (i:Int) (0:Int)))/\(okD p q r/\i<p)/\bif inK .i64 ((i:Int)+(1:Int)) then
 X .normal [I ((i:Int)+(1:Int)),.bool false,.tl p 1 (d3G q r v),.tl p 1 (d3G q r v)] []
 else False
 else False
 else False
 else X (.exit 0) [I (i:Int),.bool false,.tl p 1 (d3G q r v),.tl p 1 (d3G q r v)] []):=by kernel_rfl
def lE3 (p:Nat) (q:Nat->Nat) (r:Nat->Nat->Nat) (v:Nat->Nat->Nat->Int):LT:=fun lock tt h K=>
 FitP lock h tt ⟨0,([]:List Nat).zip []⟩ (dsE1.zip (VE1 (d3 p q r v) 0))/\okD p q r/\K .normal (dsE1.zip (VE1 (d3 p q r v) p)) ⟨0,([]:List Nat).zip []⟩
theorem s3f_ev (p:Nat) (q:Nat->Nat) (r:Nat->Nat->Nat) (v:Nat->Nat->Nat->Int) (Q:VRes->Prop):callN Try.prog noSpec (atF 20 [(0,lE3 p q r v)]) 10 20 0 (.fn 20) [d3 p q r v,d3 p q r v] ⟨0,[]⟩ (fun r h=>Q r) =
 (bif !decide ((p:Int)=(p:Int)) then
 Q (.ret (.bool false))
 else FitP 0 (VH.mk 0 ([].zip [])) (dsE1.zip (VE1 (d3 p q r v) (0:Int))) (VH.mk 0 ([].zip [])) (dsE1.zip (VE1 (d3 p q r v) (0:Int)))/\okD p q r/\Q (.ret (.bool true))):=by kernel_rfl
theorem lE1_ok {L:Nat} {n:Nat->Int}:LSound Try.prog true (.block 0 (.loop (loopB 0 (bodyOf Try.prog 19)))) (ntOf Try.prog 19) (lE1 L n):=by
 by_cases hn:L<=100000
 ·refine loop_row hmix good0 (un:=10) (ds:=dsE1) (ns:=[]) (nx:=0) (fun i:Nat=>VE1 (d1 L n) i) (fun _=>[]) (fun i=>i<=L) (fun i=>L - i) (fun _ e vs bs=>e=.exit 0/\bs=[]/\vs=VE1 (d1 L n) L) noL_ok ?_ ?_
  ·rintro i h0
   refine cast (i1_ev L n i _).symm ?_
   by_cases hlt:i<L
   ·exact cond_dk (by omega) (cond_dk ⟨by omega,by omega⟩ (cond_dk ⟨by omega,by omega⟩ (cond_nd (fun h=>(h rfl).elim) (fun _=>cond_r (by omega) ⟨i+1,by omega,by dsimp only; omega,rfl,fitBs_refl _,fun _ _ _ h=>h⟩))))
   ·obtain rfl:i=L:=by omega
    exact cond_d (fun h=>by omega) (fun _=>⟨rfl,rfl,rfl⟩)
  ·rintro lock tt h K ⟨hf,_,k1⟩
   refine ⟨0,hf,Nat.zero_le _,?_⟩
   rintro e vs bs ⟨rfl,rfl,rfl⟩
   exact k1
 ·rintro lock tt h K ⟨hf,hc,_⟩
  exact (hn hc).elim
theorem ints_v {L:Nat} {n:Nat->Int} (hL:L<=100000):∃ h',CallsV Try.prog 19 [d1 L n,d1 L n] ⟨0,[]⟩ (.ret (.bool true)) h':=by
 have hall:LoopsOk Try.prog 19 [(0,lE1 L n)]:=fun x hx=>by
  simp only [List.mem_singleton] at hx
  subst hx
  exact ⟨by kernel_rfl,lE1_ok⟩
 obtain ⟨r,h',rfl,hc⟩:=of_callN (callL_good hmix noSp hall (un:=10) 20) (f:=19) (args:=[d1 L n,d1 L n]) (h:=⟨0,[]⟩) (K:=fun r _=>r=.ret (.bool true)) (cast (i1f_ev L n _).symm (cond_nd (fun h=>(h rfl).elim) (fun _=>⟨fitP_self rfl,hL,rfl⟩)))
 exact ⟨h',hc⟩
theorem inR_ok:SpOk Try.prog inR.1 inR.2:=by
 intro lock args h K hK
 simp only [inR] at hK
 split at hK
 ·obtain ⟨L,n,hx,hy,hL,hK⟩:=hK
  obtain ⟨h',hv⟩:=ints_v (n:=n) hL
  exact ⟨_,h,hK,lockP_refl _ _,calls_lendDP 2 hv rfl ⟨hx,hy,trivial⟩⟩
 ·exact hK.elim
section
variable {p:Nat} {q:Nat->Nat} {r:Nat->Nat->Nat} {v:Nat->Nat->Nat->Int}
theorem lE2_ok {i:Nat}:LSound Try.prog true (.block 2 (.loop (loopB 2 (bodyOf Try.prog 20)))) (ntOf Try.prog 20) (lE2 p q r v i):=by
 by_cases hn:okD p q r/\i<p
 ·obtain ⟨⟨h1,h2,h3⟩,hi⟩:=hn
  have hq:=h2 i
  refine loop_row hmix (noL_good (tab1 inR_ok)) (un:=10) (ds:=dsE2) (ns:=[]) (nx:=0) (fun k:Nat=>VE2 (d3 p q r v) i k) (fun _=>[]) (fun k=>k<=q i) (fun k=>q i - k) (fun _ e vs bs=>e=.exit 2/\bs=[]/\vs=VE2 (d3 p q r v) i (q i)) noL_ok ?_ ?_
  ·rintro k h0
   refine cast (s2_ev p q r v i k _).symm ?_
   have e1:(i:Int).toNat=i:=by omega
   have e2:(k:Int).toNat=k:=by omega
   rw [e1]
   by_cases hlt:k<q i
   ·refine cond_dk ⟨by omega,by omega⟩ (cond_dk (by omega) ?_)
    rw [e2]
    exact cond_dk ⟨by omega,by omega⟩ (cond_dk ⟨by omega,by omega⟩ (cond_dk ⟨by omega,by omega⟩ (cond_dk ⟨by omega,by omega⟩ ⟨r i k,v i k,⟨rfl,rfl,fun _ _=>rfl⟩,⟨rfl,rfl,fun _ _=>rfl⟩,h3 i k,cond_r (by omega) ⟨k+1,by omega,by dsimp only; omega,rfl,fitBs_refl _,fun _ _ _ h=>h⟩⟩)))
   ·obtain rfl:k=q i:=by omega
    exact cond_dk ⟨by omega,by omega⟩ (cond_d (fun h=>by omega) (fun _=>⟨rfl,rfl,rfl⟩))
  ·rintro lock tt h K ⟨hf,_,k1⟩
   refine ⟨0,hf,Nat.zero_le _,?_⟩
   rintro e vs bs ⟨rfl,rfl,rfl⟩
   exact k1
 ·rintro lock tt h K ⟨hf,hc,_⟩
  exact (hn hc).elim
theorem lE3_ok:LSound Try.prog true (.block 0 (.loop (loopB 0 (bodyOf Try.prog 20)))) (ntOf Try.prog 20) (lE3 p q r v):=by
 by_cases hn:okD p q r
 ·have hp:=hn.1
  refine loop_rowD hmix good0 (un:=10) (ds:=dsE1) (ns:=[]) (nx:=0) (lsp:=fun i:Nat=>tabB [(2,lE2 p q r v i)]) (fun i:Nat=>VE1 (d3 p q r v) i) (fun _=>[]) (fun i=>i<=p) (fun i=>p - i) (fun _ e vs bs=>e=.exit 0/\bs=[]/\vs=VE1 (d3 p q r v) p) (fun _ _=>lsp_one (by kernel_rfl) lE2_ok) ?_ ?_
  ·rintro i h0
   refine cast (s3_ev p q r v i _).symm ?_
   by_cases hlt:i<p
   ·refine cond_dk (by omega) (cond_dk ⟨by omega,by omega⟩ (cond_dk ⟨by omega,by omega⟩ (cond_nd (fun h=>(h rfl).elim) (fun _=>⟨⟨⟨rfl,rfl,trivial⟩,rfl,rfl,rfl,rfl,rfl,trivial⟩,⟨hn,hlt⟩,cond_r (by omega) ⟨i+1,by omega,by dsimp only; omega,rfl,fitBs_refl _,fun _ _ _ h=>h⟩⟩))))
   ·obtain rfl:i=p:=by omega
    exact cond_d (fun h=>by omega) (fun _=>⟨rfl,rfl,rfl⟩)
  ·rintro lock tt h K ⟨hf,_,k1⟩
   refine ⟨0,hf,Nat.zero_le _,?_⟩
   rintro e vs bs ⟨rfl,rfl,rfl⟩
   exact k1
 ·rintro lock tt h K ⟨hf,hc,_⟩
  exact (hn hc).elim
theorem plans_v (hn:okD p q r):∃ h',CallsV Try.prog 20 [d3 p q r v,d3 p q r v] ⟨0,[]⟩ (.ret (.bool true)) h':=by
 have hall:LoopsOk Try.prog 20 [(0,lE3 p q r v)]:=fun x hx=>by
  simp only [List.mem_singleton] at hx
  subst hx
  exact ⟨by kernel_rfl,lE3_ok⟩
 obtain ⟨r,h',rfl,hc⟩:=of_callN (callL_good hmix noSp hall (un:=10) 20) (f:=20) (args:=[d3 p q r v,d3 p q r v]) (h:=⟨0,[]⟩) (K:=fun r _=>r=.ret (.bool true)) (cast (s3f_ev p q r v _).symm (cond_nd (fun h=>(h rfl).elim) (fun _=>⟨fitP_self rfl,hn,rfl⟩)))
 exact ⟨h',hc⟩
end
theorem calls_args {P:Program} {f:FuncId} {args args2:List VV} {h h':VH} {r:VRes} (hs:CallsV P f args2 h r h') (hv:∀ (R:Rn) (xs:List Value),VRelL R args xs->VRelL R args2 xs):CallsV P f args h r h':=fun B R w xs em hx=>hs B R w xs em (hv R xs hx)
theorem wk_two {x y x' y':VV} (h1:wkL [x] [x']) (h2:wkL [y] [y']) (R:Rn) (xs:List Value) (h:VRelL R [x,y] xs):VRelL R [x',y'] xs:=by
 obtain ⟨a,_,k1,⟨b,_,k2,k3,rfl⟩,rfl⟩:=h
 obtain ⟨_,_,u1,_,e1⟩:=h1.1 R [a] ⟨a,[],k1,rfl,rfl⟩
 obtain ⟨_,_,u2,_,e2⟩:=h2.1 R [b] ⟨b,[],k2,rfl,rfl⟩
 cases e1
 cases e2
 exact ⟨_,_,u1,⟨_,_,u2,k3,rfl⟩,rfl⟩
def spR:FuncId × Spec1:=(20,fun _ args h K=>match args with
 | [x,y]=>∃ (x' y':VV) (p:Nat) (q:Nat->Nat) (r:Nat->Nat->Nat) (v:Nat->Nat->Nat->Int),isD h 2 x x'/\isD h 2 y y'/\(wkL [x'] [d3 p q r v]/\wkL [y'] [d3 p q r v])/\okD p q r/\K (.ret (.bool true)) h
 | _=>False)
theorem spR_ok:SpOk Try.prog spR.1 spR.2:=by
 intro lock args h K hK
 simp only [spR] at hK
 split at hK
 ·obtain ⟨x',y',p,q,r,v,hx,hy,⟨w1,w2⟩,hL,hK⟩:=hK
  obtain ⟨h',hv⟩:=plans_v (v:=v) hL
  exact ⟨_,h,hK,lockP_refl _ _,calls_lendDP 2 (calls_args hv (wk_two w1 w2)) rfl ⟨hx,hy,trivial⟩⟩
 ·exact hK.elim
def smR:FuncId × Spec1:=(37,fun _ args h K=>match args with
 | []=>K (.ret (.tup [stD L0,.agg (tsL T0)])) h
 | _=>False)
def P0:List (List Int):=[[150,150],[150,0]]
def plOk (P:List (List Int)) (g:Nat->List VV):Prop:=∀ i,i<P.length->wkL (g i) (pthG P i)
def plA:FuncId × Spec1:=(17,fun lock args h K=>match args,h with
 | [a,b,.sl m L],⟨nx,bs⟩=>a=stD L0/\b=.agg (tsL T0)/\(lock=0/\L=2/\∃ g ty,(VH.mk nx bs).at m=.vec 2 g 1 ty/\plOk P0 g)/\∀ x,planF L0 T0 P0 2 2 3 (mostF L0)=some x->K (.ret (.tup [plnD 3 2 2 x,I 0])) ⟨nx,(m,.gone)::bs⟩
 | _,_=>False)
theorem al_ev (Q:VRes->Prop):callN Try.prog (tabS [smR,cheapR L0 T0,plA,inR,spR]) noL 10 20 0 (.fn 16) [] ⟨0,[]⟩ (fun r h=>Q r) =
 (stD L0=stD L0/\VV.agg (tsL T0)=VV.agg (tsL T0)/\(chpE L0 T0 (0:Int) (300:Int) ≠ (0:Int)->stD L0=stD L0/\VV.agg (tsL T0)=VV.agg (tsL T0)/\(0=0/\2=2/\∃ (g:Nat->List VV),∃ (ty:TypeId),(VH.mk (4) [(3,.vec 2 (fun (j:Nat)=>List.take (1) (List.drop (j*(1)) [.tl 2 (1) fun (j:Nat)=>List.take (1) (List.drop (j*(1)) [I 150,I 150]),.tl 2 (1) fun (j:Nat)=>List.take (1) (List.drop (j*(1)) [I 150,I 0])])) (1) 23),(2,.gone),(1,.gone),(2,.vec 2 (fun (j:Nat)=>List.take (1) (List.drop (j*(1)) [I 150,I 0])) (1) 3),(1,.vec 2 (fun (j:Nat)=>List.take (1) (List.drop (j*(1)) [I 150,I 150])) (1) 3),(0,.cells [.tl T0.T.length 1 (dG T0.T),I T0.far,I T0.least] 25),(0,.cells [.nils,I 0,I 0] 25)]).at (3)=VB.vec 2 g 1 ty/\plOk P0 g)/\∀ (x:Rsl),planF L0 T0 P0 2 2 3 (mostF L0)=some x->∃ (L:Nat),∃ (n:Nat->Int),isD (VH.mk (5) [(4,.vec 3 (fun (j:Nat)=>List.take (1) (List.drop (j*(1)) [I 2,I 1,I 0])) (1) 3),(3,.gone),(3,.vec 2 (fun (j:Nat)=>List.take (1) (List.drop (j*(1)) [.tl 2 (1) fun (j:Nat)=>List.take (1) (List.drop (j*(1)) [I 150,I 150]),.tl 2 (1) fun (j:Nat)=>List.take (1) (List.drop (j*(1)) [I 150,I 0])])) (1) 23),(2,.gone),(1,.gone),(2,.vec 2 (fun (j:Nat)=>List.take (1) (List.drop (j*(1)) [I 150,I 0])) (1) 3),(1,.vec 2 (fun (j:Nat)=>List.take (1) (List.drop (j*(1)) [I 150,I 150])) (1) 3),(0,.cells [.tl T0.T.length 1 (dG T0.T),I T0.far,I T0.least] 25),(0,.cells [.nils,I 0,I 0] 25)]) 2 VV.nils (d1 L n)/\isD (VH.mk (5) [(4,.vec 3 (fun (j:Nat)=>List.take (1) (List.drop (j*(1)) [I 2,I 1,I 0])) (1) 3),(3,.gone),(3,.vec 2 (fun (j:Nat)=>List.take (1) (List.drop (j*(1)) [.tl 2 (1) fun (j:Nat)=>List.take (1) (List.drop (j*(1)) [I 150,I 150]),.tl 2 (1) fun (j:Nat)=>List.take (1) (List.drop (j*(1)) [I 150,I 0])])) (1) 23),(2,.gone),(1,.gone),(2,.vec 2 (fun (j:Nat)=>List.take (1) (List.drop (j*(1)) [I 150,I 0])) (1) 3),(1,.vec 2 (fun (j:Nat)=>List.take (1) (List.drop (j*(1)) [I 150,I 150])) (1) 3),(0,.cells [.tl T0.T.length 1 (dG T0.T),I T0.far,I T0.least] 25),(0,.cells [.nils,I 0,I 0] 25)]) 2 (VV.sl (4) 3) (d1 L n)/\L<=100000/\Q (.ret (.bool false)))/\(chpE L0 T0 (0:Int) (300:Int)=(0:Int)->∀ (c:Nat->Int),chpF L0 T0 (0:Int) (300:Int)=some c->stD L0=stD L0/\VV.agg (tsL T0)=VV.agg (tsL T0)/\(0=0/\2=2/\∃ (g:Nat->List VV),∃ (ty:TypeId),(VH.mk (4) [(3,.vec 2 (fun (j:Nat)=>List.take (1) (List.drop (j*(1)) [.tl 2 (1) fun (j:Nat)=>List.take (1) (List.drop (j*(1)) [I 150,I 150]),.tl 2 (1) fun (j:Nat)=>List.take (1) (List.drop (j*(1)) [I 150,I 0])])) (1) 23),(2,.gone),(1,.gone),(2,.vec 2 (fun (j:Nat)=>List.take (1) (List.drop (j*(1)) [I 150,I 0])) (1) 3),(1,.vec 2 (fun (j:Nat)=>List.take (1) (List.drop (j*(1)) [I 150,I 150])) (1) 3),(0,.cells [.tl T0.T.length 1 (dG T0.T),I T0.far,I T0.least] 25),(0,.cells [.nils,I 0,I 0] 25)]).at (3)=VB.vec 2 g 1 ty/\plOk P0 g)/\∀ (x:Rsl),planF L0 T0 P0 2 2 3 (mostF L0)=some x->∃ (L:Nat),∃ (n:Nat->Int),isD (VH.mk (5) [(4,.vec 3 (fun (j:Nat)=>List.take (1) (List.drop (j*(1)) [I 2,I 1,I 0])) (1) 3),(3,.gone),(3,.vec 2 (fun (j:Nat)=>List.take (1) (List.drop (j*(1)) [.tl 2 (1) fun (j:Nat)=>List.take (1) (List.drop (j*(1)) [I 150,I 150]),.tl 2 (1) fun (j:Nat)=>List.take (1) (List.drop (j*(1)) [I 150,I 0])])) (1) 23),(2,.gone),(1,.gone),(2,.vec 2 (fun (j:Nat)=>List.take (1) (List.drop (j*(1)) [I 150,I 0])) (1) 3),(1,.vec 2 (fun (j:Nat)=>List.take (1) (List.drop (j*(1)) [I 150,I 150])) (1) 3),(0,.cells [.tl T0.T.length 1 (dG T0.T),I T0.far,I T0.least] 25),(0,.cells [.nils,I 0,I 0] 25)]) 2 (VV.tl L0.length 1 (chG c)) (d1 L n)/\isD (VH.mk (5) [(4,.vec 3 (fun (j:Nat)=>List.take (1) (List.drop (j*(1)) [I 2,I 1,I 0])) (1) 3),(3,.gone),(3,.vec 2 (fun (j:Nat)=>List.take (1) (List.drop (j*(1)) [.tl 2 (1) fun (j:Nat)=>List.take (1) (List.drop (j*(1)) [I 150,I 150]),.tl 2 (1) fun (j:Nat)=>List.take (1) (List.drop (j*(1)) [I 150,I 0])])) (1) 23),(2,.gone),(1,.gone),(2,.vec 2 (fun (j:Nat)=>List.take (1) (List.drop (j*(1)) [I 150,I 0])) (1) 3),(1,.vec 2 (fun (j:Nat)=>List.take (1) (List.drop (j*(1)) [I 150,I 150])) (1) 3),(0,.cells [.tl T0.T.length 1 (dG T0.T),I T0.far,I T0.least] 25),(0,.cells [.nils,I 0,I 0] 25)]) 2 (VV.sl (4) 3) (d1 L n)/\L<=100000/\bif decide (costF L0 c=(130:Int)) then
 ∃ (x':VV),∃ (y':VV),∃ (p:Nat),∃ (q:Nat->Nat),∃ (r:Nat->Nat->Nat),∃ (v:Nat->Nat->Nat->Int),isD (VH.mk (12) [(11,.vec 2 (fun (j:Nat)=>List.take (1) (List.drop (j*(1)) [.tl 2 (1) fun (j:Nat)=>List.take (1) (List.drop (j*(1)) [.tl 3 (1) fun (j:Nat)=>List.take (1) (List.drop (j*(1)) [I 1,I 1,I 0]),.tl 3 (1) fun (j:Nat)=>List.take (1) (List.drop (j*(1)) [I 1,I 1,I 0])]),.tl 2 (1) fun (j:Nat)=>List.take (1) (List.drop (j*(1)) [.tl 3 (1) fun (j:Nat)=>List.take (1) (List.drop (j*(1)) [I 1,I 1,I 0]),.tl 3 (1) fun (j:Nat)=>List.take (1) (List.drop (j*(1)) [I 0,I 0,I 0])])])) (1) 26),(10,.gone),(7,.gone),(10,.vec 2 (fun (j:Nat)=>List.take (1) (List.drop (j*(1)) [.tl 3 (1) fun (j:Nat)=>List.take (1) (List.drop (j*(1)) [I 1,I 1,I 0]),.tl 3 (1) fun (j:Nat)=>List.take (1) (List.drop (j*(1)) [I 0,I 0,I 0])])) (1) 23),(9,.gone),(8,.gone),(9,.vec 3 (fun (j:Nat)=>List.take (1) (List.drop (j*(1)) [I 0,I 0,I 0])) (1) 3),(8,.vec 3 (fun (j:Nat)=>List.take (1) (List.drop (j*(1)) [I 1,I 1,I 0])) (1) 3),(7,.vec 2 (fun (j:Nat)=>List.take (1) (List.drop (j*(1)) [.tl 3 (1) fun (j:Nat)=>List.take (1) (List.drop (j*(1)) [I 1,I 1,I 0]),.tl 3 (1) fun (j:Nat)=>List.take (1) (List.drop (j*(1)) [I 1,I 1,I 0])])) (1) 23),(6,.gone),(5,.gone),(6,.vec 3 (fun (j:Nat)=>List.take (1) (List.drop (j*(1)) [I 1,I 1,I 0])) (1) 3),(5,.vec 3 (fun (j:Nat)=>List.take (1) (List.drop (j*(1)) [I 1,I 1,I 0])) (1) 3),(4,.vec 3 (fun (j:Nat)=>List.take (1) (List.drop (j*(1)) [I 2,I 1,I 0])) (1) 3),(3,.gone),(3,.vec 2 (fun (j:Nat)=>List.take (1) (List.drop (j*(1)) [.tl 2 (1) fun (j:Nat)=>List.take (1) (List.drop (j*(1)) [I 150,I 150]),.tl 2 (1) fun (j:Nat)=>List.take (1) (List.drop (j*(1)) [I 150,I 0])])) (1) 23),(2,.gone),(1,.gone),(2,.vec 2 (fun (j:Nat)=>List.take (1) (List.drop (j*(1)) [I 150,I 0])) (1) 3),(1,.vec 2 (fun (j:Nat)=>List.take (1) (List.drop (j*(1)) [I 150,I 150])) (1) 3),(0,.cells [.tl T0.T.length 1 (dG T0.T),I T0.far,I T0.least] 25),(0,.cells [.nils,I 0,I 0] 25)]) 2 (VV.tl 2 1 (plnG 3 2 x)) x'/\isD (VH.mk (12) [(11,.vec 2 (fun (j:Nat)=>List.take (1) (List.drop (j*(1)) [.tl 2 (1) fun (j:Nat)=>List.take (1) (List.drop (j*(1)) [.tl 3 (1) fun (j:Nat)=>List.take (1) (List.drop (j*(1)) [I 1,I 1,I 0]),.tl 3 (1) fun (j:Nat)=>List.take (1) (List.drop (j*(1)) [I 1,I 1,I 0])]),.tl 2 (1) fun (j:Nat)=>List.take (1) (List.drop (j*(1)) [.tl 3 (1) fun (j:Nat)=>List.take (1) (List.drop (j*(1)) [I 1,I 1,I 0]),.tl 3 (1) fun (j:Nat)=>List.take (1) (List.drop (j*(1)) [I 0,I 0,I 0])])])) (1) 26),(10,.gone),(7,.gone),(10,.vec 2 (fun (j:Nat)=>List.take (1) (List.drop (j*(1)) [.tl 3 (1) fun (j:Nat)=>List.take (1) (List.drop (j*(1)) [I 1,I 1,I 0]),.tl 3 (1) fun (j:Nat)=>List.take (1) (List.drop (j*(1)) [I 0,I 0,I 0])])) (1) 23),(9,.gone),(8,.gone),(9,.vec 3 (fun (j:Nat)=>List.take (1) (List.drop (j*(1)) [I 0,I 0,I 0])) (1) 3),(8,.vec 3 (fun (j:Nat)=>List.take (1) (List.drop (j*(1)) [I 1,I 1,I 0])) (1) 3),(7,.vec 2 (fun (j:Nat)=>List.take (1) (List.drop (j*(1)) [.tl 3 (1) fun (j:Nat)=>List.take (1) (List.drop (j*(1)) [I 1,I 1,I 0]),.tl 3 (1) fun (j:Nat)=>List.take (1) (List.drop (j*(1)) [I 1,I 1,I 0])])) (1) 23),(6,.gone),(5,.gone),(6,.vec 3 (fun (j:Nat)=>List.take (1) (List.drop (j*(1)) [I 1,I 1,I 0])) (1) 3),(5,.vec 3 (fun (j:Nat)=>List.take (1) (List.drop (j*(1)) [I 1,I 1,I 0])) (1) 3),(4,.vec 3 (fun (j:Nat)=>List.take (1) (List.drop (j*(1)) [I 2,I 1,I 0])) (1) 3),(3,.gone),(3,.vec 2 (fun (j:Nat)=>List.take (1) (List.drop (j*(1)) [.tl 2 (1) fun (j:Nat)=>List.take (1) (List.drop (j*(1)) [I 150,I 150]),.tl 2 (1) fun (j:Nat)=>List.take (1) (List.drop (j*(1)) [I 150,I 0])])) (1) 23),(2,.gone),(1,.gone),(2,.vec 2 (fun (j:Nat)=>List.take (1) (List.drop (j*(1)) [I 150,I 0])) (1) 3),(1,.vec 2 (fun (j:Nat)=>List.take (1) (List.drop (j*(1)) [I 150,I 150])) (1) 3),(0,.cells [.tl T0.T.length 1 (dG T0.T),I T0.far,I T0.least] 25),(0,.cells [.nils,I 0,I 0] 25)]) 2 (VV.sl (11) 2) y'/\(wkL [x'] [d3 p q r v]/\wkL [y'] [d3 p q r v])/\okD p q r/\Q (.ret (.bool (decide ((0:Int)=(0:Int)))))
 else Q (.ret (.bool false)))):=by kernel_rfl
theorem ok0:okAll L0 T0=true:=by decide +kernel
theorem okP0:okPaths P0=true:=by decide +kernel
theorem chp0:(chpF L0 T0 0 300).map (fun c=>(c 0,c 1,c 2,costF L0 c))=some (2,1,0,130):=by decide +kernel
theorem pln0:(planF L0 T0 P0 2 2 3 (mostF L0)).map (fun x=>[x 0 0 0,x 0 0 1,x 0 0 2,x 0 1 0,x 0 1 1,x 0 1 2,x 1 0 0,x 1 0 1,x 1 0 2,x 1 1 0,x 1 1 1,x 1 1 2])=some [1,1,0,1,1,0,1,1,0,0,0,0]:=by decide +kernel
theorem smR_ok:SpOk Try.prog smR.1 smR.2:=by
 intro lock args h K hK
 simp only [smR] at hK
 split at hK
 ·obtain ⟨h',hc⟩:=sample_v
  exact ⟨_,h,hK,lockP_refl _ _,calls_lift0 hc rfl rfl⟩
 ·exact hK.elim
theorem cfg0:Cfg L0 T0 P0 2:=by
 obtain ⟨hl,hp,ht,_⟩:=okAll_l ok0
 refine ⟨hl,hp,okT_tB ht,by decide,by decide,fun i hi=>?_,fun i j=>?_⟩
 ·have hi:i<2:=hi
  match i,hi with
  | 0,_=>rfl
  | 1,_=>rfl
  | _+2,hi=>omega
 ·match i,j with
  | 0,0=>exact ⟨by decide,by decide⟩
  | 0,1=>exact ⟨by decide,by decide⟩
  | 0,_+2=>exact (show (0:Int)<=0/\(0:Int)<=1048576 from ⟨by decide,by decide⟩)
  | 1,0=>exact ⟨by decide,by decide⟩
  | 1,1=>exact ⟨by decide,by decide⟩
  | 1,_+2=>exact (show (0:Int)<=0/\(0:Int)<=1048576 from ⟨by decide,by decide⟩)
  | _+2,_=>exact (show (0:Int)<=0/\(0:Int)<=1048576 from ⟨by decide,by decide⟩)
theorem pthB0:pthB P0:=by
 refine ⟨⟨by decide,by decide⟩,fun i=>?_⟩
 match i with
 | 0=>decide
 | 1=>decide
 | _+2=>exact (show 0<=100000 by decide)
theorem plA_ok:SpOk Try.prog plA.1 plA.2:=by
 intro lock args h K hK
 simp only [plA] at hK
 split at hK
 ·rename_i a b m L nx bs
  obtain ⟨rfl,rfl,⟨rfl,rfl,g,ty,hm,hg⟩,hK⟩:=hK
  obtain ⟨r,h',hc,hk⟩:=plo2 (l:=L0) (t:=T0) (D0:=[150,150]) (D1:=[150,0]) (G:=fun _ _=>0) ok0 okP0 cfg0 pthB0
  rcases plo_out hc hk with ⟨hn,_⟩ | ⟨x,hx,hc2⟩
  ·have:=pln0
   rw [show planF L0 T0 P0 2 2 3 (mostF L0)=none from hn] at this
   cases this
  ·have hc3:CallsV Try.prog 17 [stD L0,.agg (tsL T0),pthD P0] ⟨nx,(m,.gone)::bs⟩ (.ret (.tup [plnD 3 2 2 x,I 0])) ⟨nx,(m,.gone)::bs⟩:=calls_lift0 hc2 rfl rfl
   have hc4:CallsV Try.prog 17 [stD L0,.agg (tsL T0),.tl 2 1 g] ⟨nx,(m,.gone)::bs⟩ (.ret (.tup [plnD 3 2 2 x,I 0])) ⟨nx,(m,.gone)::bs⟩:=calls_args hc3 (fun R xs hx=>by
    obtain ⟨y0,_,k0,⟨y1,_,k1,⟨y2,_,k2,k3,rfl⟩,rfl⟩,rfl⟩:=hx
    obtain ⟨_,_,u1,_,e1⟩:=(tl_weak (L:=2) (L':=2) (s:=1) (g:=g) (g':=pthG P0) rfl hg).1 R [y2] ⟨y2,[],k2,rfl,rfl⟩
    cases e1
    exact ⟨_,_,k0,⟨_,_,k1,⟨_,_,u1,k3,rfl⟩,rfl⟩,rfl⟩)
   refine ⟨_,_,hK x hx,lock0 _ _,calls_told (h:=⟨nx,bs⟩) (m:=m) (L:=2) (s:=1) (g:=g) (t:=ty) hc4 hm (fun R R' xs hle hv hxs=>?_)⟩
   obtain ⟨y0,_,k0,⟨y1,_,k1,⟨y2,_,k2,k3,rfl⟩,rfl⟩,rfl⟩:=hxs
   exact ⟨_,_,VRel.mono hle _ _ k0,⟨_,_,VRel.mono hle _ _ k1,⟨_,_,hv y2 k2,VRelL.mono hle _ _ k3,rfl⟩,rfl⟩,rfl⟩
 ·exact hK.elim
theorem wk_lit3 {a b c:Int} {n:Nat->Int} (h0:n 0=a) (h1:n 1=b) (h2:n 2=c):wkL [.tl 3 1 (fun j=>List.take 1 (List.drop (j*1) [I a,I b,I c]))] [d1 3 n]:=tl_weak rfl (fun j hj=>by
 subst h0; subst h1; subst h2
 match j,hj with
 | 0,_=>exact wkL_refl _
 | 1,_=>exact wkL_refl _
 | 2,_=>exact wkL_refl _
 | _+3,hj=>omega)
theorem chpE0:chpE L0 T0 0 300=0:=by
 unfold chpE
 rw [if_neg (by rw [ok0]; simp),if_neg (by omega),if_neg (fun h=>by have:=chp0; rw [h] at this; cases this)]
theorem al_tab:∀ f T,tabS [smR,cheapR L0 T0,plA,inR,spR] f=some T->SpOk Try.prog f T:=tab_ok _ (fun x hx=>by
 simp only [List.mem_cons,List.not_mem_nil,or_false] at hx
 rcases hx with rfl | rfl | rfl | rfl | rfl
 ·exact smR_ok
 ·exact cheapR_ok L0 T0
 ·exact plA_ok
 ·exact inR_ok
 ·exact spR_ok)
theorem alive_v:∃ h',CallsV Try.prog 16 [] ⟨0,[]⟩ (.ret (.bool true)) h':=by
 obtain ⟨r,h',rfl,hc⟩:=of_callN (noL_good al_tab) (f:=16) (args:=[]) (h:=⟨0,[]⟩) (K:=fun r _=>r=.ret (.bool true)) (by
  refine cast (al_ev _).symm ⟨rfl,rfl,fun h=>(h chpE0).elim,fun _ c hc=>?_⟩
  have h0:=chp0
  rw [hc] at h0
  have h0:(c 0,c 1,c 2,costF L0 c)=(2,1,0,130):=by simpa using h0
  simp only [Prod.mk.injEq] at h0
  obtain ⟨c0,c1,c2,c3⟩:=h0
  refine ⟨rfl,rfl,⟨rfl,rfl,_,_,rfl,?_⟩,fun x hx=>?_⟩
  ·intro i hi
   have hi:i<2:=hi
   have key:∀ a b:Int,wkL [.tl 2 1 (fun j=>List.take 1 (List.drop (j*1) [I a,I b]))] [inD [a,b]]:=fun a b=>tl_weak rfl (fun j hj=>by
    match j,hj with
    | 0,_=>exact wkL_refl _
    | 1,_=>exact wkL_refl _
    | _+2,hj=>exact absurd hj (by show ¬ _+2<2; omega))
   match i,hi with
   | 0,_=>exact key 150 150
   | 1,_=>exact key 150 0
   | _+2,hi=>omega
  ·have h1:=pln0
   rw [hx] at h1
   have h1:[x 0 0 0,x 0 0 1,x 0 0 2,x 0 1 0,x 0 1 1,x 0 1 2,x 1 0 0,x 1 0 1,x 1 0 2,x 1 1 0,x 1 1 1,x 1 1 2]=[1,1,0,1,1,0,1,1,0,0,0,0]:=by simpa using h1
   simp only [List.cons.injEq,and_true] at h1
   obtain ⟨e1,e2,e3,e4,e5,e6,e7,e8,e9,ea,eb,ec⟩:=h1
   refine ⟨3,c,⟨rfl,rfl,fun _ _=>rfl⟩,⟨rfl,Nat.le_refl _,_,_,rfl,fun j hj=>?_⟩,by omega,cond_dk c3 ?_⟩
   ·match j,hj with
    | 0,_=>exact congrArg (fun n=>[I n]) c0.symm
    | 1,_=>exact congrArg (fun n=>[I n]) c1.symm
    | 2,_=>exact congrArg (fun n=>[I n]) c2.symm
    | _+3,hj=>omega
   ·refine ⟨.tl 2 1 (plnG 3 2 x),.tl 2 1 _,2,fun _=>2,fun _ _=>3,x,⟨rfl,rfl,fun _ _=>rfl⟩,⟨rfl,Nat.le_refl _,_,_,rfl,fun _ _=>rfl⟩,⟨wkL_refl _,tl_weak rfl (fun i hi=>?_)⟩,⟨by omega,fun _=>(show 2<=100000 by omega),fun _ _=>(show 3<=100000 by omega)⟩,rfl⟩
    match i,hi with
    | 0,_=>
     refine tl_weak rfl (fun y hy=>?_)
     match y,hy with
     | 0,_=>exact wk_lit3 e1 e2 e3
     | 1,_=>exact wk_lit3 e4 e5 e6
     | _+2,hy=>exact absurd hy (by show ¬ _+2<2; omega)
    | 1,_=>
     refine tl_weak rfl (fun y hy=>?_)
     match y,hy with
     | 0,_=>exact wk_lit3 e7 e8 e9
     | 1,_=>exact wk_lit3 ea eb ec
     | _+2,hy=>exact absurd hy (by show ¬ _+2<2; omega)
    | _+2,hi=>exact absurd hi (by show ¬ _+2<2; omega))
 exact ⟨h',hc⟩
theorem alT_ok:SpOk Try.prog alT.1 alT.2:=by
 intro lock args h K hK
 simp only [alT] at hK
 split at hK
 ·obtain ⟨h',hc⟩:=alive_v
  exact ⟨_,h,hK,lockP_refl _ _,calls_lift0 hc rfl rfl⟩
 ·exact hK.elim
theorem great_len {l:List Stk} {t:Tst} {m:Int} (h:greatF l t m=false):l.length<=8/\t.T.length<=6/\anyG l=false/\pF l l.length<=m:=by
 unfold greatF at h
 simp only [Bool.or_eq_false_iff,decide_eq_false_iff_not] at h
 obtain ⟨⟨h1,h2⟩,h3⟩:=h
 exact ⟨by omega,by omega,h2,by omega⟩
end Go.Sx.Bln
namespace Go.Sx
open Go
section
variable {P:Program}
end
end Go.Sx
namespace Go.Sx.Bln
open Go Go.Sx Go.Proofs
set_option maxRecDepth 1000000
theorem room24 {n:Nat} (h:n<=2000000):roomB n 24=true:=by
 unfold roomB
 rw [Nat.ble_eq_true_of_le (by omega),Nat.ble_eq_true_of_le (by omega)]
 rfl
section
variable {D:List Int}
end
section
variable {D:List Int}
end
section
variable {D:List Int} {most:Nat->Int}
end
section
variable {l:List Stk} {t:Tst} {y m:Int} {D:List Int}
end
section
variable {l:List Stk} {t:Tst} {y m:Int}
end
section
variable (l:List Stk) (t:Tst) (y m:Int)
end
section
variable {l:List Stk} {t:Tst} {y m:Int} {D B:List Int}
end
section
variable {l:List Stk} {t:Tst} {y m u:Int} {D:List Int} {n:Nat->Int}
end
section
variable {l:List Stk} {t:Tst} {y m u e n:Int} {D B:List Int}
end
section
variable {l:List Stk} {t:Tst} {y m u:Int} {D B:List Int}
end
def asK (l:List Stk) (t:Tst) (b:Bool):FuncId × Spec1:=(38,fun _ args h K=>match args with
 | [x,y]=>isD h 2 x (stD l)/\isD h 2 y (.agg (tsL t))/\okAll l t=b/\K (.ret (.bool b)) h
 | _=>False)
def apK (p:List (List Int)) (b:Bool):FuncId × Spec1:=(39,fun _ args h K=>match args with
 | [x]=>isD h 4 x (pthD p)/\(pthB p/\okPaths p=b)/\K (.ret (.bool b)) h
 | _=>False)
theorem ple1_ev (l:List Stk) (t:Tst) (p:List (List Int)) (Q:VRes->VH->Prop):callN Try.prog (tabS [asK l t false]) noL 10 20 0 (.fn 17) [stD l,.agg (tsL t),pthD p] ⟨0,[]⟩ (fun r h=>Q r h) =
 (isD (VH.mk (2) [(1,.cells [.tl p.length 1 (pthG p)] 26),(0,.cells (tsL t) 25)]) 2 (stD l) (stD l)/\isD (VH.mk (2) [(1,.cells [.tl p.length 1 (pthG p)] 26),(0,.cells (tsL t) 25)]) 2 (VV.agg (tsL t)) (VV.agg (tsL t))/\okAll l t=false/\Q (.ret (.tup [.nils,I 1])) (VH.mk (2) [(1,.cells [.tl p.length 1 (pthG p)] 26),(0,.cells (tsL t) 25)])):=by kernel_rfl
theorem ple2_ev (l:List Stk) (t:Tst) (p:List (List Int)) (Q:VRes->VH->Prop):callN Try.prog (tabS [asK l t true,apK p false]) noL 10 20 0 (.fn 17) [stD l,.agg (tsL t),pthD p] ⟨0,[]⟩ (fun r h=>Q r h) =
 (isD (VH.mk (2) [(1,.cells [.tl p.length 1 (pthG p)] 26),(0,.cells (tsL t) 25)]) 2 (stD l) (stD l)/\isD (VH.mk (2) [(1,.cells [.tl p.length 1 (pthG p)] 26),(0,.cells (tsL t) 25)]) 2 (VV.agg (tsL t)) (VV.agg (tsL t))/\okAll l t=true/\isD (VH.mk (2) [(1,.cells [.tl p.length 1 (pthG p)] 26),(0,.cells (tsL t) 25)]) 4 (VV.tl p.length 1 (pthG p)) (pthD p)/\(pthB p/\okPaths p=false)/\Q (.ret (.tup [.nils,I 2])) (VH.mk (2) [(1,.cells [.tl p.length 1 (pthG p)] 26),(0,.cells (tsL t) 25)])):=by kernel_rfl
def plE (l:List Stk) (t:Tst) (p:List (List Int)):Int:=if okAll l t=false then 1 else if okPaths p=false then 2 else match planF l t p (p.getD 0 []).length (p.getD 0 []).length (2 ^ p.length - 1) (mostF l) with
 | none=>4
 | some _=>0
theorem asK_ok (l:List Stk) (t:Tst) (b:Bool):SpOk Try.prog (asK l t b).1 (asK l t b).2:=by
 intro lock args h K hK
 simp only [asK] at hK
 split at hK
 ·obtain ⟨h1,h2,rfl,hK⟩:=hK
  exact asT_ok lock _ h K ⟨l,t,h1,h2,hK⟩
 ·exact hK.elim
theorem apK_ok (p:List (List Int)) (b:Bool):SpOk Try.prog (apK p b).1 (apK p b).2:=by
 intro lock args h K hK
 simp only [apK] at hK
 split at hK
 ·obtain ⟨h1,⟨h2,rfl⟩,hK⟩:=hK
  exact apR_ok p lock _ h K ⟨h1,h2,hK⟩
 ·exact hK.elim
section
variable {l:List Stk} {t:Tst} {p:List (List Int)} {m:Int}
def PlnOut (l:List Stk) (t:Tst) (p:List (List Int)):Prop:=∃ r h',CallsV Try.prog 17 [stD l,.agg (tsL t),pthD p] ⟨0,[]⟩ r h'/\((plE l t p ≠ 0/\r=.ret (.tup [.nils,I (plE l t p)])) ∨ (plE l t p=0/\∃ x,planF l t p (p.getD 0 []).length (p.getD 0 []).length (2 ^ p.length - 1) (mostF l)=some x/\r=.ret (.tup [plnD l.length p.length (p.getD 0 []).length x,I 0])))
theorem plE_1 (h:okAll l t=false):plE l t p=1:=by unfold plE; rw [if_pos h]
theorem plE_2 (h:okAll l t=true) (h2:okPaths p=false):plE l t p=2:=by unfold plE; rw [if_neg (by rw [h]; simp),if_pos h2]
theorem plE_n (h:okAll l t=true) (h2:okPaths p=true) (h3:planF l t p (p.getD 0 []).length (p.getD 0 []).length (2 ^ p.length - 1) (mostF l)=none):plE l t p=4:=by unfold plE; rw [if_neg (by rw [h]; simp),if_neg (by rw [h2]; simp),h3]
theorem plE_s (h:okAll l t=true) (h2:okPaths p=true) {x:Rsl} (h3:planF l t p (p.getD 0 []).length (p.getD 0 []).length (2 ^ p.length - 1) (mostF l)=some x):plE l t p=0:=by unfold plE; rw [if_neg (by rw [h]; simp),if_neg (by rw [h2]; simp),h3]
theorem pln_out (ho:okAll l t=true) (hp:okPaths p=true):PlnOut l t p:=by
 obtain ⟨r,h',hc,hk⟩:=plo_all (G:=fun _ _=>0) ho hp
 rcases plo_out hc hk with ⟨h1,hc2⟩ | ⟨x,h1,hc2⟩
 ·exact ⟨_,_,hc2,.inl ⟨by rw [plE_n ho hp h1]; decide,by rw [plE_n ho hp h1]⟩⟩
 ·exact ⟨_,_,hc2,.inr ⟨plE_s ho hp h1,x,h1,rfl⟩⟩
theorem plnE_v (h:okAll l t=false ∨ (pthB p/\okPaths p=false)):PlnOut l t p:=by
 cases ho:okAll l t with
 | false=>
  obtain ⟨r,h',rfl,hc⟩:=of_callN (noL_good (tab1 (asK_ok l t false))) (f:=17) (args:=[stD l,.agg (tsL t),pthD p]) (h:=⟨0,[]⟩) (K:=fun r _=>r=.ret (.tup [.nils,I 1])) (cast (ple1_ev l t p _).symm ⟨isD_l,isD_t,ho,rfl⟩)
  exact ⟨_,_,hc,.inl ⟨by rw [plE_1 ho]; decide,by rw [plE_1 ho]⟩⟩
 | true=>
  obtain ⟨hb,hp⟩:=h.resolve_left (by rw [ho]; simp)
  have htab:∀ f T,tabS [asK l t true,apK p false] f=some T->SpOk Try.prog f T:=tab_ok _ (fun x hx=>by
   simp only [List.mem_cons,List.not_mem_nil,or_false] at hx
   rcases hx with rfl | rfl
   ·exact asK_ok l t true
   ·exact apK_ok p false)
  obtain ⟨r,h',rfl,hc⟩:=of_callN (noL_good htab) (f:=17) (args:=[stD l,.agg (tsL t),pthD p]) (h:=⟨0,[]⟩) (K:=fun r _=>r=.ret (.tup [.nils,I 2])) (cast (ple2_ev l t p _).symm ⟨isD_l,isD_t,ho,⟨rfl,rfl,fun _ _=>rfl⟩,⟨hb,hp⟩,rfl⟩)
  exact ⟨_,_,hc,.inl ⟨by rw [plE_2 ho hp]; decide,by rw [plE_2 ho hp]⟩⟩
end
theorem wd_ev (p:List (List Int)) (Q:VRes->Prop):callN Try.prog noSpec noL 10 20 0 (.fn 15) [pthD p] ⟨0,[]⟩ (fun r _=>Q r) =
 (let z1:=(decide ((p.length:Int) > (6:Int)));
 (bif decide ((0:Int)<(p.length:Int)) then
 bif decide ((0:Int)<=(0:Int)/\(0:Int)<(p.length:Int)) then
 bif decide ((↑(p.getD (Int.toNat (0:Int)) []).length:Int) > (6:Int)) then
 Q (.ret (.bool true))
 else bif decide ((0:Int)+(1:Int)<(p.length:Int)) then
 bif decide ((0:Int)<=(0:Int)+(1:Int)/\(0:Int)+(1:Int)<(p.length:Int)) then
 bif decide ((↑(p.getD ((0:Int)+(1:Int)).toNat []).length:Int) > (6:Int)) then
 Q (.ret (.bool true))
 else bif decide ((0:Int)+(1:Int)+(1:Int)<(p.length:Int)) then
 bif decide ((0:Int)<=(0:Int)+(1:Int)+(1:Int)/\(0:Int)+(1:Int)+(1:Int)<(p.length:Int)) then
 bif decide ((↑(p.getD ((0:Int)+(1:Int)+(1:Int)).toNat []).length:Int) > (6:Int)) then
 Q (.ret (.bool true))
 else bif decide ((0:Int)+(1:Int)+(1:Int)+(1:Int)<(p.length:Int)) then
 bif decide ((0:Int)<=(0:Int)+(1:Int)+(1:Int)+(1:Int)/\(0:Int)+(1:Int)+(1:Int)+(1:Int)<(p.length:Int)) then
 bif decide ((↑(p.getD ((0:Int)+(1:Int)+(1:Int)+(1:Int)).toNat []).length:Int) > (6:Int)) then
 Q (.ret (.bool true))
 else bif decide ((0:Int)+(1:Int)+(1:Int)+(1:Int)+(1:Int)<(p.length:Int)) then
 bif decide ((0:Int)<=(0:Int)+(1:Int)+(1:Int)+(1:Int)+(1:Int)/\(0:Int)+(1:Int)+(1:Int)+(1:Int)+(1:Int)<(p.length:Int)) then
 bif decide ((↑(p.getD ((0:Int)+(1:Int)+(1:Int)+(1:Int)+(1:Int)).toNat []).length:Int) > (6:Int)) then
 Q (.ret (.bool true))
 else bif decide ((0:Int)+(1:Int)+(1:Int)+(1:Int)+(1:Int)+(1:Int)<(p.length:Int)) then
 bif decide ((0:Int)<=(0:Int)+(1:Int)+(1:Int)+(1:Int)+(1:Int)+(1:Int)/\(0:Int)+(1:Int)+(1:Int)+(1:Int)+(1:Int)+(1:Int)<(p.length:Int)) then
 bif decide ((↑(p.getD ((0:Int)+(1:Int)+(1:Int)+(1:Int)+(1:Int)+(1:Int)).toNat []).length:Int) > (6:Int)) then
 Q (.ret (.bool true))
 else bif decide ((0:Int)+(1:Int)+(1:Int)+(1:Int)+(1:Int)+(1:Int)+(1:Int)<(p.length:Int)) then
 bif decide ((0:Int)<=(0:Int)+(1:Int)+(1:Int)+(1:Int)+(1:Int)+(1:Int)+(1:Int)/\(0:Int)+(1:Int)+(1:Int)+(1:Int)+(1:Int)+(1:Int)+(1:Int)<(p.length:Int)) then
 bif decide ((↑(p.getD ((0:Int)+(1:Int)+(1:Int)+(1:Int)+(1:Int)+(1:Int)+(1:Int)).toNat []).length:Int) > (6:Int)) then
 Q (.ret (.bool true))
 else bif decide ((0:Int)+(1:Int)+(1:Int)+(1:Int)+(1:Int)+(1:Int)+(1:Int)+(1:Int)<(p.length:Int)) then
 Q (.ret (.bool z1))
 else Q (.ret (.bool z1))
 else False
 else Q (.ret (.bool z1))
 else False
 else Q (.ret (.bool z1))
 else False
 else Q (.ret (.bool z1))
 else False
 else Q (.ret (.bool z1))
 else False
 else Q (.ret (.bool z1))
 else False
 else Q (.ret (.bool z1))
 else False
 else Q (.ret (.bool z1)))):=by kernel_rfl
section
variable {p:List (List Int)}
theorem wide_v:∃ (b:Bool) (h':VH),CallsV Try.prog 15 [pthD p] ⟨0,[]⟩ (.ret (.bool b)) h'/\(b=false->p.length<=6/\∀ i,(p.getD i []).length<=6):=by
 obtain ⟨r,h',⟨b,rfl,hb⟩,hc⟩:=of_callN good0 (f:=15) (args:=[pthD p]) (h:=⟨0,[]⟩) (K:=fun r _=>∃ b:Bool,r=.ret (.bool b)/\(b=false->p.length<=6/\∀ i,(p.getD i []).length<=6)) (by
  have hge:∀ i,p.length<=i->(p.getD i []).length<=6:=fun i hi=>by
   rw [List.getD_eq_getElem?_getD,List.getElem?_eq_none hi]
   exact Nat.zero_le _
  have en:(∀ i,i<p.length->(p.getD i []).length<=6)->(decide ((p.length:Int) > 6)=false->p.length<=6/\∀ i,(p.getD i []).length<=6):=fun h hd=>by
   have hd:=of_decide_eq_false hd
   refine ⟨by omega,fun i=>?_⟩
   by_cases hi:i<p.length
   ·exact h i hi
   ·exact hge i (by omega)
  have tr:∃ b:Bool,VRes.ret (VV.bool true)=.ret (.bool b)/\(b=false->p.length<=6/\∀ i,(p.getD i []).length<=6):=⟨true,rfl,fun h=>by cases h⟩
  refine cast (wd_ev p _).symm ?_
  refine cond_d (fun a0=>cond_dk ⟨by omega,by omega⟩ (cond_d (fun _=>tr) (fun c0=>?_))) (fun a0=>⟨_,rfl,en (fun i hi=>by omega)⟩)
  refine cond_d (fun a1=>cond_dk ⟨by omega,by omega⟩ (cond_d (fun _=>tr) (fun c1=>?_))) (fun a1=>⟨_,rfl,en (fun i hi=>by
   obtain rfl:i=0:=by omega
   exact Nat.le_of_not_lt (fun h=>c0 (by show (6:Int)<_; exact_mod_cast h)))⟩)
  refine cond_d (fun a2=>cond_dk ⟨by omega,by omega⟩ (cond_d (fun _=>tr) (fun c2=>?_))) (fun a2=>⟨_,rfl,en (fun i hi=>?_)⟩)
  rotate_left
  ·rcases (by omega:i=0 ∨ i=1) with rfl | rfl
   ·exact Nat.le_of_not_lt (fun h=>c0 (by show (6:Int)<_; exact_mod_cast h))
   ·exact Nat.le_of_not_lt (fun h=>c1 (by show (6:Int)<_; exact_mod_cast h))
  refine cond_d (fun a3=>cond_dk ⟨by omega,by omega⟩ (cond_d (fun _=>tr) (fun c3=>?_))) (fun a3=>⟨_,rfl,en (fun i hi=>?_)⟩)
  rotate_left
  ·rcases (by omega:i=0 ∨ i=1 ∨ i=2) with rfl | rfl | rfl
   ·exact Nat.le_of_not_lt (fun h=>c0 (by show (6:Int)<_; exact_mod_cast h))
   ·exact Nat.le_of_not_lt (fun h=>c1 (by show (6:Int)<_; exact_mod_cast h))
   ·exact Nat.le_of_not_lt (fun h=>c2 (by show (6:Int)<_; exact_mod_cast h))
  refine cond_d (fun a4=>cond_dk ⟨by omega,by omega⟩ (cond_d (fun _=>tr) (fun c4=>?_))) (fun a4=>⟨_,rfl,en (fun i hi=>?_)⟩)
  rotate_left
  ·rcases (by omega:i=0 ∨ i=1 ∨ i=2 ∨ i=3) with rfl | rfl | rfl | rfl
   ·exact Nat.le_of_not_lt (fun h=>c0 (by show (6:Int)<_; exact_mod_cast h))
   ·exact Nat.le_of_not_lt (fun h=>c1 (by show (6:Int)<_; exact_mod_cast h))
   ·exact Nat.le_of_not_lt (fun h=>c2 (by show (6:Int)<_; exact_mod_cast h))
   ·exact Nat.le_of_not_lt (fun h=>c3 (by show (6:Int)<_; exact_mod_cast h))
  refine cond_d (fun a5=>cond_dk ⟨by omega,by omega⟩ (cond_d (fun _=>tr) (fun c5=>?_))) (fun a5=>⟨_,rfl,en (fun i hi=>?_)⟩)
  rotate_left
  ·rcases (by omega:i=0 ∨ i=1 ∨ i=2 ∨ i=3 ∨ i=4) with rfl | rfl | rfl | rfl | rfl
   ·exact Nat.le_of_not_lt (fun h=>c0 (by show (6:Int)<_; exact_mod_cast h))
   ·exact Nat.le_of_not_lt (fun h=>c1 (by show (6:Int)<_; exact_mod_cast h))
   ·exact Nat.le_of_not_lt (fun h=>c2 (by show (6:Int)<_; exact_mod_cast h))
   ·exact Nat.le_of_not_lt (fun h=>c3 (by show (6:Int)<_; exact_mod_cast h))
   ·exact Nat.le_of_not_lt (fun h=>c4 (by show (6:Int)<_; exact_mod_cast h))
  refine cond_d (fun a6=>cond_dk ⟨by omega,by omega⟩ (cond_d (fun _=>tr) (fun _=>?_))) (fun a6=>⟨_,rfl,en (fun i hi=>?_)⟩)
  rotate_left
  ·rcases (by omega:i=0 ∨ i=1 ∨ i=2 ∨ i=3 ∨ i=4 ∨ i=5) with rfl | rfl | rfl | rfl | rfl | rfl
   ·exact Nat.le_of_not_lt (fun h=>c0 (by show (6:Int)<_; exact_mod_cast h))
   ·exact Nat.le_of_not_lt (fun h=>c1 (by show (6:Int)<_; exact_mod_cast h))
   ·exact Nat.le_of_not_lt (fun h=>c2 (by show (6:Int)<_; exact_mod_cast h))
   ·exact Nat.le_of_not_lt (fun h=>c3 (by show (6:Int)<_; exact_mod_cast h))
   ·exact Nat.le_of_not_lt (fun h=>c4 (by show (6:Int)<_; exact_mod_cast h))
   ·exact Nat.le_of_not_lt (fun h=>c5 (by show (6:Int)<_; exact_mod_cast h))
  have ne:decide ((p.length:Int) > 6)=true:=decide_eq_true (by omega)
  exact cond_d (fun _=>⟨_,rfl,fun h=>by rw [ne] at h; cases h⟩) (fun _=>⟨_,rfl,fun h=>by rw [ne] at h; cases h⟩))
 exact ⟨b,h',hc,hb⟩
end
def wiR (p:List (List Int)):FuncId × Spec1:=(15,fun _ args h K=>match args with
 | [x]=>isD h 4 x (pthD p)/\∀ b:Bool,(b=false->p.length<=6/\∀ i,(p.getD i []).length<=6)->K (.ret (.bool b)) h
 | _=>False)
theorem wiR_ok (p:List (List Int)):SpOk Try.prog (wiR p).1 (wiR p).2:=by
 intro lock args h K hK
 simp only [wiR] at hK
 split at hK
 ·obtain ⟨h1,hK⟩:=hK
  obtain ⟨b,h',hc,hb⟩:=wide_v (p:=p)
  exact ⟨_,h,hK b hb,lockP_refl _ _,calls_lendDP 4 hc rfl ⟨h1,trivial⟩⟩
 ·exact hK.elim
def grY (l:List Stk) (t:Tst) (b:Bool):FuncId × Spec1:=(14,fun _ args h K=>match args with
 | [x,z,.int .i64 m]=>isD h 4 x (stD l)/\isD h 4 z (.agg (tsL t))/\greatF l t m=b/\K (.ret (.bool b)) h
 | _=>False)
section
variable {l:List Stk} {t:Tst} {y m:Int}
end
section
variable {l:List Stk} {t:Tst} {y m:Int} {n:Nat->Int}
end
section
variable {l:List Stk} {t:Tst}
end
theorem grY_ok (l:List Stk) (t:Tst) (b:Bool):SpOk Try.prog (grY l t b).1 (grY l t b).2:=by
 intro lock args h K hK
 simp only [grY] at hK
 split at hK
 ·obtain ⟨h1,h2,rfl,hK⟩:=hK
  exact greatT_ok lock _ h K ⟨l,t,h1,h2,hK⟩
 ·exact hK.elim
section
variable {l:List Stk} {t:Tst} {m le:Int}
end
end Go.Sx.Bln
