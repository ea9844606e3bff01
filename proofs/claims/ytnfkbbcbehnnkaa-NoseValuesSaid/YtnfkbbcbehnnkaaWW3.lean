/- stream: Nk4 Nk5 Oi1 Oi2 Oj1 Oj2, in one text. -/
import Derived.Test.YtnfkbbcbehnnkaaWW2
namespace Go.Sx.Nos
open Go Go.Sx Go.Proofs
set_option maxRecDepth 1000000
section
variable {p q:Pn} {a b a' b':Nd}
theorem far_cases (hp:PnOk p) (hf:fitF p) (ha:thP p a) (hb:thP p b):(farAB p a b=WW/\Un p a b) ∨ (farAB p a b ≠ WW/\Mx p a b (farAB p a b)/\-66000000<=farAB p a b/\farAB p a b<=66000000):=by
 have ma:=(mem_no hp a).2 ha
 have mb:=(mem_no hp b).2 hb
 by_cases h:farAB p a b=WW
 ·exact .inl ⟨h,far_un hp hf ma mb h⟩
 ·exact .inr ⟨h,far_mx hp hf ma mb h⟩
theorem btF_cases (p:Pn) (a b:Nd):(¬ PnOk p/\btF p a b=(0,0,1)) ∨ (PnOk p/\¬ (thP p a/\thP p b)/\btF p a b=(0,0,4)) ∨ (PnOk p/\(thP p a/\thP p b)/\¬ fitF p/\btF p a b=(0,0,6)) ∨
  (PnOk p/\(thP p a/\thP p b)/\fitF p/\(Un p a b ∨ Un p b a)/\btF p a b=(0,0,12)) ∨
  (PnOk p/\(thP p a/\thP p b)/\fitF p/\∃ lo hi:Int,Mx p a b hi/\Mx p b a (-lo)/\-66000000<=lo/\lo<=hi/\hi<=66000000/\btF p a b=(lo,hi,0)):=by
 unfold btF
 by_cases hp:PnOk p
 ·by_cases ht:thP p a/\thP p b
  ·by_cases hf:fitF p
   ·right; right; right
    rw [if_pos hp,if_pos ht,if_pos hf]
    rcases far_cases hp hf ht.1 ht.2 with ⟨h1,h2⟩ | ⟨h1,h2,h3⟩
    ·exact .inl ⟨hp,ht,hf,.inl h2,by rw [if_pos (.inl h1)]⟩
    ·rcases far_cases hp hf ht.2 ht.1 with ⟨g1,g2⟩ | ⟨g1,g2,g3⟩
     ·exact .inl ⟨hp,ht,hf,.inr g2,by rw [if_pos (.inr g1)]⟩
     ·refine .inr ⟨hp,ht,hf,0 - farAB p b a,farAB p a b,h2,by rwa [show -(0 - farAB p b a)=farAB p b a by omega],by omega,?_,by omega,by rw [if_neg (fun h=>h.elim h1 g1)]⟩
      obtain ⟨x,hx,hv⟩:=h2.2
      have:=g2.1 x hx
      omega
   ·exact .inr (.inr (.inl ⟨hp,ht,hf,by rw [if_pos hp,if_pos ht,if_neg hf]⟩))
  ·exact .inr (.inl ⟨hp,ht,by rw [if_pos hp,if_neg ht]⟩)
 ·exact .inl ⟨hp,by rw [if_neg hp]⟩
theorem btF_ok {lo hi:Int} (hp:PnOk p) (ht:thP p a/\thP p b) (hf:fitF p) (h1:Mx p a b hi) (h2:Mx p b a (-lo)):btF p a b=(lo,hi,0):=by
 rcases btF_cases p a b with h | h | h | h | ⟨_,_,_,lo',hi',g1,g2,_,_,_,g3⟩
 ·exact absurd hp h.1
 ·exact absurd ht h.2.1
 ·exact absurd hf h.2.2.1
 ·rcases h.2.2.2.1 with h | h
  ·exact (h1.not_un h).elim
  ·exact (h2.not_un h).elim
 ·have e1:=h1.uniq g1
  have e2:=h2.uniq g2
  rw [g3,e1,show lo=lo' by omega]
end
end Go.Sx.Nos
namespace Go.Sx.Nos
open Go Go.Sx Go.Proofs
set_option maxRecDepth 1000000
def sampP:Pn:=⟨[0,10],[⟨0,0,0,500,20⟩,⟨0,1,0,530,20⟩,⟨1,0,3,700,5⟩,⟨1,1,5,735,5⟩],[⟨0,480,490⟩]⟩
def lkSm:List Lk:=[(vN 0,cN 0 0,520),(cN 0 0,vN 0,-480),(vN 1,cN 0 0,550),(cN 0 0,vN 1,-510),(vN 0,cN 1 3,705),(cN 1 3,vN 0,-695),(cN 1 3,cN 1 5,20),(cN 1 5,cN 1 3,20),(vN 1,cN 1 5,740),(cN 1 5,vN 1,-730),(vN 0,zeroN,490),(zeroN,vN 0,-480)]
theorem links_samp:links sampP=lkSm:=by decide
theorem samp_ok:PnOk sampP:=panB_iff.1 (by decide)
def sx1 (a:Nd):Int:=if a=vN 0 then 490 else if a=vN 1 then 555 else if a=cN 0 0 then 5 else if a=cN 1 3 then -205 else if a=cN 1 5 then -185 else 0
def sx2 (a:Nd):Int:=if a=vN 0 then 480 else if a=vN 1 then 485 else if a=cN 0 0 then -30 else if a=cN 1 3 then -225 else if a=cN 1 5 then -245 else 0
theorem sol1:Sol sampP sx1:=by unfold Sol; rw [links_samp]; decide
theorem sol2:Sol sampP sx2:=by unfold Sol; rw [links_samp]; decide
theorem samp_fit:fitF sampP:=(fit_iff samp_ok).2 ⟨_,sol1⟩
theorem samp_th {a:Nd} (h:(lkSm.any fun l=>l.1 == a)=true):thP sampP a:=by
 obtain ⟨l,h1,h2⟩:=List.any_eq_true.1 h
 exact .inr ⟨l,links_samp ▸ h1,by simpa using h2⟩
theorem sol_in {x:Nd->Int} (h:Sol sampP x):(x (cN 1 3) - x (vN 0) <= -695/\x (cN 1 5) - x (cN 1 3)<=20/\x (vN 1) - x (cN 1 5)<=740/\x (vN 0) - x zeroN<=490) /\
  (x (vN 0) - x (cN 1 3)<=705/\x (cN 1 3) - x (cN 1 5)<=20/\x (cN 1 5) - x (vN 1) <= -730/\x zeroN - x (vN 0) <= -480):=by
 have g:∀ l ∈ lkSm,x l.1 - x l.2.1<=l.2.2:=links_samp ▸ h
 exact ⟨⟨g (cN 1 3,vN 0,-695) (by decide),g (cN 1 5,cN 1 3,20) (by decide),g (vN 1,cN 1 5,740) (by decide),g (vN 0,zeroN,490) (by decide)⟩,
  ⟨g (vN 0,cN 1 3,705) (by decide),g (cN 1 3,cN 1 5,20) (by decide),g (cN 1 5,vN 1,-730) (by decide),g (zeroN,vN 0,-480) (by decide)⟩⟩
theorem samp_val:valF sampP 1=(485,555,0):=by
 unfold valF
 rw [if_neg (fun h=>h.2 (by decide))]
 exact btF_ok samp_ok ⟨samp_th (by decide),.inl rfl⟩ samp_fit ⟨fun x hx=>by have:=sol_in hx; omega,sx1,sol1,by decide⟩ ⟨fun x hx=>by have:=sol_in hx; omega,sx2,sol2,by decide⟩
theorem samp_dif:difF sampP 1 0=(5,65,0):=by
 unfold difF
 rw [if_neg (fun h=>h.2.elim (fun h=>h (by decide)) (fun h=>h (by decide)))]
 exact btF_ok samp_ok ⟨samp_th (by decide),samp_th (by decide)⟩ samp_fit ⟨fun x hx=>by have:=sol_in hx; omega,sx1,sol1,by decide⟩ ⟨fun x hx=>by have:=sol_in hx; omega,sx2,sol2,by decide⟩
theorem samp_bia:biaF sampP 1 5=(185,245,0):=by
 unfold biaF
 exact btF_ok samp_ok ⟨.inl rfl,samp_th (by decide)⟩ samp_fit ⟨fun x hx=>by have:=sol_in hx; omega,sx2,sol2,by decide⟩ ⟨fun x hx=>by have:=sol_in hx; omega,sx1,sol1,by decide⟩
theorem vbd_ok:∀ x ∈ [valT,difT,biaT],SpOk Try.prog x.1 x.2:=fun x hx=>by
 simp only [List.mem_cons,List.not_mem_nil,or_false] at hx
 rcases hx with rfl | rfl | rfl
 ·exact valT_ok
 ·exact difT_ok
 ·exact biaT_ok
theorem samp_is {h:VH} (h1:h.at 1=.vec 2 (fun j=>List.take 1 (List.drop (j*1) [I 0,I 10])) 1 3) (h2:h.at 2=.vec 4 (fun j=>List.take 5 (List.drop (j*5) [I 0,I 0,I 0,I 500,I 20,I 0,I 1,I 0,I 530,I 20,I 1,I 0,I 3,I 700,I 5,I 1,I 1,I 5,I 735,I 5])) 5 32) (h3:h.at 3=.vec 1 (fun j=>List.take 3 (List.drop (j*3) [I 0,I 480,I 490])) 3 36) :
  pnIs h sampP (.sl 1 2) (.sl 2 4) (.sl 3 1):=by
 refine ⟨⟨rfl,_,_,h1,fun j hj=>?_⟩,⟨rfl,_,_,h2,fun j hj=>?_⟩,⟨rfl,_,_,h3,fun j hj=>?_⟩⟩
 ·match j,hj with
  | 0,_=>rfl
  | 1,_=>rfl
 ·match j,hj with
  | 0,_=>rfl
  | 1,_=>rfl
  | 2,_=>rfl
  | 3,_=>rfl
 ·match j,hj with
  | 0,_=>rfl
theorem alive_v:∃ h',CallsV Try.prog 16 [] ⟨0,[]⟩ (.ret (.bool true)) h':=by
 obtain ⟨r,h',rfl,hc⟩:=of_callN (tab_good hmix vbd_ok 20) (un:=10) (f:=16) (args:=[]) (h:=⟨0,[]⟩) (K:=fun r _=>r=.ret (.bool true))
  (by
   refine cast (alive_ev _).symm ?_
   refine ⟨sampP,samp_is rfl rfl rfl,by unfold n64; decide,sampP,samp_is rfl rfl rfl,by unfold n64; decide,sampP,samp_is rfl rfl rfl,trivial,?_⟩
   have e1:(fun (p:Pn) (ns:List Int)=>valF p (g0 ns 0)) sampP [1]=(485,555,0):=samp_val
   have e2:(fun (p:Pn) (ns:List Int)=>difF p (g0 ns 0) (g0 ns 1)) sampP [1,0]=(5,65,0):=samp_dif
   have e3:(fun (p:Pn) (ns:List Int)=>biaF p (g0 ns 0) (g0 ns 1)) sampP [1,5]=(185,245,0):=samp_bia
   rw [e1,e2,e3]
   rfl)
 exact ⟨h',hc⟩
def alvT:FuncId × Spec1:=(16,fun _ args h K=>match args with
 | []=>K (.ret (.bool true)) h
 | _=>False)
theorem alvT_ok:SpOk Try.prog alvT.1 alvT.2:=by
 intro lock args h K hK
 simp only [alvT] at hK
 split at hK
 ·obtain ⟨h',hc⟩:=alive_v
  exact ⟨_,h,hK,lockP_refl _ _,calls_lift0 hc rfl rfl⟩
 ·exact hK.elim
open Classical in
noncomputable def alkF (p:Pn) (a b m:Int):Bool × Bool × Int:=
 if (difF p a b).2.2 ≠ 0 ∨ m<0 then (false,false,(difF p a b).2.2) else (decide (-m<=(difF p a b).1/\(difF p a b).2.1<=m),decide ((difF p a b).1<=m/\-m<=(difF p a b).2.1),0)
def alV (r:Bool × Bool × Int):VV:=.tup [.bool r.1,.bool r.2.1,I r.2.2]
end Go.Sx.Nos
namespace Go.Sx.Nod
open Go Go.Sx Go.Proofs
set_option maxRecDepth 1000000
def ixA (p:Nos.Pn):FuncId × Spec1:=(51,fun _ args h K=>match args with
 | [y,.agg [.int .i64 a,.int .i64 b,.int .i64 c]]=>y=noD (ndF p)/\Nos.PnOk p/\((⟨a,b,c⟩:Nod) ∈ ndF p->∀ q:Nat,q=nx p ⟨a,b,c⟩->K (.ret (I q)) h)/\((⟨a,b,c⟩:Nod) ∉ ndF p->K (.ret (I (-1))) h)
 | _=>False)
theorem spn_ev (p:Nos.Pn) (a b:Nod) (Q:VRes->Prop):callN Try.prog (tabS [rpR p,ndR p,ixA p,moR p]) noL 10 20 0 (.fn 45) [.agg (pnL p),.agg (noL3 a),.agg (noL3 b)] ⟨0,[]⟩ (fun r _=>Q r) =
 (isD (VH.mk (4) [(3,VB.cells [I 0,I 0] 34),(2,VB.cells [I b.k,I b.n,I b.a] 78),(1,VB.cells [I a.k,I a.n,I a.a] 78),(0,VB.cells [VV.tl p.D.length 1 (dG p.D),VV.tl p.T.length 5 (Nos.tG p.T),VV.tl p.S.length 3 (Nos.sG p.S)] 26)]) 2 (VV.agg [VV.tl p.D.length 1 (dG p.D),VV.tl p.T.length 5 (Nos.tG p.T),VV.tl p.S.length 3 (Nos.sG p.S)]) (VV.agg (pnL p))/\bif !Nos.panB p then
 Q (VRes.ret (VV.tup [VV.agg [I 0,I 0],I 1]))
 else VV.agg (pnL p)=VV.agg (pnL p)/\Nos.PnOk p/\∀ (l:List Nod),l=ndF p->noD l=noD (ndF p)/\Nos.PnOk p/\(Nod.mk a.k a.n a.a ∈ ndF p->∀ (q:Nat),q=nx p (Nod.mk a.k a.n a.a)->noD l=noD (ndF p)/\Nos.PnOk p/\(Nod.mk b.k b.n b.a ∈ ndF p->∀ (q_1:Nat),q_1=nx p (Nod.mk b.k b.n b.a)->(VV.agg (pnL p)=VV.agg (pnL p)/\noD l=noD (ndF p))/\Nos.PnOk p/\(Nos.fitF p->∀ (g:Nat->Nat->Int),gFar p g->∀ (n:Nat),n=(ndF p).length->bif decide ((0:Int)<=(↑q:Int)/\(↑q:Int)<(↑n:Int)) then
 bif decide ((0:Int)<=(↑q_1:Int)/\(↑q_1:Int)<(↑n:Int)) then
 bif decide (g (↑q:Int).toNat (↑q_1:Int).toNat=(1125899906842624:Int)) then
 Q (VRes.ret (VV.tup [VV.agg [I 0,I 0],I 12]))
 else bif decide ((0:Int)<=(↑q_1:Int)/\(↑q_1:Int)<(↑n:Int)) then
 bif decide ((0:Int)<=(↑q:Int)/\(↑q:Int)<(↑n:Int)) then
 bif decide (g (↑q_1:Int).toNat (↑q:Int).toNat=(1125899906842624:Int)) then
 Q (VRes.ret (VV.tup [VV.agg [I 0,I 0],I 12]))
 else bif decide ((0:Int)<=(↑q_1:Int)/\(↑q_1:Int)<(↑n:Int)) then
 bif decide ((0:Int)<=(↑q:Int)/\(↑q:Int)<(↑n:Int)) then
 bif inK .i64 ((0:Int) - g (↑q_1:Int).toNat (↑q:Int).toNat) then
 bif decide ((0:Int)<=(↑q:Int)/\(↑q:Int)<(↑n:Int)) then
 bif decide ((0:Int)<=(↑q_1:Int)/\(↑q_1:Int)<(↑n:Int)) then
 Q (VRes.ret (VV.tup [VV.agg [I ((0:Int) - g (↑q_1:Int).toNat (↑q:Int).toNat),I (g (↑q:Int).toNat (↑q_1:Int).toNat)],I 0]))
 else False
 else False
 else False
 else False
 else False
 else False
 else False
 else False
 else False)/\(¬Nos.fitF p->∀ (g:Nat->Nat->Int) (n:Nat),n=(ndF p).length->Q (VRes.ret (VV.tup [VV.agg [I 0,I 0],I 6]))))/\(¬Nod.mk b.k b.n b.a ∈ ndF p->Q (VRes.ret (VV.tup [VV.agg [I 0,I 0],I 4]))))/\(¬Nod.mk a.k a.n a.a ∈ ndF p->noD l=noD (ndF p)/\Nos.PnOk p/\(Nod.mk b.k b.n b.a ∈ ndF p->∀ (q:Nat),q=nx p (Nod.mk b.k b.n b.a)->Q (VRes.ret (VV.tup [VV.agg [I 0,I 0],I 4])))/\(¬Nod.mk b.k b.n b.a ∈ ndF p->Q (VRes.ret (VV.tup [VV.agg [I 0,I 0],I 4]))))):=by kernel_rfl
open Classical in
noncomputable def rsF (p:Nos.Pn) (a b:Nod):Int × Int × Int:=
 if Nos.PnOk p then (if a ∈ ndF p/\b ∈ ndF p then (if Nos.fitF p then (if Nos.farAB p (toN a) (toN b)=Nos.WW ∨ Nos.farAB p (toN b) (toN a)=Nos.WW then (0,0,12) else (0 - Nos.farAB p (toN b) (toN a),Nos.farAB p (toN a) (toN b),0)) else (0,0,6)) else (0,0,4)) else (0,0,1)
noncomputable def spR (p:Nos.Pn):FuncId × Spec1:=(45,fun _ args h K=>match args with
 | [x,.agg [.int .i64 a,.int .i64 b,.int .i64 c],.agg [.int .i64 d,.int .i64 e,.int .i64 f]]=>x=.agg (pnL p)/\K (.ret (Nos.spV (rsF p ⟨a,b,c⟩ ⟨d,e,f⟩))) h
 | _=>False)
theorem rv_ev (p:Nos.Pn) (s:Int) (Q:VRes->Prop):callN Try.prog (tabS [spR p]) noL 10 20 0 (.fn 27) [.agg (pnL p),I s] ⟨0,[]⟩ (fun r _=>Q r) =
 (VV.agg (pnL p)=VV.agg (pnL p)/\Q (VRes.ret (VV.tup [VV.agg [I (rsF p (Nod.mk (1:Int) s (0:Int)) (Nod.mk (0:Int) (0:Int) (0:Int))).fst,I (rsF p (Nod.mk (1:Int) s (0:Int)) (Nod.mk (0:Int) (0:Int) (0:Int))).snd.fst],I (rsF p (Nod.mk (1:Int) s (0:Int)) (Nod.mk (0:Int) (0:Int) (0:Int))).snd.snd]))):=by kernel_rfl
theorem rd_ev (p:Nos.Pn) (s t:Int) (Q:VRes->Prop):callN Try.prog (tabS [spR p]) noL 10 20 0 (.fn 28) [.agg (pnL p),I s,I t] ⟨0,[]⟩ (fun r _=>Q r) =
 (VV.agg (pnL p)=VV.agg (pnL p)/\Q (VRes.ret (VV.tup [VV.agg [I (rsF p (Nod.mk (1:Int) s (0:Int)) (Nod.mk (1:Int) t (0:Int))).fst,I (rsF p (Nod.mk (1:Int) s (0:Int)) (Nod.mk (1:Int) t (0:Int))).snd.fst],I (rsF p (Nod.mk (1:Int) s (0:Int)) (Nod.mk (1:Int) t (0:Int))).snd.snd]))):=by kernel_rfl
theorem rf_ev (p:Nos.Pn) (Q:VRes->Prop):callN Try.prog (tabS [rpR p,ndR p,moR p]) noL 10 20 0 (.fn 26) [.agg (pnL p)] ⟨0,[]⟩ (fun r _=>Q r) =
 (isD (VH.mk (0+1) [(0,VB.cells [VV.tl p.D.length 1 (dG p.D),VV.tl p.T.length 5 (Nos.tG p.T),VV.tl p.S.length 3 (Nos.sG p.S)] 26)]) 2 (VV.agg [VV.tl p.D.length 1 (dG p.D),VV.tl p.T.length 5 (Nos.tG p.T),VV.tl p.S.length 3 (Nos.sG p.S)]) (VV.agg (pnL p))/\bif !Nos.panB p then
 Q (VRes.ret (VV.tup [VV.bool false,I 1]))
 else VV.agg (pnL p)=VV.agg (pnL p)/\Nos.PnOk p/\∀ (l:List Nod),l=ndF p->(VV.agg (pnL p)=VV.agg (pnL p)/\noD l=noD (ndF p))/\Nos.PnOk p/\(Nos.fitF p->∀ (g:Nat->Nat->Int),gFar p g->∀ (n:Nat),n=(ndF p).length->Q (VRes.ret (VV.tup [VV.bool true,I 0])))/\(¬Nos.fitF p->∀ (g:Nat->Nat->Int) (n:Nat),n=(ndF p).length->Q (VRes.ret (VV.tup [VV.bool false,I 0])))):=by kernel_rfl
noncomputable def rdR (p:Nos.Pn):FuncId × Spec1:=(28,fun _ args h K=>match args with
 | [x,.int .i64 a,.int .i64 b]=>x=.agg (pnL p)/\∀ r:Int × Int × Int,r=Nos.difF p a b->K (.ret (Nos.spV r)) h
 | _=>False)
theorem rk_ev (p:Nos.Pn) (s t m:Int) (Q:VRes->Prop):callN Try.prog (tabS [rdR p]) noL 10 20 0 (.fn 30) [.agg (pnL p),I s,I t,I m] ⟨0,[]⟩ (fun r _=>Q r) =
 (VV.agg (pnL p)=VV.agg (pnL p)/\∀ (r:Int × Int × Int),r=Nos.difF p s t->bif !decide (r.snd.snd=(0:Int)) then
 Q (VRes.ret (VV.tup [VV.bool false,VV.bool false,I r.snd.snd]))
 else bif decide (m ≥ (0:Int)) then
 bif decide (r.snd.fst<=m) then
 bif inK .i64 ((0:Int) - m) then
 bif decide (m ≥ (0:Int)) then
 bif decide (r.fst<=m) then
 bif inK .i64 ((0:Int) - m) then
 Q (VRes.ret (VV.tup [VV.bool (decide (r.fst ≥ (0:Int) - m)),VV.bool (decide (r.snd.fst ≥ (0:Int) - m)),I 0]))
 else False
 else Q (VRes.ret (VV.tup [VV.bool (decide (r.fst ≥ (0:Int) - m)),VV.bool false,I 0]))
 else Q (VRes.ret (VV.tup [VV.bool (decide (r.fst ≥ (0:Int) - m)),VV.bool false,I 0]))
 else False
 else bif decide (m ≥ (0:Int)) then
 bif decide (r.fst<=m) then
 bif inK .i64 ((0:Int) - m) then
 Q (VRes.ret (VV.tup [VV.bool false,VV.bool (decide (r.snd.fst ≥ (0:Int) - m)),I 0]))
 else False
 else Q (VRes.ret (VV.tup [VV.bool false,VV.bool false,I 0]))
 else Q (VRes.ret (VV.tup [VV.bool false,VV.bool false,I 0]))
 else bif decide (m ≥ (0:Int)) then
 bif decide (r.fst<=m) then
 bif inK .i64 ((0:Int) - m) then
 Q (VRes.ret (VV.tup [VV.bool false,VV.bool (decide (r.snd.fst ≥ (0:Int) - m)),I 0]))
 else False
 else Q (VRes.ret (VV.tup [VV.bool false,VV.bool false,I 0]))
 else Q (VRes.ret (VV.tup [VV.bool false,VV.bool false,I 0]))):=by kernel_rfl
end Go.Sx.Nod
namespace Go.Sx.Nod
open Go Go.Sx Go.Proofs
open Go.Sx.Nos (PnOk panB panB_iff fitF farAB WW thP zeroN vN cN btF spV fitB fiV valF difF biaF fisF alkF alV)
set_option maxRecDepth 1000000
theorem tabs4 {l:List (FuncId × Spec1)} (h:∀ x ∈ l,SpOk Try.prog x.1 x.2):∀ f T,tabS l f=some T->SpOk Try.prog f T:=tab_ok _ h
section
variable {p:Nos.Pn}
theorem ixA_ok:SpOk Try.prog (ixA p).1 (ixA p).2:=by
 intro lock args h K hK
 simp only [ixA] at hK
 split at hK
 ·rename_i y a b c
  obtain ⟨rfl,hp,k1,k2⟩:=hK
  have hn:(ndF p).length<=100000:=Nat.le_trans (ndF_le hp) (by decide)
  obtain ⟨h',hc⟩:=index_v (x:=⟨a,b,c⟩) hn
  by_cases hm:(⟨a,b,c⟩:Nod) ∈ ndF p
  ·rw [ixF_nx hp hm] at hc
   exact ⟨_,h,k1 hm _ rfl,lockP_refl _ _,calls_lift0 hc rfl rfl⟩
  ·rw [ixF_no hm] at hc
   exact ⟨_,h,k2 hm,lockP_refl _ _,calls_lift0 hc rfl rfl⟩
 ·exact hK.elim
theorem rows_sp:∀ x ∈ [rpR p,ndR p,ixA p,moR p],SpOk Try.prog x.1 x.2:=fun x hx=>by
 simp only [List.mem_cons,List.not_mem_nil,or_false] at hx
 rcases hx with rfl | rfl | rfl | rfl
 ·exact rpR_ok
 ·exact ndR_ok
 ·exact ixA_ok
 ·exact moR_ok
theorem isD_pn {h:VH}:isD h 2 (.agg (pnL p)) (.agg (pnL p)):=⟨⟨rfl,rfl,fun _ _=>rfl⟩,⟨rfl,rfl,fun _ _=>rfl⟩,⟨rfl,rfl,fun _ _=>rfl⟩,trivial⟩
theorem rs_1 {a b:Nod} (h:¬ PnOk p):rsF p a b=(0,0,1):=by unfold rsF; rw [if_neg h]
theorem rs_4 {a b:Nod} (h:PnOk p) (h2:¬ (a ∈ ndF p/\b ∈ ndF p)):rsF p a b=(0,0,4):=by unfold rsF; rw [if_pos h,if_neg h2]
theorem rs_6 {a b:Nod} (h:PnOk p) (h2:a ∈ ndF p/\b ∈ ndF p) (h3:¬ fitF p):rsF p a b=(0,0,6):=by unfold rsF; rw [if_pos h,if_pos h2,if_neg h3]
theorem rs_12 {a b:Nod} (h:PnOk p) (h2:a ∈ ndF p/\b ∈ ndF p) (h3:fitF p) (h4:farAB p (toN a) (toN b)=WW ∨ farAB p (toN b) (toN a)=WW):rsF p a b=(0,0,12):=by unfold rsF; rw [if_pos h,if_pos h2,if_pos h3,if_pos h4]
theorem rs_0 {a b:Nod} (h:PnOk p) (h2:a ∈ ndF p/\b ∈ ndF p) (h3:fitF p) (h4:¬ (farAB p (toN a) (toN b)=WW ∨ farAB p (toN b) (toN a)=WW)):rsF p a b=(0 - farAB p (toN b) (toN a),farAB p (toN a) (toN b),0):=by unfold rsF; rw [if_pos h,if_pos h2,if_pos h3,if_neg h4]
theorem span_v (a b:Nod):∃ h',CallsV Try.prog 45 [.agg (pnL p),.agg (noL3 a),.agg (noL3 b)] ⟨0,[]⟩ (.ret (spV (rsF p a b))) h':=by
 obtain ⟨r,h',rfl,hc⟩:=of_callN (noL_good (tabs4 (rows_sp (p:=p)))) (f:=45) (args:=[.agg (pnL p),.agg (noL3 a),.agg (noL3 b)]) (h:=⟨0,[]⟩) (K:=fun r _=>r=.ret (spV (rsF p a b))) (by
  refine cast (spn_ev p a b _).symm ?_
  refine ⟨isD_pn,?_⟩
  by_cases hp:PnOk p
  ·rw [pn_t hp]
   refine ⟨rfl,hp,fun l hl=>⟨by rw [hl],hp,fun ha q hq=>⟨by rw [hl],hp,fun hb c hc=>⟨⟨rfl,by rw [hl]⟩,hp,fun hf g hg n hn=>?_,fun hf g n hn=>?_⟩,fun hb=>?_⟩,fun ha=>⟨by rw [hl],hp,fun hb q hq=>?_,fun hb=>?_⟩⟩⟩
   ·have ha:a ∈ ndF p:=ha
    have hb:b ∈ ndF p:=hb
    have hq:q=nx p a:=hq
    have hc:c=nx p b:=hc
    have la:=nx_lt hp ha
    have lb:=nx_lt hp hb
    have e1:g (q:Int).toNat (c:Int).toNat=farAB p (toN a) (toN b):=by rw [Int.toNat_natCast,Int.toNat_natCast,hq,hc]; exact hg a b ha hb
    have e2:g (c:Int).toNat (q:Int).toNat=farAB p (toN b) (toN a):=by rw [Int.toNat_natCast,Int.toNat_natCast,hq,hc]; exact hg b a hb ha
    have e3:(1125899906842624:Int)=WW:=rfl
    have b1:=Nos.far_cases hp hf ((mem_unN hp _).1 (List.mem_map.2 ⟨a,ha,rfl⟩)) ((mem_unN hp _).1 (List.mem_map.2 ⟨b,hb,rfl⟩))
    have b2:=Nos.far_cases hp hf ((mem_unN hp _).1 (List.mem_map.2 ⟨b,hb,rfl⟩)) ((mem_unN hp _).1 (List.mem_map.2 ⟨a,ha,rfl⟩))
    rw [e1,e2,e3]
    refine cond_dk ⟨by omega,by omega⟩ (cond_dk ⟨by omega,by omega⟩ (cond_d (fun c1=>?_) (fun c1=>cond_dk ⟨by omega,by omega⟩ (cond_dk ⟨by omega,by omega⟩ (cond_d (fun c2=>?_) (fun c2=>cond_dk ⟨by omega,by omega⟩ (cond_dk ⟨by omega,by omega⟩ (cond_r ?_ (cond_dk ⟨by omega,by omega⟩ (cond_dk ⟨by omega,by omega⟩ ?_))))))))))
    ·rw [rs_12 hp ⟨ha,hb⟩ hf (.inl c1)]; rfl
    ·rw [rs_12 hp ⟨ha,hb⟩ hf (.inr c2)]; rfl
    ·have:=b2.resolve_left (fun h=>c2 h.1)
     omega
    ·rw [rs_0 hp ⟨ha,hb⟩ hf (fun h=>h.elim c1 c2)]; rfl
   ·rw [rs_6 hp ⟨ha,hb⟩ hf]; rfl
   ·rw [rs_4 hp fun h=>hb h.2]; rfl
   ·rw [rs_4 hp fun h=>ha h.1]; rfl
   ·rw [rs_4 hp fun h=>ha h.1]; rfl
  ·rw [pn_f hp]
   show VRes.ret _=_
   rw [rs_1 hp]; rfl)
 exact ⟨h',hc⟩
theorem spR_ok:SpOk Try.prog (spR p).1 (spR p).2:=by
 intro lock args h K hK
 simp only [spR] at hK
 split at hK
 ·rename_i x a b c d e f
  obtain ⟨rfl,hK⟩:=hK
  obtain ⟨h',hc⟩:=span_v (p:=p) ⟨a,b,c⟩ ⟨d,e,f⟩
  exact ⟨_,h,hK,lockP_refl _ _,calls_lift0 hc rfl rfl⟩
 ·exact hK.elim
theorem rs_bt {a b:Nod} (h:PnOk p->((a ∈ ndF p ↔ thP p (toN a))/\(b ∈ ndF p ↔ thP p (toN b)))):rsF p a b=btF p (toN a) (toN b):=by
 unfold rsF btF
 by_cases hp:PnOk p
 ·rw [if_pos hp,if_pos hp]
  obtain ⟨h1,h2⟩:=h hp
  by_cases ht:thP p (toN a)/\thP p (toN b)
  ·rw [if_pos (show a ∈ ndF p/\b ∈ ndF p from ⟨h1.2 ht.1,h2.2 ht.2⟩),if_pos ht]
  ·rw [if_neg (show ¬ (a ∈ ndF p/\b ∈ ndF p) from fun hh=>ht ⟨h1.1 hh.1,h2.1 hh.2⟩),if_neg ht]
 ·rw [if_neg hp,if_neg hp]
theorem rs_val (s:Int):rsF p (vX s) n0=valF p s:=by
 unfold valF
 by_cases hp:PnOk p
 ·by_cases hs:Nos.sOk16 s
  ·rw [if_neg (fun h=>h.2 hs)]
   exact rs_bt (a:=vX s) (b:=n0) fun hp=>⟨(thV hp hs.1).symm,⟨fun _=>th_0,fun _=>mem_0⟩⟩
  ·rw [if_pos ⟨hp,hs⟩]
   exact rs_4 hp fun h=>hs (s_nn hp h.1)
 ·rw [if_neg (fun h=>hp h.1),rs_1 hp]
  unfold btF
  rw [if_neg hp]
theorem rs_dif (s t:Int):rsF p (vX s) (vX t)=difF p s t:=by
 unfold difF
 by_cases hp:PnOk p
 ·by_cases hs:Nos.sOk16 s/\Nos.sOk16 t
  ·rw [if_neg (fun h=>h.2.elim (fun h=>h hs.1) (fun h=>h hs.2))]
   exact rs_bt (a:=vX s) (b:=vX t) fun hp=>⟨(thV hp hs.1.1).symm,(thV hp hs.2.1).symm⟩
  ·rw [if_pos ⟨hp,by
    by_cases h1:Nos.sOk16 s
    ·exact .inr fun h2=>hs ⟨h1,h2⟩
    ·exact .inl h1⟩]
   exact rs_4 hp fun h=>hs ⟨s_nn hp h.1,s_nn hp h.2⟩
 ·rw [if_neg (fun h=>hp h.1),rs_1 hp]
  unfold btF
  rw [if_neg hp]
theorem sp_good:Good Try.prog (callN Try.prog (tabS [spR p]) noL 10 20):=noL_good (tab1 spR_ok)
theorem rval_v (s:Int):∃ h',CallsV Try.prog 27 [.agg (pnL p),I s] ⟨0,[]⟩ (.ret (spV (valF p s))) h':=by
 obtain ⟨r,h',rfl,hc⟩:=of_callN (sp_good (p:=p)) (f:=27) (args:=[.agg (pnL p),I s]) (h:=⟨0,[]⟩) (K:=fun r _=>r=.ret (spV (valF p s))) (by
  refine cast (rv_ev p s _).symm ⟨rfl,?_⟩
  rw [<- rs_val]; rfl)
 exact ⟨h',hc⟩
theorem rdif_v (s t:Int):∃ h',CallsV Try.prog 28 [.agg (pnL p),I s,I t] ⟨0,[]⟩ (.ret (spV (difF p s t))) h':=by
 obtain ⟨r,h',rfl,hc⟩:=of_callN (sp_good (p:=p)) (f:=28) (args:=[.agg (pnL p),I s,I t]) (h:=⟨0,[]⟩) (K:=fun r _=>r=.ret (spV (difF p s t))) (by
  refine cast (rd_ev p s t _).symm ⟨rfl,?_⟩
  rw [<- rs_dif]; rfl)
 exact ⟨h',hc⟩
theorem rows_ft:∀ x ∈ [rpR p,ndR p,moR p],SpOk Try.prog x.1 x.2:=fun x hx=>by
 simp only [List.mem_cons,List.not_mem_nil,or_false] at hx
 rcases hx with rfl | rfl | rfl
 ·exact rpR_ok
 ·exact ndR_ok
 ·exact moR_ok
theorem rfit_v:∃ h',CallsV Try.prog 26 [.agg (pnL p)] ⟨0,[]⟩ (.ret (fiV (fisF p))) h':=by
 obtain ⟨r,h',rfl,hc⟩:=of_callN (noL_good (tabs4 (rows_ft (p:=p)))) (f:=26) (args:=[.agg (pnL p)]) (h:=⟨0,[]⟩) (K:=fun r _=>r=.ret (fiV (fisF p))) (by
  refine cast (rf_ev p _).symm ⟨isD_pn,?_⟩
  by_cases hp:PnOk p
  ·rw [pn_t hp]
   refine ⟨rfl,hp,fun l hl=>⟨⟨rfl,by rw [hl]⟩,hp,fun hf g hg n hn=>?_,fun hf g n hn=>?_⟩⟩
   ·unfold fisF; rw [if_pos hp,Nos.fitB_t hf]; rfl
   ·unfold fisF; rw [if_pos hp,Nos.fitB_f hf]; rfl
  ·rw [pn_f hp]
   show VRes.ret _=_
   unfold fisF; rw [if_neg hp]; rfl)
 exact ⟨h',hc⟩
theorem rdR_ok:SpOk Try.prog (rdR p).1 (rdR p).2:=by
 intro lock args h K hK
 simp only [rdR] at hK
 split at hK
 ·rename_i x a b
  obtain ⟨rfl,hK⟩:=hK
  obtain ⟨h',hc⟩:=rdif_v (p:=p) a b
  exact ⟨_,h,hK _ rfl,lockP_refl _ _,calls_lift0 hc rfl rfl⟩
 ·exact hK.elim
theorem ralk_v (a b m:Int) (hm:m<=9223372036854775807):∃ h',CallsV Try.prog 30 [.agg (pnL p),I a,I b,I m] ⟨0,[]⟩ (.ret (alV (alkF p a b m))) h':=by
 obtain ⟨r,h',rfl,hc⟩:=of_callN (noL_good (tab1 (rdR_ok (p:=p)))) (f:=30) (args:=[.agg (pnL p),I a,I b,I m]) (h:=⟨0,[]⟩) (K:=fun r _=>r=.ret (alV (alkF p a b m))) (by
  refine cast (rk_ev p a b m _).symm ⟨rfl,?_⟩
  rintro r hr
  have k1:(difF p a b).2.2 ≠ 0 ∨ m<0->alkF p a b m=(false,false,(difF p a b).2.2):=fun h=>by unfold alkF; rw [if_pos h]
  have k2:¬ ((difF p a b).2.2 ≠ 0 ∨ m<0)->∀ {x y:Bool},(x=true ↔ -m<=(difF p a b).1/\(difF p a b).2.1<=m)->(y=true ↔ (difF p a b).1<=m/\-m<=(difF p a b).2.1)->VRes.ret (.tup [.bool x,.bool y,I 0])=.ret (alV (alkF p a b m)):=fun h x y h1 h2=>by
   unfold alkF
   rw [if_neg h]
   congr 1
   show _=VV.tup [.bool (decide _),.bool (decide _),I 0]
   congr 2
   ·congr 1
    rw [Bool.eq_iff_iff,h1,decide_eq_true_eq]
   ·congr 2
    rw [Bool.eq_iff_iff,h2,decide_eq_true_eq]
  rw [<- hr] at k1 k2
  refine cond_nd (fun h=>by rw [k1 (.inl h)]; rfl) (fun h=>?_)
  by_cases hm0:m<0
  ·refine cond_d (fun c=>absurd c (by omega)) (fun _=>cond_d (fun c=>absurd c (by omega)) (fun _=>?_))
   rw [k1 (.inr hm0),h]; rfl
  ·have hn:¬ (r.2.2 ≠ 0 ∨ m<0):=fun hh=>hh.elim (fun h2=>h2 h) hm0
   refine cond_d (fun _=>?_) (fun c=>absurd c (by omega))
   refine cond_d (fun c1=>cond_r (by omega) (cond_d (fun _=>cond_d (fun c2=>cond_r (by omega) (k2 hn ?_ ?_)) (fun c2=>k2 hn ?_ ?_)) (fun c=>absurd c (by omega)))) (fun c1=>cond_d (fun _=>cond_d (fun c2=>cond_r (by omega) (k2 hn ?_ ?_)) (fun c2=>k2 hn ?_ ?_)) (fun c=>absurd c (by omega)))
   all_goals first | (rw [decide_eq_true_eq]; omega) | (simp only [Bool.false_eq_true,false_iff]; omega))
 exact ⟨h',hc⟩
end
end Go.Sx.Nod
namespace Go.Sx.Nod
open Go Go.Sx Go.Proofs
set_option maxRecDepth 1000000
def panN:FuncId × Spec1:=(40,fun _ args h K=>match args with
 | [.agg [d,t,s]]=>∃ p:Nos.Pn,Nos.pnIs h p d t s/\¬ Nos.PnOk p/\K (.ret (.bool false)) h
 | _=>False)
theorem val2_ev (p:Nos.Pn) (c1 c2 c3:Nat) (s:Int) (Q:VRes->Prop):callN Try.prog (tabS [panN]) noL 10 20 0 (.fn 17) [.agg (Nos.pnV p c1 c2 c3),.opq (.int .i64 s)] (Nos.pnH p) (fun r _=>Q r) =
 (∃ (p_1:Nos.Pn),Nos.pnIs (VH.mk (5) [(4,VB.cells [I 0,I 0] 34),(3,VB.cells [VV.slice (VA.el 0 [] (0:Int) 0) p.D.length c1,VV.slice (VA.el 1 [] (0:Int) 0) p.T.length c2,VV.slice (VA.el 2 [] (0:Int) 0) p.S.length c3] 26),(0,Nos.arD p),(1,Nos.arT p),(2,Nos.arS p)]) p_1 (VV.slice (VA.el 0 [] (0:Int) 0) p.D.length c1) (VV.slice (VA.el 1 [] (0:Int) 0) p.T.length c2) (VV.slice (VA.el 2 [] (0:Int) 0) p.S.length c3)/\¬Nos.PnOk p_1/\∃ (p_2:Nos.Pn),Nos.pnIs (VH.mk (9) [(8,VB.cells [I 0,I 0] 34),(7,VB.cells [VV.bool false,I 0,I 0] 73),(6,VB.cells [VV.bool false,VV.opq (Value.int IntKind.i64 (IntKind.i64.wrap (s+(1:Int)))),I 0] 73),(5,VB.cells [VV.slice (VA.el 0 [] (0:Int) 0) p.D.length c1,VV.slice (VA.el 1 [] (0:Int) 0) p.T.length c2,VV.slice (VA.el 2 [] (0:Int) 0) p.S.length c3] 26),(4,VB.cells [I 0,I 0] 34),(3,VB.cells [VV.slice (VA.el 0 [] (0:Int) 0) p.D.length c1,VV.slice (VA.el 1 [] (0:Int) 0) p.T.length c2,VV.slice (VA.el 2 [] (0:Int) 0) p.S.length c3] 26),(0,Nos.arD p),(1,Nos.arT p),(2,Nos.arS p)]) p_2 (VV.slice (VA.el 0 [] (0:Int) 0) p.D.length c1) (VV.slice (VA.el 1 [] (0:Int) 0) p.T.length c2) (VV.slice (VA.el 2 [] (0:Int) 0) p.S.length c3)/\¬Nos.PnOk p_2/\Q (VRes.ret (VV.tup [VV.agg [I 0,I 0],I 1]))):=by kernel_rfl
theorem dif2_ev (p:Nos.Pn) (c1 c2 c3:Nat) (s t:Int) (Q:VRes->Prop):callN Try.prog (tabS [panN]) noL 10 20 0 (.fn 18) [.agg (Nos.pnV p c1 c2 c3),.opq (.int .i64 s),.opq (.int .i64 t)] (Nos.pnH p) (fun r _=>Q r) =
 (∃ (p_1:Nos.Pn),Nos.pnIs (VH.mk (5) [(4,VB.cells [I 0,I 0] 34),(3,VB.cells [VV.slice (VA.el 0 [] (0:Int) 0) p.D.length c1,VV.slice (VA.el 1 [] (0:Int) 0) p.T.length c2,VV.slice (VA.el 2 [] (0:Int) 0) p.S.length c3] 26),(0,Nos.arD p),(1,Nos.arT p),(2,Nos.arS p)]) p_1 (VV.slice (VA.el 0 [] (0:Int) 0) p.D.length c1) (VV.slice (VA.el 1 [] (0:Int) 0) p.T.length c2) (VV.slice (VA.el 2 [] (0:Int) 0) p.S.length c3)/\¬Nos.PnOk p_1/\∃ (p_2:Nos.Pn),Nos.pnIs (VH.mk (9) [(8,VB.cells [I 0,I 0] 34),(7,VB.cells [VV.bool false,VV.opq (Value.int IntKind.i64 (IntKind.i64.wrap (t+(1:Int)))),I 0] 73),(6,VB.cells [VV.bool false,VV.opq (Value.int IntKind.i64 (IntKind.i64.wrap (s+(1:Int)))),I 0] 73),(5,VB.cells [VV.slice (VA.el 0 [] (0:Int) 0) p.D.length c1,VV.slice (VA.el 1 [] (0:Int) 0) p.T.length c2,VV.slice (VA.el 2 [] (0:Int) 0) p.S.length c3] 26),(4,VB.cells [I 0,I 0] 34),(3,VB.cells [VV.slice (VA.el 0 [] (0:Int) 0) p.D.length c1,VV.slice (VA.el 1 [] (0:Int) 0) p.T.length c2,VV.slice (VA.el 2 [] (0:Int) 0) p.S.length c3] 26),(0,Nos.arD p),(1,Nos.arT p),(2,Nos.arS p)]) p_2 (VV.slice (VA.el 0 [] (0:Int) 0) p.D.length c1) (VV.slice (VA.el 1 [] (0:Int) 0) p.T.length c2) (VV.slice (VA.el 2 [] (0:Int) 0) p.S.length c3)/\¬Nos.PnOk p_2/\Q (VRes.ret (VV.tup [VV.agg [I 0,I 0],I 1]))):=by kernel_rfl
def dT (p:Nos.Pn) (f:FuncId) (n:Nat) {R:Type} (sh:R->VV) (C:List Int->Prop) (F:List Int->R):FuncId × Spec1:=(f,fun _ args h K=>match args with
 | x::r=>x=.agg (pnL p)/\numsE r fun ns=>bif Nat.beq ns.length n then C ns/\∀ v:R,v=F ns->K (.ret (sh v)) h else False
 | _=>False)
abbrev g0 (ns:List Int) (i:Nat):Int:=ns.getD i 0
def cT (_:List Int):Prop:=True
noncomputable def difA:FuncId × Spec1:=Nos.shT 18 2 Nos.spV (fun _ _=>True) fun p ns=>Nos.difF p (g0 ns 0) (g0 ns 1)
theorem alk2_ev (p:Nos.Pn) (c1 c2 c3:Nat) (a b m:Int) (Q:VRes->Prop):callN Try.prog (tabS [difA]) noL 10 20 0 (.fn 29) [.agg (Nos.pnV p c1 c2 c3),I a,I b,I m] (Nos.pnH p) (fun r _=>Q r) =
 (∃ (p_1:Nos.Pn),Nos.pnIs (VH.mk (4) [(3,VB.cells [VV.slice (VA.el 0 [] (0:Int) 0) p.D.length c1,VV.slice (VA.el 1 [] (0:Int) 0) p.T.length c2,VV.slice (VA.el 2 [] (0:Int) 0) p.S.length c3] 26),(0,Nos.arD p),(1,Nos.arT p),(2,Nos.arS p)]) p_1 (VV.slice (VA.el 0 [] (0:Int) 0) p.D.length c1) (VV.slice (VA.el 1 [] (0:Int) 0) p.T.length c2) (VV.slice (VA.el 2 [] (0:Int) 0) p.S.length c3)/\True/\bif !decide (((fun (p:Nos.Pn) (ns:List Int)=>Nos.difF p (g0 ns 0) (g0 ns 1)) p_1 [a,b]).snd.snd=(0:Int)) then
 Q (VRes.ret (VV.tup [VV.bool false,VV.bool false,I ((fun (p:Nos.Pn) (ns:List Int)=>Nos.difF p (g0 ns 0) (g0 ns 1)) p_1 [a,b]).snd.snd]))
 else bif decide (m<(0:Int)) then
 Q (VRes.ret (VV.tup [VV.bool false,VV.bool false,I ((fun (p:Nos.Pn) (ns:List Int)=>Nos.difF p (g0 ns 0) (g0 ns 1)) p_1 [a,b]).snd.snd]))
 else bif inK IntKind.i64 ((0:Int) - m) then
 bif decide ((0:Int) - m<=((fun (p:Nos.Pn) (ns:List Int)=>Nos.difF p (g0 ns 0) (g0 ns 1)) p_1 [a,b]).fst) then
 bif decide (((fun (p:Nos.Pn) (ns:List Int)=>Nos.difF p (g0 ns 0) (g0 ns 1)) p_1 [a,b]).fst<=m) then
 bif inK IntKind.i64 ((0:Int) - m) then
 Q (VRes.ret (VV.tup [VV.bool (decide (((fun (p:Nos.Pn) (ns:List Int)=>Nos.difF p (g0 ns 0) (g0 ns 1)) p_1 [a,b]).snd.fst<=m)),VV.bool (decide (((fun (p:Nos.Pn) (ns:List Int)=>Nos.difF p (g0 ns 0) (g0 ns 1)) p_1 [a,b]).snd.fst ≥ (0:Int) - m)),I 0]))
 else False
 else Q (VRes.ret (VV.tup [VV.bool (decide (((fun (p:Nos.Pn) (ns:List Int)=>Nos.difF p (g0 ns 0) (g0 ns 1)) p_1 [a,b]).snd.fst<=m)),VV.bool false,I 0]))
 else bif decide (((fun (p:Nos.Pn) (ns:List Int)=>Nos.difF p (g0 ns 0) (g0 ns 1)) p_1 [a,b]).fst<=m) then
 bif inK IntKind.i64 ((0:Int) - m) then
 Q (VRes.ret (VV.tup [VV.bool false,VV.bool (decide (((fun (p:Nos.Pn) (ns:List Int)=>Nos.difF p (g0 ns 0) (g0 ns 1)) p_1 [a,b]).snd.fst ≥ (0:Int) - m)),I 0]))
 else False
 else Q (VRes.ret (VV.tup [VV.bool false,VV.bool false,I 0]))
 else False):=by kernel_rfl
noncomputable def rowsV (p:Nos.Pn):List (FuncId × Spec1):=[dT p 14 1 Nos.boV cT fun ns=>Nos.greatB p (g0 ns 0),Nos.alvT,dT p 23 0 Nos.fiV cT fun _=>Nos.fisF p,dT p 26 0 Nos.fiV cT fun _=>Nos.fisF p,dT p 17 1 Nos.spV cT fun ns=>Nos.valF p (g0 ns 0),dT p 27 1 Nos.spV cT fun ns=>Nos.valF p (g0 ns 0),
 dT p 18 2 Nos.spV cT fun ns=>Nos.difF p (g0 ns 0) (g0 ns 1),dT p 28 2 Nos.spV cT fun ns=>Nos.difF p (g0 ns 0) (g0 ns 1),
 dT p 29 3 Nos.alV (fun ns=>g0 ns 2<=9223372036854775807) fun ns=>Nos.alkF p (g0 ns 0) (g0 ns 1) (g0 ns 2),dT p 30 3 Nos.alV (fun ns=>g0 ns 2<=9223372036854775807) fun ns=>Nos.alkF p (g0 ns 0) (g0 ns 1) (g0 ns 2)]
theorem law7_ev (p:Nos.Pn) (a b m:Int) (Q:VRes->Prop):callN Try.prog (tabS (rowsV p)) noL 10 20 0 (.fn 7) [.agg (pnL p),I a,I b,I m] ⟨0,[]⟩ (fun r _=>Q r) =
 (VV.agg (pnL p)=VV.agg (pnL p)/\cT [(16:Int)]/\∀ (v:Bool),v=(fun (ns:List Int)=>Nos.greatB p (g0 ns 0)) [(16:Int)]->bif v then
 Q (VRes.ret (VV.bool true))
 else VV.agg (pnL p)=VV.agg (pnL p)/\cT []/\∀ (v:Bool × Int),v=(fun (x:List Int)=>Nos.fisF p) []->VV.agg (pnL p)=VV.agg (pnL p)/\cT []/\∀ (v_1:Bool × Int),v_1=(fun (x:List Int)=>Nos.fisF p) []->VV.agg (pnL p)=VV.agg (pnL p)/\cT [a]/\∀ (v_2:Int × Int × Int),v_2=(fun (ns:List Int)=>Nos.valF p (g0 ns 0)) [a]->VV.agg (pnL p)=VV.agg (pnL p)/\cT [a]/\∀ (v_3:Int × Int × Int),v_3=(fun (ns:List Int)=>Nos.valF p (g0 ns 0)) [a]->VV.agg (pnL p)=VV.agg (pnL p)/\cT [a,b]/\∀ (v_4:Int × Int × Int),v_4=(fun (ns:List Int)=>Nos.difF p (g0 ns 0) (g0 ns 1)) [a,b]->VV.agg (pnL p)=VV.agg (pnL p)/\cT [a,b]/\∀ (v_5:Int × Int × Int),v_5=(fun (ns:List Int)=>Nos.difF p (g0 ns 0) (g0 ns 1)) [a,b]->VV.agg (pnL p)=VV.agg (pnL p)/\g0 [a,b,m] 2<=(9223372036854775807:Int)/\∀ (v_6:Bool × Bool × Int),v_6=(fun (ns:List Int)=>Nos.alkF p (g0 ns 0) (g0 ns 1) (g0 ns 2)) [a,b,m]->VV.agg (pnL p)=VV.agg (pnL p)/\g0 [a,b,m] 2<=(9223372036854775807:Int)/\∀ (v_7:Bool × Bool × Int),v_7=(fun (ns:List Int)=>Nos.alkF p (g0 ns 0) (g0 ns 1) (g0 ns 2)) [a,b,m]->bif v.fst == v_1.fst then
 bif decide (v.snd=v_1.snd) then
 bif decide (v_2.fst=v_3.fst) && (decide (v_2.snd.fst=v_3.snd.fst) && true) then
 bif decide (v_2.snd.snd=v_3.snd.snd) then
 bif decide (v_4.fst=v_5.fst) && (decide (v_4.snd.fst=v_5.snd.fst) && true) then
 bif decide (v_4.snd.snd=v_5.snd.snd) then
 bif v_6.fst == v_7.fst then
 bif v_6.snd.fst == v_7.snd.fst then
 bif decide (v_6.snd.snd=v_7.snd.snd) then
 Q (VRes.ret (VV.bool true))
 else Q (VRes.ret (VV.bool false))
 else Q (VRes.ret (VV.bool false))
 else Q (VRes.ret (VV.bool false))
 else Q (VRes.ret (VV.bool false))
 else Q (VRes.ret (VV.bool false))
 else Q (VRes.ret (VV.bool false))
 else Q (VRes.ret (VV.bool false))
 else Q (VRes.ret (VV.bool false))
 else Q (VRes.ret (VV.bool false))):=by kernel_rfl
end Go.Sx.Nod
namespace Go.Sx.Nod
open Go Go.Sx Go.Proofs
open Go.Sx.Nos (Pn PnOk panB panB_iff fitF thP zeroN vN cN btF spV fitB fiV valF difF biaF fisF alkF alV pnV pnH pnIs boV greatB pnIs_own calls_pn sOk16 pure_ints)
set_option maxRecDepth 1000000
theorem panN_ok:SpOk Try.prog panN.1 panN.2:=by
 intro lock args h K hK
 simp only [panN] at hK
 split at hK
 ·obtain ⟨p,hp,hn,hK⟩:=hK
  refine ⟨_,h,hK,lockP_refl _ _,?_⟩
  rw [<- pn_f hn]
  exact calls_pn (pl:=[]) (fun c1 c2 c3=>Nos.pan_v p c1 c2 c3) rfl rfl hp
 ·exact hK.elim
section
variable {p:Pn}
theorem opq_args {P:Program} {f:FuncId} {h h':VH} {r:VRes} {x:VV}:∀ (ns:List Int),CallsV P f (x::ns.map fun n=>.opq (.int .i64 n)) h r h'->CallsV P f (x::ns.map (VV.int .i64)) h r h':=fun ns hc=>calls_args hc (fun R xs hx=>by
 obtain ⟨y,ys,h1,h2,rfl⟩:=hx
 refine ⟨y,ys,h1,?_,rfl⟩
 clear h1 hc
 induction ns generalizing ys with
 | nil=>exact h2
 | cons n ns ih=>
  obtain ⟨z,zs,g1,g2,rfl⟩:=h2
  exact ⟨z,zs,g1,ih zs g2,rfl⟩)
theorem bt_1 {a b:Nos.Nd} (h:¬ PnOk p):btF p a b=(0,0,1):=by unfold btF; rw [if_neg h]
theorem valN {s:Int} (h:¬ PnOk p):valF p s=(0,0,1):=by unfold valF; rw [if_neg (fun hh=>h hh.1),bt_1 h]
theorem difN {s t:Int} (h:¬ PnOk p):difF p s t=(0,0,1):=by unfold difF; rw [if_neg (fun hh=>h hh.1),bt_1 h]
theorem val_all (s:Int) (c1 c2 c3:Nat):∃ h',CallsV Try.prog 17 [.agg (pnV p c1 c2 c3),I s] (pnH p) (.ret (spV (valF p s))) h':=by
 by_cases hp:PnOk p
 ·obtain ⟨r,h',rfl,hc⟩:=of_callN (tab_good hmix Nos.pq_ok 20) (un:=10) (f:=17) (args:=[.agg (pnV p c1 c2 c3),I s]) (h:=pnH p) (K:=fun r _=>r=.ret (spV (valF p s)))
   (by
    refine cast (Nos.val_ev p c1 c2 c3 s _).symm ?_
    have e1:¬ sOk16 s->valF p s=(0,0,4):=fun h=>by unfold valF; rw [if_pos ⟨hp,h⟩]
    have e2:sOk16 s->valF p s=btF p (vN s) zeroN:=fun h=>by unfold valF; rw [if_neg fun hh=>hh.2 h]
    refine ⟨p,pnIs_own rfl rfl rfl,?_⟩
    rw [pn_t hp]
    refine cond_d (fun a0=>cond_nd (fun a1=>?_) (fun a1=>cond_r (by omega) ⟨p,pnIs_own rfl rfl rfl,?_⟩)) (fun a0=>?_)
    ·rw [e1 (fun h=>a1 h.2)]; rfl
    ·rw [e2 ⟨a0,a1⟩]; rfl
    ·rw [e1 (fun h=>a0 h.1)]; rfl)
  exact ⟨h',hc⟩
 ·obtain ⟨r,h',rfl,hc⟩:=of_callN (noL_good (tab1 panN_ok)) (f:=17) (args:=[.agg (pnV p c1 c2 c3),.opq (.int .i64 s)]) (h:=pnH p) (K:=fun r _=>r=.ret (spV (valF p s)))
   (by
    refine cast (val2_ev p c1 c2 c3 s _).symm ⟨p,pnIs_own rfl rfl rfl,hp,p,pnIs_own rfl rfl rfl,hp,?_⟩
    rw [valN hp]; rfl)
  exact ⟨h',opq_args [s] hc⟩
theorem dif_all (s t:Int) (c1 c2 c3:Nat):∃ h',CallsV Try.prog 18 [.agg (pnV p c1 c2 c3),I s,I t] (pnH p) (.ret (spV (difF p s t))) h':=by
 by_cases hp:PnOk p
 ·obtain ⟨r,h',rfl,hc⟩:=of_callN (tab_good hmix Nos.pq_ok 20) (un:=10) (f:=18) (args:=[.agg (pnV p c1 c2 c3),I s,I t]) (h:=pnH p) (K:=fun r _=>r=.ret (spV (difF p s t)))
   (by
    refine cast (Nos.dif_ev p c1 c2 c3 s t _).symm ?_
    have e1:¬ sOk16 s ∨ ¬ sOk16 t->difF p s t=(0,0,4):=fun h=>by unfold difF; rw [if_pos ⟨hp,h⟩]
    have e2:sOk16 s->sOk16 t->difF p s t=btF p (vN s) (vN t):=fun h h2=>by unfold difF; rw [if_neg fun hh=>hh.2.elim (fun g=>g h) (fun g=>g h2)]
    refine ⟨p,pnIs_own rfl rfl rfl,?_⟩
    rw [pn_t hp]
    refine cond_d (fun a0=>cond_nd (fun a1=>?_) (fun a1=>cond_d (fun b0=>cond_nd (fun b1=>?_) (fun b1=>cond_r (by omega) (cond_r (by omega) ⟨p,pnIs_own rfl rfl rfl,?_⟩))) (fun b0=>?_))) (fun a0=>?_)
    ·rw [e1 (.inl fun h=>a1 h.2)]; rfl
    ·rw [e1 (.inr fun h=>b1 h.2)]; rfl
    ·rw [e2 ⟨a0,a1⟩ ⟨b0,b1⟩]; rfl
    ·rw [e1 (.inr fun h=>b0 h.1)]; rfl
    ·rw [e1 (.inl fun h=>a0 h.1)]; rfl)
  exact ⟨h',hc⟩
 ·obtain ⟨r,h',rfl,hc⟩:=of_callN (noL_good (tab1 panN_ok)) (f:=18) (args:=[.agg (pnV p c1 c2 c3),.opq (.int .i64 s),.opq (.int .i64 t)]) (h:=pnH p) (K:=fun r _=>r=.ret (spV (difF p s t)))
   (by
    refine cast (dif2_ev p c1 c2 c3 s t _).symm ⟨p,pnIs_own rfl rfl rfl,hp,p,pnIs_own rfl rfl rfl,hp,?_⟩
    rw [difN hp]; rfl)
  exact ⟨h',opq_args [s,t] hc⟩
theorem difA_ok:SpOk Try.prog difA.1 difA.2:=Nos.shT_ok (fun _=>rfl) fun p ns hn _ c1 c2 c3=>by
 match ns,hn with
 | [s,t],_=>exact dif_all s t c1 c2 c3
theorem alk_all (a b m:Int) (hm:m<=9223372036854775807) (c1 c2 c3:Nat):∃ h',CallsV Try.prog 29 [.agg (pnV p c1 c2 c3),I a,I b,I m] (pnH p) (.ret (alV (alkF p a b m))) h':=by
 obtain ⟨r,h',rfl,hc⟩:=of_callN (noL_good (tab1 difA_ok)) (f:=29) (args:=[.agg (pnV p c1 c2 c3),I a,I b,I m]) (h:=pnH p) (K:=fun r _=>r=.ret (alV (alkF p a b m)))
  (by
   refine cast (alk2_ev p c1 c2 c3 a b m _).symm ?_
   refine ⟨p,pnIs_own rfl rfl rfl,trivial,?_⟩
   have e:(fun (p:Pn) (ns:List Int)=>difF p (g0 ns 0) (g0 ns 1)) p [a,b]=difF p a b:=rfl
   rw [e]
   have k1:(difF p a b).2.2 ≠ 0 ∨ m<0->alkF p a b m=(false,false,(difF p a b).2.2):=fun h=>by unfold alkF; rw [if_pos h]
   have k2:¬ ((difF p a b).2.2 ≠ 0 ∨ m<0)->∀ {x y:Bool},(x=true ↔ -m<=(difF p a b).1/\(difF p a b).2.1<=m)->(y=true ↔ (difF p a b).1<=m/\-m<=(difF p a b).2.1)->VRes.ret (.tup [.bool x,.bool y,I 0])=.ret (alV (alkF p a b m)):=fun h x y h1 h2=>by
    unfold alkF
    rw [if_neg h]
    congr 1
    show _=VV.tup [.bool (decide _),.bool (decide _),I 0]
    congr 2
    ·congr 1
     rw [Bool.eq_iff_iff,h1,decide_eq_true_eq]
    ·congr 2
     rw [Bool.eq_iff_iff,h2,decide_eq_true_eq]
   refine cond_nd (fun h=>by rw [k1 (.inl h)]; rfl) (fun h=>cond_d (fun hm0=>by rw [k1 (.inr hm0)]; rfl) (fun hm0=>cond_r (by omega) ?_))
   have hn:¬ ((difF p a b).2.2 ≠ 0 ∨ m<0):=fun hh=>hh.elim (fun h2=>h2 h) hm0
   refine cond_d (fun a0=>cond_d (fun a1=>cond_r (by omega) (k2 hn ?_ ?_)) (fun a1=>k2 hn ?_ ?_)) (fun a0=>cond_d (fun a1=>cond_r (by omega) (k2 hn ?_ ?_)) (fun a1=>k2 hn ?_ ?_))
   all_goals first | (rw [decide_eq_true_eq]; omega) | (simp only [Bool.false_eq_true,false_iff]; omega))
 exact ⟨h',hc⟩
theorem fis_all (c1 c2 c3:Nat):∃ h',CallsV Try.prog 23 [.agg (pnV p c1 c2 c3)] (pnH p) (.ret (fiV (fisF p))) h':=by
 obtain ⟨r,h',rfl,hc⟩:=of_callN (tab_good hmix (l:=[Nos.panC,Nos.triT]) (fun x hx=>by
   simp only [List.mem_cons,List.not_mem_nil,or_false] at hx
   rcases hx with rfl | rfl
   ·exact Nos.panC_ok
   ·exact Nos.triT_ok) 20) (un:=10) (f:=23) (args:=[.agg (pnV p c1 c2 c3)]) (h:=pnH p) (K:=fun r _=>r=.ret (fiV (fisF p)))
  (by
   refine cast (Nos.fit_ev p c1 c2 c3 _).symm ?_
   refine ⟨p,pnIs_own rfl rfl rfl,?_⟩
   by_cases hp:PnOk p
   ·rw [pn_t hp]
    refine ⟨p,pnIs_own rfl rfl rfl,hp,fun hf=>?_,fun hf=>?_⟩
    ·unfold fisF; rw [if_pos hp,Nos.fitB_t hf]; rfl
    ·unfold fisF; rw [if_pos hp,Nos.fitB_f hf]; rfl
   ·rw [pn_f hp]
    show VRes.ret _=_
    unfold fisF; rw [if_neg hp]; rfl)
 exact ⟨h',hc⟩
theorem dT_ok {f:FuncId} {n:Nat} {R:Type} {sh:R->VV} {C:List Int->Prop} {F:List Int->R} (hf:∀ ns:List Int,ns.length=n->C ns->∀ h,CallsV Try.prog f (.agg (pnL p)::ns.map (VV.int .i64)) h (.ret (sh (F ns))) h):SpOk Try.prog (dT p f n sh C F).1 (dT p f n sh C F).2:=by
 intro lock args h K hK
 simp only [dT] at hK
 split at hK
 ·obtain ⟨rfl,hK⟩:=hK
  obtain ⟨ns,hK2,rfl⟩:=numsE_sound hK
  obtain ⟨hn,hC,hK⟩:=cond_f hK2
  exact ⟨_,h,hK _ rfl,lockP_refl _ _,hf ns (Nat.eq_of_beq_eq_true hn) hC h⟩
 ·exact hK.elim
theorem pn_tl {h:VH}:pnIs h p (inD p.D) (.tl p.T.length 5 (Nos.tG p.T)) (.tl p.S.length 3 (Nos.sG p.S)):=⟨⟨rfl,rfl,fun _ _=>rfl⟩,⟨rfl,rfl,fun _ _=>rfl⟩,⟨rfl,rfl,fun _ _=>rfl⟩⟩
theorem dT_n {f:FuncId} {n:Nat} {R:Type} {sh:R->VV} {C:List Int->Prop} {F:List Int->R} (hsh:∀ r,(sh r).pure=true) (hf:∀ ns:List Int,ns.length=n->C ns->∀ c1 c2 c3,∃ h',CallsV Try.prog f (.agg (pnV p c1 c2 c3)::ns.map (VV.int .i64)) (pnH p) (.ret (sh (F ns))) h'):SpOk Try.prog (dT p f n sh C F).1 (dT p f n sh C F).2:=
 dT_ok fun ns hn hC _=>calls_pn (hf ns hn hC) (hsh _) (pure_ints ns) pn_tl
theorem bel_ints:∀ ns:List Int,belL 0 (ns.map (VV.int .i64))=true
 | []=>rfl
 | _::ns=>by simp [belL,VV.bel,bel_ints ns]
theorem dT_d {f:FuncId} {n:Nat} {R:Type} {sh:R->VV} {C:List Int->Prop} {F:List Int->R} (hsh:∀ r,(sh r).bel 0=true) (hf:∀ ns:List Int,ns.length=n->C ns->∃ h',CallsV Try.prog f (.agg (pnL p)::ns.map (VV.int .i64)) ⟨0,[]⟩ (.ret (sh (F ns))) h'):SpOk Try.prog (dT p f n sh C F).1 (dT p f n sh C F).2:=
 dT_ok fun ns hn hC _=>by
  obtain ⟨h',hc⟩:=hf ns hn hC
  exact calls_lift0 hc (bel_ints ns) (hsh _)
theorem eq_sp (v:Int × Int × Int):(decide (v.1=v.1) && (decide (v.2.1=v.2.1) && true))=true:=by simp
theorem rowsV_ok:∀ x ∈ rowsV p,SpOk Try.prog x.1 x.2:=fun x hx=>by
 simp only [rowsV,List.mem_cons,List.not_mem_nil,or_false] at hx
 rcases hx with rfl | rfl | rfl | rfl | rfl | rfl | rfl | rfl | rfl | rfl
 ·exact dT_n (fun _=>rfl) fun ns hn _ c1 c2 c3=>by
   match ns,hn with
   | [m],_=>exact Nos.great_v p c1 c2 c3 m
 ·exact Nos.alvT_ok
 ·exact dT_n (fun _=>rfl) fun ns hn _ c1 c2 c3=>by
   match ns,hn with
   | [],_=>exact fis_all c1 c2 c3
 ·exact dT_d (fun _=>rfl) fun ns hn _=>by
   match ns,hn with
   | [],_=>exact rfit_v
 ·exact dT_n (fun _=>rfl) fun ns hn _ c1 c2 c3=>by
   match ns,hn with
   | [s],_=>exact val_all s c1 c2 c3
 ·exact dT_d (fun _=>rfl) fun ns hn _=>by
   match ns,hn with
   | [s],_=>exact rval_v s
 ·exact dT_n (fun _=>rfl) fun ns hn _ c1 c2 c3=>by
   match ns,hn with
   | [s,t],_=>exact dif_all s t c1 c2 c3
 ·exact dT_d (fun _=>rfl) fun ns hn _=>by
   match ns,hn with
   | [s,t],_=>exact rdif_v s t
 ·exact dT_n (fun _=>rfl) fun ns hn hC c1 c2 c3=>by
   match ns,hn with
   | [s,t,m],_=>exact alk_all s t m hC c1 c2 c3
 ·exact dT_d (fun _=>rfl) fun ns hn hC=>by
   match ns,hn with
   | [s,t,m],_=>exact ralk_v s t m hC
theorem values_v (a b m:Int) (hm:m<=9223372036854775807):∃ h',CallsV Try.prog 7 [.agg (pnL p),I a,I b,I m] ⟨0,[]⟩ (.ret (.bool true)) h':=by
 obtain ⟨r,h',rfl,hc⟩:=of_callN (noL_good (tabs4 (rowsV_ok (p:=p)))) (f:=7) (args:=[.agg (pnL p),I a,I b,I m]) (h:=⟨0,[]⟩) (K:=fun r _=>r=.ret (.bool true)) (by
  refine cast (law7_ev p a b m _).symm ⟨rfl,trivial,fun v _=>Nos.cond_b (fun _=>rfl) fun _=>⟨rfl,trivial,fun v h1=>⟨rfl,trivial,fun w h2=>⟨rfl,trivial,fun x h3=>⟨rfl,trivial,fun y h4=>⟨rfl,trivial,fun z h5=>⟨rfl,trivial,fun u h6=>⟨rfl,hm,fun k h7=>⟨rfl,hm,fun l h8=>?_⟩⟩⟩⟩⟩⟩⟩⟩⟩
  obtain rfl:v=w:=h1.trans h2.symm
  obtain rfl:x=y:=h3.trans h4.symm
  obtain rfl:z=u:=h5.trans h6.symm
  obtain rfl:k=l:=h7.trans h8.symm
  exact cond_k (beq_self_eq_true _) (cond_dk rfl (cond_k (eq_sp x) (cond_dk rfl (cond_k (eq_sp z) (cond_dk rfl (cond_k (beq_self_eq_true _) (cond_k (beq_self_eq_true _) (cond_dk rfl rfl)))))))))
 exact ⟨h',hc⟩
end
end Go.Sx.Nod
