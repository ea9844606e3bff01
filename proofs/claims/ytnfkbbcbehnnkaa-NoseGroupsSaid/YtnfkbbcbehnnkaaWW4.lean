/- stream: No1 Ol1 Ol2 Ol3 Nm4 Nm5 Nm6 Nm7 Np1 Np2 Np3 Np4 Np5 No2 No3 Np6 Np7 Np8, in one text. -/
import Derived.Test.YtnfkbbcbehnnkaaWW3
namespace Go.Sx.Nos
open Go Go.Sx Go.Proofs
set_option maxRecDepth 1000000
def Bd (p:Pn) (a b:Nd):Prop:=∃ K:Int,∀ x,Sol p x->-K<=x a - x b/\x a - x b<=K
section
variable {p:Pn} {a b c:Nd}
theorem bd_refl:Bd p a a:=⟨0,fun _ _=>⟨by omega,by omega⟩⟩
theorem bd_symm (h:Bd p a b):Bd p b a:=h.elim fun K h=>⟨K,fun x hx=>⟨by have:=(h x hx).2; omega,by have:=(h x hx).1; omega⟩⟩
theorem bd_trans (h:Bd p a b) (g:Bd p b c):Bd p a c:=by
 obtain ⟨K,h⟩:=h
 obtain ⟨L,g⟩:=g
 refine ⟨K+L,fun x hx=>?_⟩
 have h1:=h x hx
 have g1:=g x hx
 omega
theorem bd_un (h:Un p a b):¬ Bd p a b:=fun ⟨K,hb⟩=>by
 obtain ⟨x,hx,hk⟩:=h (K+1)
 have:=(hb x hx).2
 omega
theorem bd_mx {m n:Int} (h:Mx p a b m) (g:Mx p b a n):Bd p a b:=by
 refine ⟨max m n,fun x hx=>?_⟩
 have h1:=h.1 x hx
 have g1:=g.1 x hx
 omega
theorem bdP_iff (hp:PnOk p) (hf:fitF p) {s o:Int} (hs:thP p (vN s)) (ho:thP p (vN o)):bdP p s o ↔ Bd p (vN s) (vN o):=by
 have hW:=eWW
 unfold bdP
 rcases far_cases hp hf hs ho with ⟨h1,h2⟩ | ⟨h1,h2,h3,h4⟩
 ·exact ⟨fun h=>by omega,fun h=>(bd_un h2 h).elim⟩
 ·rcases far_cases hp hf ho hs with ⟨g1,g2⟩ | ⟨g1,g2,g3,g4⟩
  ·exact ⟨fun h=>by omega,fun h=>(bd_un g2 (bd_symm h)).elim⟩
  ·exact ⟨fun _=>bd_mx h2 g2,fun _=>⟨by omega,by omega⟩⟩
noncomputable def gE (p:Pn) (k:Nat):Int:=gN p k (grp p k)
theorem grp_eq (p:Pn):∀ n,grp p n=(List.range n).map (gE p)
 | 0=>rfl
 | n+1=>by
  rw [List.range_succ,List.map_append,<- grp_eq p n]
  rfl
theorem gE_no {k:Nat} (h:¬ thP p (vN k)):gE p k = -1:=by
 unfold gE gN
 rw [if_neg h]
end
end Go.Sx.Nos
namespace Go.Sx.Nod
open Go Go.Sx Go.Proofs
set_option maxRecDepth 1000000
def dsQ0:List Nat:=[8,7,5,4,2,3]
def VQ0 (l:List Nod) (g:Nat->Nat->Int) (k:Nat) (out:VV):List VV:=[I k,out,matD l.length l.length g,noD l,.nils,I 0]
def dsQ2:List Nat:=[11,10,9,8,7,5,4,2,3]
def VQ2 (l:List Nod) (g:Nat->Nat->Int) (k:Nat) (t q f:Int):List VV:=I t::I q::I f::VQ0 l g k (.sl 1 k)
theorem q2_ev (p:Nos.Pn) (l:List Nod) (g:Nat->Nat->Int) (k:Nat) (t q f:Int) (B:List Int) (X:VEx->List VV->List VB->Prop):codeE Try.prog (callN Try.prog (tabS [ixA p]) noL 10 20) (fun _=>none) true 10 (ntOf Try.prog 35) 0 (loopB 2 (bodyOf Try.prog 35)) (dsQ2.zip (VQ2 l g k t q f)) ⟨2,[1].zip [.vec k (dG B) 1 3]⟩ (obs 2 dsQ2 [1] X) =
 (bif decide (t ≥ (0:Int)) then
 bif decide (q ≥ (0:Int)) then
 noD l=noD (ndF p)/\Nos.PnOk p/\(Nod.mk (1:Int) t (0:Int) ∈ ndF p->∀ (q_1:Nat),q_1=nx p (Nod.mk (1:Int) t (0:Int))->bif decide ((0:Int)<=q/\q<(↑l.length:Int)) then
 bif decide ((0:Int)<=(↑q_1:Int)/\(↑q_1:Int)<(↑l.length:Int)) then
 bif decide (g q.toNat (↑q_1:Int).toNat<(1125899906842624:Int)) then
 bif decide ((0:Int)<=(↑q_1:Int)/\(↑q_1:Int)<(↑l.length:Int)) then
 bif decide ((0:Int)<=q/\q<(↑l.length:Int)) then
 bif decide (g (↑q_1:Int).toNat q.toNat<(1125899906842624:Int)) then
 bif inK .i64 (t - (1:Int)) then
 X .normal [I (t - (1:Int)),I q,I t,I (↑k:Int),VV.sl 1 k,VV.tl l.length 1 fun (i:Nat)=>[VV.tl l.length 1 fun (k:Nat)=>[I (g i k)]],noD l,VV.nils,I 0] [VB.vec k (dG B) 1 (3:TypeId)]
 else False
 else bif inK .i64 (t - (1:Int)) then
 X .normal [I (t - (1:Int)),I q,I f,I (↑k:Int),VV.sl 1 k,VV.tl l.length 1 fun (i:Nat)=>[VV.tl l.length 1 fun (k:Nat)=>[I (g i k)]],noD l,VV.nils,I 0] [VB.vec k (dG B) 1 (3:TypeId)]
 else False
 else False
 else False
 else bif inK .i64 (t - (1:Int)) then
 X .normal [I (t - (1:Int)),I q,I f,I (↑k:Int),VV.sl 1 k,VV.tl l.length 1 fun (i:Nat)=>[VV.tl l.length 1 fun (k:Nat)=>[I (g i k)]],noD l,VV.nils,I 0] [VB.vec k (dG B) 1 (3:TypeId)]
 else False
 else False
 else False)/\(¬Nod.mk (1:Int) t (0:Int) ∈ ndF p->bif inK .i64 (t - (1:Int)) then
 X .normal [I (t - (1:Int)),I q,I f,I (↑k:Int),VV.sl 1 k,VV.tl l.length 1 fun (i:Nat)=>[VV.tl l.length 1 fun (k:Nat)=>[I (g i k)]],noD l,VV.nils,I 0] [VB.vec k (dG B) 1 (3:TypeId)]
 else False)
 else X (VEx.exit 2) [I t,I q,I f,I (↑k:Int),VV.sl 1 k,VV.tl l.length 1 fun (i:Nat)=>[VV.tl l.length 1 fun (k:Nat)=>[I (g i k)]],noD l,VV.nils,I 0] [VB.vec k (dG B) 1 (3:TypeId)]
 else X (VEx.exit 2) [I t,I q,I f,I (↑k:Int),VV.sl 1 k,VV.tl l.length 1 fun (i:Nat)=>[VV.tl l.length 1 fun (k:Nat)=>[I (g i k)]],noD l,VV.nils,I 0] [VB.vec k (dG B) 1 (3:TypeId)]):=by kernel_rfl
def okB (p:Nos.Pn) (k:Nat) (t:Int):Prop:=vX t ∈ ndF p/\Nos.bdP p k t
def fstP (p:Nos.Pn) (k:Nat) (lo f:Int):Prop:=(f = -1/\∀ t,lo<=t->t<=k->¬ okB p k t) ∨ (lo<=f/\f<=k/\okB p k f/\∀ t,lo<=t->t<f->¬ okB p k t)
def fR (p:Nos.Pn) (k:Nat) (f:Int):Prop:=(vX k ∈ ndF p/\fstP p k 0 f) ∨ (vX k ∉ ndF p/\f = -1)
structure Gc (p:Nos.Pn) (l:List Nod) (g:Nat->Nat->Int):Prop where
 hl:l=ndF p
 hp:Nos.PnOk p
 hf:Nos.fitF p
 hg:gFar p g
def lQ2 (p:Nos.Pn) (l:List Nod) (g:Nat->Nat->Int) (k:Nat) (B:List Int):LT:=fun lock tt h K=>
 ∃ q:Int,FitP lock h tt ⟨2,[1].zip [.vec k (dG B) 1 3]⟩ (dsQ2.zip (VQ2 l g k k q (-1)))/\(Gc p l g/\k<=16/\((vX k ∈ ndF p/\q=(nx p (vX k):Nat)) ∨ (vX k ∉ ndF p/\q = -1))) /\
  ∀ t f:Int,fR p k f->K .normal (dsQ2.zip (VQ2 l g k t q f)) ⟨2,[1].zip [.vec k (dG B) 1 3]⟩
theorem q0_ev (p:Nos.Pn) (l:List Nod) (g:Nat->Nat->Int) (k:Nat) (B:List Int) (X:VEx->List VV->List VB->Prop):codeE Try.prog (callN Try.prog (tabS [ixA p]) noL 10 20) (tabB [(2,lQ2 p l g k B)]) true 10 (ntOf Try.prog 35) 0 (loopB 0 (bodyOf Try.prog 35)) (dsQ0.zip (VQ0 l g k (.sl 1 k))) ⟨2,[1].zip [.vec k (dG B) 1 3]⟩ (obs 2 dsQ0 [1] X) =
 (bif decide ((↑k:Int)<(16:Int)) then
 noD l=noD (ndF p)/\Nos.PnOk p/\(Nod.mk (1:Int) (↑k:Int) (0:Int) ∈ ndF p->∀ (q:Nat),q=nx p (Nod.mk (1:Int) (↑k:Int) (0:Int))->∃ (q_1:Int),FitP 0 (VH.mk 2 ([1].zip [VB.vec k (dG B) 1 (3:TypeId)])) ((11,I (↑k:Int))::(34,I (↑k:Int))::(10,I (↑q:Int))::(33,I (↑q:Int))::(32,VV.agg [I 1,I (↑k:Int),I 0])::(31,I (↑k:Int))::(30,noD l)::(9,I (-1))::(27,VV.bool true)::(27,VV.bool (decide ((↑k:Int)<(16:Int))))::(26,I (↑k:Int))::dsQ0.zip (VQ0 l g k (VV.sl 1 k))) (VH.mk 2 ([1].zip [VB.vec k (dG B) 1 (3:TypeId)])) (dsQ2.zip (VQ2 l g k (↑k:Int) q_1 (-1:Int)))/\(Gc p l g/\k<=16/\(vX (↑k:Int) ∈ ndF p/\q_1=(↑(nx p (vX (↑k:Int))):Int) ∨ ¬vX (↑k:Int) ∈ ndF p/\q_1=(-1:Int)))/\∀ (t f:Int),fR p k f->bif k.beq k then
 bif roomB (k+1) (8) then
 bif inK .i64 ((↑k:Int)+(1:Int)) then
 X .normal [I ((↑k:Int)+(1:Int)),VV.sl 1 (k+1),VV.tl l.length 1 fun (i:Nat)=>[VV.tl l.length 1 fun (k:Nat)=>[I (g i k)]],noD l,VV.nils,I 0] [VB.vec (k+1) (catG k (dG B) fun (j:Nat)=>List.take (1) (List.drop (j*(1)) [I f])) (1) 3]
 else False
 else False
 else False)/\(¬Nod.mk (1:Int) (↑k:Int) (0:Int) ∈ ndF p->∃ (q:Int),FitP 0 (VH.mk 2 ([1].zip [VB.vec k (dG B) 1 (3:TypeId)])) ((11,I (↑k:Int))::(34,I (↑k:Int))::(10,I (-1))::(33,I (-1))::(32,VV.agg [I 1,I (↑k:Int),I 0])::(31,I (↑k:Int))::(30,noD l)::(9,I (-1))::(27,VV.bool true)::(27,VV.bool (decide ((↑k:Int)<(16:Int))))::(26,I (↑k:Int))::dsQ0.zip (VQ0 l g k (VV.sl 1 k))) (VH.mk 2 ([1].zip [VB.vec k (dG B) 1 (3:TypeId)])) (dsQ2.zip (VQ2 l g k (↑k:Int) q (-1:Int)))/\(Gc p l g/\k<=16/\(vX (↑k:Int) ∈ ndF p/\q=(↑(nx p (vX (↑k:Int))):Int) ∨ ¬vX (↑k:Int) ∈ ndF p/\q=(-1:Int)))/\∀ (t f:Int),fR p k f->bif k.beq k then
 bif roomB (k+1) (8) then
 bif inK .i64 ((↑k:Int)+(1:Int)) then
 X .normal [I ((↑k:Int)+(1:Int)),VV.sl 1 (k+1),VV.tl l.length 1 fun (i:Nat)=>[VV.tl l.length 1 fun (k:Nat)=>[I (g i k)]],noD l,VV.nils,I 0] [VB.vec (k+1) (catG k (dG B) fun (j:Nat)=>List.take (1) (List.drop (j*(1)) [I f])) (1) 3]
 else False
 else False
 else False)
 else X (VEx.exit 0) [I (↑k:Int),VV.sl 1 k,VV.tl l.length 1 fun (i:Nat)=>[VV.tl l.length 1 fun (k:Nat)=>[I (g i k)]],noD l,VV.nils,I 0] [VB.vec k (dG B) 1 (3:TypeId)]):=by kernel_rfl
noncomputable def lQ0s (p:Nos.Pn) (l:List Nod) (g:Nat->Nat->Int):LT:=fun lock tt h K=>
 FitP lock h tt ⟨2,[1].zip [.vec 0 (dG (Nos.grp p 0)) 1 3]⟩ (dsQ0.zip (VQ0 l g 0 (.sl 1 0)))/\Gc p l g/\K .normal (dsQ0.zip (VQ0 l g 16 (.sl 1 16))) ⟨2,[1].zip [.vec 16 (dG (Nos.grp p 16)) 1 3]⟩
def dsQ00:List Nat:=[7,8,5,4,2,3]
noncomputable def lQ0 (p:Nos.Pn):LT:=fun lock tt h K=>∃ (l:List Nod) (g:Nat->Nat->Int),
 FitP lock h tt ⟨1,[]⟩ (dsQ00.zip [.nils,I 0,matD l.length l.length g,noD l,.nils,I 0])/\Gc p l g/\K .normal (dsQ0.zip (VQ0 l g 16 (.sl 1 16))) ⟨2,[1].zip [.vec 16 (dG (Nos.grp p 16)) 1 3]⟩
theorem gr_ev (p:Nos.Pn) (Q:VRes->VB->Prop):callN Try.prog (tabS [rpR p,ndR p,moR p]) (atF 35 [(0,lQ0 p)]) 10 20 0 (.fn 35) [.agg (pnL p)] ⟨0,[]⟩ (fun r h=>Q r (h.at 1)) =
 (isD (VH.mk (0+1) [(0,VB.cells [VV.tl p.D.length 1 (dG p.D),VV.tl p.T.length 5 (Nos.tG p.T),VV.tl p.S.length 3 (Nos.sG p.S)] 26)]) 2 (VV.agg [VV.tl p.D.length 1 (dG p.D),VV.tl p.T.length 5 (Nos.tG p.T),VV.tl p.S.length 3 (Nos.sG p.S)]) (VV.agg (pnL p))/\bif !Nos.panB p then
 Q (VRes.ret (VV.tup [VV.nils,I 1])) VB.free
 else VV.agg (pnL p)=VV.agg (pnL p)/\Nos.PnOk p/\∀ (l:List Nod),l=ndF p->(VV.agg (pnL p)=VV.agg (pnL p)/\noD l=noD (ndF p))/\Nos.PnOk p/\(Nos.fitF p->∀ (g:Nat->Nat->Int),gFar p g->∀ (n:Nat),n=(ndF p).length->∃ (l_1:List Nod),∃ (g_1:Nat->Nat->Int),FitP 0 (VH.mk (0+1) [(0,VB.cells [VV.tl p.D.length 1 (dG p.D),VV.tl p.T.length 5 (Nos.tG p.T),VV.tl p.S.length 3 (Nos.sG p.S)] 26)]) [(8,I 0),(7,VV.nils),(25,VV.bool false),(25,VV.bool !true),(24,VV.bool true),(6,VV.bool true),(5,VV.tl n 1 fun (i:Nat)=>[VV.tl n 1 fun (k:Nat)=>[I (g i k)]]),(23,VV.bool true),(22,VV.tl n 1 fun (i:Nat)=>[VV.tl n 1 fun (k:Nat)=>[I (g i k)]]),(18,VV.tup [matD n n g,VV.bool true]),(21,VV.tup [matD n n g,VV.bool true]),(20,noD l),(19,VV.agg [VV.tl p.D.length 1 (dG p.D),VV.tl p.T.length 5 (Nos.tG p.T),VV.tl p.S.length 3 (Nos.sG p.S)]),(4,noD l),(17,noD l),(16,VV.agg [VV.tl p.D.length 1 (dG p.D),VV.tl p.T.length 5 (Nos.tG p.T),VV.tl p.S.length 3 (Nos.sG p.S)]),(15,VV.bool false),(15,VV.bool !Nos.panB p),(14,VV.bool (Nos.panB p)),(13,VV.agg [VV.tl p.D.length 1 (dG p.D),VV.tl p.T.length 5 (Nos.tG p.T),VV.tl p.S.length 3 (Nos.sG p.S)]),(3,I 0),(2,VV.nils),(1,VV.ptr (VA.own 0 0)),(0,VV.agg (pnL p))] (VH.mk 1 []) (dsQ00.zip [VV.nils,I 0,matD l_1.length l_1.length g_1,noD l_1,VV.nils,I 0])/\Gc p l_1 g_1/\Q (VRes.ret (VV.tup [VV.sl 1 16,I 0])) (VB.vec 16 (dG (Nos.grp p 16)) 1 (3:TypeId)))/\(¬Nos.fitF p->∀ (g:Nat->Nat->Int) (n:Nat),n=(ndF p).length->Q (VRes.ret (VV.tup [VV.nils,I 6])) VB.free)):=by kernel_rfl
end Go.Sx.Nod
namespace Go.Sx.Nod
open Go Go.Sx Go.Proofs
open Go.Sx.Nos (Pn PnOk thP vN Bd bdP gFirst gN grp grp_eq)
set_option maxRecDepth 1000000
section
variable {p:Pn}
theorem gf_none {s:Int}:∀ {l:List Int},(∀ o ∈ l,¬ (0<=o/\bdP p s o))->gFirst p s l=s
 | [],_=>rfl
 | o::r,h=>by
  unfold gFirst
  rw [if_neg (h o (by simp))]
  exact gf_none fun o ho=>h o (by simp [ho])
theorem gf_some {s o:Int} {b:List Int}:∀ {a:List Int},(∀ o ∈ a,¬ (0<=o/\bdP p s o))->(0<=o/\bdP p s o)->gFirst p s (a ++ o::b)=o
 | [],_,h=>by
  show gFirst p s (o::b)=o
  unfold gFirst
  rw [if_pos h]
 | x::r,h,h2=>by
  show gFirst p s (x::(r ++ o::b))=o
  unfold gFirst
  rw [if_neg (h x (by simp))]
  exact gf_some (fun o ho=>h o (by simp [ho])) h2
theorem okB_iff (hp:PnOk p) (hf:Nos.fitF p) {k:Nat} (hk:thP p (vN k)) {t:Int} (ht:0<=t):okB p k t ↔ thP p (vN t)/\Bd p (vN k) (vN t):=by
 unfold okB
 rw [<- thV hp ht]
 exact ⟨fun h=>⟨h.1,(Nos.bdP_iff hp hf hk h.1).1 h.2⟩,fun h=>⟨h.1,(Nos.bdP_iff hp hf hk h.1).2 h.2⟩⟩
theorem gE_fst (hp:PnOk p) (hf:Nos.fitF p):∀ (n k:Nat),k<n->fR p k (Nos.gE p k):=by
 intro n
 induction n with
 | zero=>exact fun k hk=>absurd hk (Nat.not_lt_zero _)
 | succ n ih=>
  intro k hk
  by_cases hm:vX (k:Int) ∈ ndF p
  ·have hk0:thP p (vN (k:Int)):=(thV hp (by omega)).2 hm
   refine .inl ⟨hm,.inr ?_⟩
   have hl:grp p k=(List.range k).map (Nos.gE p):=grp_eq p k
   have hself:okB p k k:=(okB_iff hp hf hk0 (by omega)).2 ⟨hk0,Nos.bd_refl⟩
   have hg:Nos.gE p k=gFirst p k (grp p k):=by
    show gN p k (grp p k)=_
    unfold gN
    rw [if_pos hk0]
   have lead:∀ j,j<k->0<=Nos.gE p j->bdP p k (Nos.gE p j)->okB p k j/\vX (Nos.gE p j) ∈ ndF p:=fun j hj h0 hb=>by
    rcases ih j (by omega) with ⟨h1,h2⟩ | ⟨_,h2⟩
    ·have hj0:thP p (vN (j:Int)):=(thV hp (by omega)).2 h1
     rcases h2 with ⟨h3,_⟩ | ⟨h3,h4,h5,_⟩
     ·omega
     ·have h6:=(okB_iff hp hf hj0 h0).1 h5
      have h7:=(Nos.bdP_iff hp hf hk0 h6.1).1 hb
      exact ⟨(okB_iff hp hf hk0 (by omega)).2 ⟨hj0,Nos.bd_trans h7 (Nos.bd_symm h6.2)⟩,(thV hp h0).1 h6.1⟩
    ·omega
   by_cases hex:∃ t:Nat,t<k/\okB p k t
   · -- the least
    have hmin:∃ t:Nat,(t<k/\okB p k t)/\∀ u:Nat,u<t->¬ okB p k u:=by
     obtain ⟨t,ht⟩:=hex
     induction t using Nat.strongRecOn with
     | ind t iht=>
      by_cases h:∃ u:Nat,u<t/\okB p k u
      ·obtain ⟨u,hu,ho⟩:=h
       exact iht u hu ⟨by omega,ho⟩
      ·exact ⟨t,ht,fun u hu ho=>h ⟨u,hu,ho⟩⟩
    obtain ⟨t,⟨htk,hto⟩,htm⟩:=hmin
    have ht1:=(okB_iff hp hf hk0 (by omega)).1 hto
    have htE:Nos.gE p t=t:=by
     rcases ih t (by omega) with ⟨h1,h2⟩ | ⟨h1,_⟩
     ·rcases h2 with ⟨_,h4⟩ | ⟨h3,h4,h5,h6⟩
      ·exact absurd ((okB_iff hp hf ht1.1 (by omega)).2 ⟨ht1.1,Nos.bd_refl⟩) (h4 t (by omega) (by omega))
      ·have h7:=(okB_iff hp hf ht1.1 h3).1 h5
       have h8:okB p k (Nos.gE p t):=(okB_iff hp hf hk0 h3).2 ⟨h7.1,Nos.bd_trans ht1.2 h7.2⟩
       have h9:=htm (Nos.gE p t).toNat
       rw [Int.toNat_of_nonneg h3] at h9
       by_cases hlt:(Nos.gE p t).toNat<t
       ·exact absurd h8 (h9 hlt)
       ·omega
     ·exact absurd ((thV hp (by omega)).1 ht1.1) h1
    have hr:Nos.gE p k=t:=by
     rw [hg,hl]
     have hsp:(List.range k).map (Nos.gE p)=(List.range t).map (Nos.gE p) ++ Nos.gE p t::((List.range k).drop (t+1)).map (Nos.gE p):=by
      have:List.range k=List.range t ++ t::(List.range k).drop (t+1):=by
       apply List.ext_getElem?
       intro i
       by_cases h1:i<t
       ·rw [List.getElem?_append_left (by simpa using h1),List.getElem?_range (by omega),List.getElem?_range h1]
       ·rw [List.getElem?_append_right (by simp; omega),List.length_range]
        by_cases h2:i=t
        ·subst h2
         rw [Nat.sub_self,List.getElem?_range htk]
         rfl
        ·rw [show i - t=(i - t - 1)+1 by omega,List.getElem?_cons_succ,List.getElem?_drop,show t+1+(i - t - 1)=i by omega]
      rw [this,List.map_append,List.map_cons,<- this]
     rw [hsp,gf_some (fun o ho=>?_) ⟨by rw [htE]; omega,by rw [htE]; exact hto.2⟩,htE]
     obtain ⟨j,hj,rfl⟩:=List.mem_map.1 ho
     rw [List.mem_range] at hj
     exact fun ⟨h0,hb⟩=>htm j hj (lead j (by omega) h0 hb).1
    rw [hr]
    exact ⟨by omega,by omega,hto,fun u hu0 hut=>by
     have:=htm u.toNat (by omega)
     rwa [Int.toNat_of_nonneg hu0] at this⟩
   ·have hr:Nos.gE p k=k:=by
     rw [hg,hl]
     refine gf_none fun o ho=>?_
     obtain ⟨j,hj,rfl⟩:=List.mem_map.1 ho
     rw [List.mem_range] at hj
     exact fun ⟨h0,hb⟩=>hex ⟨j,hj,(lead j hj h0 hb).1⟩
    rw [hr]
    exact ⟨by omega,by omega,hself,fun u hu0 hut ho=>hex ⟨u.toNat,by omega,by rw [Int.toNat_of_nonneg hu0]; exact ho⟩⟩
  ·refine .inr ⟨hm,Nos.gE_no fun h=>hm ((thV hp (by omega)).1 h)⟩
theorem fst_uniq {k:Nat} {lo f g:Int} (h:fstP p k lo f) (h2:fstP p k lo g):f=g:=by
 rcases h with ⟨rfl,h⟩ | ⟨a1,a2,a3,a4⟩ <;> rcases h2 with ⟨rfl,h2⟩ | ⟨b1,b2,b3,b4⟩
 ·rfl
 ·exact absurd b3 (h g b1 b2)
 ·exact absurd a3 (h2 f a1 a2)
 ·by_cases h1:f<g
  ·exact absurd a3 (b4 f a1 h1)
  ·by_cases h2:g<f
   ·exact absurd b3 (a4 g b1 h2)
   ·omega
theorem fR_eq (hp:PnOk p) (hf:Nos.fitF p) {k:Nat} {f:Int} (h:fR p k f):f=Nos.gE p k:=by
 rcases h with ⟨h1,h2⟩ | ⟨h1,rfl⟩ <;> rcases gE_fst hp hf (k+1) k (by omega) with ⟨g1,g2⟩ | ⟨g1,g2⟩
 ·exact fst_uniq h2 g2
 ·exact absurd h1 g1
 ·exact absurd g1 h1
 ·exact g2.symm
end
end Go.Sx.Nod
namespace Go.Sx.Nod
open Go Go.Sx Go.Proofs
open Go.Sx.Nos (Pn PnOk thP vN bdP grp WW)
set_option maxRecDepth 1000000
section
variable {p:Pn} {l:List Nod} {g:Nat->Nat->Int} {k:Nat} {B:List Int}
theorem fst_ok {t f:Int} (h:okB p k t) (htk:t<=k):fstP p k t t:=.inr ⟨Int.le_refl _,htk,h,fun u h1 h2=>by omega⟩
theorem fst_no {t f:Int} (h:¬ okB p k t) (hf:fstP p k (t+1) f):fstP p k t f:=by
 rcases hf with ⟨rfl,h2⟩ | ⟨h1,h2,h3,h4⟩
 ·refine .inl ⟨rfl,fun u hu hk=>?_⟩
  by_cases hut:u=t
  ·subst hut; exact h
  ·exact h2 u (by omega) hk
 ·refine .inr ⟨by omega,h2,h3,fun u hu huf=>?_⟩
  by_cases hut:u=t
  ·subst hut; exact h
  ·exact h4 u (by omega) huf
theorem lQ2_ok:LSound Try.prog true (.block 2 (.loop (loopB 2 (bodyOf Try.prog 35)))) (ntOf Try.prog 35) (lQ2 p l g k B):=by
 intro lock tt h K hK
 obtain ⟨q,hf,⟨hG,hk,hq⟩,hK⟩:=hK
 have key:LSound Try.prog true (.block 2 (.loop (loopB 2 (bodyOf Try.prog 35)))) (ntOf Try.prog 35) (fun lock tt h K=>FitP lock h tt ⟨2,[1].zip [.vec k (dG B) 1 3]⟩ (dsQ2.zip (VQ2 l g k k q (-1)))/\∀ t f:Int,fR p k f->K .normal (dsQ2.zip (VQ2 l g k t q f)) ⟨2,[1].zip [.vec k (dG B) 1 3]⟩):=by
  have hp:=hG.hp
  have hn:l.length<=65:=by rw [hG.hl]; exact ndF_le hp
  refine loop_row hmix (noL_good (tab1 (ixA_ok (p:=p)))) (un:=10) (ds:=dsQ2) (ns:=[1]) (nx:=2) (fun s:Int × Int=>VQ2 l g k s.1 q s.2) (fun _=>[.vec k (dG B) 1 3]) (fun s=>-1<=s.1/\s.1<=k/\((vX k ∈ ndF p/\q=(nx p (vX k):Nat)/\fstP p k (s.1+1) s.2) ∨ (vX k ∉ ndF p/\q = -1/\s.2 = -1))) (fun s=>(s.1+1).toNat)
   (fun _ e vs bs=>e=.exit 2/\bs=[.vec k (dG B) 1 3]/\∃ t f:Int,fR p k f/\vs=VQ2 l g k t q f) noL_ok ?_ ?_
  ·rintro ⟨t,f⟩ ⟨ht,htk,hs⟩
   dsimp only at ht htk hs
   refine cast (q2_ev p l g k t q f B _).symm ?_
   refine cond_d (fun h0=>?_) (fun h0=>?_)
   ·rcases hs with ⟨hm,hq,hfs⟩ | ⟨hm,hq,hfs⟩
    ·have lk:=nx_lt hp hm
     rw [<- hG.hl] at lk
     refine cond_d (fun h1=>?_) (fun h1=>absurd h1 (by omega))
     have next:∀ f':Int,fstP p k t f'->RoundQ (fun s:Int × Int=>VQ2 l g k s.1 q s.2) (fun _=>[.vec k (dG B) 1 3]) (fun s=>-1<=s.1/\s.1<=k/\((vX k ∈ ndF p/\q=(nx p (vX k):Nat)/\fstP p k (s.1+1) s.2) ∨ (vX k ∉ ndF p/\q = -1/\s.2 = -1))) (fun s=>(s.1+1).toNat)
       (fun _ e vs bs=>e=.exit 2/\bs=[.vec k (dG B) 1 3]/\∃ t f:Int,fR p k f/\vs=VQ2 l g k t q f) (t,f) .normal (VQ2 l g k (t - 1) q f') [.vec k (dG B) 1 3]:=fun f' hf'=>
      ⟨(t - 1,f'),⟨by show -1<=t - 1; omega,by show t - 1<=k; omega,.inl ⟨hm,hq,by show fstP p k (t - 1+1) f'; rw [show t - 1+1=t by omega]; exact hf'⟩⟩,by show (t - 1+1).toNat<(t+1).toNat; omega,rfl,fitBs_refl _,fun _ _ _ h=>h⟩
     refine ⟨by rw [hG.hl],hp,fun hmt c hc=>?_,fun hmt=>cond_r (by omega) (next f (fst_no (fun h=>hmt h.1) hfs))⟩
     have hmt:vX t ∈ ndF p:=hmt
     have hc:c=nx p (vX t):=hc
     have lt:=nx_lt hp hmt
     rw [<- hG.hl] at lt
     have e1:g q.toNat (c:Int).toNat=Nos.farAB p (vN k) (vN t):=by rw [hq,hc,Int.toNat_natCast,Int.toNat_natCast]; exact hG.hg _ _ hm hmt
     have e2:g (c:Int).toNat q.toNat=Nos.farAB p (vN t) (vN k):=by rw [hq,hc,Int.toNat_natCast,Int.toNat_natCast]; exact hG.hg _ _ hmt hm
     have e3:(1125899906842624:Int)=WW:=rfl
     rw [e1,e2,e3]
     refine cond_dk ⟨by omega,by omega⟩ (cond_dk ⟨by omega,by omega⟩ (cond_d (fun c1=>cond_dk ⟨by omega,by omega⟩ (cond_dk ⟨by omega,by omega⟩ (cond_d (fun c2=>cond_r (by omega) (next t (fst_ok (f:=f) ⟨hmt,c1,c2⟩ htk))) (fun c2=>cond_r (by omega) (next f (fst_no (fun h=>c2 h.2.2) hfs)))))) (fun c1=>cond_r (by omega) (next f (fst_no (fun h=>c1 h.2.1) hfs)))))
    ·exact cond_d (fun h1=>absurd h1 (by omega)) (fun _=>⟨rfl,rfl,t,f,.inr ⟨hm,hfs⟩,rfl⟩)
   ·obtain rfl:t = -1:=by omega
    refine ⟨rfl,rfl,-1,f,?_,rfl⟩
    rcases hs with ⟨hm,hq,hfs⟩ | ⟨hm,hq,hfs⟩
    ·exact .inl ⟨hm,hfs⟩
    ·exact .inr ⟨hm,hfs⟩
  ·rintro lock tt h K ⟨hf,hK⟩
   refine ⟨((k:Int),-1),hf,⟨by show (-1:Int)<=k; omega,Int.le_refl _,hq.imp (fun h=>⟨h.1,h.2,.inl ⟨rfl,fun u h1 h2=>by omega⟩⟩) (fun h=>⟨h.1,h.2,rfl⟩)⟩,?_⟩
   rintro e vs bs ⟨rfl,rfl,t,f,h1,rfl⟩
   exact hK t f h1
 exact key lock tt h K ⟨hf,hK⟩
theorem fit_grp2 {y:Int} (hy:grp p (k+1)=grp p k ++ [y]):(VB.vec (k+1) (dG (grp p (k+1))) 1 3).fit (.vec (k+1) (catG k (dG (grp p k)) fun j=>List.take 1 (List.drop (j*1) [I y])) 1 3):=Nos.fit_grp hy
theorem lQ0s_ok:LSound Try.prog true (.block 0 (.loop (loopB 0 (bodyOf Try.prog 35)))) (ntOf Try.prog 35) (lQ0s p l g):=by
 by_cases hh:Gc p l g
 ·have hp:=hh.hp
  refine loop_rowD hmix (noL_good (tab1 (ixA_ok (p:=p)))) (un:=10) (ds:=dsQ0) (ns:=[1]) (nx:=2) (lsp:=fun k:Nat=>tabB [(2,lQ2 p l g k (grp p k))]) (fun k:Nat=>VQ0 l g k (.sl 1 k)) (fun k=>[.vec k (dG (grp p k)) 1 3]) (fun k=>k<=16) (fun k=>16 - k)
   (fun _ e vs bs=>e=.exit 0/\vs=VQ0 l g 16 (.sl 1 16)/\bs=[.vec 16 (dG (grp p 16)) 1 3]) (fun _ _=>lsp_one (by kernel_rfl) lQ2_ok) ?_ ?_
  ·intro k hk
   refine cast (q0_ev p l g k (grp p k) _).symm ?_
   refine cond_d (fun h=>?_) (fun h=>?_)
   ·have fin:∀ f:Int,fR p k f->(bif k.beq k then bif roomB (k+1) 8 then bif inK .i64 ((k:Int)+1) then RoundQ (fun k:Nat=>VQ0 l g k (.sl 1 k)) (fun k=>[.vec k (dG (grp p k)) 1 3]) (fun k=>k<=16) (fun k=>16 - k)
      (fun _ e vs bs=>e=.exit 0/\vs=VQ0 l g 16 (.sl 1 16)/\bs=[.vec 16 (dG (grp p 16)) 1 3]) k .normal (VQ0 l g (k+1) (.sl 1 (k+1))) [.vec (k+1) (catG k (dG (grp p k)) fun j=>List.take 1 (List.drop (j*1) [I f])) 1 3] else False else False else False):=fun f hf=>by
     refine cond_k (Nat.beq_refl _) (cond_k (room8 (by omega)) (cond_r (by omega) ⟨k+1,by show k+1<=16; omega,by show 16 - (k+1)<16 - k; omega,rfl,⟨fit_grp2 ?_,trivial⟩,fun _ _ _ h=>h⟩))
     show grp p k ++ [Nos.gE p k]=_
     rw [fR_eq hp hh.hf hf]
    refine ⟨by rw [hh.hl],hp,fun hm q hq=>?_,fun hm=>?_⟩
    ·refine ⟨q,⟨⟨rfl,rfl,VB.fit_refl _,trivial⟩,rfl,rfl,rfl,rfl,rfl,rfl,rfl,rfl,rfl,trivial⟩,⟨hh,by omega,.inl ⟨hm,by rw [hq]; rfl⟩⟩,fun t f hf=>fin f hf⟩
    ·refine ⟨-1,⟨⟨rfl,rfl,VB.fit_refl _,trivial⟩,rfl,rfl,rfl,rfl,rfl,rfl,rfl,rfl,rfl,trivial⟩,⟨hh,by omega,.inr ⟨hm,rfl⟩⟩,fun t f hf=>fin f hf⟩
   ·obtain rfl:k=16:=by omega
    exact ⟨rfl,rfl,rfl⟩
  ·rintro lock tt h K ⟨hf,_,hK⟩
   refine ⟨0,hf,Nat.zero_le _,?_⟩
   rintro e vs bs ⟨rfl,rfl,rfl⟩
   exact hK
 ·rintro lock tt h K ⟨hf,hc,_⟩
  exact (hh hc).elim
theorem lQ0_ok:LSound Try.prog true (.block 0 (.loop (loopB 0 (bodyOf Try.prog 35)))) (ntOf Try.prog 35) (lQ0 p):=by
 rintro lock tt h K ⟨l,g,hf,hG,hK⟩
 have:=Nos.ghost_row (d:=7) (nx:=1) (bs:=[]) (t0:=[8,5,4,2,3].zip [I 0,matD l.length l.length g,noD l,.nils,I 0]) (dG (grp p 0)) 1 3 (lQ0s_ok (p:=p) (l:=l) (g:=g)) (T:=fun lock tt h K=>FitP lock h tt ⟨1,[]⟩ (dsQ00.zip [.nils,I 0,matD l.length l.length g,noD l,.nils,I 0])/\Gc p l g/\K .normal (dsQ0.zip (VQ0 l g 16 (.sl 1 16))) ⟨2,[1].zip [.vec 16 (dG (grp p 16)) 1 3]⟩) (by
  rintro lock t h K ⟨hf,hG,hK⟩
  exact ⟨hf,⟨⟨rfl,rfl,VB.fit_refl _,trivial⟩,rfl,rfl,rfl,rfl,rfl,rfl,trivial⟩,hG,hK⟩)
 exact this lock tt h K ⟨hf,hG,hK⟩
theorem rows_gr:∀ x ∈ [rpR p,ndR p,moR p],SpOk Try.prog x.1 x.2:=rows_ft
theorem rgrp_v:(¬ PnOk p->∃ h',CallsV Try.prog 35 [.agg (pnL p)] ⟨0,[]⟩ (.ret (.tup [.nils,I 1])) h') /\
  (PnOk p->¬ Nos.fitF p->∃ h',CallsV Try.prog 35 [.agg (pnL p)] ⟨0,[]⟩ (.ret (.tup [.nils,I 6])) h') /\
  (PnOk p->Nos.fitF p->∃ h',CallsV Try.prog 35 [.agg (pnL p)] ⟨0,[]⟩ (.ret (.tup [.tl 16 1 (dG (grp p 16)),I 0])) h'):=by
 have hall:LoopsOk Try.prog 35 [(0,lQ0 p)]:=fun y hy=>by
  simp only [List.mem_singleton] at hy
  subst hy
  exact ⟨by kernel_rfl,lQ0_ok⟩
 obtain ⟨r,h',hQ,hc⟩:=of_callN (callL_good hmix (tabs4 (rows_gr (p:=p))) hall (un:=10) 20) (f:=35) (args:=[.agg (pnL p)]) (h:=⟨0,[]⟩)
  (K:=fun r h=>(¬ PnOk p/\r=.ret (.tup [.nils,I 1])) ∨ (PnOk p/\¬ Nos.fitF p/\r=.ret (.tup [.nils,I 6])) ∨ (PnOk p/\Nos.fitF p/\r=.ret (.tup [.sl 1 16,I 0])/\h.at 1=.vec 16 (dG (grp p 16)) 1 3)) (by
  refine cast (gr_ev p fun r b=>(¬ PnOk p/\r=.ret (.tup [.nils,I 1])) ∨ (PnOk p/\¬ Nos.fitF p/\r=.ret (.tup [.nils,I 6])) ∨ (PnOk p/\Nos.fitF p/\r=.ret (.tup [.sl 1 16,I 0])/\b=.vec 16 (dG (grp p 16)) 1 3)).symm ⟨isD_pn,?_⟩
  by_cases hp:PnOk p
  ·rw [pn_t hp]
   refine ⟨rfl,hp,fun l hl=>⟨⟨rfl,by rw [hl]⟩,hp,fun hf g hg n hn=>?_,fun hf g n hn=>.inr (.inl ⟨hp,hf,rfl⟩)⟩⟩
   have hn2:n=l.length:=by rw [hn,hl]
   subst hn2
   exact ⟨l,g,⟨⟨rfl,rfl,trivial⟩,rfl,rfl,rfl,rfl,rfl,rfl,trivial⟩,⟨hl,hp,hf,hg⟩,.inr (.inr ⟨hp,hf,rfl,rfl⟩)⟩
  ·rw [pn_f hp]
   exact .inl ⟨hp,rfl⟩)
 rcases hQ with ⟨h1,rfl⟩ | ⟨h1,h2,rfl⟩ | ⟨h1,h2,rfl,hb⟩
 ·exact ⟨fun _=>⟨_,hc⟩,fun h=>absurd h h1,fun h=>absurd h h1⟩
 ·exact ⟨fun h=>absurd h1 h,fun _ _=>⟨_,hc⟩,fun _ h=>absurd h h2⟩
 ·exact ⟨fun h=>absurd h1 h,fun _ h=>absurd h2 h,fun _ _=>⟨_,calls_tup hc hb (wkL_refl _)⟩⟩
end
end Go.Sx.Nod
namespace Go.Sx.Nos
open Go Go.Sx Go.Proofs
set_option maxRecDepth 1000000
end Go.Sx.Nos
namespace Go.Sx.Nos
open Go Go.Sx Go.Proofs
set_option maxRecDepth 1000000
section
variable {p:Pn} {c1 c2 c3:Nat} {t:Ts} {s:Sd} {v d c:Int × Int × Int} {tu a b e f g:Int}
end
end Go.Sx.Nos
namespace Go.Sx.Nos
open Go Go.Sx Go.Proofs
set_option maxRecDepth 1000000
end Go.Sx.Nos
namespace Go.Sx.Nos
open Go Go.Sx Go.Proofs
set_option maxRecDepth 1000000
section
variable {p:Pn} {c1 c2 c3:Nat} {t:Ts} {s:Sd} {v d c:Int × Int × Int} {a b tu:Int}
end
end Go.Sx.Nos
namespace Go.Sx.Nos
open Go Go.Sx Go.Proofs
set_option maxRecDepth 1000000
end Go.Sx.Nos
namespace Go.Sx.Nos
open Go Go.Sx Go.Proofs
set_option maxRecDepth 1000000
section
variable {s:Nat->Int}
end
end Go.Sx.Nos
namespace Go.Sx.Nos
open Go Go.Sx Go.Proofs
set_option maxRecDepth 1000000
end Go.Sx.Nos
namespace Go.Sx.Nos
open Go Go.Sx Go.Proofs
set_option maxRecDepth 1000000
section
variable {p:Pn} {s:Nat->Int} {B:List Int} {c1 c2 c3 c4:Nat}
end
end Go.Sx.Nos
namespace Go.Sx.Nos
open Go Go.Sx Go.Proofs
set_option maxRecDepth 1000000
end Go.Sx.Nos
namespace Go.Sx.Nos
open Go Go.Sx Go.Proofs
set_option maxRecDepth 1000000
end Go.Sx.Nos
namespace Go.Sx.Nos
open Go Go.Sx Go.Proofs
set_option maxRecDepth 1000000
section
variable {p:Pn} {c1 c2 c3:Nat} {l:List Int}
end
end Go.Sx.Nos
namespace Go.Sx.Nos
open Go Go.Sx Go.Proofs
set_option maxRecDepth 1000000
section
variable {p:Pn} {s:Nat->Int} {B:List Int}
end
end Go.Sx.Nos
namespace Go.Sx.Nos
open Go Go.Sx Go.Proofs
set_option maxRecDepth 1000000
section
variable {p:Pn} {s:Nat->Int} {B:List Int} {c1 c2 c3 c4:Nat}
end
end Go.Sx.Nos
namespace Go.Sx.Nos
open Go Go.Sx Go.Proofs
set_option maxRecDepth 1000000
section
variable {p:Pn} {s:Nat->Int} {B:List Int} {c1 c2 c3 c4:Nat}
end
end Go.Sx.Nos
