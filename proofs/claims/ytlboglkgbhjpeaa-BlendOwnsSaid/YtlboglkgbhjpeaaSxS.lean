/- Data that a caller lends to a contract over data. -/
import Derived.Test.YtlboglkgbhjpeaaSxT
import Derived.Test.YtlboglkgbhjpeaaSxX
namespace Go.Sx
open Go
def FrzIn (w:World) (F:FK->Option (List Value)):Prop:=∀ (b:Nat) xs,F (.blk b)=some xs->b<w.heap.size/\∀ (k:Nat) (x:Value),xs[k]? = some x->w.cell? ⟨b,k,none⟩=some x
section
variable {P:Program}
theorem calls_view_offF {f:FuncId} {args':List VV} {hm h:VH} {r:VRes} {bl:List VB} (o:Nat) (ho:onlyArr hm) (hr:r.flat o=true) (hbl:∀ c ∈ bl,c.flat)
  (view:∀ (B:Nat) (R:Rn) (w:World) (xs:List Value),Emb B R h.at w->VRelL R args' xs->∃ ra st F args hm',FrzIn w F/\CallsV P f args hm r hm'/\(∀ i,hm'.at (o+i)=(bl[i]?).getD .free)/\View w hm ra st/\VRelL ⟨fun _=>none,ra,st,fun _ _=>none,F⟩ args xs) :
  CallsV P f args' h (r.sh o h.nx) (pushL h bl):=by
 intro B R w xs em hx
 obtain ⟨ra,st,F,args,hm',hF,hs,hat,hv,ha⟩:=view B R w xs em hx
 have e0:Emb w.heap.size ⟨fun _=>none,ra,st,fun _ _=>none,F⟩ hm.at w:=emb_args (fun _=>rfl) (fun _ _=>rfl) ho (fun n s ok g hn=>by
  obtain ⟨a1,a2⟩:=hv.arr n s ok g hn
  refine ⟨a1,fun ix i hi=>?_⟩
  obtain ⟨b1,b2,b3,ys,b4,b5,b6⟩:=a2 ix i hi
  exact ⟨b1,b2,b3,ys,VRelL.mono (R:=⟨fun _=>none,ra,st,fun _ _=>none,fun _=>none⟩) (R':=(⟨fun _=>none,ra,st,fun _ _=>none,F⟩:Rn).no) ⟨fun _ _ h=>h,rfl,rfl,fun _ _ _ h=>h,fun _ _ h=>(by cases h)⟩ _ _ b4,b5,b6⟩) hF
 refine (hs w.heap.size _ w xs e0 ha).mono ?_
 rintro e w' ⟨R1,n1,e1,x⟩
 have how0:∀ n b,¬ (⟨fun _=>none,ra,st,fun _ _=>none,F⟩:Rn).ow n (hm.at n) b:=fun n b hb=>by
  rcases ho n with ⟨s,ok,g,h1⟩ | h1 | h1 <;> rw [h1] at hb <;> cases hb
 have hsame:∀ b,b<w.heap.size->w'.heap[b]? = w.heap[b]?:=fun b hb=>n1.frame b hb (fun n=>how0 n b)
 have es:=emb_same em n1.size hsame
 have hfr2:∀ n,¬ n<h.nx->h.at n=.free:=fun n hn=>by
  show (bif Nat.blt n h.nx then lookB h.bs n else .free)=_
  rw [blt_f hn]; rfl
 have hnew:∀ n b,R1.ow n (hm'.at n) b->w.heap.size<=b:=fun n b hb=>by
  rcases n1.own n b hb with ⟨q,h1⟩ | h1
  ·exact (how0 q b h1).elim
  ·exact h1
 let R':Rn:=⟨R.blk,R.arr,R.str,fun n=>if n<h.nx then R.vec n else R1.vec (n - h.nx+o),R.frz⟩
 have hv1:∀ n,n<h.nx->R'.vec n=R.vec n:=fun n hn=>if_pos hn
 have hv2:∀ n,¬ n<h.nx->R'.vec n=R1.vec (n - h.nx+o):=fun n hn=>if_neg hn
 have hno:R.no.le R'.no:=nole R
 have hle:R.le R':=by
  refine ⟨fun n b hb=>hb,rfl,rfl,fun n L v hv=>?_,fun _ _ h=>h⟩
  by_cases hn:n<h.nx
  ·rw [hv1 n hn]; exact hv
  ·rw [em.fvec n (hfr2 n hn)] at hv; cases hv
 have hη1:∀ n,n<h.nx->(pushL h bl).at n=h.at n:=fun n hn=>by rw [pushL_at,if_pos hn]
 have hη2:∀ n,¬ n<h.nx->(pushL h bl).at n=hm'.at (n - h.nx+o):=fun n hn=>by
  rw [pushL_at,if_neg hn,Nat.add_comm,hat]
 have hflat:∀ n,¬ n<h.nx->(pushL h bl).at n=.free ∨ (pushL h bl).at n=.gone ∨ ∃ L g s t,(pushL h bl).at n=.vec L g s t/\∀ i,i<L->pureL (g i)=true:=fun n hn=>by
  rw [pushL_at,if_neg hn]
  cases hc:bl[n - h.nx]? with
  | none=>exact .inl rfl
  | some c=>
   have:=hbl c (List.mem_of_getElem? hc)
   cases c with
   | gone=>exact .inr (.inl rfl)
   | vec L g s t=>exact .inr (.inr ⟨L,g,s,t,rfl,this⟩)
   | _=>exact this.elim
 have how1:∀ n,n<h.nx->∀ b,R'.ow n b=R.ow n b:=fun n hn b=>by
  have h1:=hv1 n hn
  cases b <;> first | rfl | simp only [Rn.ow,h1]
 have how2:∀ n,¬ n<h.nx->∀ c,R'.ow n ((pushL h bl).at n) c->R1.ow (n - h.nx+o) (hm'.at (n - h.nx+o)) c:=fun n hn c hc=>by
  rw [<- hη2 n hn]
  rcases hflat n hn with h1 | h1 | ⟨L,g,s,t,h1,_⟩
  ·rw [h1] at hc; cases hc
  ·rw [h1] at hc; cases hc
  ·rw [h1] at hc ⊢
   have hc:(R'.vec n L).bind Value.ownBlock=some c:=hc
   rw [hv2 n hn] at hc
   exact hc
 have hbn:∀ n t r C g te,(pushL h bl).at n=.bun t r C g te->h.at n=.bun t r C g te:=fun n t r C g te hn=>by
  by_cases hnx:n<h.nx
  ·rw [hη1 n hnx] at hn; exact hn
  ·rcases hflat n hnx with h1 | h1 | ⟨L,g',s,t',h1,_⟩ <;> rw [h1] at hn <;> cases hn
 refine ⟨R',⟨fun n hn=>?_,fun n hn=>rfl,rfl,rfl,hle.vec,fun n L v h1 h2=>?_,fun n L hn=>?_,fun n b hb'=>?_,n1.size,fun b hb' _=>hsame b hb',n1.os,n1.tape,n1.output,fun _ _ h=>h,fun _ _ h=>.inl h,RegN.same (fun _ _=>rfl) hbn⟩,
  ⟨es.base,fun n cs t hn=>?_,fun n m b h1 h2=>?_,fun n s ok g hn=>?_,fun n hn=>?_,fun n st pd t q ps as bd hn=>?_,fun n L g s t hn=>?_,fun n hn L=>?_,fun n ks vk es2 hn=>?_,fun n K r C g t te hn=>?_,es.bunF hbn (fun _ _=>rfl) (fun _ _ _ _ _ _ _ _ _=>rfl),fun b xs hb'=>⟨(es.frz b xs hb').1,fun n hn=>?_,(es.frz b xs hb').2.2⟩⟩,flat_res (fun n hn=>?_) hr x⟩
 ·have hnx:n<h.nx:=by
   by_cases hnx:n<h.nx
   ·exact hnx
   ·exact (hn (hfr2 n hnx)).elim
  rw [hη1 n hnx]; exact hn
 ·by_cases hnx:n<h.nx
  ·rw [hv1 n hnx,h1] at h2; cases h2
  ·exact .inl (hfr2 n hnx)
 ·by_cases hnx:n<h.nx
  ·rw [hη1 n hnx] at hn; exact .inr ⟨L,hn,Nat.le_refl _⟩
  ·exact .inl (hfr2 n hnx)
 ·by_cases hnx:n<h.nx
  ·rw [hη1 n hnx,how1 n hnx] at hb'; exact .inl ⟨n,hb'⟩
  ·exact .inr (hnew _ b (how2 n hnx b hb'))
 ·by_cases hnx:n<h.nx
  ·rw [hη1 n hnx] at hn
   obtain ⟨b,ys,g1,g2,g3,g4⟩:=es.ownC n cs t hn
   exact ⟨b,ys,g1,g2,g3.mono hle,g4⟩
  ·rcases hflat n hnx with h1 | h1 | ⟨L,g,s,t',h1,_⟩ <;> rw [h1] at hn <;> cases hn
 ·by_cases hn:n<h.nx <;> by_cases hm1:m<h.nx
  ·rw [hη1 n hn,how1 n hn] at h1
   rw [hη1 m hm1,how1 m hm1] at h2
   exact em.inj n m b h1 h2
  ·rw [hη1 n hn,how1 n hn] at h1
   have:=hnew _ b (how2 m hm1 b h2)
   have:=em.lt h1
   omega
  ·rw [hη1 m hm1,how1 m hm1] at h2
   have:=hnew _ b (how2 n hn b h1)
   have:=em.lt h2
   omega
  ·have:=e1.inj _ _ b (how2 n hn b h1) (how2 m hm1 b h2)
   omega
 ·by_cases hnx:n<h.nx
  ·rw [hη1 n hnx] at hn
   obtain ⟨g1,g2⟩:=es.arr n s ok g hn
   refine ⟨g1,fun ix i hi=>?_⟩
   obtain ⟨g3,g4,g5,ys,g6,g7,g8⟩:=g2 ix i hi
   exact ⟨g3,g4,g5,ys,g6,g7,g8⟩
  ·rcases hflat n hnx with h1 | h1 | ⟨L,g',s',t',h1,_⟩ <;> rw [h1] at hn <;> cases hn
 ·by_cases hnx:n<h.nx
  ·rw [hη1 n hnx] at hn
   exact em.fresh n hn
  ·exact em.fresh n (hfr2 n hnx)
 ·by_cases hnx:n<h.nx
  ·rw [hη1 n hnx] at hn
   obtain ⟨b,r',g1,g2,g3,g4⟩:=es.lp n st pd t q ps as bd hn
   exact ⟨b,r',g1,g2,g3,g4.mono hle⟩
  ·rcases hflat n hnx with h1 | h1 | ⟨L,g',s',t',h1,_⟩ <;> rw [h1] at hn <;> cases hn
 ·by_cases hnx:n<h.nx
  ·rw [hη1 n hnx] at hn
   exact (es.vec n L g s t hn).frame (hv1 n hnx) hno (fun b _=>rfl)
  ·have hn1:hm'.at (n - h.nx+o)=.vec L g s t:=by rw [<- hη2 n hnx]; exact hn
   have hp:∀ i,i<L->pureL (g i)=true:=by
    rcases hflat n hnx with h1 | h1 | ⟨L',g',s',t',h1,h2⟩ <;> rw [h1] at hn <;> cases hn
    exact h2
   obtain ⟨⟨v,ys,g1,g2,g3⟩,g4⟩:=e1.vec _ L g s t hn1
   refine ⟨⟨v,ys,by rw [hv2 n hnx]; exact g1,ownsRow_base g2 em.base,fun i hi=>⟨pure_L _ _ (hp i hi) (g3 i hi).1,(g3 i hi).2⟩⟩,fun L' hL=>by rw [hv2 n hnx]; exact g4 L' hL⟩
 ·by_cases hnx:n<h.nx
  ·rw [hη1 n hnx] at hn
   rw [hv1 n hnx]; exact em.fvec n hn L
  ·rw [hη2 n hnx] at hn
   rw [hv2 n hnx]; exact e1.fvec _ hn L
 ·by_cases hnx:n<h.nx
  ·rw [hη1 n hnx] at hn
   exact (es.map n ks vk es2 hn).frame rfl (fun b _=>rfl)
  ·rcases hflat n hnx with h1 | h1 | ⟨L,g',s',t',h1,_⟩ <;> rw [h1] at hn <;> cases hn
 ·by_cases hnx:n<h.nx
  ·rw [hη1 n hnx] at hn
   exact (es.mat n K r C g t te hn).frame (hv1 n hnx) (fun b _=>rfl)
  ·rcases hflat n hnx with h1 | h1 | ⟨L,g',s',t',h1,_⟩ <;> rw [h1] at hn <;> cases hn
 ·by_cases hnx:n<h.nx
  ·rw [hη1 n hnx,how1 n hnx] at hn
   exact (em.frz b xs hb').2.1 n hn
  ·have:=hnew _ b (how2 n hnx b hn)
   have:=(em.frz b xs hb').1
   omega
 ·rw [hv2 _ (by omega),show n - o+h.nx - h.nx+o=n by omega]
def wfrK (w:World):FK->Option (List Value)
 | .blk b=>Wfr w b
 | .reg _ _=>none
def lentF (w:World) (R:Rn) (k:FK):Option (List Value):=match R.frz k with
 | some xs=>some xs
 | none=>wfrK w k
def lentR (w:World) (R:Rn):Rn:=⟨fun _=>none,R.arr,R.str,fun _ _=>none,lentF w R⟩
theorem lent_in {B:Nat} {R:Rn} {η:Nat->VB} {w:World} (e:Emb B R η w):FrzIn w (lentF w R):=by
 intro b xs h
 unfold lentF at h
 split at h
 ·rename_i ys hy
  cases h
  exact ⟨(e.frz b _ hy).1,(e.frz b _ hy).2.2⟩
 ·exact wfr_ok h
theorem lent_ext (w:World) (R:Rn):Ext R.no (lentR w R).no:=
 ⟨rfl,rfl,fun b xs h=>⟨xs,by
  have h:R.frz b=some xs:=h
  show lentF w R b=some xs
  unfold lentF
  rw [h],fun _ _ h=>h⟩⟩
def isT1 (h:VH):VV->VV->Prop
 | .sl m L,.tl L' s g=>L'=L/\1<=s/\∃ g' t,h.at m=.vec L g' s t/\∀ j,j<L->g' j=g j
 | .sub m L s i k,.tl L' s' g=>L'=k/\s'=s/\1<=s/\∃ g' t,h.at m=.vec L g' s t/\∀ j,j<k->g' (i+j)=g j
 | .nils,.tl L' _ _=>L'=0
 | .tl L s g,.tl L' s' g'=>L'=L/\s'=s/\∀ j,j<L->g j=g' j
 | .tp cs,v'=>v'=.tp cs
 | v,v'=>v'=v/\v.pure=true
theorem tl_to {R:Rn} {w:World} {L s:Nat} {g g':Nat->List VV} (hg:∀ j,j<L->g j=g' j) {x:Value} (hx:VRel R (.tl L s g) x):VRel (lentR w R) (.tl L s g') x:=by
 have h1:VRel (lentR w R).no (.tl L s g) x:=ext_V (lent_ext w R) _ _ hx
 obtain ⟨p,cap,a1,a2,a3⟩:=h1
 refine ⟨p,cap,a1,a2,fun i hi=>?_⟩
 obtain ⟨b,o,xs,b1,b2,b3,b4,b5⟩:=a3 i hi
 exact ⟨b,o,xs,b1,b2,b3,by rw [<- hg i hi]; exact b4,by rw [<- hg i hi]; exact b5⟩
theorem sub_to {B:Nat} {R:Rn} {w:World} {h:VH} (e:Emb B R h.at w) {m L s i k:Nat} {g g':Nat->List VV} {t:TypeId} (hm:h.at m=.vec L g s t) (hg:∀ j,j<k->g (i+j)=g' j) {v:Value} (hv:R.vec m L=some v) {x:Value} {a:Option Addr} {c:Nat} (hx:x=.slice a k c) (hik:i+k<=L) (hkc:k<=c) (hac:a=none->c=0)
  (ha:k=0 ∨ ∃ b,v.ownBlock=some b/\a=some ⟨b,i*s,none⟩):VRel (lentR w R) (.tl k s g') x:=by
 refine ⟨a,c,hx,⟨hkc,hac⟩,fun j hj=>?_⟩
 obtain ⟨b,hb,ha2⟩:=ha.resolve_left (by omega)
 obtain ⟨cur,cap,rfl,_,h4,h5,_,h6,h7⟩:=vec_own e hm hv hb
 have ho:R.ow m (h.at m) b:=by
  rw [hm]
  show (R.vec m L).bind Value.ownBlock=some b
  rw [hv]; exact hb
 have hnf:R.frz b=none:=by
  cases hf:R.frz b with
  | none=>rfl
  | some ys=>exact absurd ho ((e.frz b ys hf).2.1 m)
 obtain ⟨q1,q2⟩:=h7 (i+j) (by omega)
 refine ⟨b,i*s,cur,ha2,?_,?_,?_,?_⟩
 ·show lentF w R b=some cur
  unfold lentF wfrK Wfr
  rw [hnf]
  simp [h4]
 ·have:(i+j)*s+s<=cap*s:=by rw [<- Nat.succ_mul]; exact Nat.mul_le_mul_right _ (by omega)
  rw [Nat.add_mul] at this
  omega
 ·rw [<- hg j hj]; exact q2
 ·rw [<- hg j hj,<- Nat.add_mul]
  exact ext_L (lent_ext w R) _ _ q1
theorem isT1_at {B:Nat} {R:Rn} {w:World} {h:VH} (e:Emb B R h.at w) {v v':VV} (hv:isT1 h v v') {x:Value} (hx:VRel R v x):VRel (lentR w R) v' x:=by
 unfold isT1 at hv
 split at hv
 ·rename_i m L L' s g
  obtain ⟨rfl,hs,g',t,hm,hg⟩:=hv
  obtain ⟨hv,a,c,rfl⟩:=hx
  obtain ⟨v0,xs,h1,h2,h3⟩:=(e.vec m _ g' s t hm).row
  rw [hv] at h1; cases h1
  rcases h2.2 with ⟨q1,q2⟩ | ⟨b,cap,cur,q1,_,_,q4⟩
  ·cases q1
   exact sub_to e (i:=0) (g:=g') hm (fun j hj=>by rw [Nat.zero_add]; exact hg j hj) hv rfl (by omega) (by omega) (fun _=>rfl) (.inl (by omega))
  ·cases q1
   obtain ⟨cur2,cap2,h4,_,_,h5,_⟩:=vec_own e hm hv rfl
   cases h4
   exact sub_to e (i:=0) (g:=g') hm (fun j hj=>by rw [Nat.zero_add]; exact hg j hj) hv rfl (by omega) h5 (fun h=>by cases h) (.inr ⟨b,rfl,by rw [Nat.zero_mul]⟩)
 ·rename_i m L s i k L' s' g
  obtain ⟨rfl,rfl,hs,g',t,hm,hg⟩:=hv
  obtain ⟨v,a,c,hv,rfl,hik,hkc,hlc,ha,_⟩:=hx
  rcases ha with hc | ⟨b,hb,rfl⟩
  ·exact sub_to e hm hg hv rfl hik hkc (fun _=>hc) (.inl (by omega))
  ·exact sub_to e hm hg hv rfl hik hkc (fun h=>by cases h) (.inr ⟨b,hb,rfl⟩)
 ·rename_i L' s g
  subst hv
  simp only [VRel] at hx
  subst hx
  exact ⟨none,0,rfl,⟨Nat.le_refl _,fun _=>rfl⟩,fun i hi=>by omega⟩
 ·rename_i L s g L' s' g'
  obtain ⟨rfl,rfl,hg⟩:=hv
  exact tl_to hg hx
 ·subst hv
  exact ext_V (R:=R) (R':=lentR w R) (lent_ext w R) _ _ hx
 ·obtain ⟨rfl,hp⟩:=hv
  exact pure_V _ _ hp hx
theorem onlyArr0:onlyArr (VH.mk 0 []):=fun n=>.inr (.inr (at_ge (by omega)))
theorem calls_viewF {f:FuncId} {args args':List VV} {hm hm' h:VH} {r:VRes} (hs:CallsV P f args hm r hm') (ho:onlyArr hm) (hr:r.pure=true)
  (view:∀ (B:Nat) (R:Rn) (w:World) (xs:List Value),Emb B R h.at w->VRelL R args' xs->∃ ra st F,FrzIn w F/\View w hm ra st/\VRelL ⟨fun _=>none,ra,st,fun _ _=>none,F⟩ args xs):CallsV P f args' h r h:=by
 intro B R w xs em hx
 obtain ⟨ra,st,F,hF,hv,ha⟩:=view B R w xs em hx
 have e0:Emb w.heap.size ⟨fun _=>none,ra,st,fun _ _=>none,F⟩ hm.at w:=emb_args (fun _=>rfl) (fun _ _=>rfl) ho (fun n s ok g hn=>by
  obtain ⟨a1,a2⟩:=hv.arr n s ok g hn
  refine ⟨a1,fun ix i hi=>?_⟩
  obtain ⟨b1,b2,b3,ys,b4,b5,b6⟩:=a2 ix i hi
  exact ⟨b1,b2,b3,ys,VRelL.mono (R:=⟨fun _=>none,ra,st,fun _ _=>none,fun _=>none⟩) (R':=(⟨fun _=>none,ra,st,fun _ _=>none,F⟩:Rn).no) ⟨fun _ _ h=>h,rfl,rfl,fun _ _ _ h=>h,fun _ _ h=>(by cases h)⟩ _ _ b4,b5,b6⟩) hF
 refine (hs w.heap.size _ w xs e0 ha).mono ?_
 rintro e w' ⟨R1,n1,e1,x⟩
 have how:∀ n b,¬ (⟨fun _=>none,ra,st,fun _ _=>none,F⟩:Rn).ow n (hm.at n) b:=fun n b hb=>by
  rcases ho n with ⟨s,ok,g,h1⟩ | h1 | h1 <;> rw [h1] at hb <;> cases hb
 have hsame:∀ b,b<w.heap.size->w'.heap[b]? = w.heap[b]?:=fun b hb=>n1.frame b hb (fun n=>how n b)
 exact ⟨R,⟨fun _ h=>h,fun _ _=>rfl,rfl,rfl,fun _ _ _ h=>h,fun n L v h1 h2=>(by rw [h1] at h2; cases h2),fun n L hn=>.inr ⟨L,hn,Nat.le_refl _⟩,fun n _ h=>.inl ⟨n,h⟩,n1.size,fun b hb _=>hsame b hb,n1.os,n1.tape,n1.output,fun _ _ h=>h,fun _ _ h=>.inl h,RegN.refl _ _⟩,
  emb_same em n1.size hsame,pure_res hr x⟩
end
end Go.Sx
