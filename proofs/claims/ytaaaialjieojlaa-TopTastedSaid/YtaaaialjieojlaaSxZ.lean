/- A contract over read-only arrays, used wherever its lists lie in the caller's memory. -/
import Derived.Test.YtaaaialjieojlaaSxY
import Derived.Test.YtaaaialjieojlaaSxW
namespace Go.Sx
open Go
section
variable {P:Program}
theorem add_spot {q:Addr} (hq:q.spot=none) (a:Nat):(q.add a).spot=none:=by
 obtain ⟨bl,off,sp⟩:=q
 simp only at hq
 subst hq
 rw [add_lit]
def isList (h:VH):VV->Nat->Nat->(Nat->List VV)->Prop
 | .nils,L,_,_=>L=0
 | .slice (.el m ix i 0) L' _,L,s,g=>L'=L/\0<=i/\∃ ok g',h.at m=.arr s ok g'/\∀ j:Nat,j<L->ok ix (i+j)/\g' ix (i+j)=g j
 | .slice (.own m off) L' _,L,s,g=>L'=L/\∃ cs t,h.at m=.cells cs t/\∀ j:Nat,j<L->off+j*s+s<=cs.length/\(cs.drop (off+j*s)).take s=g j
 | .sl m L',L,s,g=>L'=L/\∃ g' t,h.at m=.vec L' g' s t/\∀ j:Nat,j<L->g' j=g j
 | .tl L' s' g',L,s,g=>L'=L/\s'=s/\∀ j:Nat,j<L->g' j=g j
 | .sub m L' s' i k,L,s,g=>k=L/\s'=s/\∃ g' t,h.at m=.vec L' g' s t/\∀ j:Nat,j<L->g' (i+j)=g j
 | _,_,_,_=>False
def Lies (w:World) (q:Addr) (L s:Nat) (g:Nat->List VV):Prop:=
 ∀ j:Nat,j<L->q.block<w.heap.size/\q.spot=none/\∀ R':Rn,∃ xs,VRelL R' (g j) xs/\xs.length=s/\∀ k y,xs[k]? = some y->w.cell? (q.add (j*s+k))=some y
theorem rel_len {R:Rn} {cs:List VV} {xs:List Value} (h:VRelL R cs xs):xs.length=cs.length:=h.length.symm
theorem list_at {B:Nat} {R:Rn} {w:World} {h:VH} (em:Emb B R h.at w) {v:VV} {L s:Nat} {g:Nat->List VV} (hl:isList h v L s g) (hg:∀ j,j<L->pureL (g j)=true) {x:Value} (hx:VRel R v x) :
  ∃ (q:Addr) (p:Option Addr) (cap:Nat),x=.slice p L cap/\L<=cap/\(cap=0 ∨ p=some q)/\Lies w q L s g:=by
 unfold isList at hl
 split at hl
 ·subst hl
  simp only [VRel] at hx
  subst hx
  exact ⟨default,none,0,rfl,Nat.le_refl 0,.inl rfl,fun j hj=>absurd hj (Nat.not_lt_zero j)⟩
 ·rename_i m ix i L' c
  obtain ⟨rfl,hi,ok,g',hm,hj⟩:=hl
  simp only [VRel] at hx
  obtain ⟨hle,p,hp,rfl⟩:=hx
  obtain ⟨hst,harr⟩:=em.arr _ _ _ _ hm
  refine ⟨(R.arr m ix).add (i.toNat*s),p,c,rfl,hle,?_,?_⟩
  ·rcases hp with hp | ⟨q,rfl,hq⟩
   ·exact .inl hp
   ·simp only [ARel] at hq
    rw [hst,Nat.add_zero] at hq
    subst hq
    exact .inr rfl
  ·intro j hjL
   obtain ⟨h1,h2⟩:=hj j hjL
   obtain ⟨h3,h4,h5,xs,h6,h7,h8⟩:=harr _ _ h1
   refine ⟨?_,add_spot h5 _,fun R'=>⟨xs,pure_L _ _ (hg j hjL) (h2 ▸ h6),h7,fun k y hy=>?_⟩⟩
   ·have hb:((R.arr m ix).add (i.toNat*s)).block=(R.arr m ix).block:=by unfold Addr.add; split <;> rfl
    rw [hb]; exact Nat.lt_of_lt_of_le h4 em.base
   ·rw [add_add]
    have:=h8 k y hy
    rw [show (i+(j:Int)).toNat=i.toNat+j by omega,Nat.add_mul,Nat.add_assoc] at this
    exact this
 ·rename_i m off L' c
  obtain ⟨rfl,cs,t,hm,hj⟩:=hl
  simp only [VRel] at hx
  obtain ⟨hle,p,hp,rfl⟩:=hx
  obtain ⟨b,xs,g1,g2,g3,g4⟩:=em.own _ _ _ hm
  refine ⟨⟨b,off,none⟩,p,c,rfl,hle,?_,?_⟩
  ·rcases hp with hp | ⟨q,rfl,hq⟩
   ·exact .inl hp
   ·simp only [ARel] at hq
    obtain ⟨b',hb',rfl⟩:=hq
    rw [g1] at hb'; cases hb'
    exact .inr rfl
  ·intro j hjL
   obtain ⟨h1,h2⟩:=hj j hjL
   have hlen:xs.length=cs.length:=rel_len g3
   refine ⟨(Array.getElem?_eq_some_iff.1 g4).1,rfl,fun R'=>⟨(xs.drop (off+j*s)).take s,pure_L (R:=R) _ _ (hg j hjL) ?_,?_,fun k y hy=>?_⟩⟩
   ·rw [<- h2]; exact (g3.drop _).take _
   ·simp; omega
   ·rw [add_lit]
    rw [List.getElem?_take] at hy
    split at hy
    ·rename_i hk
     rw [List.getElem?_drop] at hy
     rw [show off+(j*s+k)=off+j*s+k by omega]
     simp [World.cell?,g4,hy]
    ·cases hy
 ·rename_i m L'
  obtain ⟨rfl,g',t,hm,hj⟩:=hl
  have hg':∀ j,j<L'->pureL (g' j)=true:=fun j hjL=>by rw [hj j hjL]; exact hg j hjL
  obtain ⟨q,p,c,rfl,h1,h2,h3⟩:=view_vec em hm hx hg'
  refine ⟨q,p,c,rfl,h1,h2,fun j hjL=>?_⟩
  obtain ⟨a1,a2,_⟩:=h3 R (j:Int) (by omega) (by omega)
  refine ⟨a1,a2,fun R'=>?_⟩
  obtain ⟨_,_,a3⟩:=h3 R' (j:Int) (by omega) (by omega)
  rw [Int.toNat_natCast,hj j hjL] at a3
  exact a3
 ·rename_i L' s' g'
  obtain ⟨rfl,rfl,hj⟩:=hl
  obtain ⟨p,cap,rfl,hc,hx⟩:=hx
  rcases Nat.eq_zero_or_pos L' with h0 | h0
  ·subst h0
   rcases Nat.eq_zero_or_pos cap with hcap | hcap
   ·exact ⟨default,p,cap,rfl,hc.1,.inl hcap,fun j hj=>absurd hj (by omega)⟩
   ·cases p with
    | none=>exact ⟨default,none,cap,rfl,hc.1,.inl (hc.2 rfl),fun j hj=>absurd hj (by omega)⟩
    | some q=>exact ⟨q,some q,cap,rfl,hc.1,.inr rfl,fun j hj=>absurd hj (by omega)⟩
  ·obtain ⟨b,o,xs,rfl,hf,_⟩:=hx 0 h0
   obtain ⟨f1,_,f3⟩:=em.frz b xs hf
   refine ⟨⟨b,o,none⟩,_,cap,rfl,hc.1,.inr rfl,fun j hjL=>?_⟩
   obtain ⟨b',o',xs',k1,k2,k3,_,k4⟩:=hx j hjL
   cases k1
   rw [hf] at k2; cases k2
   have hp:pureL (g' j)=true:=by rw [hj j hjL]; exact hg j hjL
   refine ⟨f1,rfl,fun R'=>⟨_,by rw [<- hj j hjL]; exact pure_L (R:=R.no) _ _ hp k4,by rw [List.length_take,List.length_drop]; omega,fun k y hy=>?_⟩⟩
   rw [List.getElem?_take] at hy
   split at hy
   ·rw [List.getElem?_drop] at hy
    rw [add_lit,<- Nat.add_assoc]
    exact f3 _ _ hy
   ·cases hy
 ·rename_i m L' s' i k
  obtain ⟨rfl,rfl,g',t,hm,hj⟩:=hl
  obtain ⟨v,a,c,hv,rfl,hik,hkc,hlc,hp,_⟩:=hx
  rcases hp with hc | ⟨b,hb,rfl⟩
  ·exact ⟨default,a,c,rfl,hkc,.inl hc,fun j hj=>absurd hj (by omega)⟩
  ·refine ⟨⟨b,i*s',none⟩,_,c,rfl,hkc,.inr rfl,fun j hjL=>?_⟩
   have hok:=em.vec _ _ _ _ _ hm
   obtain ⟨ys,w1,w2,_,w4⟩:=hok.elem hv hb (i:=i+j) (by omega)
   refine ⟨?_,rfl,fun R'=>⟨ys,pure_L _ _ (hg j hjL) (by rw [<- hj j hjL]; exact w1),w2,fun q y hq=>?_⟩⟩
   ·obtain ⟨v',xs,g1,g2,_⟩:=hok.row
    rw [hv] at g1; cases g1
    rcases g2.2 with ⟨e1,_⟩ | ⟨b',cap,cur,e1,hb',hb2,_⟩
    ·rw [e1] at hb; cases hb
    ·rw [e1] at hb; cases hb
     exact (Array.getElem?_eq_some_iff.1 hb2).1
   ·have:=w4 q y hq
    rw [add_lit]
    rw [Nat.add_mul,Nat.add_assoc] at this
    exact this
 ·exact hl.elim
inductive Ag where
 | v (v:VV)
 | l (L s:Nat) (g:Nat->List VV)
def agArgs:Nat->List Ag->List Nat->List VV
 | _,[],_=>[]
 | n,.v x::r,cs=>x::agArgs n r cs
 | n,.l L _ _::r,[]=>.slice (.el n [] 0 0) L 0::agArgs (n+1) r []
 | n,.l L _ _::r,c::cs=>.slice (.el n [] 0 0) L c::agArgs (n+1) r cs
def agBs:Nat->List Ag->List (Nat × VB)
 | _,[]=>[]
 | n,.v _::r=>agBs n r
 | n,.l L s g::r=>(n,arrOf s L g)::agBs (n+1) r
def agN:List Ag->Nat
 | []=>0
 | .v _::r=>agN r
 | .l _ _ _::r=>agN r+1
def agIs (h:VH):List Ag->List VV->Prop
 | [],as=>as=[]
 | .v x::r,as=>∃ bs,as=x::bs/\x.pure=true/\agIs h r bs
 | .l L s g::r,as=>∃ y bs,as=y::bs/\isList h y L s g/\(∀ j,j<L->pureL (g j)=true)/\agIs h r bs
def agSt:Nat->List Ag->Nat->Nat
 | _,[],_=>0
 | n,.v _::r,m=>agSt n r m
 | n,.l _ s _::r,m=>if m=n then s else agSt (n+1) r m
theorem ag_view {B:Nat} {R:Rn} {w:World} {h:VH} (em:Emb B R h.at w):∀ (as:List Ag) (n:Nat) (vs:List VV) (xs:List Value),agIs h as vs->VRelL R vs xs ->
  ∃ (cs:List Nat) (qs:Nat->Addr),(∀ m s ok g,lookB (agBs n as) m=.arr s ok g->agSt n as m=s/\∀ ix i,ok ix i->0<=i/\(qs m).block<w.heap.size/\(qs m).spot=none /\
   ∀ R':Rn,∃ ys,VRelL R' (g ix i) ys/\ys.length=s/\∀ k y,ys[k]? = some y->w.cell? ((qs m).add (i.toNat*s+k))=some y) /\
   ∀ R':Rn,(∀ m,n<=m->R'.arr m []=qs m)->VRelL R' (agArgs n as cs) xs
 | [],n,vs,xs,ha,hx=>by
  simp only [agIs] at ha
  subst ha
  exact ⟨[],fun _=>default,fun m s ok g hm=>by simp [agBs,lookB] at hm,fun R' _=>hx⟩
 | .v x::r,n,vs,xs,ha,hx=>by
  obtain ⟨bs,rfl,hp,ha⟩:=ha
  obtain ⟨y,ys,hy,hys,rfl⟩:=hx
  obtain ⟨cs,qs,h1,h2⟩:=ag_view em r n bs ys ha hys
  exact ⟨cs,qs,h1,fun R' hR=>⟨y,ys,pure_V _ _ hp hy,h2 R' hR,rfl⟩⟩
 | .l L s g::r,n,vs,xs,ha,hx=>by
  obtain ⟨v,bs,rfl,hl,hg,ha⟩:=ha
  obtain ⟨y,ys,hy,hys,rfl⟩:=hx
  obtain ⟨cs,qs,h1,h2⟩:=ag_view em r (n+1) bs ys ha hys
  obtain ⟨q,p,c,rfl,hle,hpc,hli⟩:=list_at em hl hg hy
  refine ⟨c::cs,fun m=>if m=n then q else qs m,fun m s' ok g' hm=>?_,fun R' hR=>⟨_,ys,⟨hle,p,?_,rfl⟩,h2 R' fun m hm=>?_,rfl⟩⟩
  ·by_cases hmn:m=n
   ·subst hmn
    simp only [agBs,lookB,beq_t rfl,cond_true] at hm
    cases hm
    refine ⟨by simp only [agSt,if_true],?_⟩
    rintro ix i ⟨_,i0,i1⟩
    obtain ⟨a1,a2,a3⟩:=hli i.toNat (by omega)
    dsimp only
    rw [if_pos rfl]
    exact ⟨i0,a1,a2,a3⟩
   ·simp only [agBs,lookB,beq_f (fun e:n=m=>hmn e.symm),cond_false] at hm
    obtain ⟨g1,g2⟩:=h1 m s' ok g' hm
    refine ⟨by simp only [agSt,if_neg hmn]; exact g1,?_⟩
    dsimp only
    rw [if_neg hmn]
    exact g2
  ·rcases hpc with hpc | hpc
   ·exact .inl hpc
   ·refine .inr ⟨q,hpc,?_⟩
    show q=(R'.arr n []).add ((0:Int).toNat*R'.str n+0)
    rw [hR n (Nat.le_refl n)]
    dsimp only
    rw [if_pos rfl]
    have:(0:Int).toNat*R'.str n+0=0:=by simp
    rw [this]
    unfold Addr.add
    rw [if_pos rfl]
  ·rw [hR m (by omega)]; exact if_neg (by omega)
theorem agBs_arr:∀ (as:List Ag) (n m:Nat),(∃ s ok g,lookB (agBs n as) m=.arr s ok g) ∨ lookB (agBs n as) m=.gone
 | [],_,_=>.inr rfl
 | .v _::r,n,m=>agBs_arr r n m
 | .l L s g::r,n,m=>by
  by_cases hmn:n=m
  ·simp only [agBs,lookB,beq_t hmn,cond_true]
   exact .inl ⟨_,_,_,rfl⟩
  ·simp only [agBs,lookB,beq_f hmn,cond_false]
   exact agBs_arr r (n+1) m
def agH (as:List Ag):VH:=⟨agN as,agBs 0 as⟩
theorem agH_at (as:List Ag) (m:Nat):(∃ s ok g,(agH as).at m=.arr s ok g/\lookB (agBs 0 as) m=.arr s ok g) ∨ (agH as).at m=.gone ∨ (agH as).at m=.free:=by
 by_cases h:m<agN as
 ·have:(agH as).at m=lookB (agBs 0 as) m:=at_lt h
  rw [this]
  rcases agBs_arr as 0 m with ⟨s,ok,g,h1⟩ | h1
  ·exact .inl ⟨s,ok,g,h1,h1⟩
  ·exact .inr (.inl h1)
 ·exact .inr (.inr (at_ge h))
end
end Go.Sx
