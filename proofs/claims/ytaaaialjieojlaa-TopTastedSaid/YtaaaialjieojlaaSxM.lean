/- A contract over read-only arrays that makes new blocks. -/
import Derived.Test.YtaaaialjieojlaaSxX
import Derived.Test.YtaaaialjieojlaaSxN
namespace Go.Sx
open Go
def VA.fl2 (k:Nat):VA->Bool
 | .own n _=>Nat.ble k n
 | .el _ _ _ _=>false
 | .ve n _ _ _ _=>Nat.ble k n
 | .fa n _ _=>Nat.ble k n
 | .rw _ _ _=>false
mutual
def VV.fl2 (k:Nat):VV->Bool
 | .ptr a=>a.fl2 k
 | .slice a _ _=>a.fl2 k
 | .func _ a b=>flL2 k a && flL2 k b
 | .iface _ v=>v.fl2 k
 | .agg cs=>flL2 k cs
 | .tup vs=>flL2 k vs
 | .yld _=>false
 | .sl n _=>Nat.ble k n
 | .sub n _ _ _ _=>Nat.ble k n
 | .mp n=>Nat.ble k n
 | .tl _ _ _=>false
 | .tp _=>false
 | _=>true
def flL2 (k:Nat):List VV->Bool
 | []=>true
 | v::vs=>v.fl2 k && flL2 k vs
end
def VRes.fl2 (k:Nat):VRes->Bool
 | .ret v=>v.fl2 k
 | .panic v=>v.fl2 k
structure Mv2 (k m:Nat) (R R':Rn):Prop where
 blk:∀ n,k<=n->R'.blk (n - k+m)=R.blk n
 vec:∀ n,k<=n->R'.vec (n - k+m)=R.vec n
theorem shN_ge {k m n:Nat} (h:k<=n):shN k m n=n - k+m:=by unfold shN; rw [if_neg (by omega)]
theorem fl2_A {k m:Nat} {R R':Rn} (hv:Mv2 k m R R'):∀ (a:VA) (p:Addr),a.fl2 k=true->ARel R a p->ARel R' (a.sh k m) p
 | .own n off,_,hb,⟨b,h1,h2⟩=>by
  have hk:k<=n:=Nat.le_of_ble_eq_true hb
  exact ⟨b,by rw [shN_ge hk,hv.blk n hk]; exact h1,h2⟩
 | .el _ _ _ _,_,hb,_=>by cases hb
 | .rw _ _ _,_,hb,_=>by cases hb
 | .ve n L s i off,_,hb,⟨h0,v,b,h1,h2,h3⟩=>by
  have hk:k<=n:=Nat.le_of_ble_eq_true hb
  exact ⟨h0,v,b,by rw [shN_ge hk,hv.vec n hk]; exact h1,h2,h3⟩
 | .fa n p o,_,hb,⟨b,h1,h2⟩=>by
  have hk:k<=n:=Nat.le_of_ble_eq_true hb
  exact ⟨b,by rw [shN_ge hk,hv.blk n hk]; exact h1,h2⟩
mutual
theorem fl2_V {k m:Nat} {R R':Rn} (hv:Mv2 k m R R'):∀ (v:VV) (x:Value),v.fl2 k=true->VRel R v x->VRel R' (v.sh k m) x
 | .bool _,_,_,hx=>hx
 | .int _ _,_,_,hx=>hx
 | .nilp,_,_,hx=>hx
 | .ptr a,_,hb,⟨p,hp,hx⟩=>⟨p,fl2_A hv a p hb hp,hx⟩
 | .nils,_,_,hx=>hx
 | .slice a _ _,_,hb,⟨hl,p,hp,hx⟩=>⟨hl,p,hp.imp id (fun ⟨q,h1,h2⟩=>⟨q,h1,fl2_A hv a q hb h2⟩),hx⟩
 | .func _ a b,_,hb,⟨xs,ys,h1,h2,hx⟩=>by
  simp only [VV.fl2,Bool.and_eq_true] at hb
  exact ⟨xs,ys,fl2_L hv a xs hb.1 h1,fl2_L hv b ys hb.2 h2,hx⟩
 | .nilf,_,_,hx=>hx
 | .iface _ v,_,hb,⟨y,hy,hx⟩=>⟨y,fl2_V hv v y hb hy,hx⟩
 | .niff,_,_,hx=>hx
 | .agg cs,_,hb,⟨xs,h1,hx⟩=>⟨xs,fl2_L hv cs xs hb h1,hx⟩
 | .tup vs,_,hb,⟨xs,h1,hx⟩=>⟨xs,fl2_L hv vs xs hb h1,hx⟩
 | .opq _,_,_,hx=>hx
 | .any,_,_,hx=>hx
 | .yld _,_,hb,_=>by cases hb
 | .sl n L,x,hb,⟨h1,h2⟩=>by
  have hk:k<=n:=Nat.le_of_ble_eq_true hb
  exact ⟨by rw [shN_ge hk,hv.vec n hk]; exact h1,h2⟩
 | .sub n _ _ _ _,_,hb,⟨v,a,c,h1,h2⟩=>by
  have hk:k<=n:=Nat.le_of_ble_eq_true hb
  exact ⟨v,a,c,by rw [shN_ge hk,hv.vec n hk]; exact h1,h2⟩
 | .mp n,_,hb,⟨b,h1,h2⟩=>by
  have hk:k<=n:=Nat.le_of_ble_eq_true hb
  exact ⟨b,by rw [shN_ge hk,hv.blk n hk]; exact h1,h2⟩
 | .tl _ _ _,_,hb,_=>by cases hb
 | .tp _,_,hb,_=>by cases hb
theorem fl2_L {k m:Nat} {R R':Rn} (hv:Mv2 k m R R'):∀ (cs:List VV) (xs:List Value),flL2 k cs=true->VRelL R cs xs->VRelL R' (shL k m cs) xs
 | [],_,_,hx=>hx
 | c::cs,_,hb,⟨y,ys,h1,h2,hx⟩=>by
  simp only [flL2,Bool.and_eq_true] at hb
  exact ⟨y,ys,fl2_V hv c y hb.1 h1,fl2_L hv cs ys hb.2 h2,hx⟩
end
theorem fl2_res {k m:Nat} {R R':Rn} (hv:Mv2 k m R R') {r:VRes} (h:r.fl2 k=true) {e:Ending} (hr:ResRel R r e):ResRel R' (r.sh k m) e:=by
 cases r with
 | ret v=>obtain ⟨x,hx,he⟩:=hr; exact ⟨x,fl2_V hv v x h hx,he⟩
 | panic v=>obtain ⟨x,hx,he⟩:=hr; exact ⟨x,fl2_V hv v x h hx,he⟩
theorem flL2_app {k:Nat}:∀ {l l':List VV},flL2 k (l ++ l')=(flL2 k l && flL2 k l')
 | [],_=>by simp [flL2]
 | v::l,l'=>by simp [flL2,flL2_app (l:=l),Bool.and_assoc]
theorem flL2_ints {k:Nat}:∀ (ns:List Nat) (g:Nat->Int),flL2 k (ns.map fun j=>VV.int .i64 (g j))=true
 | [],_=>rfl
 | n::ns,g=>by simp [flL2,VV.fl2,flL2_ints ns g]
def VB.fl2 (k:Nat):VB->Prop
 | .gone=>True
 | .vec L g _ _=>∀ i,i<L->pureL (g i)=true
 | .cells cs _=>flL2 k cs=true
 | .fam pre _ _ _=>flL2 k pre=true
 | .map ..=>True
 | _=>False
theorem fl2_cs {k:Nat} {b:VB} {cs:List VV} {t:TypeId} (h:b.cs? = some (cs,t)) (hb:b.fl2 k):flL2 k cs=true:=by
 cases b <;> simp at h
 ·rw [<- h.1]; exact hb
 ·rw [<- h.1,flL2_app]
  simp only [Bool.and_eq_true]
  exact ⟨hb,flL2_ints _ _⟩
section
variable {P:Program}
theorem calls_view_mk {f:FuncId} {args':List VV} {hm h:VH} {r:VRes} {bl:List VB} (o:Nat) (ho:onlyArr hm) (hr:r.fl2 o=true) (hbl:∀ c ∈ bl,c.fl2 o)
  (view:∀ (B:Nat) (R:Rn) (w:World) (xs:List Value),Emb B R h.at w->VRelL R args' xs->∃ ra st args hm',CallsV P f args hm r hm'/\(∀ i,hm'.at (o+i)=(bl[i]?).getD .free)/\View w hm ra st/\VRelL ⟨fun _=>none,ra,st,fun _ _=>none,fun _=>none⟩ args xs) :
  CallsV P f args' h (r.sh o h.nx) (pushL h (bl.map (VB.sh o h.nx))):=by
 intro B R w xs em hx
 obtain ⟨ra,st,args,hm',hs,hat,hv,ha⟩:=view B R w xs em hx
 have e0:Emb w.heap.size ⟨fun _=>none,ra,st,fun _ _=>none,fun _=>none⟩ hm.at w:=emb_args (fun _=>rfl) (fun _ _=>rfl) ho hv.arr
 refine (hs w.heap.size _ w xs e0 ha).mono ?_
 rintro e w' ⟨R1,n1,e1,x⟩
 have how0:∀ n b,¬ (⟨fun _=>none,ra,st,fun _ _=>none,fun _=>none⟩:Rn).ow n (hm.at n) b:=fun n b hb=>by
  rcases ho n with ⟨s,ok,g,h1⟩ | h1 | h1 <;> rw [h1] at hb <;> cases hb
 have hsame:∀ b,b<w.heap.size->w'.heap[b]? = w.heap[b]?:=fun b hb=>n1.frame b hb (fun n=>how0 n b)
 have es:=emb_same em n1.size hsame
 have hfr2:∀ n,¬ n<h.nx->h.at n=.free:=fun n hn=>by
  show (bif Nat.blt n h.nx then lookB h.bs n else .free)=_
  rw [blt_f hn]; rfl
 have hnew:∀ n b,R1.ow n (hm'.at n) b->w.heap.size<=b:=fun n b hb=>by
  rcases n1.own n b hb with ⟨q,h1⟩ | h1
  ·exact (how0 q b h1).elim
  ·exact h1
 let R':Rn:=⟨fun n=>if n<h.nx then R.blk n else R1.blk (n - h.nx+o),R.arr,R.str,fun n=>if n<h.nx then R.vec n else R1.vec (n - h.nx+o),R.frz⟩
 have hb1:∀ n,n<h.nx->R'.blk n=R.blk n:=fun n hn=>if_pos hn
 have hb2:∀ n,¬ n<h.nx->R'.blk n=R1.blk (n - h.nx+o):=fun n hn=>if_neg hn
 have hv1:∀ n,n<h.nx->R'.vec n=R.vec n:=fun n hn=>if_pos hn
 have hv2:∀ n,¬ n<h.nx->R'.vec n=R1.vec (n - h.nx+o):=fun n hn=>if_neg hn
 have hno:R.no.le R'.no:=nole R
 have hmv:Mv2 o h.nx R1 R':=⟨fun n hn=>by rw [hb2 _ (by omega),show n - o+h.nx - h.nx+o=n by omega],fun n hn=>by rw [hv2 _ (by omega),show n - o+h.nx - h.nx+o=n by omega]⟩
 have hle:R.le R':=by
  refine ⟨fun n b hb=>?_,rfl,rfl,fun n L v hv=>?_,fun _ _ h=>h⟩
  ·by_cases hn:n<h.nx
   ·rw [hb1 n hn]; exact hb
   ·rw [em.fresh n (hfr2 n hn)] at hb; cases hb
  ·by_cases hn:n<h.nx
   ·rw [hv1 n hn]; exact hv
   ·rw [em.fvec n (hfr2 n hn)] at hv; cases hv
 have hη1:∀ n,n<h.nx->(pushL h (bl.map (VB.sh o h.nx))).at n=h.at n:=fun n hn=>by rw [pushL_at,if_pos hn]
 have hη2:∀ n,¬ n<h.nx->(pushL h (bl.map (VB.sh o h.nx))).at n=(hm'.at (n - h.nx+o)).sh o h.nx:=fun n hn=>by
  rw [pushL_at,if_neg hn,Nat.add_comm,hat,List.getElem?_map]
  cases bl[n - h.nx]? <;> rfl
 have hflat:∀ n,¬ n<h.nx->hm'.at (n - h.nx+o)=.free ∨ (hm'.at (n - h.nx+o)).fl2 o:=fun n hn=>by
  rw [Nat.add_comm,hat]
  cases hc:bl[n - h.nx]? with
  | none=>exact .inl rfl
  | some c=>exact .inr (hbl c (List.mem_of_getElem? hc))
 have how1:∀ n,n<h.nx->∀ b,R'.ow n b=R.ow n b:=fun n hn b=>by
  have h1:=hb1 n hn
  have h2:=hv1 n hn
  cases b <;> simp only [Rn.ow,h1,h2]
 have how2:∀ n,¬ n<h.nx->∀ (b:VB) c,R'.ow n (b.sh o h.nx) c->R1.ow (n - h.nx+o) b c:=fun n hn b c hc=>by
  cases b with
  | cells cs t=>have hc:R'.blk n=some c:=hc; rw [hb2 n hn] at hc; exact hc
  | fam _ _ _ _=>have hc:R'.blk n=some c:=hc; rw [hb2 n hn] at hc; exact hc
  | map _ _ _=>have hc:R'.blk n=some c:=hc; rw [hb2 n hn] at hc; exact hc
  | vec L g s t=>have hc:(R'.vec n L).bind Value.ownBlock=some c:=hc; rw [hv2 n hn] at hc; exact hc
  | mat K r C g t te=>
   obtain ⟨j,v,q1,q2,q3⟩:=hc
   have q2:R'.vec n j=some v:=q2
   rw [hv2 n hn] at q2
   exact ⟨j,v,q1,q2,q3⟩
  | _=>exact hc.elim
 refine ⟨R',⟨fun n hn=>?_,fun n hn=>?_,rfl,rfl,hle.vec,fun n L v h1 h2=>?_,fun n L hn=>?_,fun n b hb'=>?_,n1.size,fun b hb' _=>hsame b hb',n1.os,n1.tape,n1.output,fun _ _ h=>h,fun _ _ h=>.inl h⟩,
  ⟨es.base,fun n cs t hn=>?_,fun n m b h1 h2=>?_,fun n s ok g hn=>?_,fun n hn=>?_,fun n st pd t q ps as bd hn=>?_,fun n L g s t hn=>?_,fun n hn L=>?_,fun n ks vk es2 hn=>?_,fun n K r C g t te hn=>?_,fun b xs hb'=>⟨(es.frz b xs hb').1,fun n hn=>?_,(es.frz b xs hb').2.2⟩⟩,fl2_res hmv hr x⟩
 ·have hnx:n<h.nx:=by
   by_cases hnx:n<h.nx
   ·exact hnx
   ·exact (hn (hfr2 n hnx)).elim
  rw [hη1 n hnx]; exact hn
 ·have hnx:n<h.nx:=by
   by_cases hnx:n<h.nx
   ·exact hnx
   ·exact (hn (hfr2 n hnx)).elim
  exact hb1 n hnx
 ·by_cases hnx:n<h.nx
  ·rw [hv1 n hnx,h1] at h2; cases h2
  ·exact .inl (hfr2 n hnx)
 ·by_cases hnx:n<h.nx
  ·rw [hη1 n hnx] at hn; exact .inr ⟨L,hn,Nat.le_refl _⟩
  ·exact .inl (hfr2 n hnx)
 ·by_cases hnx:n<h.nx
  ·rw [hη1 n hnx,how1 n hnx] at hb'; exact .inl ⟨n,hb'⟩
  ·rw [hη2 n hnx] at hb'
   exact .inr (hnew _ b (how2 n hnx _ b hb'))
 ·by_cases hnx:n<h.nx
  ·rw [hη1 n hnx] at hn
   obtain ⟨b,ys,g1,g2,g3,g4⟩:=es.ownC n cs t hn
   exact ⟨b,ys,by rw [hb1 n hnx]; exact g1,g2,g3.mono hle,g4⟩
  ·rw [hη2 n hnx,VB.sh_cs] at hn
   cases hc:(hm'.at (n - h.nx+o)).cs? with
   | none=>rw [hc] at hn; cases hn
   | some p=>
    obtain ⟨cs0,t0⟩:=p
    rw [hc] at hn
    simp only [Option.map_some,Option.some.injEq,Prod.mk.injEq] at hn
    obtain ⟨rfl,rfl⟩:=hn
    obtain ⟨b,ys,g1,g2,g3,g4⟩:=e1.ownC _ cs0 t0 hc
    have hf:flL2 o cs0=true:=by
     rcases hflat n hnx with h1 | h1
     ·rw [h1] at hc; cases hc
     ·exact fl2_cs hc h1
    exact ⟨b,ys,by rw [hb2 n hnx]; exact g1,Nat.le_trans em.base g2,fl2_L hmv cs0 ys hf g3,g4⟩
 ·by_cases hn:n<h.nx <;> by_cases hm1:m<h.nx
  ·rw [hη1 n hn,how1 n hn] at h1
   rw [hη1 m hm1,how1 m hm1] at h2
   exact em.inj n m b h1 h2
  ·rw [hη1 n hn,how1 n hn] at h1
   rw [hη2 m hm1] at h2
   have:=hnew _ b (how2 m hm1 _ b h2)
   have:=em.lt h1
   omega
  ·rw [hη1 m hm1,how1 m hm1] at h2
   rw [hη2 n hn] at h1
   have:=hnew _ b (how2 n hn _ b h1)
   have:=em.lt h2
   omega
  ·rw [hη2 n hn] at h1
   rw [hη2 m hm1] at h2
   have:=e1.inj _ _ b (how2 n hn _ b h1) (how2 m hm1 _ b h2)
   omega
 ·by_cases hnx:n<h.nx
  ·rw [hη1 n hnx] at hn
   obtain ⟨g1,g2⟩:=es.arr n s ok g hn
   refine ⟨g1,fun ix i hi=>?_⟩
   obtain ⟨g3,g4,g5,ys,g6,g7,g8⟩:=g2 ix i hi
   exact ⟨g3,g4,g5,ys,g6,g7,g8⟩
  ·rw [hη2 n hnx] at hn
   cases hc:hm'.at (n - h.nx+o) <;> rw [hc] at hn <;> cases hn
 ·by_cases hnx:n<h.nx
  ·rw [hη1 n hnx] at hn
   rw [hb1 n hnx]
   exact em.fresh n hn
  ·rw [hη2 n hnx] at hn
   rw [hb2 n hnx]
   cases hc:hm'.at (n - h.nx+o) <;> rw [hc] at hn <;> first | exact e1.fresh _ hc | cases hn
 ·by_cases hnx:n<h.nx
  ·rw [hη1 n hnx] at hn
   obtain ⟨b,r',g1,g2,g3,g4⟩:=es.lp n st pd t q ps as bd hn
   exact ⟨b,r',by rw [hb1 n hnx]; exact g1,g2,g3,g4.mono hle⟩
  ·rw [hη2 n hnx] at hn
   cases hc:hm'.at (n - h.nx+o) <;> rw [hc] at hn <;> cases hn
 ·by_cases hnx:n<h.nx
  ·rw [hη1 n hnx] at hn
   exact (es.vec n L g s t hn).frame (hv1 n hnx) hno (fun b _=>rfl)
  ·rw [hη2 n hnx] at hn
   cases hc:hm'.at (n - h.nx+o) with
   | vec L2 g2 s2 t2=>
    rw [hc] at hn
    cases hn
    have hp:∀ i,i<L->pureL (g i)=true:=by
     rcases hflat n hnx with h1 | h1
     ·rw [hc] at h1; cases h1
     ·rw [hc] at h1; exact h1
    obtain ⟨⟨v,ys,g1,g2,g3⟩,g4⟩:=e1.vec _ L g s t hc
    refine ⟨⟨v,ys,by rw [hv2 n hnx]; exact g1,ownsRow_base g2 em.base,fun i hi=>⟨pure_L _ _ (hp i hi) (g3 i hi).1,(g3 i hi).2⟩⟩,fun L' hL=>by rw [hv2 n hnx]; exact g4 L' hL⟩
   | _=>rw [hc] at hn; cases hn
 ·by_cases hnx:n<h.nx
  ·rw [hη1 n hnx] at hn
   rw [hv1 n hnx]; exact em.fvec n hn L
  ·rw [hη2 n hnx] at hn
   rw [hv2 n hnx]
   cases hc:hm'.at (n - h.nx+o) <;> rw [hc] at hn <;> first | exact e1.fvec _ hc L | cases hn
 ·by_cases hnx:n<h.nx
  ·rw [hη1 n hnx] at hn
   exact (es.map n ks vk es2 hn).frame (hb1 n hnx) (fun b _=>rfl)
  ·rw [hη2 n hnx] at hn
   cases hc:hm'.at (n - h.nx+o) with
   | map k2 v2 e2=>
    rw [hc] at hn
    cases hn
    obtain ⟨⟨b,ents,clock,g1,g2,g3,g4⟩,g5⟩:=e1.map _ ks vk es2 hc
    exact ⟨⟨b,ents,clock,by rw [hb2 n hnx]; exact g1,Nat.le_trans em.base g2,g3,g4⟩,g5⟩
   | _=>rw [hc] at hn; cases hn
 ·by_cases hnx:n<h.nx
  ·rw [hη1 n hnx] at hn
   exact (es.mat n K r C g t te hn).frame (hv1 n hnx) (fun b _=>rfl)
  ·rw [hη2 n hnx] at hn
   cases hc:hm'.at (n - h.nx+o) with
   | mat K0 r0 C0 g0 t0 te0=>
    rcases hflat n hnx with h1 | h1
    ·rw [hc] at h1; cases h1
    ·rw [hc] at h1; exact h1.elim
   | _=>rw [hc] at hn; cases hn
 ·by_cases hnx:n<h.nx
  ·rw [hη1 n hnx,how1 n hnx] at hn
   exact (em.frz b xs hb').2.1 n hn
  ·rw [hη2 n hnx] at hn
   have:=hnew _ b (how2 n hnx _ b hn)
   have:=(em.frz b xs hb').1
   omega
end
end Go.Sx
