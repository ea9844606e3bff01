/- A contract over some blocks holds where they bear other names. -/
import Derived.Test.YtlboglkgbhjpeaaSxU
namespace Go.Sx
open Go
def VA.ren (ρ:Nat->Nat):VA->VA
 | .own n off=>.own (ρ n) off
 | .el n ix i off=>.el n ix i off
 | .ve n L s i off=>.ve (ρ n) L s i off
 | .fa n p o=>.fa (ρ n) p o
 | .rw n j o=>.rw (ρ n) j o
 | .hb t j o=>.hb t j o
mutual
def VV.ren (ρ:Nat->Nat):VV->VV
 | .ptr a=>.ptr (a.ren ρ)
 | .slice a l c=>.slice (a.ren ρ) l c
 | .func f a b=>.func f (renL ρ a) (renL ρ b)
 | .iface t v=>.iface t (v.ren ρ)
 | .agg cs=>.agg (renL ρ cs)
 | .tup vs=>.tup (renL ρ vs)
 | .yld n=>.yld (ρ n)
 | .sl n L=>.sl (ρ n) L
 | .sub n L s i c=>.sub (ρ n) L s i c
 | .mp n=>.mp (ρ n)
 | v=>v
def renL (ρ:Nat->Nat):List VV->List VV
 | []=>[]
 | v::vs=>v.ren ρ::renL ρ vs
end
def VRes.ren (ρ:Nat->Nat):VRes->VRes
 | .ret v=>.ret (v.ren ρ)
 | .panic v=>.panic (v.ren ρ)
def VB.ren (ρ:Nat->Nat):VB->VB
 | .cells cs t=>.cells (renL ρ cs) t
 | .fam pre L g t=>.fam (renL ρ pre) L g t
 | .map ks vk es=>.map ks vk es
 | b=>b
def VB.easy:VB->Prop
 | .cells ..=>True
 | .fam ..=>True
 | .map ..=>True
 | _=>False
structure Ren (k:Nat) (ρ:Nat->Nat) (R R':Rn):Prop where
 blk:∀ n,n<k->R.blk n=R'.blk (ρ n)
 vec:∀ n,n<k->R.vec n=R'.vec (ρ n)
 arr:R.arr=R'.arr
 str:R.str=R'.str
 frz:R.frz=R'.frz
theorem Ren.no {k:Nat} {ρ:Nat->Nat} {R R':Rn} (h:Ren k ρ R R'):R.no=R'.no:=by unfold Rn.no; rw [h.arr,h.str,h.frz]
theorem ren_A {k:Nat} {ρ:Nat->Nat} {R R':Rn} (h:Ren k ρ R R'):∀ (a:VA) (p:Addr),a.bel k=true->(ARel R a p ↔ ARel R' (a.ren ρ) p)
 | .own n off,_,hk=>by simp only [ARel,VA.ren,h.blk n (ltb hk)]
 | .el n ix i off,_,_=>by simp only [ARel,VA.ren,h.arr,h.str]
 | .ve n L s i off,_,hk=>by simp only [ARel,VA.ren,h.vec n (ltb hk)]
 | .fa n p o,_,hk=>by simp only [ARel,VA.ren,h.blk n (ltb hk)]
 | .rw n j o,_,hk=>by simp only [ARel,VA.ren,h.vec n (ltb hk)]
 | .hb _ _ _,_,_=>by simp only [ARel,VA.ren,h.frz]
mutual
theorem ren_V {k:Nat} {ρ:Nat->Nat} {R R':Rn} (h:Ren k ρ R R'):∀ (v:VV) (x:Value),v.bel k=true->(VRel R v x ↔ VRel R' (v.ren ρ) x)
 | .bool _,_,_=>Iff.rfl
 | .int _ _,_,_=>Iff.rfl
 | .nilp,_,_=>Iff.rfl
 | .ptr a,_,hb=>by
  simp only [VRel,VV.ren]
  exact exists_congr fun p=>and_congr_left fun _=>ren_A h a p hb
 | .nils,_,_=>Iff.rfl
 | .slice a _ _,_,hb=>by
  simp only [VRel,VV.ren]
  exact and_congr_right fun _=>exists_congr fun p=>and_congr_left fun _=>or_congr_right (exists_congr fun q=>and_congr_right fun _=>ren_A h a q hb)
 | .func _ a b,_,hb=>by
  simp only [VV.bel,Bool.and_eq_true] at hb
  simp only [VRel,VV.ren]
  exact exists_congr fun xs=>exists_congr fun ys=>and_congr (ren_L h a xs hb.1) (and_congr_left fun _=>ren_L h b ys hb.2)
 | .nilf,_,_=>Iff.rfl
 | .iface _ v,_,hb=>by
  simp only [VRel,VV.ren]
  exact exists_congr fun y=>and_congr_left fun _=>ren_V h v y hb
 | .niff,_,_=>Iff.rfl
 | .agg cs,_,hb=>by
  simp only [VRel,VV.ren]
  exact exists_congr fun xs=>and_congr_left fun _=>ren_L h cs xs hb
 | .tup vs,_,hb=>by
  simp only [VRel,VV.ren]
  exact exists_congr fun xs=>and_congr_left fun _=>ren_L h vs xs hb
 | .opq _,_,_=>Iff.rfl
 | .any,_,_=>Iff.rfl
 | .yld n,_,hb=>by simp only [VRel,VV.ren,h.blk n (ltb hb)]
 | .sl n L,_,hb=>by simp only [VRel,VV.ren,h.vec n (ltb hb)]
 | .sub n _ _ _ _,_,hb=>by simp only [VRel,VV.ren,h.vec n (ltb hb)]
 | .mp n,_,hb=>by simp only [VRel,VV.ren,h.blk n (ltb hb)]
 | .tl _ _ _,_,_=>by simp only [VRel,VV.ren,h.no,h.frz]
 | .tp _,_,_=>by simp only [VRel,VV.ren,h.no,h.frz]
 | .hs _ _ _,_,_=>by simp only [VRel,VV.ren,h.frz]
theorem ren_L {k:Nat} {ρ:Nat->Nat} {R R':Rn} (h:Ren k ρ R R'):∀ (cs:List VV) (xs:List Value),belL k cs=true->(VRelL R cs xs ↔ VRelL R' (renL ρ cs) xs)
 | [],_,_=>Iff.rfl
 | c::cs,_,hb=>by
  simp only [belL,Bool.and_eq_true] at hb
  simp only [VRelL,renL]
  exact exists_congr fun y=>exists_congr fun ys=>and_congr (ren_V h c y hb.1) (and_congr_left fun _=>ren_L h cs ys hb.2)
end
theorem renL_app {ρ:Nat->Nat}:∀ {l l':List VV},renL ρ (l ++ l')=renL ρ l ++ renL ρ l'
 | [],_=>rfl
 | v::l,l'=>by simp [renL,renL_app (l:=l)]
theorem renL_ints {ρ:Nat->Nat} (g:Nat->Int):∀ (ns:List Nat),renL ρ (ns.map fun j=>VV.int .i64 (g j))=ns.map fun j=>VV.int .i64 (g j)
 | []=>rfl
 | n::ns=>by simp [renL,VV.ren,renL_ints g ns]
theorem VB.ren_cs {ρ:Nat->Nat} {b:VB}:(b.ren ρ).cs? = b.cs?.map fun p=>(renL ρ p.1,p.2):=by
 cases b <;> simp [VB.ren]
 rw [renL_app,show renL ρ (famL _ _)=famL _ _ from renL_ints _ _]
theorem VB.easy_ren {ρ:Nat->Nat} {b:VB} (h:b.easy):(b.ren ρ).easy:=by cases b <;> first | exact h | trivial
theorem VB.easy_ow {b:VB} (h:b.easy) {R:Rn} {n:Nat}:R.ow n b=fun c=>R.blk n=some c:=by cases b <;> first | rfl | exact h.elim
theorem VB.easy_ver {b:VB} (h:b.easy):b.ver=none:=by cases b <;> first | rfl | exact h.elim
theorem VB.easy_nf {b:VB} (h:b.easy):b ≠ .free:=by intro he; rw [he] at h; exact h
section
variable {P:Program}
theorem calls_ren {f:FuncId} {args:List VV} {hm hm' h h1:VH} {r:VRes} (ρ:Nat->Nat) (inj:∀ n m,n<hm.nx->m<hm.nx->ρ n=ρ m->n=m) (hs:CallsV P f args hm r hm')
  (hat:∀ n,n<hm.nx->(hm.at n).easy/\h.at (ρ n)=(hm.at n).ren ρ)
  (h1at:∀ n,n<hm.nx->(hm'.at n).easy/\(hm'.at n).bel hm.nx=true/\h1.at (ρ n)=(hm'.at n).ren ρ)
  (helse:∀ m,(∀ n,n<hm.nx->ρ n ≠ m)->h1.at m=h.at m)
  (hb:∀ n,n<hm.nx->(hm.at n).bel hm.nx=true) (ha:belL hm.nx args=true) (hr:r.bel hm.nx=true):CallsV P f (renL ρ args) h (r.ren ρ) h1:=by
 intro B R w xs em hx
 let R0:Rn:=⟨fun n=>if n<hm.nx then R.blk (ρ n) else none,R.arr,R.str,fun n=>if n<hm.nx then R.vec (ρ n) else fun _=>none,R.frz⟩
 have hren:Ren hm.nx ρ R0 R:=⟨fun n hn=>if_pos hn,fun n hn=>if_pos hn,rfl,rfl,rfl⟩
 have hfr:∀ n,¬ n<hm.nx->hm.at n=.free:=fun n hn=>by
  show (bif Nat.blt n hm.nx then lookB hm.bs n else .free)=_
  rw [blt_f hn]; rfl
 have hlt:∀ n,hm.at n ≠ .free->n<hm.nx:=fun n hn=>by
  by_cases hnk:n<hm.nx
  ·exact hnk
  ·exact (hn (hfr n hnk)).elim
 have how0:∀ n b,R0.ow n (hm.at n) b->n<hm.nx/\R.ow (ρ n) (h.at (ρ n)) b:=fun n b hb'=>by
  have hn:=hlt n (fun e=>by rw [e] at hb'; cases hb')
  obtain ⟨e1,e2⟩:=hat n hn
  rw [VB.easy_ow e1,hren.blk n hn] at hb'
  exact ⟨hn,by rw [e2,VB.easy_ow (VB.easy_ren e1)]; exact hb'⟩
 have hnb:∀ n t r C g te,hm.at n ≠ .bun t r C g te:=fun n t r C g te hn=>by
  have:=(hat n (hlt n (by rw [hn]; simp))).1
  rw [hn] at this; exact this.elim
 have e0:Emb B R0 hm.at w:=by
  refine ⟨em.base,fun n cs t hn=>?_,fun n m b g1 g2=>?_,fun n s ok g hn=>?_,fun n hn=>?_,fun n st pd t m ps as bd hn=>?_,fun n L g s t hn=>?_,fun n hn L=>?_,fun n ks vk es hn=>?_,fun n K r C g t te hn=>?_,fun n t r C g te hn=>(hnb _ _ _ _ _ _ hn).elim,fun b xs hb'=>⟨(em.frz b xs hb').1,fun n hn=>(em.frz b xs hb').2.1 _ (how0 n b hn).2,(em.frz b xs hb').2.2⟩⟩
  ·have hnk:=hlt n (by intro e; rw [e] at hn; simp at hn)
   obtain ⟨e1,e2⟩:=hat n hnk
   obtain ⟨b,ys,g1,g2,g3,g4⟩:=em.ownC (ρ n) (renL ρ cs) t (by rw [e2,VB.ren_cs,hn]; rfl)
   exact ⟨b,ys,by rw [hren.blk n hnk]; exact g1,g2,(ren_L hren cs ys (bel_cs hn (hb n hnk))).2 g3,g4⟩
  ·obtain ⟨k1,k2⟩:=how0 n b g1
   obtain ⟨k3,k4⟩:=how0 m b g2
   exact inj n m k1 k3 (em.inj _ _ b k2 k4)
  ·have:=(hat n (hlt n (by rw [hn]; simp))).1
   rw [hn] at this; exact this.elim
  ·have hnk:¬ n<hm.nx:=fun hnk=>VB.easy_nf (hat n hnk).1 hn
   exact if_neg hnk
  ·have:=(hat n (hlt n (by rw [hn]; simp))).1
   rw [hn] at this; exact this.elim
  ·have:=(hat n (hlt n (by rw [hn]; simp))).1
   rw [hn] at this; exact this.elim
  ·have hnk:¬ n<hm.nx:=fun hnk=>VB.easy_nf (hat n hnk).1 hn
   show (if n<hm.nx then R.vec (ρ n) else fun _=>none) L=none
   rw [if_neg hnk]
  ·have hnk:=hlt n (by rw [hn]; simp)
   have e2:=(hat n hnk).2
   rw [hn] at e2
   exact (em.map (ρ n) ks vk es e2).frame (hren.blk n hnk) (fun _ _=>rfl)
  ·have:=(hat n (hlt n (by rw [hn]; simp))).1
   rw [hn] at this; exact this.elim
 refine (hs B R0 w xs e0 ((ren_L hren args xs ha).2 hx)).mono ?_
 rintro e w' ⟨R1,n1,e1,x⟩
 let Rf:Rn:={ R with frz:=R1.frz }
 have hle:R.le Rf:=⟨fun _ _ h=>h,rfl,rfl,fun _ _ _ h=>h,n1.fmono⟩
 have hren1:Ren hm.nx ρ R1 Rf:=by
  refine ⟨fun n hn=>by rw [n1.old n (VB.easy_nf (hat n hn).1)]; exact hren.blk n hn,fun n hn=>?_,n1.arr,n1.str,rfl⟩
  have:R1.vec n=R0.vec n:=by
   refine n1.vsame e1 (VB.easy_nf (hat n hn).1) (fun L hv=>?_)
   rw [VB.easy_ver (hat n hn).1] at hv
   cases hv
  rw [this]; exact hren.vec n hn
 have cas:∀ m,(∃ n,n<hm.nx/\ρ n=m) ∨ ∀ n,n<hm.nx->ρ n ≠ m:=fun m=>by
  by_cases hc:∃ n,n<hm.nx/\ρ n=m
  ·exact .inl hc
  ·exact .inr fun n hn he=>hc ⟨n,hn,he⟩
 have how:∀ m b,Rf.ow m (h1.at m) b->R.ow m (h.at m) b:=fun m b hb'=>by
  rcases cas m with ⟨n,hn,rfl⟩ | hc
  ·obtain ⟨a1,_,a3⟩:=h1at n hn
   obtain ⟨b1,b2⟩:=hat n hn
   rw [a3,VB.easy_ow (VB.easy_ren a1)] at hb'
   rw [b2,VB.easy_ow (VB.easy_ren b1)]; exact hb'
  ·rw [helse m hc,ow_le (R':=Rf) em (fun _ _ _ h=>n1.fmono _ _ h) rfl rfl] at hb'; exact hb'
 have hframe:∀ m,(∀ n,n<hm.nx->ρ n ≠ m)->∀ b,R.ow m (h.at m) b->w'.heap[b]? = w.heap[b]?:=fun m hc b hb'=>
  n1.frame b (em.lt hb') (fun n hbm=>by
   obtain ⟨g1,g2⟩:=how0 n b hbm
   exact hc n g1 (em.inj _ _ b g2 hb'))
 have hbx:=bun_mix (R':=Rf) (η':=h1.at) em (fun n t r C g te hn=>(e1.bun n t r C g te hn).1) n1.reg (fun _ _=>rfl) (fun _ _ _ h=>n1.fmono _ _ h) (fun _ _=>rfl) (fun k t r C g te hk=>(hnb _ _ _ _ _ _ hk).elim) (fun m t r C g te hq=>by
  rcases cas m with ⟨n,hn,rfl⟩ | hc
  ·obtain ⟨a1,_,a3⟩:=h1at n hn
   have:=VB.easy_ren (ρ:=ρ) a1
   rw [<- a3,hq] at this; exact this.elim
  ·exact .inr ⟨by rw [<- helse m hc]; exact hq,fun k _ _ _ _ hk=>(hnb _ _ _ _ _ _ hk).elim,fun b hb'=>hframe m hc b hb'⟩)
 refine ⟨Rf,⟨fun m hq=>?_,fun n hn=>rfl,rfl,rfl,fun _ _ _ h=>h,fun n L v g1 g2=>(by rw [show Rf.vec n L=R.vec n L from rfl,g1] at g2; cases g2),fun m L hq=>?_,fun n b hb'=>.inl ⟨n,how n b hb'⟩,n1.size,fun b hb' hn=>n1.frame b hb' (fun n hbm=>hn _ (how0 n b hbm).2),n1.os,n1.tape,n1.output,n1.fmono,fun b xs hb'=>(n1.fnew b xs hb').imp id (fun h=>h.imp (fun ⟨n,hn⟩=>⟨_,(how0 n b hn).2⟩) id),hbx.2⟩,
  ⟨Nat.le_trans em.base n1.size,fun m cs t hq=>?_,fun n m b g1 g2=>em.inj n m b (how n b g1) (how m b g2),fun m s ok g hq=>?_,fun m hq=>?_,fun m st pd t q ps as bd hq=>?_,fun m L g s t hq=>?_,fun m hq L=>?_,fun m ks vk es hq=>?_,fun m K r C g t te hq=>?_,hbx.1,fun b xs hb'=>⟨(e1.frz b xs hb').1,fun m hn=>?_,(e1.frz b xs hb').2.2⟩⟩,?_⟩
 ·rcases cas m with ⟨n,hn,rfl⟩ | hc
  ·obtain ⟨a1,_,a3⟩:=h1at n hn
   rw [a3]; exact VB.easy_nf (VB.easy_ren a1)
  ·rw [helse m hc]; exact hq
 ·rcases cas m with ⟨n,hn,rfl⟩ | hc
  ·obtain ⟨a1,_,a3⟩:=h1at n hn
   rw [a3,VB.easy_ver (VB.easy_ren a1)] at hq
   cases hq
  ·rw [helse m hc] at hq; exact .inr ⟨L,hq,Nat.le_refl _⟩
 ·rcases cas m with ⟨n,hn,rfl⟩ | hc
  ·obtain ⟨a1,a2,a3⟩:=h1at n hn
   rw [a3,VB.ren_cs] at hq
   cases hcs:(hm'.at n).cs? with
   | none=>rw [hcs] at hq; cases hq
   | some p=>
    obtain ⟨cs0,t0⟩:=p
    rw [hcs] at hq
    simp only [Option.map_some,Option.some.injEq,Prod.mk.injEq] at hq
    obtain ⟨rfl,rfl⟩:=hq
    obtain ⟨b,ys,g1,g2,g3,g4⟩:=e1.ownC n cs0 t0 hcs
    exact ⟨b,ys,by rw [<- hren1.blk n hn]; exact g1,g2,(ren_L hren1 cs0 ys (bel_cs hcs a2)).1 g3,g4⟩
  ·rw [helse m hc] at hq
   obtain ⟨b,ys,g1,g2,g3,g4⟩:=em.ownC m cs t hq
   exact ⟨b,ys,g1,g2,g3.mono hle,by rw [hframe m hc b (by rw [ow_cs hq]; exact g1)]; exact g4⟩
 ·rcases cas m with ⟨n,hn,rfl⟩ | hc
  ·obtain ⟨a1,_,a3⟩:=h1at n hn
   have:=VB.easy_ren (ρ:=ρ) a1
   rw [<- a3,hq] at this; exact this.elim
  ·rw [helse m hc] at hq
   obtain ⟨g1,g2⟩:=em.arr m s ok g hq
   refine ⟨g1,fun ix i hi=>?_⟩
   obtain ⟨g3,g4,g5,ys,g6,g7,g8⟩:=g2 ix i hi
   refine ⟨g3,g4,g5,ys,g6.mono hle.no,g7,fun q y hq=>?_⟩
   show w'.cell? ((R.arr m ix).add (i.toNat*s+q))=some y
   have hblk2:((R.arr m ix).add (i.toNat*s+q)).block=(R.arr m ix).block:=by unfold Addr.add; split <;> rfl
   rw [cell_same (w:=w)]
   ·exact g8 q y hq
   ·rw [hblk2]
    refine n1.frame _ (Nat.lt_of_lt_of_le g4 em.base) (fun n hbm=>?_)
    have:=(em.own_lt (how0 n _ hbm).2).1
    omega
 ·rcases cas m with ⟨n,hn,rfl⟩ | hc
  ·obtain ⟨a1,_,a3⟩:=h1at n hn
   have:=VB.easy_ren (ρ:=ρ) a1
   rw [<- a3,hq] at this; exact this.elim
  ·rw [helse m hc] at hq; exact em.fresh m hq
 ·rcases cas m with ⟨n,hn,rfl⟩ | hc
  ·obtain ⟨a1,_,a3⟩:=h1at n hn
   have:=VB.easy_ren (ρ:=ρ) a1
   rw [<- a3,hq] at this; exact this.elim
  ·rw [helse m hc] at hq
   obtain ⟨b,r',g1,g2,g3,g4⟩:=em.lp m st pd t q ps as bd hq
   exact ⟨b,r',g1,g2,by rw [hframe m hc b (by rw [hq]; exact g1)]; exact g3,g4.mono hle⟩
 ·rcases cas m with ⟨n,hn,rfl⟩ | hc
  ·obtain ⟨a1,_,a3⟩:=h1at n hn
   have:=VB.easy_ren (ρ:=ρ) a1
   rw [<- a3,hq] at this; exact this.elim
  ·rw [helse m hc] at hq
   exact (em.vec m L g s t hq).frame rfl hle.no (fun b hb'=>hframe m hc b (by rw [hq]; exact hb'))
 ·rcases cas m with ⟨n,hn,rfl⟩ | hc
  ·obtain ⟨a1,_,a3⟩:=h1at n hn
   have:=VB.easy_ren (ρ:=ρ) a1
   rw [<- a3,hq] at this; exact this.elim
  ·rw [helse m hc] at hq; exact em.fvec m hq L
 ·rcases cas m with ⟨n,hn,rfl⟩ | hc
  ·obtain ⟨a1,a2,a3⟩:=h1at n hn
   have h2:hm'.at n=.map ks vk es:=by
    rw [a3] at hq
    cases hb2:hm'.at n <;> rw [hb2] at hq <;> first | (cases hq; done) | exact hq | cases hq
   exact (e1.map n ks vk es h2).frame (hren1.blk n hn).symm (fun _ _=>rfl)
  ·rw [helse m hc] at hq
   exact (em.map m ks vk es hq).frame rfl (fun b hb'=>hframe m hc b (by rw [hq]; exact hb'))
 ·rcases cas m with ⟨n,hn,rfl⟩ | hc
  ·obtain ⟨a1,_,a3⟩:=h1at n hn
   have:=VB.easy_ren (ρ:=ρ) a1
   rw [<- a3,hq] at this; exact this.elim
  ·rw [helse m hc] at hq
   exact (em.mat m K r C g t te hq).frame rfl (fun b hb'=>hframe m hc b (by rw [hq]; exact hb'))
 ·have hm1:=how m b hn
  rcases n1.fnew b xs hb' with k1 | ⟨n,k1⟩ | k1
  ·exact (em.frz b xs k1).2.1 m hm1
  ·obtain ⟨k2,k3⟩:=how0 n b k1
   have:=em.inj _ _ b hm1 k3
   subst this
   obtain ⟨a1,_,a3⟩:=h1at n k2
   refine (e1.frz b xs hb').2.1 n ?_
   rw [VB.easy_ow a1,hren1.blk n k2]
   rw [a3,VB.easy_ow (VB.easy_ren a1)] at hn
   exact hn
  ·have:=em.lt hm1; omega
 ·cases r with
  | ret v=>obtain ⟨y,hy,he⟩:=x; exact ⟨y,(ren_V hren1 v y hr).1 hy,he⟩
  | panic v=>obtain ⟨y,hy,he⟩:=x; exact ⟨y,(ren_V hren1 v y hr).1 hy,he⟩
end
end Go.Sx
