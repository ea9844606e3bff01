/- An operation that is run on a part of the heap. -/
import Derived.Test.YtlboglkgbhjpeaaSx7
namespace Go.Sx
open Go
def memN:List Nat->Nat->Bool
 | [],_=>false
 | m::r,n=>Nat.beq m n || memN r n
theorem memN_iff {l:List Nat} {n:Nat}:memN l n=true ↔ n ∈ l:=by
 induction l with
 | nil=>simp [memN]
 | cons m r ih=>
  simp only [memN,Bool.or_eq_true,ih,List.mem_cons]
  constructor
  ·rintro (h | h)
   ·exact .inl (Nat.eq_of_beq_eq_true h).symm
   ·exact .inr h
  ·rintro (h | h)
   ·exact .inl (beq_t h.symm)
   ·exact .inr h
def maskL (h:VH):List Nat->List (Nat × VB)
 | []=>[]
 | n::r=>(n,h.at n)::maskL h r
def maskH (fp:List Nat) (h:VH):VH:=⟨h.nx,maskL h fp⟩
theorem lookB_mask (h:VH) (n:Nat):∀ fp:List Nat,lookB (maskL h fp) n=if n ∈ fp then h.at n else .gone
 | []=>by simp [maskL,lookB]
 | m::r=>by
  simp only [maskL,lookB]
  by_cases hm:m=n
  ·subst hm; rw [beq_t rfl]; simp
  ·rw [beq_f hm,cond_false,lookB_mask h n r]
   have:n ≠ m:=fun e=>hm e.symm
   simp [this]
theorem mask_at {fp:List Nat} {h:VH} {n:Nat} (hn:n<h.nx):(maskH fp h).at n=if n ∈ fp then h.at n else .gone:=by
 show (bif Nat.blt n h.nx then lookB (maskL h fp) n else .free)=_
 rw [blt_t hn,cond_true]
 exact lookB_mask h n fp
theorem mask_free {fp:List Nat} {h:VH} {n:Nat} (hn:¬ n<h.nx):(maskH fp h).at n=.free:=by
 unfold VH.at maskH
 simp only [blt_f hn,cond_false]
def Rn.cut (R:Rn) (k:Nat):Rn:=⟨fun n=>if n<k then R.blk n else none,R.arr,R.str,fun n L=>if n<k then R.vec n L else none,R.frz⟩
theorem cut_vec {R:Rn} {k n:Nat} (h:n<k):(R.cut k).vec n=R.vec n:=by
 funext L
 simp [Rn.cut,h]
theorem cut_ow {R:Rn} {k n:Nat} {b:VB} (h:n<k):(R.cut k).ow n b=R.ow n b:=by
 cases b <;> simp [Rn.ow,Rn.cut,h]
theorem cut_agree (R:Rn) (k:Nat):Agree k R (R.cut k):=⟨fun n hn=>by simp [Rn.cut,hn],rfl,rfl,fun _ hn=>cut_vec hn,fun _ _ h=>h⟩
theorem ow_agree {k:Nat} {R R':Rn} (h:Agree k R R') {n:Nat} (hn:n<k) (b:VB) (hr:R'.frz=R.frz:=by rfl):R'.ow n b=R.ow n b:=by
 cases b <;> simp [Rn.ow,h.blk n hn,h.vec n hn,hr]
theorem bel_upA {k k':Nat} (h:k<=k'):∀ a:VA,a.bel k=true->a.bel k'=true
 | .own _ _,hb=>blt_t (Nat.lt_of_lt_of_le (ltb hb) h)
 | .el _ _ _ _,_=>rfl
 | .ve _ _ _ _ _,hb=>blt_t (Nat.lt_of_lt_of_le (ltb hb) h)
 | .fa _ _ _,hb=>blt_t (Nat.lt_of_lt_of_le (ltb hb) h)
 | .rw _ _ _,hb=>blt_t (Nat.lt_of_lt_of_le (ltb hb) h)
 | .hb _ _ _,_=>rfl
mutual
theorem bel_up {k k':Nat} (h:k<=k'):∀ v:VV,v.bel k=true->v.bel k'=true
 | .bool _,_=>rfl
 | .int _ _,_=>rfl
 | .nilp,_=>rfl
 | .ptr a,hb=>bel_upA h a hb
 | .nils,_=>rfl
 | .slice a _ _,hb=>bel_upA h a hb
 | .func _ a b,hb=>by
  simp only [VV.bel,Bool.and_eq_true] at hb ⊢
  exact ⟨belL_up h a hb.1,belL_up h b hb.2⟩
 | .nilf,_=>rfl
 | .iface _ v,hb=>bel_up h v hb
 | .niff,_=>rfl
 | .agg cs,hb=>belL_up h cs hb
 | .tup vs,hb=>belL_up h vs hb
 | .opq _,_=>rfl
 | .any,_=>rfl
 | .yld _,hb=>blt_t (Nat.lt_of_lt_of_le (ltb hb) h)
 | .sl _ _,hb=>blt_t (Nat.lt_of_lt_of_le (ltb hb) h)
 | .sub _ _ _ _ _,hb=>blt_t (Nat.lt_of_lt_of_le (ltb hb) h)
 | .mp _,hb=>blt_t (Nat.lt_of_lt_of_le (ltb hb) h)
 | .tl _ _ _,_=>rfl
 | .tp _,_=>rfl
 | .hs _ _ _,_=>rfl
theorem belL_up {k k':Nat} (h:k<=k'):∀ l:List VV,belL k l=true->belL k' l=true
 | [],_=>rfl
 | c::cs,hb=>by
  simp only [belL,Bool.and_eq_true] at hb ⊢
  exact ⟨bel_up h c hb.1,belL_up h cs hb.2⟩
end
theorem belS_up {k k':Nat} (h:k<=k'):∀ t:Slots,belS k t=true->belS k' t=true
 | [],_=>rfl
 | (d,v)::r,hb=>by
  simp only [belS,Bool.and_eq_true] at hb ⊢
  exact ⟨bel_up h v hb.1,belS_up h r hb.2⟩
theorem VB.bel_up {k k':Nat} (h:k<=k') {b:VB} (hb:b.bel k=true):b.bel k'=true:=by
 cases b with
 | cells cs t=>exact belL_up h cs hb
 | loop st pd t m ps as bd=>exact belS_up h t hb
 | fam pre L g t=>exact belL_up h pre hb
 | _=>rfl
section
theorem cell_same {w w':World} {p:Addr} (h:w'.heap[p.block]? = w.heap[p.block]?):w'.cell? p=w.cell? p:=by
 unfold World.cell?
 rw [h]
def VB.lay:VB->Prop
 | .free=>False
 | .arr ..=>False
 | _=>True
theorem VB.lay_not_free {b:VB} (h:b.lay):b ≠ .free:=by cases b <;> simp_all [VB.lay]
theorem mask_law {h h1:VH} {fp:List Nat} {po:List (Nat × VB)} {nw:Nat} {v:VV}
  (hfp:∀ n ∈ fp,n<h.nx) (hnf:∀ n ∈ fp,h.at n ≠ .free)
  (hpo:∀ p ∈ po,(p.1 ∈ fp/\p.2=h1.at p.1/\(h.at p.1).mine) ∨ (h.nx<=p.1/\p.1<h.nx+nw/\p.2=h1.at p.1))
  (hpl:∀ p ∈ po,p.2.lay) (hpb:∀ p ∈ po,p.2.bel (h.nx+nw)=true)
  (hkeep:∀ n ∈ fp,(∀ p ∈ po,p.1 ≠ n)->h1.at n=h.at n) (hkb:∀ n ∈ fp,(h.at n).bel h.nx=true)
  (hv:v.bel (h.nx+nw)=true)
  {B:Nat} {R R0':Rn} {w w':World} {η:Nat->VB} {x:Value} (he:Emb B R η w) (hη:∀ n ∈ fp,η n=h.at n) (hηn:∀ n,h.nx<=n->n<h.nx+nw->η n=.free)
  (hnew:∀ n,h.nx<=n->n<h.nx+nw->∃ p ∈ po,p.1=n)
  (n1:Nxt (maskH fp h).at (R.cut h.nx) w h1.at R0' w') (e1:Emb B R0' h1.at w') (hx:VRel R0' v x) :
  ∃ R',Nxt η R w (ov po η) R' w'/\Emb B R' (ov po η) w'/\VRel R' v x:=by
 let R':Rn:=⟨fun m=>if h.nx<=m/\m<h.nx+nw then R0'.blk m else R.blk m,R.arr,R.str,fun m=>if (h.nx<=m/\m<h.nx+nw) ∨ m ∈ fp then R0'.vec m else R.vec m,R0'.frz⟩
 have hmask:∀ m,m<h.nx->(maskH fp h).at m ≠ .free:=by
  intro m hm
  rw [mask_at hm]
  by_cases hmf:m ∈ fp
  ·rw [if_pos hmf]; exact hnf m hmf
  ·rw [if_neg hmf]; simp
 have hblk0:∀ m,m<h.nx->R0'.blk m=R.blk m:=by
  intro m hm
  rw [n1.old m (hmask m hm)]
  simp [Rn.cut,hm]
 have hfr:∀ n,h.nx<=n->n<h.nx+nw->R.blk n=none:=fun n h1 h2=>he.fresh _ (hηn n h1 h2)
 have hpe:∀ (n:Nat),(∃ p ∈ po,p.1=n)->ov po η n=h1.at n:=by
  intro n hn
  have key:∀ (po:List (Nat × VB)),(∀ p ∈ po,p.2=h1.at p.1)->(∃ p ∈ po,p.1=n)->ov po η n=h1.at n:=by
   intro po
   induction po with
   | nil=>intro _ ⟨p,hp,_⟩; cases hp
   | cons q po ih=>
    intro hq ⟨p,hp,hpn⟩
    obtain ⟨m,b⟩:=q
    simp only [ov,upd]
    by_cases hm:n=m
    ·subst hm; simpa using hq (n,b) (by simp)
    ·rw [if_neg hm]
     rcases List.mem_cons.1 hp with rfl | hp
     ·exact (hm hpn.symm).elim
     ·exact ih (fun p hp=>hq p (by simp [hp])) ⟨p,hp,hpn⟩
  refine key po (fun p hp=>?_) hn
  rcases hpo p hp with ⟨_,h2,_⟩ | ⟨_,_,h3⟩
  ·exact h2
  ·exact h3
 have hvec0:∀ m,m<h.nx->m ∉ fp->R0'.vec m=R.vec m:=by
  intro m hm hmf
  rw [n1.vsame e1 (hmask m hm) (fun L hh=>?_),cut_vec hm]
  rw [mask_at hm,if_neg hmf] at hh
  cases hh
 have hag:Agree (h.nx+nw) R0' R':=by
  have hlt:∀ n,n<(h.nx+nw)->¬ (h.nx<=n/\n<h.nx+nw)->n<h.nx:=by
   intro n hn hc
   omega
  refine ⟨fun n hn=>?_,by rw [n1.arr]; rfl,by rw [n1.str]; rfl,fun n hn=>?_,fun _ _ h=>h⟩
  ·show (if h.nx<=n/\n<h.nx+nw then R0'.blk n else R.blk n)=R0'.blk n
   by_cases hc:h.nx<=n/\n<h.nx+nw
   ·rw [if_pos hc]
   ·rw [if_neg hc]; exact (hblk0 n (hlt n hn hc)).symm
  ·show (if (h.nx<=n/\n<h.nx+nw) ∨ n ∈ fp then R0'.vec n else R.vec n)=R0'.vec n
   by_cases hc:(h.nx<=n/\n<h.nx+nw) ∨ n ∈ fp
   ·rw [if_pos hc]
   ·rw [if_neg hc]; exact (hvec0 n (hlt n hn (fun h=>hc (.inl h))) (fun h=>hc (.inr h))).symm
 have hno:R0'.no.le R'.no:=hag.no
 have hle:R.le R':=by
  refine ⟨fun n b hb=>?_,rfl,rfl,fun n L y hy=>?_,fun b xs hb=>n1.fmono b xs hb⟩
  ·show (if h.nx<=n/\n<h.nx+nw then R0'.blk n else R.blk n)=some b
   by_cases hc:h.nx<=n/\n<h.nx+nw
   ·exfalso
    rw [hfr n hc.1 hc.2] at hb
    cases hb
   ·rw [if_neg hc]; exact hb
  ·show (if (h.nx<=n/\n<h.nx+nw) ∨ n ∈ fp then R0'.vec n else R.vec n) L=some y
   by_cases hc:(h.nx<=n/\n<h.nx+nw) ∨ n ∈ fp
   ·rw [if_pos hc]
    rcases hc with hc | hc
    ·exfalso
     rw [he.fvec _ (hηn n hc.1 hc.2)] at hy
     cases hy
    ·exact n1.vold n L y (by rw [cut_vec (hfp n hc)]; exact hy)
   ·rw [if_neg hc]; exact hy
 have hmow:∀ n b,(R.cut h.nx).ow n ((maskH fp h).at n) b->n ∈ fp/\n<h.nx/\R.ow n (η n) b:=by
  intro n b hb
  by_cases hnx:n<h.nx
  ·rw [mask_at hnx,cut_ow hnx] at hb
   by_cases hnf':n ∈ fp
   ·rw [if_pos hnf',<- hη n hnf'] at hb
    exact ⟨hnf',hnx,hb⟩
   ·rw [if_neg hnf'] at hb; cases hb
  ·rw [mask_free hnx] at hb; cases hb
 have hframe:∀ (m b:Nat),m ∉ fp->R.ow m (η m) b->w'.heap[b]? = w.heap[b]?:=by
  intro m b hm hb
  refine n1.frame b (he.lt hb) (fun n hbn=>?_)
  obtain ⟨h1,_,h2⟩:=hmow n b hbn
  have:=he.inj m n b hb h2
  exact hm (this ▸ h1)
 have hfp_or:∀ m,(m ∈ fp/\m<h.nx/\ov po η m=h1.at m) ∨ (h.nx<=m/\m<h.nx+nw/\ov po η m=h1.at m) ∨ (m ∉ fp/\¬ (h.nx<=m/\m<h.nx+nw)/\ov po η m=η m):=by
  intro m
  by_cases hin:∃ p ∈ po,p.1=m
  ·have h2:=hpe m hin
   obtain ⟨p,hp,rfl⟩:=hin
   rcases hpo p hp with ⟨h3,_⟩ | ⟨h3,h4,h5⟩
   ·exact .inl ⟨h3,hfp _ h3,h2⟩
   ·exact .inr (.inl ⟨h3,h4,h2⟩)
  ·have hout:∀ p ∈ po,p.1 ≠ m:=fun p hp e=>hin ⟨p,hp,e⟩
   by_cases hmf:m ∈ fp
   ·left
    refine ⟨hmf,hfp m hmf,?_⟩
    rw [ov_out hout,hη m hmf,hkeep m hmf hout]
   ·exact .inr (.inr ⟨hmf,fun ⟨a,b⟩=>by obtain ⟨p,hp,hpn⟩:=hnew m a b; exact hout p hp hpn,ov_out hout⟩)
 have hagS:∀ m,(m<h.nx ∨ (h.nx<=m/\m<h.nx+nw))->m<(h.nx+nw):=by
  intro m hm
  omega
 have hbelow:∀ m ∈ fp,(h1.at m).bel (h.nx+nw)=true:=by
  intro m hm
  by_cases hin:∃ p ∈ po,p.1=m
  ·obtain ⟨p,hp,rfl⟩:=hin
   have h2:=hpb p hp
   rcases hpo p hp with ⟨_,h4,_⟩ | ⟨_,h4,h5⟩
   ·rw [h4] at h2; exact h2
   ·have:=hfp _ hm; omega
  ·rw [hkeep m hm (fun p hp e=>hin ⟨p,hp,e⟩)]
   exact VB.bel_up (by omega) (hkb m hm)
 have hnewb:∀ m,h.nx<=m->m<h.nx+nw->(h1.at m).bel (h.nx+nw)=true:=by
  intro m h2 h3
  obtain ⟨p,hp,rfl⟩:=hnew m h2 h3
  have h5:=hpb p hp
  rcases hpo p hp with ⟨h6,_⟩ | ⟨_,_,h6⟩
  ·have:=hfp _ h6; omega
  ·rw [h6] at h5; exact h5
 have hand:∀ m,(ov po η m=h1.at m/\(m<h.nx ∨ (h.nx<=m/\m<h.nx+nw))/\(h1.at m).bel (h.nx+nw)=true/\∀ b,R0'.ow m (h1.at m) b->(∃ k ∈ fp,R.ow k (η k) b) ∨ w.heap.size<=b) ∨
   (m ∉ fp/\¬ (h.nx<=m/\m<h.nx+nw)/\ov po η m=η m):=by
  intro m
  have ho:∀ b,R0'.ow m (h1.at m) b->(∃ k ∈ fp,R.ow k (η k) b) ∨ w.heap.size<=b:=fun b hb=>by
   rcases n1.own m b hb with ⟨k,h2⟩ | h2
   ·exact .inl ⟨k,(hmow k b h2).1,(hmow k b h2).2.2⟩
   ·exact .inr h2
  rcases hfp_or m with ⟨h2,h3,h4⟩ | ⟨h2,h3,h4⟩ | h2
  ·exact .inl ⟨h4,.inl h3,hbelow m h2,ho⟩
  ·exact .inl ⟨h4,.inr ⟨h2,h3⟩,hnewb m h2 h3,ho⟩
  ·exact .inr h2
 have hmb:∀ k t r C g te,(maskH fp h).at k=.bun t r C g te->k ∈ fp/\η k=.bun t r C g te:=by
  intro k t r C g te hk
  by_cases hnx:k<h.nx
  ·rw [mask_at hnx] at hk
   by_cases hkf:k ∈ fp
   ·rw [if_pos hkf] at hk; exact ⟨hkf,by rw [hη k hkf]; exact hk⟩
   ·rw [if_neg hkf] at hk; cases hk
  ·rw [mask_free hnx] at hk; cases hk
 have howR:∀ m,m ∉ fp->¬ (h.nx<=m/\m<h.nx+nw)->R'.ow m (η m)=R.ow m (η m):=by
  intro m hmf hm
  cases hb:η m with
  | bun t r C g te=>
   have:=reg_same he n1.reg (fun _ _=>rfl) (fun t j xs h=>n1.fmono _ _ h) hb (fun k r C g te hk=>⟨k,_,_,_,_,fun h=>hmf (h ▸ (hmb k _ _ _ _ _ hk).1),(hmb k _ _ _ _ _ hk).2⟩)
   funext b
   simp only [Rn.ow]
   simp [R',this]
  | _=>simp [Rn.ow,R',hm,hmf]
 have hbx:=bun_mix (R':=R') (η':=ov po η) he (fun n t r C g te hn=>(e1.bun n t r C g te hn).1) n1.reg (fun _ _=>rfl) (fun t j xs h=>n1.fmono _ _ h) (fun _ _=>rfl)
  (fun k t r C g te hk=>⟨k,_,_,_,_,(hmb k _ _ _ _ _ hk).2⟩) (fun m t r C g te hm=>by
   rcases hand m with ⟨h2,_,_,_⟩ | ⟨h5,h3,h2⟩
   ·exact .inl ⟨m,by rw [<- h2]; exact hm,fun _ _ _ _ hk=>⟨_,_,_,_,(hmb m _ _ _ _ _ hk).2⟩⟩
   ·exact .inr ⟨by rw [<- h2]; exact hm,fun k _ _ _ _ hk=>⟨k,_,_,_,_,fun h=>h5 (h ▸ (hmb k _ _ _ _ _ hk).1),(hmb k _ _ _ _ _ hk).2⟩,fun b hb=>hframe m b h5 hb⟩)
 have hfz:∀ (b:Nat) xs,R0'.frz (.blk b)=some xs->R.frz (.blk b)=some xs ∨ (∃ n ∈ fp,R.ow n (η n) b) ∨ w.heap.size<=b:=by
  intro b xs hb
  rcases n1.fnew b xs hb with h2 | ⟨n,h2⟩ | h2
  ·exact .inl h2
  ·obtain ⟨h3,_,h4⟩:=hmow n b h2
   exact .inr (.inl ⟨n,h3,h4⟩)
  ·exact .inr (.inr h2)
 refine ⟨R',⟨?_,?_,rfl,rfl,hle.vec,?_,?_,?_,n1.size,?_,n1.os,n1.tape,n1.output,hle.frz,fun b xs hb=>(hfz b xs hb).imp id (fun h=>h.imp (fun ⟨n,_,h⟩=>⟨n,h⟩) id),hbx.2⟩,⟨?_,?_,?_,?_,?_,?_,?_,?_,?_,?_,hbx.1,?_⟩,bel_V hag v x hv hx⟩
 ·intro n hn
  by_cases hin:∃ p ∈ po,p.1=n
  ·have h2:=hpe n hin
   obtain ⟨p,hp,rfl⟩:=hin
   rw [h2]
   have h3:=hpl p hp
   rcases hpo p hp with ⟨_,h4,_⟩ | ⟨_,_,h5⟩
   ·rw [h4] at h3; exact VB.lay_not_free h3
   ·rw [h5] at h3; exact VB.lay_not_free h3
  ·rw [ov_out (fun p hp e=>hin ⟨p,hp,e⟩)]; exact hn
 ·intro n hn
  show (if h.nx<=n/\n<h.nx+nw then R0'.blk n else R.blk n)=R.blk n
  rw [if_neg]
  rintro ⟨h2,h3⟩
  exact hn (hηn n h2 h3)
 ·intro n L y hy hy'
  have hy':(if (h.nx<=n/\n<h.nx+nw) ∨ n ∈ fp then R0'.vec n else R.vec n) L=some y:=hy'
  by_cases hc:(h.nx<=n/\n<h.nx+nw) ∨ n ∈ fp
  ·by_cases hc1:h.nx<=n/\n<h.nx+nw
   ·left; exact hηn n hc1.1 hc1.2
   ·have hc2:n ∈ fp:=hc.resolve_left hc1
    rw [if_pos hc] at hy'
    rcases n1.vnew n L y (by rw [cut_vec (hfp n hc2)]; exact hy) hy' with h5 | ⟨L0,h5,h6⟩
    ·exact (hmask n (hfp n hc2) h5).elim
    ·rw [mask_at (hfp n hc2),if_pos hc2,<- hη n hc2] at h5
     exact .inr ⟨L0,h5,h6⟩
  ·rw [if_neg hc,hy] at hy'; cases hy'
 ·intro n L hn
  rcases hfp_or n with ⟨h2,h3,h4⟩ | ⟨h2,h3,_⟩ | ⟨_,_,h4⟩
  ·rw [h4] at hn
   rcases n1.vmono n L hn with h5 | ⟨L0,h5,h6⟩
   ·exact (hmask n h3 h5).elim
   ·rw [mask_at h3,if_pos h2,<- hη n h2] at h5
    exact .inr ⟨L0,h5,h6⟩
  ·left; exact hηn n h2 h3
  ·rw [h4] at hn; exact .inr ⟨L,hn,Nat.le_refl _⟩
 ·intro n b hb
  rcases hand n with ⟨h2,h3,_,h4⟩ | ⟨h5,h3,h2⟩
  ·rw [h2,ow_agree hag (hagS n h3)] at hb
   exact (h4 b hb).imp (fun ⟨k,_,h⟩=>⟨k,h⟩) id
  ·rw [h2,howR n h5 h3] at hb; exact .inl ⟨n,hb⟩
 ·intro b hb hn
  refine n1.frame b hb (fun n hbn=>hn n (hmow n b hbn).2.2)
 ·exact Nat.le_trans he.base n1.size
 ·intro m cs t hm
  rcases hand m with ⟨h2,h3,h4,_⟩ | ⟨h5,h3,h2⟩
  ·rw [h2] at hm
   obtain ⟨b,xs,g1,g2,g3,g4⟩:=e1.ownC m cs t hm
   exact ⟨b,xs,by rw [hag.blk m (hagS m h3)]; exact g1,g2,bel_L hag cs xs (bel_cs hm h4) g3,g4⟩
  ·rw [h2] at hm
   obtain ⟨b,xs,g1,g2,g3,g4⟩:=he.ownC m cs t hm
   exact ⟨b,xs,hle.blk m b g1,g2,g3.mono hle,by rw [hframe m b h5 (by rw [ow_cs hm]; exact g1)]; exact g4⟩
 ·intro n m b hbn hbm
  rcases hand n with ⟨n2,n3,_,n4⟩ | ⟨n5,n3,n2⟩ <;> rcases hand m with ⟨m2,m3,_,m4⟩ | ⟨m5,m3,m2⟩
  ·rw [n2,ow_agree hag (hagS n n3)] at hbn
   rw [m2,ow_agree hag (hagS m m3)] at hbm
   exact e1.inj n m b hbn hbm
  ·rw [n2,ow_agree hag (hagS n n3)] at hbn
   rw [m2,howR m m5 m3] at hbm
   rcases n4 b hbn with ⟨k,hk,h6⟩ | h6
   ·exact (m5 (he.inj k m b h6 hbm ▸ hk)).elim
   ·have:=he.lt hbm; omega
  ·rw [m2,ow_agree hag (hagS m m3)] at hbm
   rw [n2,howR n n5 n3] at hbn
   rcases m4 b hbm with ⟨k,hk,h6⟩ | h6
   ·exact (n5 (he.inj k n b h6 hbn ▸ hk)).elim
   ·have:=he.lt hbn; omega
  ·rw [n2,howR n n5 n3] at hbn
   rw [m2,howR m m5 m3] at hbm
   exact he.inj n m b hbn hbm
 ·intro m s ok g hm
  have hout:∀ p ∈ po,p.1 ≠ m:=by
   intro p hp e
   have h2:=hpe m ⟨p,hp,e⟩
   have h3:=hpl p hp
   rcases hpo p hp with ⟨_,h4,_⟩ | ⟨_,_,h5⟩
   ·rw [h4,e,<- h2,hm] at h3; exact h3
   ·rw [h5,e,<- h2,hm] at h3; exact h3
  rw [ov_out hout] at hm
  obtain ⟨g1,g2⟩:=he.arr m s ok g hm
  refine ⟨g1,fun ix i hi=>?_⟩
  obtain ⟨g3,g4,g5,xs,g6,g7,g8⟩:=g2 ix i hi
  refine ⟨g3,g4,g5,xs,g6.mono hle.no,g7,fun k y hk=>?_⟩
  have hblk:((R.arr m ix).add (i.toNat*s+k)).block=(R.arr m ix).block:=by unfold Addr.add; split <;> rfl
  show w'.cell? ((R.arr m ix).add (i.toNat*s+k))=some y
  rw [cell_same (w:=w)]
  ·exact g8 k y hk
  ·rw [hblk]
   refine n1.frame _ (Nat.lt_of_lt_of_le g4 he.base) (fun n hbn=>?_)
   have:=(he.own_lt (hmow n _ hbn).2.2).1
   omega
 ·intro n hn
  rcases hand n with ⟨h2,h3,_,_⟩ | ⟨_,h3,h2⟩
  ·rw [h2] at hn
   rw [hag.blk n (hagS n h3)]
   exact e1.fresh n hn
  ·rw [h2] at hn
   show (if h.nx<=n/\n<h.nx+nw then R0'.blk n else R.blk n)=none
   rw [if_neg h3]; exact he.fresh n hn
 ·intro m st pd t q ps as bd hm
  rcases hand m with ⟨h2,h3,h4,_⟩ | ⟨h5,h3,h2⟩
  ·rw [h2] at hm
   obtain ⟨b,r,g1,g2,g3,g4⟩:=e1.lp m st pd t q ps as bd hm
   rw [hm] at h4
   exact ⟨b,r,by rw [hag.blk m (hagS m h3)]; exact g1,g2,g3,g4.bel hag h4⟩
  ·rw [h2] at hm
   obtain ⟨b,r,g1,g2,g3,g4⟩:=he.lp m st pd t q ps as bd hm
   exact ⟨b,r,hle.blk m b g1,g2,by rw [hframe m b h5 (by rw [hm]; exact g1)]; exact g3,g4.mono hle⟩
 ·intro m L g s t hm
  rcases hand m with ⟨h2,h3,_,_⟩ | ⟨h5,h3,h2⟩
  ·rw [h2] at hm
   exact (e1.vec m L g s t hm).frame (hag.vec m (hagS m h3)) hno (fun _ _=>rfl)
  ·rw [h2] at hm
   refine (he.vec m L g s t hm).frame ?_ hle.no (fun b hb=>hframe m b h5 (by rw [hm]; exact hb))
   show (if (h.nx<=m/\m<h.nx+nw) ∨ m ∈ fp then R0'.vec m else R.vec m)=R.vec m
   rw [if_neg (fun h=>h.elim h3 h5)]
 ·intro n hn L
  rcases hand n with ⟨h2,h3,_,_⟩ | ⟨h5,h3,h2⟩
  ·rw [h2] at hn
   rw [hag.vec n (hagS n h3)]
   exact e1.fvec n hn L
  ·rw [h2] at hn
   show (if (h.nx<=n/\n<h.nx+nw) ∨ n ∈ fp then R0'.vec n else R.vec n) L=none
   rw [if_neg (fun h=>h.elim h3 h5)]; exact he.fvec n hn L
 ·intro m ks vk es hm
  rcases hand m with ⟨h2,h3,_,_⟩ | ⟨h5,h3,h2⟩
  ·rw [h2] at hm
   exact (e1.map m ks vk es hm).frame (hag.blk m (hagS m h3)) (fun _ _=>rfl)
  ·rw [h2] at hm
   refine (he.map m ks vk es hm).frame ?_ (fun b hb=>hframe m b h5 (by rw [hm]; exact hb))
   show (if h.nx<=m/\m<h.nx+nw then R0'.blk m else R.blk m)=R.blk m
   rw [if_neg h3]
 ·intro m K r C g t te hm
  rcases hand m with ⟨h2,h3,_,_⟩ | ⟨h5,h3,h2⟩
  ·rw [h2] at hm
   exact (e1.mat m K r C g t te hm).frame (hag.vec m (hagS m h3)) (fun _ _=>rfl)
  ·rw [h2] at hm
   refine (he.mat m K r C g t te hm).frame ?_ (fun b hb=>hframe m b h5 (by rw [hm]; exact hb))
   show (if (h.nx<=m/\m<h.nx+nw) ∨ m ∈ fp then R0'.vec m else R.vec m)=R.vec m
   rw [if_neg (fun h=>h.elim h3 h5)]
 ·intro b xs hb
  obtain ⟨g1,g2,g3⟩:=e1.frz b xs hb
  refine ⟨g1,fun n hn=>?_,g3⟩
  rcases hand n with ⟨h2,h3,_,_⟩ | ⟨h5,h3,h2⟩
  ·rw [h2,ow_agree hag (hagS n h3)] at hn
   exact g2 n hn
  ·rw [h2,howR n h5 h3] at hn
   rcases hfz b xs hb with h6 | ⟨m,h6,h7⟩ | h6
   ·exact (he.frz b xs h6).2.1 n hn
   ·have:=he.inj n m b hn h7
    subst this
    exact h5 h6
   ·have:=he.lt hn; omega
theorem mask_emb {h:VH} {fp:List Nat} (hnf:∀ n ∈ fp,h.at n ≠ .free) (hkb:∀ n ∈ fp,(h.at n).bel h.nx=true)
  {B:Nat} {R:Rn} {w:World} {η:Nat->VB} (he:Emb B R η w) (hη:∀ n ∈ fp,η n=h.at n):Emb B (R.cut h.nx) (maskH fp h).at w:=by
 have hag:Agree h.nx R (R.cut h.nx):=cut_agree R h.nx
 have hin:∀ n b,(maskH fp h).at n=b->b ≠ .gone->b ≠ .free->n ∈ fp/\η n=b/\n<h.nx:=by
  intro n b hn h1 h2
  by_cases hnx:n<h.nx
  ·rw [mask_at hnx] at hn
   by_cases hnf':n ∈ fp
   ·rw [if_pos hnf'] at hn
    exact ⟨hnf',by rw [hη n hnf']; exact hn,hnx⟩
   ·rw [if_neg hnf'] at hn; exact (h1 hn.symm).elim
  ·rw [mask_free hnx] at hn; exact (h2 hn.symm).elim
 have hfree:∀ n,(maskH fp h).at n=.free->¬ n<h.nx:=by
  intro n hn hnx
  rw [mask_at hnx] at hn
  by_cases hnf':n ∈ fp
  ·rw [if_pos hnf'] at hn
   exact hnf n hnf' hn
  ·rw [if_neg hnf'] at hn; cases hn
 have how:∀ n b,(R.cut h.nx).ow n ((maskH fp h).at n) b->R.ow n (η n) b:=by
  intro n b hb
  obtain ⟨h1,h2,h3⟩:=hin n _ rfl (fun e=>by rw [e] at hb; cases hb) (fun e=>by rw [e] at hb; cases hb)
  rw [cut_ow h3] at hb
  rw [h2]; exact hb
 refine ⟨he.base,fun n cs t hn=>?_,fun n m b h1 h2=>he.inj n m b (how n b h1) (how m b h2),fun n s ok g hn=>?_,fun n hn=>?_,fun n st pd t q ps as bd hn=>?_,fun n L g s t hn=>?_,fun n hn L=>?_,fun n ks vk es hn=>?_,fun n K r C g t te hn=>?_,he.bunF (fun n t r C g te hn=>by
  obtain ⟨_,h2,_⟩:=hin n _ hn (by simp) (by simp)
  exact h2) (fun _ _=>rfl) (fun _ _ _ _ _ _ _ _ _=>rfl),fun b xs hb=>⟨(he.frz b xs hb).1,fun n hn=>(he.frz b xs hb).2.1 n (how n b hn),(he.frz b xs hb).2.2⟩⟩
 ·obtain ⟨h1,h2,h3⟩:=hin n _ rfl (fun e=>by rw [e] at hn; simp at hn) (fun e=>by rw [e] at hn; simp at hn)
  rw [<- h2] at hn
  obtain ⟨b,xs,g1,g2,g3,g4⟩:=he.ownC n cs t hn
  refine ⟨b,xs,by simp [Rn.cut,h3,g1],g2,bel_L hag cs xs ?_ g3,g4⟩
  have:=hkb n h1
  rw [<- hη n h1] at this
  exact bel_cs hn this
 ·obtain ⟨h1,h2,h3⟩:=hin n _ hn (by simp) (by simp)
  exact he.arr n s ok g h2
 ·simp [Rn.cut,hfree n hn]
 ·obtain ⟨h1,h2,h3⟩:=hin n _ hn (by simp) (by simp)
  obtain ⟨b,r,g1,g2,g3,g4⟩:=he.lp n st pd t q ps as bd h2
  refine ⟨b,r,by simp [Rn.cut,h3,g1],g2,g3,g4.bel hag ?_⟩
  have:=hkb n h1
  rw [<- hη n h1,h2] at this
  exact this
 ·obtain ⟨h1,h2,h3⟩:=hin n _ hn (by simp) (by simp)
  exact (he.vec n L g s t h2).frame (cut_vec h3) hag.no (fun _ _=>rfl)
 ·simp [Rn.cut,hfree n hn]
 ·obtain ⟨h1,h2,h3⟩:=hin n _ hn (by simp) (by simp)
  exact (he.map n ks vk es h2).frame (by simp [Rn.cut,h3]) (fun _ _=>rfl)
 ·obtain ⟨h1,h2,h3⟩:=hin n _ hn (by simp) (by simp)
  exact (he.mat n K r C g t te h2).frame (cut_vec h3) (fun _ _=>rfl)
end
end Go.Sx
