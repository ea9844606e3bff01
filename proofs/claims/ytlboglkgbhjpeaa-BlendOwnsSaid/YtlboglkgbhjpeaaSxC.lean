/- Forgetting, and contracts on a part of the heap. -/
import Derived.Test.YtlboglkgbhjpeaaSxBb
namespace Go.Sx
open Go
def fitS:Slots->Slots->Prop
 | [],_=>True
 | (d,v)::r,t=>look t d=v/\fitS r t
def VB.fit:VB->VB->Prop
 | .vec L g s t,b=>(match b with
  | .vec L' g' s' t'=>L'=L/\s'=s/\t'=t/\∀ i,i<L->g' i=g i
  | _=>False)
 | .fam pre L g t,b=>(match b with
  | .fam pre' L' g' t'=>pre'=pre/\L'=L/\t'=t/\∀ i,i<L->g' i=g i
  | _=>False)
 | .mat K r C g t te,b=>(match b with
  | .mat K' r' C' g' t' te'=>K'=K/\r'=r/\C'=C/\t'=t/\te'=te/\∀ i k,i<r->k<C->g' i k=g i k
  | _=>False)
 | .bun t r C g te,b=>(match b with
  | .bun t' r' C' g' te'=>t'=t/\r'=r/\C'=C/\te'=te/\∀ i k,i<r->k<C->g' i k=g i k
  | _=>False)
 | b,b'=>b'=b
theorem VB.fit_eq {b b':VB} (h:b.fit b') (hb:∀ L g s t,b ≠ .vec L g s t) (hb2:∀ pre L g t,b ≠ .fam pre L g t:=by simp) (hb3:∀ K r C g t te,b ≠ .mat K r C g t te:=by simp) (hb4:∀ t r C g te,b ≠ .bun t r C g te:=by simp):b'=b:=by
 cases b <;> first | exact h | exact (hb _ _ _ _ rfl).elim | exact (hb2 _ _ _ _ rfl).elim | exact (hb3 _ _ _ _ _ _ rfl).elim | exact (hb4 _ _ _ _ _ rfl).elim
theorem VB.fit_mat {K r C:Nat} {g:Nat->Nat->Int} {t te:TypeId} {b':VB} (h:(VB.mat K r C g t te).fit b'):∃ g',b'=.mat K r C g' t te/\∀ i k,i<r->k<C->g' i k=g i k:=by
 cases b' with
 | mat K' r' C' g' t' te'=>obtain ⟨rfl,rfl,rfl,rfl,rfl,h⟩:=h; exact ⟨g',rfl,h⟩
 | _=>exact h.elim
theorem VB.fit_bun {r C:Nat} {g:Nat->Nat->Int} {t te:TypeId} {b':VB} (h:(VB.bun t r C g te).fit b'):∃ g',b'=.bun t r C g' te/\∀ i k,i<r->k<C->g' i k=g i k:=by
 cases b' with
 | bun t' r' C' g' te'=>obtain ⟨rfl,rfl,rfl,rfl,h⟩:=h; exact ⟨g',rfl,h⟩
 | _=>exact h.elim
theorem BunOk.fit {B:Nat} {R:Rn} {w:World} {t r C:Nat} {g g':Nat->Nat->Int} {te:TypeId} (h:BunOk B R w t r C g' te) (hg:∀ i k,i<r->k<C->g' i k=g i k):BunOk B R w t r C g te:=by
 obtain ⟨h1,h2,h3⟩:=h
 refine ⟨fun i hi=>?_,h2,h3⟩
 obtain ⟨ys,v,xs,g1,g2,g3,g4⟩:=h1 i hi
 exact ⟨ys,v,xs,g1,g2,g3,fun k hk=>by rw [<- hg i k hi hk]; exact g4 k hk⟩
theorem bun_fit {B:Nat} {R R':Rn} {η η':Nat->VB} {w:World} (e:Emb B R η w) (hη:∀ n t r C g te,η' n=.bun t r C g te->∃ g',η n=.bun t r C g' te/\∀ i k,i<r->k<C->g' i k=g i k) (hf:∀ t j,R'.frz (.reg t j)=R.frz (.reg t j)) :
  ∀ n t r C g te,η' n=.bun t r C g te->BunOk B R' w t r C g te/\∀ m r' C' g' te',η' m=.bun t r' C' g' te'->m=n:=fun n t r C g te hn=>by
 obtain ⟨g',h1,h2⟩:=hη n t r C g te hn
 obtain ⟨h3,h4⟩:=e.bun n t r C g' te h1
 exact ⟨(h3.fit h2).frame (n:=n) (hf t) (fun _ _=>rfl),fun m r2 C2 g2 te2 hm=>by
  obtain ⟨g3,h5,_⟩:=hη m _ _ _ _ _ hm
  exact h4 m _ _ _ _ h5⟩
theorem MatOk.fit {B:Nat} {R:Rn} {n:Nat} {w:World} {K r C:Nat} {g g':Nat->Nat->Int} {t te:TypeId} (h:MatOk B R n w K r C g' t te) (hg:∀ i k,i<r->k<C->g' i k=g i k):MatOk B R n w K r C g t te:=by
 obtain ⟨h1,h2,h3,h4,h5⟩:=h
 refine ⟨h1,h2,fun i hi=>?_,h4,h5⟩
 obtain ⟨b,xs,g1,g2,g3,g4,g5⟩:=h3 i hi
 exact ⟨b,xs,g1,g2,g3,g4,fun k hk=>by rw [<- hg i k hi hk]; exact g5 k hk⟩
theorem VB.fit_vec {L:Nat} {g:Nat->List VV} {s:Nat} {t:TypeId} {b':VB} (h:(VB.vec L g s t).fit b'):∃ g',b'=.vec L g' s t/\∀ i,i<L->g' i=g i:=by
 cases b' with
 | vec L' g' s' t'=>obtain ⟨rfl,rfl,rfl,h⟩:=h; exact ⟨g',rfl,h⟩
 | _=>exact h.elim
theorem VB.fit_fam {pre:List VV} {L:Nat} {g:Nat->Int} {t:TypeId} {b':VB} (h:(VB.fam pre L g t).fit b'):∃ g',b'=.fam pre L g' t/\∀ i,i<L->g' i=g i:=by
 cases b' with
 | fam pre' L' g' t'=>obtain ⟨rfl,rfl,rfl,h⟩:=h; exact ⟨g',rfl,h⟩
 | _=>exact h.elim
theorem famL_congr {L:Nat} {g g':Nat->Int} (h:∀ i,i<L->g' i=g i):famL L g'=famL L g:=by
 simp only [famL]
 apply List.map_congr_left
 intro k hk
 rw [h k (by simpa using hk)]
theorem VB.fit_cs {b b':VB} (h:b.fit b'):b'.cs? = b.cs?:=by
 cases b with
 | vec L g s t=>obtain ⟨g',rfl,_⟩:=VB.fit_vec h; rfl
 | fam pre L g t=>obtain ⟨g',rfl,h2⟩:=VB.fit_fam h; simp [famL_congr h2]
 | mat K r C g t te=>obtain ⟨g',rfl,_⟩:=VB.fit_mat h; rfl
 | bun t r C g te=>obtain ⟨g',rfl,_⟩:=VB.fit_bun h; rfl
 | _=>rw [VB.fit_eq h (by simp)]
theorem VB.fit_ow {b b':VB} (h:b.fit b') {R:Rn} {n:Nat}:R.ow n b=R.ow n b':=by
 cases b with
 | vec L g s t=>obtain ⟨g',rfl,_⟩:=VB.fit_vec h; rfl
 | fam pre L g t=>obtain ⟨g',rfl,_⟩:=VB.fit_fam h; rfl
 | mat K r C g t te=>obtain ⟨g',rfl,_⟩:=VB.fit_mat h; rfl
 | bun t r C g te=>obtain ⟨g',rfl,_⟩:=VB.fit_bun h; rfl
 | _=>rw [VB.fit_eq h (by simp)]
theorem VB.fit_free {b b':VB} (h:b.fit b'):b=.free ↔ b'=.free:=by
 cases b with
 | vec L g s t=>obtain ⟨g',rfl,_⟩:=VB.fit_vec h; simp
 | fam pre L g t=>obtain ⟨g',rfl,_⟩:=VB.fit_fam h; simp
 | mat K r C g t te=>obtain ⟨g',rfl,_⟩:=VB.fit_mat h; simp
 | bun t r C g te=>obtain ⟨g',rfl,_⟩:=VB.fit_bun h; simp
 | _=>rw [VB.fit_eq h (by simp)]
theorem VB.fit_ver {b b':VB} (h:b.fit b'):b'.ver=b.ver:=by
 cases b with
 | vec L g s t=>obtain ⟨g',rfl,_⟩:=VB.fit_vec h; rfl
 | fam pre L g t=>obtain ⟨g',rfl,_⟩:=VB.fit_fam h; rfl
 | mat K r C g t te=>obtain ⟨g',rfl,_⟩:=VB.fit_mat h; rfl
 | bun t r C g te=>obtain ⟨g',rfl,_⟩:=VB.fit_bun h; rfl
 | _=>rw [VB.fit_eq h (by simp)]
theorem VecOk.fit {B:Nat} {R:Rn} {n:Nat} {w:World} {L:Nat} {g g':Nat->List VV} {s:Nat} {t:TypeId} (h:VecOk B R n w L g' s t) (hg:∀ i,i<L->g' i=g i):VecOk B R n w L g s t:=by
 obtain ⟨⟨v,xs,h1,h2,h3⟩,h4⟩:=h
 exact ⟨⟨v,xs,h1,h2,fun i hi=>by rw [<- hg i hi]; exact h3 i hi⟩,h4⟩
def fitB:List (Nat × VB)->VH->Prop
 | [],_=>True
 | (n,b)::r,h=>b.fit (h.at n)/\fitB r h
def belB (k:Nat):List (Nat × VB)->Bool
 | []=>true
 | (_,b)::r=>b.bel k && belB k r
theorem fitS_look {t:Slots}:∀ {t2:Slots},fitS t2 t->∀ d,look t2 d=.any ∨ look t2 d=look t d
 | [],_,d=>.inl rfl
 | (m,v)::r,h,d=>by
  rw [look_cons]
  by_cases hm:m=d
  ·subst hm; rw [if_pos rfl]; exact .inr h.1.symm
  ·rw [if_neg hm]; exact fitS_look h.2 d
theorem fitB_look {h:VH}:∀ {bs:List (Nat × VB)},fitB bs h->∀ n,lookB bs n=.gone ∨ (lookB bs n).fit (h.at n)
 | [],_,n=>.inl rfl
 | (m,b)::r,hf,n=>by
  simp only [lookB]
  by_cases hm:m=n
  ·subst hm; rw [beq_t rfl]; exact .inr hf.1
  ·rw [beq_f hm]; exact fitB_look hf.2 n
theorem belB_look {k:Nat}:∀ {bs:List (Nat × VB)},belB k bs=true->∀ n,(lookB bs n).bel k=true
 | [],_,n=>rfl
 | (m,b)::r,hf,n=>by
  simp only [belB,Bool.and_eq_true] at hf
  simp only [lookB]
  by_cases hm:m=n
  ·subst hm; rw [beq_t rfl]; exact hf.1
  ·rw [beq_f hm]; exact belB_look hf.2 n
theorem weak_law {B:Nat} {η:Nat->VB} {R R':Rn} {w w':World} {h':VH} {k:Nat} {bs:List (Nat × VB)} (hk:∀ n,η n ≠ .free->n<k) (hkv:∀ n L v,R.vec n L=some v->η n ≠ .free) (hf:fitB bs h') (hb:belB k bs=true)
  (e:Emb B R' h'.at w') (n1:Nxt η R w h'.at R' w'):Emb B (R'.cut k) (VH.mk k bs).at w'/\Nxt η R w (VH.mk k bs).at (R'.cut k) w'/\Agree k R' (R'.cut k):=by
 have hat:∀ n,n<k->(VH.mk k bs).at n=lookB bs n:=fun n hn=>by
  show (bif Nat.blt n k then lookB bs n else .free)=_
  rw [blt_t hn]; rfl
 have hfr:∀ n,¬ n<k->(VH.mk k bs).at n=.free:=fun n hn=>by
  show (bif Nat.blt n k then lookB bs n else .free)=_
  rw [blt_f hn]; rfl
 have hfit:∀ n b,(VH.mk k bs).at n=b->b ≠ .gone->b ≠ .free->n<k/\b.fit (h'.at n):=by
  intro n b hn h1 h2
  by_cases hnk:n<k
  ·rw [hat n hnk] at hn
   rcases fitB_look hf n with h3 | h3
   ·rw [h3] at hn; exact (h1 hn.symm).elim
   ·exact ⟨hnk,by rw [<- hn]; exact h3⟩
  ·rw [hfr n hnk] at hn; exact (h2 hn.symm).elim
 have hsame:∀ n b,(VH.mk k bs).at n=b->b ≠ .gone->b ≠ .free->(∀ L g s t,b ≠ .vec L g s t)->(∀ pre L g t,b ≠ .fam pre L g t)->(∀ K r C g t te,b ≠ .mat K r C g t te)->(∀ t r C g te,b ≠ .bun t r C g te)->n<k/\h'.at n=b:=by
  intro n b hn h1 h2 h3 h3' h3'' h3b
  obtain ⟨h4,h5⟩:=hfit n b hn h1 h2
  exact ⟨h4,VB.fit_eq h5 h3 h3' h3'' h3b⟩
 have how:∀ n b,(R'.cut k).ow n ((VH.mk k bs).at n) b->R'.ow n (h'.at n) b:=by
  intro n b hb
  obtain ⟨h1,h2⟩:=hfit n _ rfl (fun e=>by rw [e] at hb; cases hb) (fun e=>by rw [e] at hb; cases hb)
  rw [cut_ow h1] at hb
  rw [<- VB.fit_ow h2]; exact hb
 have hag:Agree k R' (R'.cut k):=cut_agree R' k
 have hbb:∀ n t r C g te,(VH.mk k bs).at n=.bun t r C g te->∃ g',h'.at n=.bun t r C g' te/\∀ i k,i<r->k<C->g' i k=g i k:=fun n t r C g te hn=>VB.fit_bun (hfit n _ hn (by simp) (by simp)).2
 refine ⟨⟨e.base,fun n cs t hn=>?_,fun n m b h1 h2=>e.inj n m b (how n b h1) (how m b h2),fun n s ok g hn=>?_,fun n hn=>?_,fun n st pd t m ps as bd hn=>?_,fun n L g s t hn=>?_,fun n hn=>?_,fun n ks vk es hn=>?_,fun n K r C g t te hn=>?_,fun n t r C g te hn=>by
   obtain ⟨g',h1,h2⟩:=hbb n t r C g te hn
   obtain ⟨h3,h4⟩:=e.bun n t r C g' te h1
   exact ⟨(h3.fit h2).frame (n:=n) (fun _=>rfl) (fun _ _=>rfl),fun m r2 C2 g2 te2 hm=>by
    obtain ⟨g3,h5,_⟩:=hbb m _ _ _ _ _ hm
    exact h4 m _ _ _ _ h5⟩,fun b xs hb=>⟨(e.frz b xs hb).1,fun n hn=>(e.frz b xs hb).2.1 n (how n b hn),(e.frz b xs hb).2.2⟩⟩,
  ⟨fun n hn=>?_,fun n hn=>?_,n1.arr,n1.str,fun n L v hv=>?_,fun n L v hv hv'=>?_,fun n L hn=>?_,fun n b hb=>n1.own n b (how n b hb),n1.size,n1.frame,n1.os,n1.tape,n1.output,n1.fmono,n1.fnew,⟨n1.reg.new,fun n t r C g te hn=>by
   obtain ⟨g',h1,_⟩:=hbb n t r C g te hn
   exact n1.reg.old n t r C g' te h1⟩⟩,hag⟩
 ·obtain ⟨h1,h2⟩:=hfit n _ rfl (fun e=>by rw [e] at hn; simp at hn) (fun e=>by rw [e] at hn; simp at hn)
  obtain ⟨b,xs,g1,g2,g3,g4⟩:=e.ownC n cs t (by rw [VB.fit_cs h2]; exact hn)
  refine ⟨b,xs,by simp [Rn.cut,h1,g1],g2,bel_L hag cs xs ?_ g3,g4⟩
  have:=belB_look hb n
  rw [<- hat n h1] at this
  exact bel_cs hn this
 ·obtain ⟨h1,h2⟩:=hsame n _ hn (by simp) (by simp) (by simp) (by simp) (by simp) (by simp)
  exact e.arr n s ok g h2
 ·by_cases hnk:n<k
  ·rw [hat n hnk] at hn
   rcases fitB_look hf n with h3 | h3
   ·rw [h3] at hn; cases hn
   ·rw [VB.fit_free h3] at hn; simp [Rn.cut,hnk,e.fresh n hn]
  ·simp [Rn.cut,hnk]
 ·obtain ⟨h1,h2⟩:=hsame n _ hn (by simp) (by simp) (by simp) (by simp) (by simp) (by simp)
  obtain ⟨b,r,g1,g2,g3,g4⟩:=e.lp n st pd t m ps as bd h2
  refine ⟨b,r,by simp [Rn.cut,h1,g1],g2,g3,g4.bel hag ?_⟩
  have:=belB_look hb n
  rw [<- hat n h1,hn] at this
  exact this
 ·obtain ⟨h1,h2⟩:=hfit n _ hn (by simp) (by simp)
  obtain ⟨g',h3,h4⟩:=VB.fit_vec h2
  exact ((e.vec n L g' s t h3).fit h4).frame (cut_vec h1) hag.no (fun _ _=>rfl)
 ·intro L
  by_cases hnk:n<k
  ·rw [hat n hnk] at hn
   rcases fitB_look hf n with h3 | h3
   ·rw [h3] at hn; cases hn
   ·rw [VB.fit_free h3] at hn; simp [Rn.cut,hnk,e.fvec n hn]
  ·simp [Rn.cut,hnk]
 ·obtain ⟨h1,h2⟩:=hsame n _ hn (by simp) (by simp) (by simp) (by simp) (by simp) (by simp)
  exact (e.map n ks vk es h2).frame (by simp [Rn.cut,h1]) (fun _ _=>rfl)
 ·obtain ⟨h1,h2⟩:=hfit n _ hn (by simp) (by simp)
  obtain ⟨g',h3,h4⟩:=VB.fit_mat h2
  exact ((e.mat n K r C g' t te h3).fit h4).frame (cut_vec h1) (fun _ _=>rfl)
 ·have hnk:=hk n hn
  rw [hat n hnk]
  rcases fitB_look hf n with h3 | h3
  ·rw [h3]; simp
  ·rw [ne_eq,VB.fit_free h3]; exact n1.keep n hn
 ·simp only [Rn.cut,hk n hn,if_true]; exact n1.old n hn
 ·have hnf:η n ≠ .free:=hkv n L v hv
  rw [cut_vec (hk n hnf)]; exact n1.vold n L v hv
 ·by_cases hnk:n<k
  ·rw [cut_vec hnk] at hv'; exact n1.vnew n L v hv hv'
  ·simp [Rn.cut,hnk] at hv'
 ·obtain ⟨h1,h2⟩:=hfit n _ rfl (fun e=>by rw [e] at hn; cases hn) (fun e=>by rw [e] at hn; cases hn)
  exact n1.vmono n L (by rw [VB.fit_ver h2]; exact hn)
section
variable {P:Program}
theorem sem_weak {pl:Bool} {c:Code} {n:Nat} {t t' t2:Slots} {h h':VH} {e:VEx} {k:Nat} {bs:List (Nat × VB)} (hs:SemC P pl c n t h e t' h') (hk:h.nx<=k) (hf:fitB bs h') (hb:belB k bs=true) (ht:fitS t2 t') (htb:belS k t2=true)
  (he:∀ v,e=.panic v->v.bel k=true):SemC P pl c n t h e t2 ⟨k,bs⟩:=by
 intro F hF hp B ds R a w em tr hn hds
 refine wpIn_mono (hs F hF hp B ds R a w em tr hn hds) ?_
 rintro ex a' w' ⟨R',rs,n1,e1,t1,s1,d1,m1,q1,z1,x⟩
 obtain ⟨e2,n2,hag⟩:=weak_law (fun m hm=>by
  rcases Nat.lt_or_ge m h.nx with h1 | h1
  ·omega
  ·exfalso; apply hm; show (bif Nat.blt m h.nx then lookB h.bs m else .free)=_; rw [blt_f (by omega)]; rfl) (fun m L v hv hf=>by rw [em.fvec m hf] at hv; cases hv) hf hb e1 n1
 refine ⟨R'.cut k,rs,n2,e2,fun d=>?_,s1,d1,⟨m1.nodup,fun r hr=>⟨(m1.blk r hr).1,fun q hq=>?_⟩⟩,q1,z1,?_⟩
 ·rcases fitS_look ht d with h1 | h1
  ·rw [h1]; trivial
  ·have:=look_bel htb d
   rw [h1] at this ⊢
   exact bel_V hag _ _ this (t1 d)
 ·have hqk:q<k:=by
   rcases Nat.lt_or_ge q k with h1 | h1
   ·exact h1
   ·exfalso
    have:(VH.mk k bs).at q=.free:=by
     show (bif Nat.blt q k then lookB bs q else .free)=_
     rw [blt_f (by omega)]; rfl
    rw [this] at hq; cases hq
  have h1:(VH.mk k bs).at q=lookB bs q:=by
   show (bif Nat.blt q k then lookB bs q else .free)=_
   rw [blt_t hqk]; rfl
  rw [h1,cut_ow hqk] at hq
  rcases fitB_look hf q with h2 | h2
  ·rw [h2] at hq; cases hq
  ·rw [VB.fit_ow h2] at hq
   exact (m1.blk r hr).2 q hq
 ·cases e with
  | panic v=>obtain ⟨y,hy,hx⟩:=x; exact ⟨y,bel_V hag v y (he v rfl) hy,hx⟩
  | _=>exact x
def VRes.bel (k:Nat):VRes->Bool
 | .ret v=>v.bel k
 | .panic v=>v.bel k
theorem res_bel {k:Nat} {R R':Rn} (h:Agree k R R') {r:VRes} (hb:r.bel k=true) {e:Ending} (hr:ResRel R r e):ResRel R' r e:=by
 cases r with
 | ret v=>obtain ⟨x,hx,he⟩:=hr; exact ⟨x,bel_V h v x hb hx,he⟩
 | panic v=>obtain ⟨x,hx,he⟩:=hr; exact ⟨x,bel_V h v x hb hx,he⟩
theorem calls_weak {f:FuncId} {args:List VV} {h h':VH} {r:VRes} {k:Nat} {bs:List (Nat × VB)} (hs:CallsV P f args h r h') (hk:h.nx<=k) (hf:fitB bs h') (hb:belB k bs=true) (hr:r.bel k=true):CallsV P f args h r ⟨k,bs⟩:=by
 intro B R w xs em hx
 refine (hs B R w xs em hx).mono ?_
 rintro e w' ⟨R',n1,e1,x⟩
 obtain ⟨e2,n2,hag⟩:=weak_law (fun m hm=>by
  rcases Nat.lt_or_ge m h.nx with h1 | h1
  ·omega
  ·exfalso; apply hm; show (bif Nat.blt m h.nx then lookB h.bs m else .free)=_; rw [blt_f (by omega)]; rfl) (fun m L v hv hf=>by rw [em.fvec m hf] at hv; cases hv) hf hb e1 n1
 exact ⟨R'.cut k,n2,e2,res_bel hag hr x⟩
theorem part_emb {B:Nat} {R:Rn} {w:World} {hm h:VH} (em:Emb B R h.at w) (hat:∀ n,n<hm.nx->h.at n=hm.at n) (hnf:∀ n,n<hm.nx->hm.at n ≠ .free) (hb:∀ n,n<hm.nx->(hm.at n).bel hm.nx=true):Emb B (R.cut hm.nx) hm.at w:=by
 have hag:Agree hm.nx R (R.cut hm.nx):=cut_agree R hm.nx
 have hfr:∀ n,¬ n<hm.nx->hm.at n=.free:=fun n hn=>by
  show (bif Nat.blt n hm.nx then lookB hm.bs n else .free)=_
  rw [blt_f hn]; rfl
 have hlt:∀ n,hm.at n ≠ .free->n<hm.nx:=fun n hn=>by
  by_cases hnk:n<hm.nx
  ·exact hnk
  ·exact (hn (hfr n hnk)).elim
 have how:∀ n b,(R.cut hm.nx).ow n (hm.at n) b->R.ow n (h.at n) b:=fun n b hb=>by
  have h1:=hlt n (fun e=>by rw [e] at hb; cases hb)
  rw [cut_ow h1] at hb
  rw [hat n h1]; exact hb
 refine ⟨em.base,fun n cs t hn=>?_,fun n m b h1 h2=>em.inj n m b (how n b h1) (how m b h2),fun n s ok g hn=>?_,fun n hn=>?_,fun n st pd t m ps as bd hn=>?_,fun n L g s t hn=>?_,fun n hn L=>?_,fun n ks vk es hn=>?_,fun n K r C g t te hn=>?_,em.bunF (fun n t r C g te hn=>by rw [hat n (hlt n (by rw [hn]; simp))]; exact hn) (fun _ _=>rfl) (fun _ _ _ _ _ _ _ _ _=>rfl),fun b xs hb=>⟨(em.frz b xs hb).1,fun n hn=>(em.frz b xs hb).2.1 n (how n b hn),(em.frz b xs hb).2.2⟩⟩
 ·have hnk:=hlt n (by intro e; rw [e] at hn; simp at hn)
  obtain ⟨b,ys,g1,g2,g3,g4⟩:=em.ownC n cs t (by rw [hat n hnk]; exact hn)
  refine ⟨b,ys,by simp [Rn.cut,hnk,g1],g2,bel_L hag cs ys ?_ g3,g4⟩
  exact bel_cs hn (hb n hnk)
 ·have hnk:=hlt n (by rw [hn]; simp)
  exact em.arr n s ok g (by rw [hat n hnk]; exact hn)
 ·by_cases hnk:n<hm.nx
  ·exact (hnf n hnk hn).elim
  ·simp [Rn.cut,hnk]
 ·have hnk:=hlt n (by rw [hn]; simp)
  obtain ⟨b,r,g1,g2,g3,g4⟩:=em.lp n st pd t m ps as bd (by rw [hat n hnk]; exact hn)
  refine ⟨b,r,by simp [Rn.cut,hnk,g1],g2,g3,g4.bel hag ?_⟩
  have:=hb n hnk
  rw [hn] at this
  exact this
 ·have hnk:=hlt n (by rw [hn]; simp)
  exact (em.vec n L g s t (by rw [hat n hnk]; exact hn)).frame (cut_vec hnk) hag.no (fun _ _=>rfl)
 ·by_cases hnk:n<hm.nx
  ·exact (hnf n hnk hn).elim
  ·simp [Rn.cut,hnk]
 ·have hnk:=hlt n (by rw [hn]; simp)
  exact (em.map n ks vk es (by rw [hat n hnk]; exact hn)).frame (by simp [Rn.cut,hnk]) (fun _ _=>rfl)
 ·have hnk:=hlt n (by rw [hn]; simp)
  exact (em.mat n K r C g t te (by rw [hat n hnk]; exact hn)).frame (cut_vec hnk) (fun _ _=>rfl)
def shN (k m n:Nat):Nat:=if n<k then n else n - k+m
def VA.sh (k m:Nat):VA->VA
 | .own n off=>.own (shN k m n) off
 | .el n ix i off=>.el n ix i off
 | .ve n L s i off=>.ve (shN k m n) L s i off
 | .fa n p o=>.fa (shN k m n) p o
 | .rw n j o=>.rw (shN k m n) j o
 | .hb t j o=>.hb t j o
mutual
def VV.sh (k m:Nat):VV->VV
 | .ptr a=>.ptr (a.sh k m)
 | .slice a l c=>.slice (a.sh k m) l c
 | .func f a b=>.func f (shL k m a) (shL k m b)
 | .iface t v=>.iface t (v.sh k m)
 | .agg cs=>.agg (shL k m cs)
 | .tup vs=>.tup (shL k m vs)
 | .yld n=>.yld (shN k m n)
 | .sl n L=>.sl (shN k m n) L
 | .sub n L s i c=>.sub (shN k m n) L s i c
 | .mp n=>.mp (shN k m n)
 | v=>v
def shL (k m:Nat):List VV->List VV
 | []=>[]
 | v::vs=>v.sh k m::shL k m vs
end
def VB.sh (k m:Nat):VB->VB
 | .cells cs t=>.cells (shL k m cs) t
 | .vec L g s t=>.vec L g s t
 | .fam pre L g t=>.fam (shL k m pre) L g t
 | .map ks vk es=>.map ks vk es
 | .mat K r C g t te=>.mat K r C g t te
 | .free=>.free
 | _=>.gone
theorem shL_app {k m:Nat}:∀ {l l':List VV},shL k m (l ++ l')=shL k m l ++ shL k m l'
 | [],_=>rfl
 | v::l,l'=>by simp [shL,shL_app (l:=l)]
theorem shL_ints {k m:Nat} (g:Nat->Int):∀ (ns:List Nat),shL k m (ns.map fun j=>VV.int .i64 (g j))=ns.map fun j=>VV.int .i64 (g j)
 | []=>rfl
 | n::ns=>by simp [shL,VV.sh,shL_ints g ns]
theorem VB.sh_cs {k m:Nat} {b:VB}:(b.sh k m).cs? = b.cs?.map fun p=>(shL k m p.1,p.2):=by
 cases b <;> simp [VB.sh]
 rw [shL_app,show shL k m (famL _ _)=famL _ _ from shL_ints _ _]
def VRes.sh (k m:Nat):VRes->VRes
 | .ret v=>.ret (v.sh k m)
 | .panic v=>.panic (v.sh k m)
structure Moved (k m:Nat) (R R':Rn):Prop where
 blk:∀ n,R'.blk (shN k m n)=R.blk n
 arr:R'.arr=R.arr
 str:R'.str=R.str
 vec:∀ n,R'.vec (shN k m n)=R.vec n
 frz:∀ b xs,R.frz b=some xs->R'.frz b=some xs
theorem Moved.no {k m:Nat} {R R':Rn} (h:Moved k m R R'):R.no.le R'.no:=⟨fun _ _ h=>(by cases h),h.arr,h.str,fun _ _ _ h=>(by cases h),h.frz⟩
theorem sh_A {k m:Nat} {R R':Rn} (h:Moved k m R R'):∀ (a:VA) (p:Addr),ARel R a p->ARel R' (a.sh k m) p
 | .own n off,_,⟨b,hb,hx⟩=>⟨b,by rw [h.blk]; exact hb,hx⟩
 | .el n ix i off,_,hx=>by simp only [ARel,VA.sh] at hx ⊢; rw [h.arr,h.str]; exact hx
 | .ve n L s i off,_,⟨h0,v,b,h1,h2,h3⟩=>⟨h0,v,b,by rw [h.vec]; exact h1,h2,h3⟩
 | .fa n p o,_,⟨b,hb,hx⟩=>⟨b,by rw [h.blk]; exact hb,hx⟩
 | .rw n j o,_,⟨v,b,h1,h2,h3⟩=>⟨v,b,by rw [h.vec]; exact h1,h2,h3⟩
 | .hb _ _ _,_,⟨xs,v,b,h1,h2⟩=>⟨xs,v,b,h.frz _ _ h1,h2⟩
mutual
theorem sh_V {k m:Nat} {R R':Rn} (h:Moved k m R R'):∀ (v:VV) (x:Value),VRel R v x->VRel R' (v.sh k m) x
 | .bool _,_,hx=>hx
 | .int _ _,_,hx=>hx
 | .nilp,_,hx=>hx
 | .ptr a,_,⟨p,hp,hx⟩=>⟨p,sh_A h a p hp,hx⟩
 | .nils,_,hx=>hx
 | .slice a _ _,_,⟨hl,p,hp,hx⟩=>⟨hl,p,hp.imp id (fun ⟨q,h1,h2⟩=>⟨q,h1,sh_A h a q h2⟩),hx⟩
 | .func _ a b,_,⟨xs,ys,h1,h2,hx⟩=>⟨xs,ys,sh_L h a xs h1,sh_L h b ys h2,hx⟩
 | .nilf,_,hx=>hx
 | .iface _ v,_,⟨y,hy,hx⟩=>⟨y,sh_V h v y hy,hx⟩
 | .niff,_,hx=>hx
 | .agg cs,_,⟨xs,h1,hx⟩=>⟨xs,sh_L h cs xs h1,hx⟩
 | .tup vs,_,⟨xs,h1,hx⟩=>⟨xs,sh_L h vs xs h1,hx⟩
 | .opq _,_,hx=>hx
 | .any,_,hx=>hx
 | .yld n,_,⟨b,hb,hx⟩=>⟨b,by rw [h.blk]; exact hb,hx⟩
 | .sl n L,_,⟨hx,hy⟩=>⟨by rw [h.vec]; exact hx,hy⟩
 | .sub n _ _ _ _,_,⟨v,a,c,hx,hy⟩=>⟨v,a,c,by rw [h.vec]; exact hx,hy⟩
 | .mp n,_,⟨b,hb,hx⟩=>⟨b,by rw [h.blk]; exact hb,hx⟩
 | .tl _ _ g,_,⟨p,cap,h1,h2,h3⟩=>⟨p,cap,h1,h2,fun i hi=>by
   obtain ⟨b,o,xs,g1,g2,g3,g5,g4⟩:=h3 i hi
   exact ⟨b,o,xs,g1,h.frz _ _ g2,g3,g5,VRelL.mono h.no (g i) _ g4⟩⟩
 | .tp cs,_,⟨b,o,xs,h1,h2,h3⟩=>⟨b,o,xs,h1,h.frz _ _ h2,VRelL.mono h.no cs _ h3⟩
 | .hs _ _ _,_,⟨xs,h1,h2⟩=>⟨xs,h.frz _ _ h1,h2⟩
theorem sh_L {k m:Nat} {R R':Rn} (h:Moved k m R R'):∀ (cs:List VV) (xs:List Value),VRelL R cs xs->VRelL R' (shL k m cs) xs
 | [],_,hx=>hx
 | c::cs,_,⟨y,ys,h1,h2,hx⟩=>⟨y,ys,sh_V h c y h1,sh_L h cs ys h2,hx⟩
end
theorem sh_idA {k m:Nat}:∀ a:VA,a.bel k=true->a.sh k m=a
 | .own n _,h=>by simp [VA.sh,shN,ltb h]
 | .el _ _ _ _,_=>rfl
 | .ve n _ _ _ _,h=>by simp [VA.sh,shN,ltb h]
 | .fa n _ _,h=>by simp [VA.sh,shN,ltb h]
 | .rw n _ _,h=>by simp [VA.sh,shN,ltb h]
 | .hb _ _ _,_=>rfl
mutual
theorem sh_id {k m:Nat}:∀ v:VV,v.bel k=true->v.sh k m=v
 | .bool _,_=>rfl
 | .int _ _,_=>rfl
 | .nilp,_=>rfl
 | .ptr a,h=>by simp only [VV.sh]; rw [sh_idA a h]
 | .nils,_=>rfl
 | .slice a _ _,h=>by simp only [VV.sh]; rw [sh_idA a h]
 | .func _ a b,h=>by
  simp only [VV.bel,Bool.and_eq_true] at h
  simp only [VV.sh]
  rw [sh_idL a h.1,sh_idL b h.2]
 | .nilf,_=>rfl
 | .iface _ v,h=>by simp only [VV.sh]; rw [sh_id v h]
 | .niff,_=>rfl
 | .agg cs,h=>by simp only [VV.sh]; rw [sh_idL cs h]
 | .tup vs,h=>by simp only [VV.sh]; rw [sh_idL vs h]
 | .opq _,_=>rfl
 | .any,_=>rfl
 | .yld n,h=>by simp [VV.sh,shN,ltb h]
 | .sl n L,h=>by simp [VV.sh,shN,ltb h]
 | .sub n _ _ _ _,h=>by simp [VV.sh,shN,ltb h]
 | .mp n,h=>by simp [VV.sh,shN,ltb h]
 | .tl _ _ _,_=>rfl
 | .tp _,_=>rfl
 | .hs _ _ _,_=>rfl
theorem sh_idL {k m:Nat}:∀ l:List VV,belL k l=true->shL k m l=l
 | [],_=>rfl
 | c::cs,h=>by
  simp only [belL,Bool.and_eq_true] at h
  simp only [shL]
  rw [sh_id c h.1,sh_idL cs h.2]
end
def pushL (h:VH):List VB->VH
 | []=>h
 | b::r=>pushL (h.new b) r
theorem pushL_at:∀ (l:List VB) (h:VH) (n:Nat),(pushL h l).at n=if n<h.nx then h.at n else (l[n - h.nx]?).getD .free
 | [],h,n=>by
  by_cases hn:n<h.nx
  ·simp [pushL,hn]
  ·simp only [pushL,hn,if_false,List.getElem?_nil,Option.getD_none]
   show (bif Nat.blt n h.nx then lookB h.bs n else .free)=_
   rw [blt_f hn]; rfl
 | b::r,h,n=>by
  rw [pushL,pushL_at r (h.new b) n,VH.at_new]
  show (if n<h.nx+1 then upd h.at h.nx b n else (r[n - (h.nx+1)]?).getD .free)=_
  by_cases hn:n<h.nx
  ·rw [if_pos (by omega),if_pos hn]; simp [upd,show n ≠ h.nx by omega]
  ·rw [if_neg hn]
   by_cases he:n=h.nx
   ·subst he; simp [upd]
   ·rw [if_neg (by omega),show n - h.nx=(n - (h.nx+1))+1 by omega]
    simp
theorem calls_lift_new {f:FuncId} {args:List VV} {hm hm' h:VH} {r:VRes} {bl:List VB} (hs:CallsV P f args hm r hm') (hk:hm.nx<=h.nx) (hat:∀ n,n<hm.nx->h.at n=hm.at n) (hsame:∀ n,n<hm.nx->hm'.at n=hm.at n)
  (hnf:∀ n,n<hm.nx->hm.at n ≠ .free) (hb:∀ n,n<hm.nx->(hm.at n).bel hm.nx=true) (ha:belL hm.nx args=true) (hbl:∀ i,hm'.at (hm.nx+i)=(bl[i]?).getD .free):CallsV P f args h (r.sh hm.nx h.nx) (pushL h (bl.map (VB.sh hm.nx h.nx))):=by
 intro B R w xs em hx
 have hfr:∀ n,¬ n<hm.nx->hm.at n=.free:=fun n hn=>by
  show (bif Nat.blt n hm.nx then lookB hm.bs n else .free)=_
  rw [blt_f hn]; rfl
 have hfr2:∀ n,¬ n<h.nx->h.at n=.free:=fun n hn=>by
  show (bif Nat.blt n h.nx then lookB h.bs n else .free)=_
  rw [blt_f hn]; rfl
 refine (hs B (R.cut hm.nx) w xs (part_emb em hat hnf hb) (bel_L (cut_agree R hm.nx) args xs ha hx)).mono ?_
 rintro e w' ⟨R1,n1,e1,x⟩
 obtain ⟨k,hkk⟩:∃ k,hm.nx=k:=⟨_,rfl⟩
 have hblk:∀ n,n<hm.nx->R1.blk n=R.blk n:=fun n hn=>by rw [n1.old n (hnf n hn)]; simp [Rn.cut,hn]
 have hvec:∀ n,n<hm.nx->R1.vec n=R.vec n:=fun n hn=>by
  rw [n1.vsame e1 (hnf n hn) (fun L hv=>by rw [hsame n hn]; exact hv),cut_vec hn]
 let R':Rn:=⟨fun n=>if n<h.nx then R.blk n else R1.blk (n - h.nx+hm.nx),R.arr,R.str,fun n=>if n<h.nx then R.vec n else R1.vec (n - h.nx+hm.nx),R1.frz⟩
 have hmv:Moved hm.nx h.nx R1 R':=by
  refine ⟨fun n=>?_,by rw [n1.arr]; rfl,by rw [n1.str]; rfl,fun n=>?_,fun _ _ h=>h⟩
  ·show (if shN hm.nx h.nx n<h.nx then R.blk (shN hm.nx h.nx n) else R1.blk (shN hm.nx h.nx n - h.nx+hm.nx))=R1.blk n
   unfold shN
   by_cases hn:n<hm.nx
   ·rw [if_pos hn,if_pos (by omega)]; exact (hblk n hn).symm
   ·rw [if_neg hn,if_neg (by omega)]; congr 1; omega
  ·show (if shN hm.nx h.nx n<h.nx then R.vec (shN hm.nx h.nx n) else R1.vec (shN hm.nx h.nx n - h.nx+hm.nx))=R1.vec n
   unfold shN
   by_cases hn:n<hm.nx
   ·rw [if_pos hn,if_pos (by omega)]; exact (hvec n hn).symm
   ·rw [if_neg hn,if_neg (by omega)]; congr 1; omega
 have hno:R1.no.le R'.no:=hmv.no
 have hle:R.le R':=by
  refine ⟨fun n b hb'=>?_,rfl,rfl,fun n L v hv=>?_,fun b xs hb'=>n1.fmono b xs hb'⟩
  ·show (if n<h.nx then R.blk n else R1.blk (n - h.nx+hm.nx))=some b
   by_cases hn:n<h.nx
   ·rw [if_pos hn]; exact hb'
   ·rw [em.fresh n (hfr2 n hn)] at hb'; cases hb'
  ·show (if n<h.nx then R.vec n else R1.vec (n - h.nx+hm.nx)) L=some v
   by_cases hn:n<h.nx
   ·rw [if_pos hn]; exact hv
   ·rw [em.fvec n (hfr2 n hn)] at hv; cases hv
 have hagR:Agree h.nx R R':=⟨fun n hn=>if_pos hn,rfl,rfl,fun n hn=>if_pos hn,hle.frz⟩
 have hag1:Agree hm.nx R1 R':=⟨fun n hn=>by rw [hagR.blk n (by omega)]; exact (hblk n hn).symm,by rw [n1.arr]; rfl,by rw [n1.str]; rfl,fun n hn=>by rw [hagR.vec n (by omega)]; exact (hvec n hn).symm,fun _ _ h=>h⟩
 have hη1:∀ n,n<h.nx->(pushL h (bl.map (VB.sh hm.nx h.nx))).at n=h.at n:=fun n hn=>by rw [pushL_at,if_pos hn]
 have hη2:∀ n,¬ n<h.nx->(pushL h (bl.map (VB.sh hm.nx h.nx))).at n=(hm'.at (n - h.nx+hm.nx)).sh hm.nx h.nx:=fun n hn=>by
  rw [pushL_at,if_neg hn,Nat.add_comm,hbl,List.getElem?_map]
  cases bl[n - h.nx]? <;> rfl
 have how1:∀ n,n<h.nx->R'.ow n (h.at n)=R.ow n (h.at n):=fun n hn=>ow_le (R':=R') em (fun _ _ _ h=>n1.fmono _ _ h) (hagR.blk n hn) (hagR.vec n hn)
 have how2:∀ n,¬ n<h.nx->∀ b c,R'.ow n (b.sh hm.nx h.nx) c->R1.ow (n - h.nx+hm.nx) b c:=fun n hn b c hc=>by
  cases b with
  | cells cs t=>
   have hc:(if n<h.nx then R.blk n else R1.blk (n - h.nx+hm.nx))=some c:=hc
   rw [if_neg hn] at hc; exact hc
  | fam _ _ _ _=>
   have hc:(if n<h.nx then R.blk n else R1.blk (n - h.nx+hm.nx))=some c:=hc
   rw [if_neg hn] at hc; exact hc
  | map _ _ _=>
   have hc:(if n<h.nx then R.blk n else R1.blk (n - h.nx+hm.nx))=some c:=hc
   rw [if_neg hn] at hc; exact hc
  | vec L g s t=>
   have hc:((if n<h.nx then R.vec n else R1.vec (n - h.nx+hm.nx)) L).bind Value.ownBlock=some c:=hc
   rw [if_neg hn] at hc; exact hc
  | mat K r C g t te=>
   obtain ⟨j,v,h1,h2,h3⟩:=hc
   have h2:(if n<h.nx then R.vec n else R1.vec (n - h.nx+hm.nx)) j=some v:=h2
   rw [if_neg hn] at h2
   exact ⟨j,v,h1,h2,h3⟩
  | _=>exact hc.elim
 have hpo:∀ n b,(R.cut hm.nx).ow n (hm.at n) b->n<hm.nx/\R.ow n (h.at n) b:=fun n b hb'=>by
  by_cases hn:n<hm.nx
  ·rw [cut_ow hn] at hb'; exact ⟨hn,by rw [hat n hn]; exact hb'⟩
  ·rw [hfr n hn] at hb'; cases hb'
 have hnew:∀ n,¬ n<hm.nx->∀ b,R1.ow n (hm'.at n) b->w.heap.size<=b:=fun n hn b hb'=>by
  rcases n1.own n b hb' with ⟨q,h1⟩ | h1
  ·obtain ⟨h2,h3⟩:=hpo q b h1
   have h4:R1.ow q (hm'.at q) b:=by
    rw [hsame q h2,<- hat q h2,<- ow_agree hag1 h2,how1 q (by omega)]
    exact h3
   have:=e1.inj n q b hb' h4
   omega
  ·exact h1
 have hframe:∀ n,¬ n<hm.nx->∀ b,R.ow n (h.at n) b->w'.heap[b]? = w.heap[b]?:=fun n hn b hb'=>
  n1.frame b (em.lt hb') (fun m hbm=>by
   obtain ⟨h1,h2⟩:=hpo m b hbm
   have:=em.inj n m b hb' h2
   omega)
 have hlt0:∀ n t r C g te,hm.at n=.bun t r C g te->n<hm.nx/\h.at n=.bun t r C g te:=fun n t r C g te hn=>by
  have hnk:n<hm.nx:=by
   by_cases hnk:n<hm.nx
   ·exact hnk
   ·rw [hfr n hnk] at hn; cases hn
  exact ⟨hnk,by rw [hat n hnk]; exact hn⟩
 have hbx:=bun_mix (R':=R') (η':=(pushL h (bl.map (VB.sh hm.nx h.nx))).at) em (fun n t r C g te hn=>(e1.bun n t r C g te hn).1) n1.reg (fun _ _=>rfl) (fun _ _ _ h=>n1.fmono _ _ h) (fun _ _=>rfl) (fun k t r C g te hk=>⟨k,_,_,_,_,(hlt0 k _ _ _ _ _ hk).2⟩) (fun m t r C g te hm1=>by
  by_cases hnx:m<h.nx
  ·rw [hη1 m hnx] at hm1
   by_cases hnk:m<hm.nx
   ·exact .inl ⟨m,by rw [hsame m hnk,<- hat m hnk]; exact hm1,fun _ _ _ _ hk=>⟨_,_,_,_,(hlt0 m _ _ _ _ _ hk).2⟩⟩
   ·exact .inr ⟨hm1,fun k _ _ _ _ hk=>⟨k,_,_,_,_,fun h=>hnk (h ▸ (hlt0 k _ _ _ _ _ hk).1),(hlt0 k _ _ _ _ _ hk).2⟩,fun b hb=>hframe m hnk b hb⟩
  ·rw [hη2 m hnx] at hm1
   cases hc:hm'.at (m - h.nx+hm.nx) <;> rw [hc] at hm1 <;> cases hm1)
 refine ⟨R',⟨fun n hn=>?_,fun n hn=>?_,rfl,rfl,hle.vec,fun n L v h1 h2=>?_,fun n L hn=>?_,fun n b hb'=>?_,n1.size,fun b hb' hn=>n1.frame b hb' (fun m hbm=>hn m (hpo m b hbm).2),n1.os,n1.tape,n1.output,hle.frz,fun b xs hb'=>(n1.fnew b xs hb').imp id (fun h=>h.imp (fun ⟨n,hn⟩=>⟨n,(hpo n b hn).2⟩) id),hbx.2⟩,
  ⟨Nat.le_trans em.base n1.size,fun n cs t hn=>?_,fun n m b h1 h2=>?_,fun n s ok g hn=>?_,fun n hn=>?_,fun n st pd t q ps as bd hn=>?_,fun n L g s t hn=>?_,fun n hn L=>?_,fun n ks vk es hn=>?_,fun n K r C g t te hn=>?_,hbx.1,fun b xs hb'=>⟨(e1.frz b xs hb').1,fun n hn=>?_,(e1.frz b xs hb').2.2⟩⟩,?_⟩
 ·have hnx:n<h.nx:=by
   by_cases hnx:n<h.nx
   ·exact hnx
   ·exact (hn (hfr2 n hnx)).elim
  rw [hη1 n hnx]; exact hn
 ·have hnx:n<h.nx:=by
   by_cases hnx:n<h.nx
   ·exact hnx
   ·exact (hn (hfr2 n hnx)).elim
  exact hagR.blk n hnx
 ·by_cases hnx:n<h.nx
  ·rw [hagR.vec n hnx,h1] at h2; cases h2
  ·exact .inl (hfr2 n hnx)
 ·by_cases hnx:n<h.nx
  ·rw [hη1 n hnx] at hn; exact .inr ⟨L,hn,Nat.le_refl _⟩
  ·exact .inl (hfr2 n hnx)
 ·by_cases hnx:n<h.nx
  ·rw [hη1 n hnx,how1 n hnx] at hb'; exact .inl ⟨n,hb'⟩
  ·rw [hη2 n hnx] at hb'
   exact .inr (hnew _ (by omega) b (how2 n hnx _ b hb'))
 ·by_cases hnx:n<h.nx
  ·rw [hη1 n hnx] at hn
   by_cases hnk:n<hm.nx
   ·have hn1:(hm'.at n).cs? = some (cs,t):=by rw [hsame n hnk,<- hat n hnk]; exact hn
    obtain ⟨b,ys,g1,g2,g3,g4⟩:=e1.ownC n cs t hn1
    refine ⟨b,ys,by rw [hag1.blk n hnk]; exact g1,g2,bel_L hag1 cs ys ?_ g3,g4⟩
    have:=hb n hnk
    rw [<- hat n hnk] at this
    exact bel_cs hn this
   ·obtain ⟨b,ys,g1,g2,g3,g4⟩:=em.ownC n cs t hn
    exact ⟨b,ys,hle.blk n b g1,g2,g3.mono hle,by rw [hframe n hnk b (by rw [ow_cs hn]; exact g1)]; exact g4⟩
  ·rw [hη2 n hnx,VB.sh_cs] at hn
   cases hc:(hm'.at (n - h.nx+hm.nx)).cs? with
   | none=>rw [hc] at hn; cases hn
   | some p=>
    obtain ⟨cs0,t0⟩:=p
    rw [hc] at hn
    simp only [Option.map_some,Option.some.injEq,Prod.mk.injEq] at hn
    obtain ⟨rfl,rfl⟩:=hn
    obtain ⟨b,ys,g1,g2,g3,g4⟩:=e1.ownC _ cs0 t0 hc
    refine ⟨b,ys,?_,g2,sh_L hmv cs0 ys g3,g4⟩
    show (if n<h.nx then R.blk n else R1.blk (n - h.nx+hm.nx))=some b
    rw [if_neg hnx]; exact g1
 ·by_cases hn:n<h.nx <;> by_cases hm1:m<h.nx
  ·rw [hη1 n hn,how1 n hn] at h1
   rw [hη1 m hm1,how1 m hm1] at h2
   exact em.inj n m b h1 h2
  ·rw [hη1 n hn,how1 n hn] at h1
   rw [hη2 m hm1] at h2
   have:=hnew _ (by omega) b (how2 m hm1 _ b h2)
   have:=em.lt h1
   omega
  ·rw [hη2 n hn] at h1
   rw [hη1 m hm1,how1 m hm1] at h2
   have:=hnew _ (by omega) b (how2 n hn _ b h1)
   have:=em.lt h2
   omega
  ·rw [hη2 n hn] at h1
   rw [hη2 m hm1] at h2
   have:=e1.inj _ _ b (how2 n hn _ b h1) (how2 m hm1 _ b h2)
   omega
 ·by_cases hnx:n<h.nx
  ·rw [hη1 n hnx] at hn
   obtain ⟨g1,g2⟩:=em.arr n s ok g hn
   refine ⟨g1,fun ix i hi=>?_⟩
   obtain ⟨g3,g4,g5,ys,g6,g7,g8⟩:=g2 ix i hi
   refine ⟨g3,g4,g5,ys,g6.mono hle.no,g7,fun q y hq=>?_⟩
   have hblk2:((R.arr n ix).add (i.toNat*s+q)).block=(R.arr n ix).block:=by unfold Addr.add; split <;> rfl
   show w'.cell? ((R.arr n ix).add (i.toNat*s+q))=some y
   rw [cell_same (w:=w)]
   ·exact g8 q y hq
   ·rw [hblk2]
    refine n1.frame _ (Nat.lt_of_lt_of_le g4 em.base) (fun m hbm=>?_)
    have:=(em.own_lt (hpo m _ hbm).2).1
    omega
  ·rw [hη2 n hnx] at hn
   cases hc:hm'.at (n - h.nx+hm.nx) <;> rw [hc] at hn <;> cases hn
 ·by_cases hnx:n<h.nx
  ·rw [hη1 n hnx] at hn
   rw [hagR.blk n hnx]; exact em.fresh n hn
  ·rw [hη2 n hnx] at hn
   show (if n<h.nx then R.blk n else R1.blk (n - h.nx+hm.nx))=none
   rw [if_neg hnx]
   refine e1.fresh _ ?_
   cases hc:hm'.at (n - h.nx+hm.nx) <;> rw [hc] at hn <;> first | rfl | cases hn
 ·by_cases hnx:n<h.nx
  ·rw [hη1 n hnx] at hn
   by_cases hnk:n<hm.nx
   ·have hn1:hm'.at n=.loop st pd t q ps as bd:=by rw [hsame n hnk,<- hat n hnk]; exact hn
    obtain ⟨b,r',g1,g2,g3,g4⟩:=e1.lp n st pd t q ps as bd hn1
    refine ⟨b,r',by rw [hag1.blk n hnk]; exact g1,g2,g3,g4.bel hag1 ?_⟩
    have:=hb n hnk
    rw [<- hat n hnk,hn] at this
    exact this
   ·obtain ⟨b,r',g1,g2,g3,g4⟩:=em.lp n st pd t q ps as bd hn
    exact ⟨b,r',hle.blk n b g1,g2,by rw [hframe n hnk b (by rw [hn]; exact g1)]; exact g3,g4.mono hle⟩
  ·rw [hη2 n hnx] at hn
   cases hc:hm'.at (n - h.nx+hm.nx) <;> rw [hc] at hn <;> cases hn
 ·by_cases hnx:n<h.nx
  ·rw [hη1 n hnx] at hn
   by_cases hnk:n<hm.nx
   ·have hn1:hm'.at n=.vec L g s t:=by rw [hsame n hnk,<- hat n hnk]; exact hn
    exact (e1.vec n L g s t hn1).frame (hag1.vec n hnk) hno (fun _ _=>rfl)
   ·exact (em.vec n L g s t hn).frame (hagR.vec n hnx) hle.no (fun b hb'=>hframe n hnk b (by rw [hn]; exact hb'))
  ·rw [hη2 n hnx] at hn
   cases hc:hm'.at (n - h.nx+hm.nx) with
   | vec L0 g0 s0 t0=>
    rw [hc] at hn
    cases hn
    refine (e1.vec _ _ _ _ _ hc).frame (n':=n) ?_ hno (fun _ _=>rfl)
    show (if n<h.nx then R.vec n else R1.vec (n - h.nx+hm.nx))=_
    rw [if_neg hnx]
   | _=>rw [hc] at hn; cases hn
 ·by_cases hnx:n<h.nx
  ·rw [hη1 n hnx] at hn
   rw [hagR.vec n hnx]; exact em.fvec n hn L
  ·rw [hη2 n hnx] at hn
   show (if n<h.nx then R.vec n else R1.vec (n - h.nx+hm.nx)) L=none
   rw [if_neg hnx]
   refine e1.fvec _ ?_ L
   cases hc:hm'.at (n - h.nx+hm.nx) <;> rw [hc] at hn <;> first | rfl | cases hn
 ·by_cases hnx:n<h.nx
  ·rw [hη1 n hnx] at hn
   by_cases hnk:n<hm.nx
   ·have hn1:hm'.at n=.map ks vk es:=by rw [hsame n hnk,<- hat n hnk]; exact hn
    exact (e1.map n ks vk es hn1).frame (hag1.blk n hnk) (fun _ _=>rfl)
   ·exact (em.map n ks vk es hn).frame (hagR.blk n hnx) (fun b hb'=>hframe n hnk b (by rw [hn]; exact hb'))
  ·rw [hη2 n hnx] at hn
   cases hc:hm'.at (n - h.nx+hm.nx) with
   | map ks0 vk0 es0=>
    rw [hc] at hn
    cases hn
    refine (e1.map _ _ _ _ hc).frame (n':=n) ?_ (fun _ _=>rfl)
    show (if n<h.nx then R.blk n else R1.blk (n - h.nx+hm.nx))=_
    rw [if_neg hnx]
   | _=>rw [hc] at hn; cases hn
 ·by_cases hnx:n<h.nx
  ·rw [hη1 n hnx] at hn
   by_cases hnk:n<hm.nx
   ·have hn1:hm'.at n=.mat K r C g t te:=by rw [hsame n hnk,<- hat n hnk]; exact hn
    exact (e1.mat n K r C g t te hn1).frame (hag1.vec n hnk) (fun _ _=>rfl)
   ·exact (em.mat n K r C g t te hn).frame (hagR.vec n hnx) (fun b hb'=>hframe n hnk b (by rw [hn]; exact hb'))
  ·rw [hη2 n hnx] at hn
   cases hc:hm'.at (n - h.nx+hm.nx) with
   | mat K0 r0 C0 g0 t0 te0=>
    rw [hc] at hn
    cases hn
    refine (e1.mat _ _ _ _ _ _ _ hc).frame (n':=n) ?_ (fun _ _=>rfl)
    show (if n<h.nx then R.vec n else R1.vec (n - h.nx+hm.nx))=_
    rw [if_neg hnx]
   | _=>rw [hc] at hn; cases hn
 ·by_cases hnx:n<h.nx
  ·rw [hη1 n hnx,how1 n hnx] at hn
   rcases n1.fnew b xs hb' with h1 | ⟨m,h1⟩ | h1
   ·exact (em.frz b xs h1).2.1 n hn
   ·obtain ⟨h2,h3⟩:=hpo m b h1
    have:=em.inj n m b hn h3
    subst this
    refine (e1.frz b xs hb').2.1 n ?_
    rw [hsame n h2,<- hat n h2,<- ow_agree hag1 h2,how1 n hnx]
    exact hn
   ·have:=em.lt hn; omega
  ·rw [hη2 n hnx] at hn
   exact (e1.frz b xs hb').2.1 _ (how2 n hnx _ b hn)
 ·cases r with
  | ret v=>obtain ⟨y,hy,he⟩:=x; exact ⟨y,sh_V hmv v y hy,he⟩
  | panic v=>obtain ⟨y,hy,he⟩:=x; exact ⟨y,sh_V hmv v y hy,he⟩
theorem res_sh_id {k m:Nat} {r:VRes} (h:r.bel k=true):r.sh k m=r:=by
 cases r with
 | ret v=>simp only [VRes.sh]; rw [sh_id v h]
 | panic v=>simp only [VRes.sh]; rw [sh_id v h]
theorem calls_keep {f:FuncId} {args:List VV} {hm hm':VH} {r:VRes} (hs:CallsV P f args hm r hm') (hsame:∀ n,n<hm.nx->hm'.at n=hm.at n) (hb:∀ n,n<hm.nx->(hm.at n).bel hm.nx=true) (hr:r.bel hm.nx=true):CallsV P f args hm r hm:=by
 intro B R w xs em hx
 refine (hs B R w xs em hx).mono ?_
 rintro e w' ⟨R',n1,e1,x⟩
 have hfr:∀ n,¬ n<hm.nx->hm.at n=.free:=fun n hn=>by
  show (bif Nat.blt n hm.nx then lookB hm.bs n else .free)=_
  rw [blt_f hn]; rfl
 have hcut:∀ n,(VH.mk hm.nx hm.bs).at n=hm.at n:=fun n=>by cases hm; rfl
 have how:∀ n b,(R'.cut hm.nx).ow n (hm.at n) b->R'.ow n (hm'.at n) b:=fun n b hb'=>by
  by_cases hn:n<hm.nx
  ·rw [cut_ow hn] at hb'; rw [hsame n hn]; exact hb'
  ·rw [hfr n hn] at hb'; cases hb'
 have hag:=cut_agree R' hm.nx
 have hlt:∀ n,hm.at n ≠ .free->n<hm.nx:=fun n hn=>by
  by_cases h1:n<hm.nx
  ·exact h1
  ·exact (hn (hfr n h1)).elim
 refine ⟨R'.cut hm.nx,⟨fun _ h=>h,fun n hn=>?_,n1.arr,n1.str,fun n L v hv=>?_,fun n L v h1 h2=>?_,fun n L hn=>.inr ⟨L,hn,Nat.le_refl _⟩,fun n b hb'=>n1.own n b (how n b hb'),n1.size,n1.frame,n1.os,n1.tape,n1.output,n1.fmono,n1.fnew,⟨n1.reg.new,fun _ _ _ _ _ _ h=>⟨_,_,_,_,h⟩⟩⟩,
  ⟨e1.base,fun n cs t hn=>?_,fun n m b h1 h2=>e1.inj n m b (how n b h1) (how m b h2),fun n s ok g hn=>?_,fun n hn=>?_,fun n st pd t q ps as bd hn=>?_,fun n L g s t hn=>?_,fun n hn L=>?_,fun n ks vk es hn=>?_,fun n K r C g t te hn=>?_,e1.bunF (fun n t r C g te hn=>by rw [hsame n (hlt n (by rw [hn]; simp))]; exact hn) (fun _ _=>rfl) (fun _ _ _ _ _ _ _ _ _=>rfl),fun b xs hb'=>⟨(e1.frz b xs hb').1,fun n hn=>(e1.frz b xs hb').2.1 n (how n b hn),(e1.frz b xs hb').2.2⟩⟩,res_bel hag hr x⟩
 ·have:=hlt n hn
  simp only [Rn.cut,this,if_true]; exact n1.old n hn
 ·have hnf:hm.at n ≠ .free:=fun hf=>by rw [em.fvec n hf] at hv; cases hv
  rw [cut_vec (hlt n hnf)]; exact n1.vold n L v hv
 ·by_cases hn:n<hm.nx
  ·rw [cut_vec hn] at h2; exact n1.vnew n L v h1 h2
  ·simp [Rn.cut,hn] at h2
 ·have hnk:=hlt n (by intro e; rw [e] at hn; simp at hn)
  obtain ⟨b,ys,g1,g2,g3,g4⟩:=e1.ownC n cs t (by rw [hsame n hnk]; exact hn)
  exact ⟨b,ys,by simp [Rn.cut,hnk,g1],g2,bel_L hag cs ys (bel_cs hn (hb n hnk)) g3,g4⟩
 ·have hnk:=hlt n (by rw [hn]; simp)
  exact e1.arr n s ok g (by rw [hsame n hnk]; exact hn)
 ·by_cases hnk:n<hm.nx
  ·simp only [Rn.cut,hnk,if_true]
   exact e1.fresh n (by rw [hsame n hnk]; exact hn)
  ·simp [Rn.cut,hnk]
 ·have hnk:=hlt n (by rw [hn]; simp)
  obtain ⟨b,r',g1,g2,g3,g4⟩:=e1.lp n st pd t q ps as bd (by rw [hsame n hnk]; exact hn)
  refine ⟨b,r',by simp [Rn.cut,hnk,g1],g2,g3,g4.bel hag ?_⟩
  have:=hb n hnk
  rw [hn] at this; exact this
 ·have hnk:=hlt n (by rw [hn]; simp)
  exact (e1.vec n L g s t (by rw [hsame n hnk]; exact hn)).frame (cut_vec hnk) hag.no (fun _ _=>rfl)
 ·by_cases hnk:n<hm.nx
  ·rw [cut_vec hnk]
   exact e1.fvec n (by rw [hsame n hnk]; exact hn) L
  ·simp [Rn.cut,hnk]
 ·have hnk:=hlt n (by rw [hn]; simp)
  exact (e1.map n ks vk es (by rw [hsame n hnk]; exact hn)).frame (by simp [Rn.cut,hnk]) (fun _ _=>rfl)
 ·have hnk:=hlt n (by rw [hn]; simp)
  exact (e1.mat n K r C g t te (by rw [hsame n hnk]; exact hn)).frame (cut_vec hnk) (fun _ _=>rfl)
theorem calls_lift {f:FuncId} {args:List VV} {hm hm' h:VH} {r:VRes} (hs:CallsV P f args hm r hm') (hk:hm.nx<=h.nx) (hat:∀ n,n<hm.nx->h.at n=hm.at n) (hsame:∀ n,n<hm.nx->hm'.at n=hm.at n)
  (hnf:∀ n,n<hm.nx->hm.at n ≠ .free) (hb:∀ n,n<hm.nx->(hm.at n).bel hm.nx=true) (ha:belL hm.nx args=true) (hr:r.bel hm.nx=true):CallsV P f args h r h:=by
 have h1:=calls_lift_new (bl:=[]) (calls_keep hs hsame hb hr) hk hat (fun _ _=>rfl) hnf hb ha (fun i=>by
  show (bif Nat.blt (hm.nx+i) hm.nx then lookB hm.bs (hm.nx+i) else .free)=_
  rw [blt_f (by omega)]; rfl)
 rw [res_sh_id hr] at h1
 exact h1
theorem calls_lift0 {f:FuncId} {args:List VV} {hm' h:VH} {r:VRes} (hs:CallsV P f args ⟨0,[]⟩ r hm') (ha:belL 0 args=true) (hr:r.bel 0=true):CallsV P f args h r h:=
 calls_lift hs (Nat.zero_le _) (fun n hn=>by simp at hn) (fun n hn=>by simp at hn) (fun n hn=>by simp at hn) (fun n hn=>by simp at hn) ha hr
theorem emb_ghost {B:Nat} {R:Rn} {η:Nat->VB} {w:World} (e:Emb B R η w) {n0:Nat} (hn0:η n0=.free) (g:Nat->List VV) (s:Nat) (t:TypeId) :
  Emb B (R.putV n0 0 (.slice none 0 0)) (upd η n0 (.vec 0 g s t)) w/\Nxt η R w (upd η n0 (.vec 0 g s t)) (R.putV n0 0 (.slice none 0 0)) w:=by
 have hvn:∀ L,R.vec n0 L=none:=e.fvec n0 hn0
 have hle:R.le (R.putV n0 0 (.slice none 0 0)):=le_putV (.inl (hvn 0))
 have how:∀ b,(R.putV n0 0 (.slice none 0 0)).ow n0 (.vec 0 g s t) b->R.ow n0 (η n0) b ∨ w.heap.size<=b:=fun b hb=>by
  have hb:((R.putV n0 0 (.slice none 0 0)).vec n0 0).bind Value.ownBlock=some b:=hb
  rw [putV_same] at hb
  cases hb
 refine ⟨e.step (Nat.le_refl _) hle (fun _ _=>rfl) (fun m hm=>putV_ne hm) (fun _ _ _=>rfl) how (by simp) (by simp) (by simp) (by simp) (fun L g' s' t' hh=>?_),
  Nxt.step (Nat.le_refl _) hle (fun _ _=>rfl) (fun m hm=>putV_ne hm) (fun _ _ _=>rfl) how (by simp) (fun L v _ _=>.inl hn0) (fun L _=>.inl hn0) rfl rfl rfl⟩
 cases hh
 refine ⟨⟨.slice none 0 0,[],putV_same,World.ownsRow_nil w B t s,fun i hi=>by omega⟩,fun L' hL=>?_⟩
 simp only [Rn.putV]
 rw [if_neg (by omega)]
 exact hvn L'
theorem sem_ghost {pl:Bool} {c:Code} {n:Nat} {t t2 t':Slots} {h h':VH} {e:VEx} (g:Nat->List VV) (s:Nat) (ty:TypeId) (hs:SemC P pl c n t2 (h.new (.vec 0 g s ty)) e t' h')
  (ht:∀ (R:Rn) (a:Act),R.vec h.nx 0=some (.slice none 0 0)->TRel R t a->TRel R t2 a):SemC P pl c n t h e t' h':=by
 intro F hF hp B ds R a w em tr hn hds
 obtain ⟨e1,n1⟩:=emb_ghost em (VH.at_nx h) g s ty
 rw [<- VH.at_new] at e1 n1
 refine wpIn_mono (hs F hF hp B ds _ a w e1 (ht _ a putV_same (tr.mono (n1.le em))) hn hds) ?_
 intro ex a' w' hp
 exact hp.of_next n1
theorem slot_ghost {t:Slots} {d n0:Nat} (hd:look t d=.nils) (R:Rn) (a:Act) (hv:R.vec n0 0=some (.slice none 0 0)) (ht:TRel R t a):TRel R ((d,.sl n0 0)::t) a:=by
 intro d'
 rw [look_cons]
 by_cases h:d=d'
 ·subst h
  rw [if_pos rfl]
  have:=ht d
  rw [hd] at this
  simp only [VRel] at this
  rw [this]
  exact ⟨hv,none,0,rfl⟩
 ·rw [if_neg h]; exact ht d'
end
end Go.Sx
