/- Bundles: a list becomes a row; a contract over a bundle, used at a caller's; a law that begins with a bundle of no rows. -/
import Derived.Test.YtlboglkgbhjpeaaSxK
import Derived.Test.YtlboglkgbhjpeaaSxJ
namespace Go.Sx
open Go RowKit
theorem bun_row {B:Nat} {R:Rn} {η:Nat->VB} {w:World} (e:Emb B R η w) {n q t r C:Nat} {g:Nat->Nat->Int} {F:Nat->Int} {f:Nat->List VV} {te:TypeId} (hn:η n=.bun t r C g te) (hq:η q=.vec C f 1 te) (hf:∀ k,k<C->f k=[.int .i64 (F k)]) :
  ∃ R',Emb B R' (upd (upd η q .gone) n (.bun t (r+1) C (rowM g r F) te)) w/\Nxt η R w (upd (upd η q .gone) n (.bun t (r+1) C (rowM g r F) te)) R' w/\∀ x,VRel R (.sl q C) x->VRel R' (.hs t r C) x:=by
 have hqn:q ≠ n:=fun h=>by rw [h,hn] at hq; cases hq
 obtain ⟨⟨k1,k2,k3⟩,k4⟩:=e.bun n _ _ _ _ _ hn
 obtain ⟨⟨v,xs,y1,y2,y3⟩,y4⟩:=e.vec q _ _ _ _ hq
 let R':Rn:=⟨R.blk,R.arr,R.str,R.vec,fun k=>if k=.reg t r then some [v] else R.frz k⟩
 have hfb:∀ b:Nat,R'.frz (.blk b)=R.frz (.blk b):=fun b=>by
  show (if FK.blk b=FK.reg t r then some [v] else R.frz (.blk b))=_
  exact if_neg (fun h=>by cases h)
 have hfo:∀ t' j,¬ (t'=t/\j=r)->R'.frz (.reg t' j)=R.frz (.reg t' j):=fun t' j h=>by
  show (if FK.reg t' j=FK.reg t r then some [v] else R.frz (.reg t' j))=_
  exact if_neg (fun h2=>by cases h2; exact h ⟨rfl,rfl⟩)
 have hfr:R'.frz (.reg t r)=some [v]:=if_pos rfl
 have hlast:R.frz (.reg t r)=none:=k3 r (Nat.le_refl _)
 have hle:R.le R':=⟨fun _ _ h=>h,rfl,rfl,fun _ _ _ h=>h,fun k ys h=>by
  by_cases hk:k=.reg t r
  ·rw [hk,hlast] at h; cases h
  ·exact (if_neg hk).trans h⟩
 have hηo:∀ m,m ≠ n->m ≠ q->upd (upd η q .gone) n (.bun t (r+1) C (rowM g r F) te) m=η m:=fun m h1 h2=>by
  unfold upd
  rw [if_neg h1,if_neg h2]
 have hηq:upd (upd η q .gone) n (.bun t (r+1) C (rowM g r F) te) q=.gone:=by
  unfold upd
  rw [if_neg hqn,if_pos rfl]
 have hηn:upd (upd η q .gone) n (.bun t (r+1) C (rowM g r F) te) n=.bun t (r+1) C (rowM g r F) te:=if_pos rfl
 generalize upd (upd η q .gone) n (.bun t (r+1) C (rowM g r F) te)=η2 at hηo hηq hηn ⊢
 have hownq:∀ c,v.ownBlock=some c->R.ow q (η q) c:=fun c hc=>by
  rw [hq]
  show (R.vec q C).bind Value.ownBlock=some c
  rw [y1]; exact hc
 have hown:∀ m c,R'.ow m (η2 m) c->(m=n/\(R.ow n (η n) c ∨ R.ow q (η q) c)) ∨ (m ≠ n/\m ≠ q/\R.ow m (η m) c):=fun m c hc=>by
  by_cases h1:m=n
  ·subst h1
   rw [hηn] at hc
   obtain ⟨j,us,u,hj,h2,h3,h4⟩:=hc
   refine .inl ⟨rfl,?_⟩
   by_cases hjr:j=r
   ·subst hjr
    rw [hfr] at h2
    cases h2
    cases h3
    exact .inr (hownq c h4)
   ·rw [hfo t j (fun h=>hjr h.2)] at h2
    rw [hn]
    exact .inl ⟨j,us,u,by omega,h2,h3,h4⟩
  ·by_cases h2:m=q
   ·subst h2
    rw [hηq] at hc
    exact hc.elim
   ·rw [hηo m h1 h2,ow_le (R':=R') e (fun t j xs h=>hle.frz _ _ h) rfl rfl] at hc
    exact .inr ⟨h1,h2,hc⟩
 have hold:∀ m c,R'.ow m (η2 m) c->∃ m',R.ow m' (η m') c:=fun m c hc=>by
  rcases hown m c hc with ⟨rfl,h | h⟩ | ⟨_,_,h⟩
  ·exact ⟨m,h⟩
  ·exact ⟨q,h⟩
  ·exact ⟨m,h⟩
 have hbo:∀ m t' r' C' g' te',η2 m=.bun t' r' C' g' te'->∃ r2 C2 g2 te2,η m=.bun t' r2 C2 g2 te2:=fun m t' r' C' g' te' hm=>by
  by_cases h1:m=n
  ·subst h1; rw [hηn] at hm; cases hm; exact ⟨_,_,_,_,hn⟩
  ·by_cases h2:m=q
   ·subst h2; rw [hηq] at hm; cases hm
   ·rw [hηo m h1 h2] at hm; exact ⟨_,_,_,_,hm⟩
 have two:∀ m b,η2 m=b->b ≠ .gone->(∀ t r C g te,b ≠ .bun t r C g te)->η m=b:=fun m b hm h1 h2=>by
  have hmn:m ≠ n:=fun h=>by rw [h,hηn] at hm; exact h2 _ _ _ _ _ hm.symm
  have hmq:m ≠ q:=fun h=>by rw [h,hηq] at hm; exact h1 hm.symm
  rw [<- hηo m hmn hmq]; exact hm
 refine ⟨R',⟨e.base,fun m cs t' hm=>?_,fun m m' c h1 h2=>?_,fun m s ok g' hm=>?_,fun m hm=>?_,fun m st pd t' k ps as bd hm=>?_,fun m L' g' s t' hm=>?_,fun m hm L'=>?_,fun m ks vk es hm=>?_,fun m K' r' C' g' t' te' hm=>?_,fun m t' r' C' g' te' hm=>⟨?_,fun m2 r2 C2 g2 te2 hm2=>?_⟩,fun c ys hc=>?_⟩,
  ⟨fun m hm=>?_,fun m _=>rfl,rfl,rfl,hle.vec,fun m L' v h1 h2=>(by rw [show R'.vec m L'=R.vec m L' from rfl,h1] at h2; cases h2),fun m L' hm=>?_,fun m c hc=>.inl (hold m c hc),Nat.le_refl _,fun _ _ _=>rfl,rfl,rfl,rfl,hle.frz,fun b ys hb=>.inl (by rw [<- hfb]; exact hb),⟨fun t' j ys hy=>?_,hbo⟩⟩,fun x hx=>?_⟩
 ·have hm':η m=η2 m:=(two m _ rfl (fun h=>by rw [h] at hm; simp at hm) (fun t r C g te h=>by rw [h] at hm; simp at hm))
  rw [<- hm'] at hm
  obtain ⟨b,ys,g1,g2,g3,g4⟩:=e.ownC m cs t' hm
  exact ⟨b,ys,g1,g2,g3.mono hle,g4⟩
 ·rcases hown m c h1 with ⟨rfl,h1 | h1⟩ | ⟨a1,a2,h1⟩ <;> rcases hown m' c h2 with ⟨rfl,h2 | h2⟩ | ⟨c1,c2,h2⟩
  ·rfl
  ·rfl
  ·exact e.inj _ _ _ h1 h2
  ·rfl
  ·rfl
  ·exact (c2 (e.inj _ _ _ h2 h1)).elim
  ·exact e.inj _ _ _ h1 h2
  ·exact (a2 (e.inj _ _ _ h1 h2)).elim
  ·exact e.inj _ _ _ h1 h2
 ·have hm:=two m _ hm (by simp) (by simp)
  obtain ⟨h1,h2⟩:=e.arr m s ok g' hm
  refine ⟨h1,fun ix i hi=>?_⟩
  obtain ⟨h3,h4,h5,ys,h6,h7,h8⟩:=h2 ix i hi
  exact ⟨h3,h4,h5,ys,h6.mono hle.no,h7,h8⟩
 ·exact e.fresh m (two m _ hm (by simp) (by simp))
 ·obtain ⟨b,ro,g1,g2,g3,g4⟩:=e.lp m st pd t' k ps as bd (two m _ hm (by simp) (by simp))
  exact ⟨b,ro,g1,g2,g3,g4.mono hle⟩
 ·exact (e.vec m L' g' s t' (two m _ hm (by simp) (by simp))).frame rfl hle.no (fun _ _=>rfl)
 ·exact e.fvec m (two m _ hm (by simp) (by simp)) L'
 ·exact (e.map m ks vk es (two m _ hm (by simp) (by simp))).frame rfl (fun _ _=>rfl)
 ·exact (e.mat m K' r' C' g' t' te' (two m _ hm (by simp) (by simp))).frame rfl (fun _ _=>rfl)
 ·by_cases hmn:m=n
  ·subst hmn
   rw [hηn] at hm
   cases hm
   refine ⟨fun i hi=>?_,fun i j us vs u u' b hi hj h1 h2 h3 h4 h5 h6=>?_,fun i hi=>by rw [hfo t i (fun h=>by omega)]; exact k3 i (by omega)⟩
   ·by_cases hir:i=r
    ·subst hir
     refine ⟨[v],v,xs,hfr,rfl,y2,fun k hk=>?_⟩
     obtain ⟨z1,_⟩:=y3 k hk
     rw [hf k hk,Nat.mul_one] at z1
     have z2:rowM g i F i k=F k:=by unfold rowM; rw [Nat.beq_refl]; rfl
     rw [z2]
     obtain ⟨y,ys,q1,q2,q3⟩:=z1
     have q1:y=.int .i64 (F k):=q1
     have q4:((xs.drop k).take 1)[0]? = some y:=by rw [q3]; rfl
     rw [List.getElem?_take,if_pos (by omega),List.getElem?_drop,Nat.add_zero] at q4
     rw [q4,q1]
    ·obtain ⟨ys,u,us,q1,q2,q3,q4⟩:=k1 i (by omega)
     refine ⟨ys,u,us,by rw [hfo t i (fun h=>hir h.2)]; exact q1,q2,q3,fun k hk=>?_⟩
     unfold rowM
     rw [beq_f hir]
     exact q4 k hk
   ·have cross:∀ i us u,i<r->R.frz (.reg t i)=some us->us[0]? = some u->u.ownBlock=some b->v.ownBlock=some b->False:=fun i us u hi h1 h3 h5 h6=>
     hqn (e.inj q m b (hownq b h6) (by rw [hn]; exact ⟨i,us,u,hi,h1,h3,h5⟩))
    by_cases hir:i=r
    ·by_cases hjr:j=r
     ·omega
     ·subst hir
      rw [hfr] at h1; cases h1; cases h3
      rw [hfo t j (fun h=>hjr h.2)] at h2
      exact (cross j vs u' (by omega) h2 h4 h6 h5).elim
    ·rw [hfo t i (fun h=>hir h.2)] at h1
     by_cases hjr:j=r
     ·subst hjr
      rw [hfr] at h2; cases h2; cases h4
      exact (cross i us u (by omega) h1 h3 h5 h6).elim
     ·rw [hfo t j (fun h=>hjr h.2)] at h2
      exact k2 i j us vs u u' b (by omega) (by omega) h1 h2 h3 h4 h5 h6
  ·have hmq:m ≠ q:=fun h=>by rw [h,hηq] at hm; cases hm
   rw [hηo m hmn hmq] at hm
   refine (e.bun m _ _ _ _ _ hm).1.frame (n:=m) (fun j=>hfo t' j (fun h=>hmn ?_)) (fun _ _=>rfl)
   obtain ⟨rfl,_⟩:=h
   exact k4 m _ _ _ _ hm
 ·obtain ⟨_,_,_,_,q1⟩:=hbo m _ _ _ _ _ hm
  obtain ⟨_,_,_,_,q2⟩:=hbo m2 _ _ _ _ _ hm2
  exact (e.bun m _ _ _ _ _ q1).2 m2 _ _ _ _ q2
 ·rw [hfb] at hc
  obtain ⟨h1,h2,h3⟩:=e.frz c ys hc
  refine ⟨h1,fun m hm=>?_,h3⟩
  obtain ⟨m',hm'⟩:=hold m c hm
  exact h2 m' hm'
 ·by_cases hmn:m=n
  ·rw [hmn,hηn]; simp
  ·by_cases hmq:m=q
   ·rw [hmq,hηq]; simp
   ·rw [hηo m hmn hmq]; exact hm
 ·have:=two m _ rfl (fun h=>by rw [h] at hm; cases hm) (fun t r C g te h=>by rw [h] at hm; cases hm)
  rw [<- this] at hm
  exact .inr ⟨L',hm,Nat.le_refl _⟩
 ·by_cases hk:t'=t/\j=r
  ·obtain ⟨rfl,rfl⟩:=hk
   exact .inr ⟨n,_,_,_,_,hn⟩
  ·rw [hfo t' j hk] at hy; exact .inl hy
 ·obtain ⟨hx1,hx2⟩:=hx
  rw [y1] at hx1
  cases hx1
  exact ⟨[v],hfr,rfl,hx2⟩
section
variable {P:Program}
theorem calls_bunrow {f:FuncId} {args:List VV} {h h2:VH} {n q t r C:Nat} {g:Nat->Nat->Int} {F:Nat->Int} {fl:Nat->List VV} {te:TypeId} (hs:CallsV P f args h (.ret (.sl q C)) h2) (hn:h2.at n=.bun t r C g te) (hq:h2.at q=.vec C fl 1 te) (hf:∀ k,k<C->fl k=[.int .i64 (F k)]) :
  CallsV P f args h (.ret (.hs t r C)) ((h2.put q .gone).put n (.bun t (r+1) C (rowM g r F) te)):=by
 have hqn:n ≠ q:=fun h=>by rw [h,hq] at hn; cases hn
 have hat:((h2.put q .gone).put n (.bun t (r+1) C (rowM g r F) te)).at=upd (upd h2.at q .gone) n (.bun t (r+1) C (rowM g r F) te):=by
  have g1:=VH.at_put h2 q .gone (by rw [hq]; simp)
  have g2:=VH.at_put (h2.put q .gone) n (.bun t (r+1) C (rowM g r F) te) (by rw [g1]; unfold upd; rw [if_neg hqn,hn]; simp)
  rw [g1] at g2
  exact g2
 intro B R w xs em hx
 refine (hs B R w xs em hx).mono ?_
 rintro e w' ⟨R1,n1,e1,x,hx1,he⟩
 obtain ⟨R',e2,n2,hv⟩:=bun_row e1 hn hq hf
 rw [<- hat] at e2 n2
 exact ⟨R',n1.trans n2,e2,x,hv x hx1,he⟩
theorem calls_bun {f:FuncId} {args:List VV} {h hm':VH} {r0:VRes} {m t r r' C C':Nat} {g g':Nat->Nat->Int} {te te':TypeId} (hs:CallsV P f args ⟨1,[(0,.bun t r C g te)]⟩ r0 hm') (h0:hm'.at 0=.bun t r' C' g' te') (hm:h.at m=.bun t r C g te)
  (ha:belL 0 args=true) (hr:r0.bel 0=true):CallsV P f args h r0 (h.put m (.bun t r' C' g' te')):=by
 intro B R w xs em hx
 let R0:Rn:=⟨fun _=>none,R.arr,R.str,fun _ _=>none,R.frz⟩
 have hat0:(VH.mk 1 [(0,VB.bun t r C g te)]).at 0=.bun t r C g te:=rfl
 have hat1:∀ n,n ≠ 0->(VH.mk 1 [(0,VB.bun t r C g te)]).at n=.free:=fun n hn=>at_ge (by show ¬ n<1; omega)
 have hag0:Agree 0 R R0:=⟨fun n hn=>absurd hn (Nat.not_lt_zero n),rfl,rfl,fun n hn=>absurd hn (Nat.not_lt_zero n),fun _ _ h=>h⟩
 have how0:∀ n b,R0.ow n ((VH.mk 1 [(0,VB.bun t r C g te)]).at n) b->n=0/\R.ow m (h.at m) b:=fun n b hb=>by
  by_cases hn:n=0
  ·subst hn
   rw [hm]
   exact ⟨rfl,hb⟩
  ·rw [hat1 n hn] at hb
   cases hb
 have only:∀ n b,(VH.mk 1 [(0,VB.bun t r C g te)]).at n=b->(∀ t r C g te,b ≠ .bun t r C g te)->b=.free:=fun n b hn hb=>by
  by_cases h1:n=0
  ·subst h1; rw [hat0] at hn; exact (hb _ _ _ _ _ hn.symm).elim
  ·rw [hat1 n h1] at hn; exact hn.symm
 have hb0:∀ n t1 r1 C1 g1 te1,(VH.mk 1 [(0,VB.bun t r C g te)]).at n=.bun t1 r1 C1 g1 te1->n=0/\VB.bun t r C g te=.bun t1 r1 C1 g1 te1:=fun n t1 r1 C1 g1 te1 hn=>by
  by_cases h1:n=0
  ·subst h1; rw [hat0] at hn; exact ⟨rfl,hn⟩
  ·rw [hat1 n h1] at hn; cases hn
 have e0:Emb B R0 (VH.mk 1 [(0,VB.bun t r C g te)]).at w:=by
  refine ⟨em.base,fun n cs t hn=>?_,fun n k b g1 g2=>by rw [(how0 n b g1).1,(how0 k b g2).1],fun n s ok g hn=>?_,fun n hn=>rfl,fun n st pd t m ps as bd hn=>?_,fun n L g s t hn=>?_,fun n hn L=>rfl,fun n ks vk es hn=>?_,fun n K r C g t te hn=>?_,fun n t1 r1 C1 g1 te1 hn=>?_,fun b xs hb'=>⟨(em.frz b xs hb').1,fun n hn=>(em.frz b xs hb').2.1 _ (how0 n b hn).2,(em.frz b xs hb').2.2⟩⟩
  ·have:=only n _ rfl (fun t r C g te h=>by rw [h] at hn; simp at hn)
   rw [this] at hn; simp at hn
  ·cases only n _ hn (by simp)
  ·cases only n _ hn (by simp)
  ·cases only n _ hn (by simp)
  ·cases only n _ hn (by simp)
  ·cases only n _ hn (by simp)
  ·obtain ⟨rfl,h2⟩:=hb0 n _ _ _ _ _ hn
   cases h2
   exact ⟨(em.bun m _ _ _ _ _ hm).1.frame (n:=m) (fun _=>rfl) (fun _ _=>rfl),fun k _ _ _ _ hk=>(hb0 k _ _ _ _ _ hk).1⟩
 refine (hs B R0 w xs e0 (bel_L hag0 args xs ha hx)).mono ?_
 rintro e w' ⟨R1,n1,e1,x⟩
 let Rf:Rn:=⟨R.blk,R.arr,R.str,R.vec,R1.frz⟩
 have hag1:Agree 0 R1 Rf:=⟨fun n hn=>absurd hn (Nat.not_lt_zero n),n1.arr.symm,n1.str.symm,fun n hn=>absurd hn (Nat.not_lt_zero n),fun _ _ h=>h⟩
 have hle:R.le Rf:=⟨fun _ _ h=>h,rfl,rfl,fun _ _ _ h=>h,n1.fmono⟩
 have hput:(h.put m (.bun t r' C' g' te')).at=upd h.at m (.bun t r' C' g' te'):=VH.at_put h m _ (by rw [hm]; simp)
 have hpm:(h.put m (.bun t r' C' g' te')).at m=.bun t r' C' g' te':=by rw [hput]; simp [upd]
 have hpn:∀ n,n ≠ m->(h.put m (.bun t r' C' g' te')).at n=h.at n:=fun n hn=>by rw [hput]; simp [upd,hn]
 have hown:∀ n,Rf.ow n (h.at n)=R.ow n (h.at n):=fun n=>ow_le (R':=Rf) em (fun _ _ _ h=>n1.fmono _ _ h) rfl rfl
 have hom:∀ b,Rf.ow m (.bun t r' C' g' te') b->R1.ow 0 (hm'.at 0) b:=fun b hb=>by
  rw [h0]; exact hb
 have how:∀ n b,Rf.ow n ((h.put m (.bun t r' C' g' te')).at n) b->R.ow n (h.at n) b ∨ w.heap.size<=b:=fun n b hb=>by
  by_cases hn:n=m
  ·subst hn
   rw [hpm] at hb
   rcases n1.own 0 b (hom b hb) with ⟨q,k⟩ | k
   ·exact .inl (how0 q b k).2
   ·exact .inr k
  ·rw [hpn n hn,hown n] at hb
   exact .inl hb
 have hframe:∀ n,n ≠ m->∀ b,R.ow n (h.at n) b->w'.heap[b]? = w.heap[b]?:=fun n hn b hb=>
  n1.frame b (em.lt hb) (fun k hk=>hn (em.inj _ _ b hb (how0 k b hk).2))
 have other:∀ n b,(h.put m (.bun t r' C' g' te')).at n=b->(∀ t r C g te,b ≠ .bun t r C g te)->n ≠ m/\h.at n=b:=fun n b hn hb=>by
  have h1:n ≠ m:=fun h1=>by subst h1; rw [hpm] at hn; exact hb _ _ _ _ _ hn.symm
  exact ⟨h1,by rw [<- hpn n h1]; exact hn⟩
 have hbx:=bun_mix (R':=Rf) (η':=(h.put m (.bun t r' C' g' te')).at) em (fun n t r C g te hn=>(e1.bun n t r C g te hn).1) n1.reg (fun _ _=>rfl) (fun _ _ _ h=>n1.fmono _ _ h) (fun _ _=>rfl) (fun k t1 r1 C1 g1 te1 hk=>by
  obtain ⟨_,h2⟩:=hb0 k _ _ _ _ _ hk
  cases h2
  exact ⟨m,_,_,_,_,hm⟩) (fun n t1 r1 C1 g1 te1 hq=>by
  by_cases hn:n=m
  ·subst hn
   rw [hpm] at hq
   cases hq
   exact .inl ⟨0,h0,fun _ _ _ _ _=>⟨_,_,_,_,hm⟩⟩
  ·rw [hpn n hn] at hq
   refine .inr ⟨hq,fun k r2 C2 g2 te2 hk=>?_,fun b hb'=>hframe n hn b hb'⟩
   obtain ⟨_,h2⟩:=hb0 k _ _ _ _ _ hk
   cases h2
   exact ⟨m,_,_,_,_,Ne.symm hn,hm⟩)
 refine ⟨Rf,⟨fun n hq=>?_,fun n hn=>rfl,rfl,rfl,hle.vec,fun n L v g1 g2=>(by rw [show Rf.vec n L=R.vec n L from rfl,g1] at g2; cases g2),fun n L hq=>?_,fun n b hb=>(how n b hb).imp (fun h=>⟨n,h⟩) id,n1.size,fun b hb hn=>n1.frame b hb (fun k hk=>hn _ (how0 k b hk).2),n1.os,n1.tape,n1.output,n1.fmono,fun b xs hb'=>(n1.fnew b xs hb').imp id (fun h=>h.imp (fun ⟨n,hn⟩=>⟨m,(how0 n b hn).2⟩) id),hbx.2⟩,
  ⟨Nat.le_trans em.base n1.size,fun n cs t hq=>?_,fun n k b g1 g2=>?_,fun n s ok g hq=>?_,fun n hq=>em.fresh n (other n _ hq (by simp)).2,fun n st pd t q ps as bd hq=>?_,fun n L g s t hq=>?_,fun n hq L=>em.fvec n (other n _ hq (by simp)).2 L,fun n ks vk es hq=>?_,fun n K r C g t te hq=>?_,hbx.1,fun b xs hb'=>⟨(e1.frz b xs hb').1,fun n hn=>?_,(e1.frz b xs hb').2.2⟩⟩,res_bel hag1 hr x⟩
 ·by_cases hn:n=m
  ·subst hn; rw [hpm]; simp
  ·rw [hpn n hn]; exact hq
 ·by_cases hn:n=m
  ·subst hn; rw [hpm] at hq; cases hq
  ·rw [hpn n hn] at hq; exact .inr ⟨L,hq,Nat.le_refl _⟩
 ·obtain ⟨h1,h2⟩:=other n _ rfl (fun t r C g te h=>by rw [h] at hq; simp at hq)
  rw [<- h2] at hq
  obtain ⟨b,ys,g1,g2,g3,g4⟩:=em.ownC n cs t hq
  exact ⟨b,ys,g1,g2,g3.mono hle,by rw [hframe n h1 b (by rw [ow_cs hq]; exact g1)]; exact g4⟩
 ·by_cases hn:n=m <;> by_cases hk:k=m
  ·rw [hn,hk]
  ·rw [hpn k hk,hown k] at g2
   subst hn
   rcases how n b g1 with k1 | k1
   ·exact em.inj n k b k1 g2
   ·have:=em.lt g2; omega
  ·rw [hpn n hn,hown n] at g1
   subst hk
   rcases how k b g2 with k1 | k1
   ·exact em.inj n k b g1 k1
   ·have:=em.lt g1; omega
  ·rw [hpn n hn,hown n] at g1
   rw [hpn k hk,hown k] at g2
   exact em.inj n k b g1 g2
 ·obtain ⟨h1,h2⟩:=other n _ hq (by simp)
  obtain ⟨g1,g2⟩:=em.arr n s ok g h2
  refine ⟨g1,fun ix i hi=>?_⟩
  obtain ⟨g3,g4,g5,ys,g6,g7,g8⟩:=g2 ix i hi
  refine ⟨g3,g4,g5,ys,g6.mono hle.no,g7,fun q y hq=>?_⟩
  show w'.cell? ((R.arr n ix).add (i.toNat*s+q))=some y
  have hblk2:((R.arr n ix).add (i.toNat*s+q)).block=(R.arr n ix).block:=by unfold Addr.add; split <;> rfl
  rw [cell_same (w:=w)]
  ·exact g8 q y hq
  ·rw [hblk2]
   refine n1.frame _ (Nat.lt_of_lt_of_le g4 em.base) (fun k hbm=>?_)
   have:=(em.own_lt (how0 k _ hbm).2).1
   omega
 ·obtain ⟨h1,h2⟩:=other n _ hq (by simp)
  obtain ⟨b,ro,g1,g2,g3,g4⟩:=em.lp n st pd t q ps as bd h2
  exact ⟨b,ro,g1,g2,by rw [hframe n h1 b (by rw [h2]; exact g1)]; exact g3,g4.mono hle⟩
 ·obtain ⟨h1,h2⟩:=other n _ hq (by simp)
  exact (em.vec n L g s t h2).frame rfl hle.no (fun b hb'=>hframe n h1 b (by rw [h2]; exact hb'))
 ·obtain ⟨h1,h2⟩:=other n _ hq (by simp)
  exact (em.map n ks vk es h2).frame rfl (fun b hb'=>hframe n h1 b (by rw [h2]; exact hb'))
 ·obtain ⟨h1,h2⟩:=other n _ hq (by simp)
  exact (em.mat n K r C g t te h2).frame rfl (fun b hb'=>hframe n h1 b (by rw [h2]; exact hb'))
 ·by_cases hnm:n=m
  ·subst hnm
   rw [hpm] at hn
   exact (e1.frz b xs hb').2.1 0 (hom b hn)
  ·rw [hpn n hnm,hown n] at hn
   rcases n1.fnew b xs hb' with k1 | ⟨k,k1⟩ | k1
   ·exact (em.frz b xs k1).2.1 n hn
   ·exact hnm (em.inj _ _ b hn (how0 k b k1).2)
   ·have:=em.lt hn; omega
theorem row_bun {f:FuncId} {args:List VV} {W:World} {xs:List Value} {h':VH} {t C:Nat} {g:Nat->Nat->Int} {te:TypeId} (hs:CallsV P f args ⟨1,[(0,.bun t 0 C g te)]⟩ (.ret (.bool true)) h') (ha:VRelL (dataR W) args xs) :
  Calls P f xs.toArray W fun e W'=>e=.returned (.bool true)/\Below W.heap.size W W':=by
 have hat:∀ n,(VH.mk 1 [(0,VB.bun t 0 C g te)]).at n=.bun t 0 C g te/\n=0 ∨ (VH.mk 1 [(0,VB.bun t 0 C g te)]).at n=.free:=fun n=>by
  by_cases hn:n=0
  ·subst hn; exact .inl ⟨rfl,rfl⟩
  ·exact .inr (at_ge (by show ¬ n<1; omega))
 have how:∀ n b,¬ (dataR W).ow n ((VH.mk 1 [(0,VB.bun t 0 C g te)]).at n) b:=fun n b hb=>by
  rcases hat n with ⟨h1,_⟩ | h1
  ·rw [h1] at hb
   obtain ⟨j,_,_,hj,_⟩:=hb
   exact absurd hj (Nat.not_lt_zero j)
  ·rw [h1] at hb; cases hb
 have only:∀ n b,(VH.mk 1 [(0,VB.bun t 0 C g te)]).at n=b->(∀ t r C g te,b ≠ .bun t r C g te)->b=.free:=fun n b hn hb=>by
  rcases hat n with ⟨h1,_⟩ | h1
  ·rw [h1] at hn; exact (hb _ _ _ _ _ hn.symm).elim
  ·rw [h1] at hn; exact hn.symm
 have em:Emb W.heap.size (dataR W) (VH.mk 1 [(0,VB.bun t 0 C g te)]).at W:=by
  refine ⟨Nat.le_refl _,fun n cs t hn=>?_,fun n k b g1 g2=>(how n b g1).elim,fun n s ok g hn=>?_,fun n hn=>rfl,fun n st pd t m ps as bd hn=>?_,fun n L g s t hn=>?_,fun n hn L=>rfl,fun n ks vk es hn=>?_,fun n K r C g t te hn=>?_,fun n t1 r1 C1 g1 te1 hn=>?_,fun b xs hb'=>?_⟩
  ·have:=only n _ rfl (fun t r C g te h=>by rw [h] at hn; simp at hn)
   rw [this] at hn; simp at hn
  ·cases only n _ hn (by simp)
  ·cases only n _ hn (by simp)
  ·cases only n _ hn (by simp)
  ·cases only n _ hn (by simp)
  ·cases only n _ hn (by simp)
  ·rcases hat n with ⟨h1,rfl⟩ | h1
   ·rw [h1] at hn
    cases hn
    exact ⟨⟨fun i hi=>absurd hi (Nat.not_lt_zero i),fun i _ _ _ _ _ _ hi=>absurd hi (Nat.not_lt_zero i),fun _ _=>rfl⟩,fun m _ _ _ _ hm=>by
     rcases hat m with ⟨_,h2⟩ | h2
     ·exact h2
     ·rw [h2] at hm; cases hm⟩
   ·rw [h1] at hn; cases hn
  ·have hb':Wfr W b=some xs:=hb'
   exact ⟨(wfr_ok hb').1,fun n=>how n b,(wfr_ok hb').2⟩
 exact calls_row (R:=dataR W) hs em ha how
end
end Go.Sx
