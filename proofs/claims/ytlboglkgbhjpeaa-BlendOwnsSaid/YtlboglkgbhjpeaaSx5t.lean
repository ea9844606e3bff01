/- Data that nobody changes. -/
import Derived.Test.YtlboglkgbhjpeaaSx5m
namespace Go.Sx
open Go
def Rn.addF (R:Rn) (b:Nat) (xs:List Value):Rn:={ R with frz:=fun c=>if c=b then some xs else R.frz c }
theorem ow_addF {R:Rn} {b n:Nat} {xs:List Value} (x:VB):(R.addF b xs).ow n x=R.ow n x:=by cases x <;> rfl
theorem le_addF {R:Rn} {b:Nat} {xs:List Value} (h:∀ ys,R.frz b ≠ some ys):R.le (R.addF b xs):=
 ⟨fun _ _ h=>h,rfl,rfl,fun _ _ _ h=>h,fun c ys hc=>by
  simp only [Rn.addF]
  by_cases hcb:c=b
  ·subst hcb; exact (h ys hc).elim
  ·rw [if_neg hcb]; exact hc⟩
theorem emb_addF {B:Nat} {R:Rn} {η:Nat->VB} {w:World} (e:Emb B R η w) {b:Nat} {xs:List Value} (hb:b<w.heap.size) (hno:∀ n,¬ R.ow n (η n) b) (hc:∀ k x,xs[k]? = some x->w.cell? ⟨b,k,none⟩=some x) (hle:R.le (R.addF b xs)):Emb B (R.addF b xs) η w where
 base:=e.base
 ownC n cs t h:=by
  obtain ⟨b',ys,h1,h2,h3,h4⟩:=e.ownC n cs t h
  exact ⟨b',ys,h1,h2,h3.mono hle,h4⟩
 inj n m c h1 h2:=e.inj n m c (by rw [<- ow_addF]; exact h1) (by rw [<- ow_addF]; exact h2)
 arr n s ok g h:=by
  obtain ⟨h1,h2⟩:=e.arr n s ok g h
  refine ⟨h1,fun ix i hi=>?_⟩
  obtain ⟨g1,g2,g3,ys,g4,g5,g6⟩:=h2 ix i hi
  exact ⟨g1,g2,g3,ys,g4.mono hle.no,g5,g6⟩
 fresh:=e.fresh
 lp n st pd t m ps as bd h:=by
  obtain ⟨b',r,h1,h2,h3,h4⟩:=e.lp n st pd t m ps as bd h
  exact ⟨b',r,h1,h2,h3,h4.mono hle⟩
 vec n L g s t h:=(e.vec n L g s t h).frame rfl hle.no (fun _ _=>rfl)
 fvec:=e.fvec
 map n ks vk es h:=(e.map n ks vk es h).frame rfl (fun _ _=>rfl)
 mat n K r C g t te h:=(e.mat n K r C g t te h).frame rfl (fun _ _=>rfl)
 bun:=e.bunF (fun _ _ _ _ _ _ h=>h) (fun _ _=>rfl) (fun _ _ _ _ _ _ _ _ _=>rfl)
 frz c ys hcy:=by
  simp only [Rn.addF] at hcy
  split at hcy
  ·rename_i hcb
   cases hcy
   cases hcb
   exact ⟨hb,fun n=>by rw [ow_addF]; exact hno n,hc⟩
  ·obtain ⟨h1,h2,h3⟩:=e.frz c ys hcy
   exact ⟨h1,fun n=>by rw [ow_addF]; exact h2 n,h3⟩
theorem emb_gone {B:Nat} {R:Rn} {η:Nat->VB} {w:World} (e:Emb B R η w) (m:Nat):Emb B R (upd η m .gone) w:=
 e.step (Nat.le_refl _) ⟨fun _ _ h=>h,rfl,rfl,fun _ _ _ h=>h,fun _ _ h=>h⟩ (fun _ _=>rfl) (fun _ _=>rfl) (fun _ _ _=>rfl) (fun _ hb=>by cases hb) (by simp) (by simp) (by simp) (by simp) (by simp)
theorem emb_frz {B:Nat} {R:Rn} {η:Nat->VB} {w:World} (e:Emb B R η w) {m b:Nat} (ho:R.ow m (η m) b) {xs:List Value} (hc:∀ k x,xs[k]? = some x->w.cell? ⟨b,k,none⟩=some x) :
  R.le (R.addF b xs)/\Emb B (R.addF b xs) (upd η m .gone) w/\Nxt η R w (upd η m .gone) (R.addF b xs) w:=by
 have hle:R.le (R.addF b xs):=le_addF fun ys hy=>(e.frz b ys hy).2.1 m ho
 have hno:∀ n,¬ R.ow n (upd η m .gone n) b:=fun n hn=>by
  by_cases h:n=m
  ·subst h; simp [upd,Rn.ow] at hn
  ·simp only [upd,if_neg h] at hn
   exact h (e.inj n m b hn ho)
 refine ⟨hle,emb_addF (emb_gone e m) (e.lt ho) hno hc hle,⟨fun n hn=>?_,fun _ _=>rfl,rfl,rfl,fun _ _ _ h=>h,fun n L v h1 h2=>(by rw [show (R.addF b xs).vec n L=R.vec n L from rfl,h1] at h2; cases h2),fun n L hn=>?_,fun n c hc=>?_,Nat.le_refl _,fun _ _ _=>rfl,rfl,rfl,rfl,hle.frz,fun c ys hcy=>?_,RegN.same (fun _ _=>rfl) upd_nbun⟩⟩
 ·by_cases h:n=m
  ·subst h; simp [upd]
  ·simpa [upd,h] using hn
 ·by_cases h:n=m
  ·subst h; simp [upd] at hn
  ·simp only [upd,if_neg h] at hn
   exact .inr ⟨L,hn,Nat.le_refl _⟩
 ·rw [ow_addF] at hc
  by_cases h:n=m
  ·subst h; simp [upd,Rn.ow] at hc
  ·simp only [upd,if_neg h] at hc
   exact .inl ⟨n,hc⟩
 ·simp only [Rn.addF] at hcy
  split at hcy
  ·rename_i hcb
   cases hcb
   exact .inr (.inl ⟨m,ho⟩)
  ·exact .inl hcy
theorem nxt_gone {R:Rn} {η:Nat->VB} {w:World} (m:Nat):Nxt η R w (upd η m .gone) R w:=
 Nxt.step (Nat.le_refl _) ⟨fun _ _ h=>h,rfl,rfl,fun _ _ _ h=>h,fun _ _ h=>h⟩ (fun _ _=>rfl) (fun _ _=>rfl) (fun _ _ _=>rfl) (fun _ hb=>by cases hb) (by simp) (fun L v h1 h2=>by rw [h1] at h2; cases h2) (by simp) rfl rfl rfl
theorem emb_frzV {B:Nat} {R:Rn} {η:Nat->VB} {w:World} (e:Emb B R η w) {m L s:Nat} {g:Nat->List VV} {t:TypeId} (hm:η m=.vec L g s t) :
  ∃ R',R.le R'/\Emb B R' (upd η m .gone) w/\Nxt η R w (upd η m .gone) R' w/\∀ x,VRel R (.sl m L) x->VRel R' (.tl L s g) x:=by
 obtain ⟨v,xs,h1,h2,h3⟩:=(e.vec m L g s t hm).row
 cases hb:v.ownBlock with
 | none=>
  refine ⟨R,⟨fun _ _ h=>h,rfl,rfl,fun _ _ _ h=>h,fun _ _ h=>h⟩,emb_gone e m,nxt_gone m,fun x hx=>?_⟩
  obtain ⟨hx,_⟩:=hx
  rw [h1] at hx; cases hx
  rcases h2.2 with ⟨rfl,h0⟩ | ⟨b,cap,cur,rfl,_⟩
  ·subst h0
   exact ⟨none,0,rfl,⟨Nat.le_refl _,fun _=>rfl⟩,fun i hi=>by omega⟩
  ·simp [Value.ownBlock] at hb
 | some b=>
  have ho:R.ow m (η m) b:=by
   rw [hm]
   show (R.vec m L).bind Value.ownBlock=some b
   rw [h1]; exact hb
  obtain ⟨cur,cap,rfl,_,h4,h5,_,h6,h7⟩:=vec_own e hm h1 hb
  obtain ⟨hle,e',n'⟩:=emb_frz e ho (xs:=cur) (fun k x hx=>by simp [World.cell?,h4,hx])
  refine ⟨_,hle,e',n',fun x hx=>?_⟩
  obtain ⟨hx,_⟩:=hx
  rw [h1] at hx; cases hx
  refine ⟨_,_,rfl,⟨h5,fun h=>(by cases h)⟩,fun i hi=>⟨b,0,cur,rfl,by simp [Rn.addF],?_,(h7 i hi).2,?_⟩⟩
  ·have:i*s+s<=cap*s:=by rw [<- Nat.succ_mul]; exact Nat.mul_le_mul_right _ (by omega)
   omega
  ·rw [Nat.zero_add]
   exact (h7 i hi).1.mono hle.no
theorem emb_frzC {B:Nat} {R:Rn} {η:Nat->VB} {w:World} (e:Emb B R η w) {m:Nat} {cs:List VV} {t:TypeId} (hm:η m=.cells cs t) (hbel:belL 0 cs=true) :
  ∃ R',R.le R'/\Emb B R' (upd η m .gone) w/\Nxt η R w (upd η m .gone) R' w/\∀ x,VRel R (.ptr (.own m 0)) x->VRel R' (.tp cs) x:=by
 obtain ⟨b,xs,h1,_,h3,h4⟩:=e.own m cs t hm
 have ho:R.ow m (η m) b:=by rw [hm]; exact h1
 obtain ⟨hle,e',n'⟩:=emb_frz e ho (xs:=xs) (fun k x hx=>by simp [World.cell?,h4,hx])
 refine ⟨_,hle,e',n',fun x hx=>?_⟩
 obtain ⟨p,⟨b',hb',rfl⟩,rfl⟩:=hx
 rw [h1] at hb'; cases hb'
 refine ⟨b,0,xs,rfl,by simp [Rn.addF],?_⟩
 rw [List.drop_zero,h3.length,List.take_length]
 exact (bel0_noL cs xs hbel h3).mono hle.no
theorem set_same {α:Type} {xs:List α} {i:Nat} {x:α} (h:xs[i]? = some x):xs.set i x=xs:=by
 apply List.ext_getElem?
 intro j
 rw [List.getElem?_set]
 by_cases hij:i=j
 ·subst hij
  rw [if_pos rfl]
  split
  ·exact h.symm
  ·rename_i hl
   rw [List.getElem?_eq_none (by omega)] at h
   cases h
 ·rw [if_neg hij]
theorem emb_retell2 {B:Nat} {R R':Rn} {η η':Nat->VB} {w:World} (e:Emb B R η w) (e':Emb B R' η' w) (n1:Nxt η R w η' R' w) {m j:Nat} {cs:List VV} {t:TypeId} (hm:η m=.cells cs t) (hm':η' m=.cells cs t) {v v':VV} (hj:cs[j]? = some v) (h:∀ x,VRel R v x->VRel R' v' x) :
  Emb B R' (upd η' m (.cells (cs.set j v') t)) w/\Nxt η' R' w (upd η' m (.cells (cs.set j v') t)) R' w:=by
 have hle:R'.le R':=⟨fun _ _ h=>h,rfl,rfl,fun _ _ _ h=>h,fun _ _ h=>h⟩
 obtain ⟨b,xs,h1,h2,h3,h4⟩:=e.own m cs t hm
 have hb:R'.blk m=some b:=by rw [n1.old m (by rw [hm]; simp)]; exact h1
 have how:∀ c,R'.ow m (.cells (cs.set j v') t) c->R'.ow m (η' m) c ∨ w.heap.size<=c:=fun c hc=>.inl (by rw [hm']; exact hc)
 refine ⟨e'.step (Nat.le_refl _) hle (fun _ _=>rfl) (fun _ _=>rfl) (fun _ _ _=>rfl) how (by simp) (by simp) (fun cs' t' h'=>?_) (by simp) (by simp),
  Nxt.step (Nat.le_refl _) hle (fun _ _=>rfl) (fun _ _=>rfl) (fun _ _ _=>rfl) how (by simp) (fun L v h1 h2=>by rw [h1] at h2; cases h2) (by simp) rfl rfl rfl⟩
 cases h'
 obtain ⟨x,hx,hr⟩:=h3.get j v hj
 have:=(h3.mono (n1.le e)).set j v' x (h x hr)
 rw [set_same hx] at this
 exact ⟨b,xs,hb,h2,this,h4⟩
theorem bif_cases' {b:Bool} {X Y:Prop} (h:bif b then X else Y):(b=true/\X) ∨ (b=false/\Y):=by
 cases b
 ·exact .inr ⟨rfl,h⟩
 ·exact .inl ⟨rfl,h⟩
def Told (h h':VH):Prop:=∀ (B:Nat) (R:Rn) (w:World),Emb B R h.at w->∃ R',Nxt h.at R w h'.at R' w/\Emb B R' h'.at w
theorem Told.refl (h:VH):Told h h:=fun _ R _ e=>⟨R,Nxt.refl _ _ _ e.fresh,e⟩
theorem Told.trans {h h1 h2:VH} (a:Told h h1) (b:Told h1 h2):Told h h2:=fun B R w e=>by
 obtain ⟨R1,n1,e1⟩:=a B R w e
 obtain ⟨R2,n2,e2⟩:=b B R1 w e1
 exact ⟨R2,n1.trans n2,e2⟩
theorem lockP_trans {lock:Nat} {h h1 h2:VH} (a:LockP lock h h1) (b:LockP lock h1 h2):LockP lock h h2:=fun n hn hf=>by
 have h3:=a n hn hf
 rw [b n hn (by rw [h3]; exact hf),h3]
theorem at_two {nx m b:Nat} {bs:List (Nat × VB)} {x y:VB} (hm:(VH.mk nx bs).at m ≠ .free) (hb:(VH.mk nx bs).at b ≠ .free) (hbm:b ≠ m) :
  (VH.mk nx ((m,x)::(b,y)::bs)).at=upd (upd (VH.mk nx bs).at b y) m x:=by
 have h1:(VH.mk nx ((b,y)::bs)).at=upd (VH.mk nx bs).at b y:=VH.at_put ⟨nx,bs⟩ b y hb
 have h2:=VH.at_put ⟨nx,(b,y)::bs⟩ m x (by rw [h1]; simp [upd,hbm.symm,hm])
 rw [<- h1]
 exact h2
theorem frzC_sound {lock m j:Nat} {h:VH} {K:VH->Prop} (hK:frzC lock m j h K):∃ h',K h'/\LockP lock h h'/\Told h h':=by
 obtain ⟨nx,bs⟩:=h
 unfold frzC at hK
 split at hK
 ·rename_i cs t nx bs hm heq
  cases heq
  have hmf:(VH.mk nx bs).at m ≠ .free:=by rw [hm]; simp
  have same:K ⟨nx,bs⟩->∃ h',K h'/\LockP lock ⟨nx,bs⟩ h'/\Told ⟨nx,bs⟩ h':=fun h=>⟨_,h,lockP_refl _ _,Told.refl _⟩
  split at hK
  ·rename_i b L hj
   split at hK
   ·rename_i L' g s t' hb
    rcases bif_cases' hK with ⟨hc,hK⟩ | ⟨_,hK⟩
    ·simp only [Bool.and_eq_true,Bool.not_eq_true'] at hc
     obtain ⟨⟨⟨⟨c1,c2⟩,c3⟩,c4⟩,c5⟩:=hc
     have c1:=Nat.le_of_ble_eq_true c1
     have c2:=Nat.le_of_ble_eq_true c2
     have c3:=Nat.eq_of_beq_eq_true c3
     have c5:b ≠ m:=fun h=>by rw [beq_t h] at c5; cases c5
     subst c3
     have hbf:(VH.mk nx bs).at b ≠ .free:=by rw [hb]; simp
     rw [foL_eq] at hK
     have hat:=at_two (x:=.cells (cs.set j (.tl L' s g)) t) (y:=.gone) hmf hbf c5
     refine ⟨_,hK,fun n hn hf=>?_,fun B R w e=>?_⟩
     ·rw [hat]; simp [upd,show n ≠ m by omega,show n ≠ b by omega]
     ·obtain ⟨R',hle,e1,n1,hv⟩:=emb_frzV e hb
      have hm1:upd (VH.mk nx bs).at b .gone m=.cells cs t:=by simp [upd,c5.symm,hm]
      obtain ⟨e2,n2⟩:=emb_retell2 e e1 n1 hm hm1 hj hv
      exact ⟨R',by rw [hat]; exact n1.trans n2,by rw [hat]; exact e2⟩
    ·exact same hK
   ·exact same hK
  ·rename_i b hj
   split at hK
   ·rename_i cs' t' hb
    rcases bif_cases' hK with ⟨hc,hK⟩ | ⟨_,hK⟩
    ·simp only [Bool.and_eq_true,Bool.not_eq_true'] at hc
     obtain ⟨⟨⟨c1,c2⟩,c3⟩,c5⟩:=hc
     have c1:=Nat.le_of_ble_eq_true c1
     have c2:=Nat.le_of_ble_eq_true c2
     have c5:b ≠ m:=fun h=>by rw [beq_t h] at c5; cases c5
     have hbf:(VH.mk nx bs).at b ≠ .free:=by rw [hb]; simp
     rw [foL_eq] at hK
     have hat:=at_two (x:=.cells (cs.set j (.tp cs')) t) (y:=.gone) hmf hbf c5
     refine ⟨_,hK,fun n hn hf=>?_,fun B R w e=>?_⟩
     ·rw [hat]; simp [upd,show n ≠ m by omega,show n ≠ b by omega]
     ·obtain ⟨R',hle,e1,n1,hv⟩:=emb_frzC e hb c3
      have hm1:upd (VH.mk nx bs).at b .gone m=.cells cs t:=by simp [upd,c5.symm,hm]
      obtain ⟨e2,n2⟩:=emb_retell2 e e1 n1 hm hm1 hj hv
      exact ⟨R',by rw [hat]; exact n1.trans n2,by rw [hat]; exact e2⟩
    ·exact same hK
   ·exact same hK
  ·exact same hK
 ·exact ⟨_,hK,lockP_refl _ _,Told.refl _⟩
theorem frzR_sound {lock m:Nat}:∀ (n j:Nat) (h:VH) (K:VH->Prop),frzR lock m n j h K->∃ h',K h'/\LockP lock h h'/\Told h h'
 | 0,_,h,K,hK=>⟨h,hK,lockP_refl _ _,Told.refl _⟩
 | n+1,j,h,K,hK=>by
  obtain ⟨h1,hK,l1,t1⟩:=frzC_sound hK
  rw [foN_eq] at hK
  obtain ⟨h2,hK,l2,t2⟩:=frzR_sound n _ h1 K hK
  exact ⟨h2,hK,lockP_trans l1 l2,t1.trans t2⟩
theorem frzA_sound {lock:Nat} {args:List VV} {h:VH} {K:VH->Prop} (hK:frzA lock args h K):∃ h',K h'/\LockP lock h h'/\Told h h':=by
 unfold frzA at hK
 split at hK
 ·split at hK
  ·rcases bif_cases' hK with ⟨_,hK⟩ | ⟨_,hK⟩
   ·exact ⟨h,hK,lockP_refl _ _,Told.refl _⟩
   ·rw [foN_eq] at hK
    exact frzR_sound _ _ _ _ hK
  ·exact ⟨h,hK,lockP_refl _ _,Told.refl _⟩
 ·exact ⟨h,hK,lockP_refl _ _,Told.refl _⟩
theorem frzA_id {lock:Nat} {a x:VV} {h:VH} {K:VH->Prop} (hx:∀ m off k c,x=.slice (.own m off) k c->∀ cs t,h.at m=.cells cs t->belL 0 cs=true) (hK:frzA lock [a,x] h K):K h:=by
 unfold frzA at hK
 split at hK
 ·rename_i a' m off k c heq
  cases heq
  split at hK
  ·rename_i cs t hm
   rw [hx m off k c rfl cs t hm] at hK
   exact hK
  ·exact hK
 ·exact hK
section
variable {P:Program}
theorem Told.runV {op:Op} {t:Slots} {h h1 h':VH} {v:VV} (ht:Told h h1) (H:RunV P op t h1 v h'):RunV P op t h v h':=by
 intro o hop B R a w e hr
 obtain ⟨R1,n1,e1⟩:=ht B R w e
 obtain ⟨x,R',w',hx,n2,e2,hv⟩:=H o hop B R1 a w e1 (hr.mono (n1.le e))
 exact ⟨x,R',w',hx,n1.trans n2,e2,hv⟩
theorem tp_at {B:Nat} {R:Rn} {η:Nat->VB} {w:World} (e:Emb B R η w) {cs:List VV} {x:Value} (hx:VRel R (.tp cs) x) :
  ∃ b o ys,x=.pointer (some ⟨b,o,none⟩)/\VRelL R cs ys/\∀ k y,ys[k]? = some y->w.cell? ⟨b,o+k,none⟩=some y:=by
 obtain ⟨b,o,xs,rfl,h2,h3⟩:=hx
 refine ⟨b,o,_,rfl,h3.mono R.no_le,fun k y hy=>?_⟩
 rw [List.getElem?_take] at hy
 split at hy
 ·rw [List.getElem?_drop] at hy
  exact (e.frz b xs h2).2.2 _ _ hy
 ·cases hy
theorem run_loadT {ty:TypeId} {x:Operand} {t:Slots} {h:VH} {cs:List VV} {agg:Bool} {size:Nat} (hx:evO t x=.tp cs) (hty:tyI P ty=some (agg,size)) (hs:size<=cs.length) :
  (agg=true->RunP P (.load ty x) t h (.agg (cs.take size)))/\(agg=false->∀ v,cs[0]? = some v->RunP P (.load ty x) t h v):=by
 constructor
 ·rintro rfl
  intro o hop B R ac w e ht
  have hr:=evO_rel ht x
  rw [hx] at hr
  obtain ⟨b,off,ys,hxv,h1,h2⟩:=tp_at e hr
  obtain ⟨t1,t2⟩:=tyI_spec (w:=w) hty
  have hl:=h1.length
  have hc:=run_loadCells_list (P:=P) w ⟨b,off,none⟩ (ys.take size) (fun j v hj=>by
   rw [List.getElem?_take] at hj
   split at hj
   ·rw [add_lit]; exact h2 j v hj
   ·cases hj)
  have hlen:(ys.take size).length=size:=by rw [List.length_take]; omega
  rw [hlen] at hc
  refine ⟨.agg (ys.take size).toArray,?_,_,h1.take size,rfl⟩
  unfold execOp
  rw [hop]
  simp [Instr.loadAt,hxv,Instr.sureAddr,loadVar,t1,t2,hc]
 ·rintro rfl v hv
  intro o hop B R ac w e ht
  have hr:=evO_rel ht x
  rw [hx] at hr
  obtain ⟨b,off,ys,hxv,h1,h2⟩:=tp_at e hr
  obtain ⟨t1,t2⟩:=tyI_spec (w:=w) hty
  obtain ⟨y,hy,hvy⟩:=h1.get 0 v hv
  have h3:=h2 0 y hy
  rw [Nat.add_zero] at h3
  refine ⟨y,?_,hvy⟩
  unfold execOp
  rw [hop]
  simp [Instr.loadAt,hxv,Instr.sureAddr,loadVar,t1,h3]
theorem run_nilcT {x:Operand} {t:Slots} {h:VH} {cs:List VV} (hx:evO t x=.tp cs):RunP P (.nilCheck x) t h (.tp cs):=by
 intro o hop B R a w e ht
 have r:=evO_rel ht x
 rw [hx] at r
 refine ⟨a.eval x,?_,r⟩
 unfold execOp
 rw [hop]
 obtain ⟨_,_,_,hq,_⟩:=r
 simp [hq]
theorem run_fieldAddrT {s:TypeId} {x:Operand} {f:Nat} {t:Slots} {h:VH} {cs:List VV} {fs:Array Field} {fd:Field} {agg:Bool} {z:Nat} (hx:evO t x=.tp cs) (hu:P.underlying s=some (.struct fs)) (hf:fs.toList[f]? = some fd)
  (hz:tyI P fd.type=some (agg,z)) (h1:1<=z):RunP P (.fieldAddr s x f) t h (.tp (cs.drop fd.offset)):=by
 intro o hop B R ac w e ht
 have r:=evO_rel ht x
 rw [hx] at r
 obtain ⟨b,off,xs,hq,h2,h3⟩:=r
 refine ⟨.pointer (some ((⟨b,off,none⟩:Addr).add fd.offset)),?_,b,off+fd.offset,xs,by rw [add_lit],h2,?_⟩
 ·unfold execOp
  rw [hop]
  have hf':fs[f]? = some fd:=by simpa using hf
  have hz2:=(tyI_spec (w:=w) hz).2
  have:¬ z=0:=by omega
  simp [Instr.fieldAt,run_und hu,hf',hq,Instr.sureAddr,fieldPlace,hz2,this]
 ·have h4:=h3.drop fd.offset
  rw [List.drop_take,List.drop_drop] at h4
  rw [List.length_drop]
  exact h4
theorem run_idxT {ty e:TypeId} {x ix:Operand} {t:Slots} {h:VH} {L s:Nat} {g:Nat->List VV} {agg:Bool} {k:IntKind} {i:Int} (hx:evO t x=.tl L s g) (hi:evO t ix=.int k i) (hu:P.underlying ty=some (.slice e))
  (hs:tyI P e=some (agg,s)) (h1:0<=i/\i<(L:Int)):RunP P (.indexAddr ty x ix) t h (.tp (g i.toNat)):=by
 intro o hop B R ac w em ht
 have r:=evO_rel ht x
 have r2:=evO_rel ht ix
 rw [hx] at r
 rw [hi] at r2
 obtain ⟨p,cap,hq,hc,hg⟩:=r
 simp only [VRel] at r2
 obtain ⟨b,off,xs,rfl,g1,g2,g3,g4⟩:=hg i.toNat (by omega)
 refine ⟨.pointer (some ((⟨b,off,none⟩:Addr).add (i.toNat*s))),?_,b,off+i.toNat*s,xs,by rw [add_lit],g1,?_⟩
 ·unfold execOp
  rw [hop]
  simp [Instr.indexAt,r2,asIntOf,run_und hu,hq,h1,(tyI_spec (w:=w) hs).2]
 ·have hl:(g i.toNat).length=s:=by
   rw [g4.length,List.length_take,List.length_drop]
   omega
  rw [hl]
  exact g4
theorem run_idxTA {ty e:TypeId} {x ix:Operand} {t:Slots} {h:VH} {ns:List Int} {agg:Bool} {k:IntKind} {i:Int} {len:Nat} (hx:evO t x=.tp (ns.map (VV.int .i64))) (hi:evO t ix=.int k i) (hu:P.underlying ty=some (.array len e))
  (hs:tyI P e=some (agg,1)) (hl:ns.length=len) (h1:0<=i/\i<(len:Int)):RunP P (.indexAddr ty x ix) t h (.tp [.int .i64 (ns.getD i.toNat 0)]):=by
 intro o hop B R ac w em ht
 have r:=evO_rel ht x
 have r2:=evO_rel ht ix
 rw [hx] at r
 rw [hi] at r2
 obtain ⟨b,off,xs,hq,g1,g4⟩:=r
 simp only [VRel] at r2
 refine ⟨.pointer (some ((⟨b,off,none⟩:Addr).add (i.toNat*1))),?_,b,off+i.toNat*1,xs,by rw [add_lit],g1,?_⟩
 ·unfold execOp
  rw [hop]
  simp [Instr.indexAt,r2,asIntOf,run_und hu,hq,Instr.sureAddr,h1,(tyI_spec (w:=w) hs).2]
 ·have h5:=(g4.drop i.toNat).take 1
  rw [List.length_map,List.drop_take,List.take_take,List.drop_drop,<- List.map_drop,<- List.map_take] at h5
  have e1:(ns.drop i.toNat).take 1=[ns.getD i.toNat 0]:=by
   rw [List.drop_eq_getElem_cons (show i.toNat<ns.length by omega),List.take_succ_cons,List.take_zero,List.getD_eq_getElem?_getD,List.getElem?_eq_getElem (show i.toNat<ns.length by omega)]
   rfl
  rw [e1,show min 1 (ns.length - i.toNat)=1 by omega] at h5
  rw [Nat.mul_one]
  exact h5
theorem tl_nil {ty yt:TypeId} {x:Operand} {t:Slots} {h:VH} {L s:Nat} {g:Nat->List VV} {b:TypeId} (hx:evO t x=.tl L s g) (hL:1<=L) (hu:P.underlying ty=some (.slice b)) :
  RunP P (.binOp .eql ty x (.const (.slice none 0 0)) yt) t h (.bool false)/\RunP P (.binOp .neq ty x (.const (.slice none 0 0)) yt) t h (.bool true):=by
 have key:∀ (R:Rn) (ac:Act),TRel R t ac->∃ p c,ac.eval x=.slice (some p) L c:=by
  intro R ac ht
  have r:=evO_rel ht x
  rw [hx] at r
  obtain ⟨p,cap,hq,hc,hg⟩:=r
  obtain ⟨b,off,xs,rfl,_⟩:=hg 0 (by omega)
  exact ⟨_,_,hq⟩
 constructor
 ·refine run_bin fun B R ac w em ht=>?_
  obtain ⟨p,c,hq⟩:=key R ac ht
  have h1:=eq_sl_nil (P:=P) (w:=w) 9999 ty p L c b hu
  refine ⟨.bool false,?_,?_,rfl⟩
  ·rw [hq]; exact guard_pass (by simp) (by simp)
  ·rw [hq]; exact (bin_eql (.inr ⟨_,_,_,rfl⟩) (.inr ⟨_,_,_,rfl⟩) h1).1
 ·refine run_bin fun B R ac w em ht=>?_
  obtain ⟨p,c,hq⟩:=key R ac ht
  have h1:=eq_sl_nil (P:=P) (w:=w) 9999 ty p L c b hu
  refine ⟨.bool true,?_,?_,rfl⟩
  ·rw [hq]; exact guard_pass (by simp) (by simp)
  ·rw [hq]; exact (bin_eql (.inr ⟨_,_,_,rfl⟩) (.inr ⟨_,_,_,rfl⟩) h1).2
end
end Go.Sx
