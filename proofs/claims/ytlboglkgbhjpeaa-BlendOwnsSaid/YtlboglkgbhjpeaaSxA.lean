/- A region that draws its order: soundness. -/
import Derived.Test.YtlboglkgbhjpeaaSx9
namespace Go.Sx
open Go
def RegSem (P:Program) (ops:Array Oper) (n k:Nat) (τ0:Nat->VV) (η0:Nat->VB) (e:VEx) (t':Slots) (h':VH):Prop:=
 ∀ (F:Fence),WF P F->∀ (B:Nat) (ds:List Deferred) (R:Rn) (a:Act) (w:World) (listed:Array Bool),listed.size=ops.size->Cl ops listed->(∀ j,j<ops.size->(listed.getD j false=false ↔ k<=j)) ->
  Emb B R η0 w->TRelF R τ0 a->a.tmps.size=n->a.defers=ds->∀ (Q:Exit->Act->World->Prop),(∀ ex a' w',PostC false B ds n R η0 w e t' h' ex a' w'->Q ex a' w')->wpAnyIn F 0 P .any ops Q (ops.size - k) listed a w
section
variable {P:Program} {ops:Array Oper} {n:Nat}
theorem range_sorted {L:List (Nat × Rec)} {k c:Nat} (h:L.map (·.1)=List.range' k c):L.Pairwise (fun p q=>p.1<q.1):=by
 have h1:(L.map (·.1)).Pairwise (· < ·):=by rw [h]; exact List.pairwise_lt_range'
 exact List.pairwise_map.1 h1
theorem range_in {L:List (Nat × Rec)} {k c:Nat} (h:L.map (·.1)=List.range' k c) {p:Nat × Rec} (hp:p ∈ L):k<=p.1/\p.1<k+c:=by
 have:p.1 ∈ List.range' k c:=by rw [<- h]; exact List.mem_map.2 ⟨p,hp,rfl⟩
 simpa using this
theorem seg_close {ms:List (Nat × Nat)} (hm:MaskOK ops ms) (hback:∀ j o,ops[j]? = some o->∀ e ∈ o.after,Region.binds .any e=true->e.on<j) {k i:Nat} (hki:k<=i) (his:i<=ops.size)
  {L:List (Nat × Rec)} {τ0 τ:Nat->VV} {η0 η:Nat->VB} {e:VEx} {t':Slots} {h':VH} (hL:L.map (·.1)=List.range' k (i - k)) (hin:∀ p ∈ L,ops[p.1]? = some p.2.o/\(∀ d,p.2.o.dst=some d->d<n)) (hf:∀ p ∈ L,FactR P ops p.1 p.2)
  (hchk:chkAll ms (L.map rcOf).reverse=true) (hrun:TRun L τ0 η0 τ η) (later:∀ j,i<=j->j<ops.size->∀ q,k<=q->q<i->Reach ops j q) (hc:RegSem P ops n i τ η e t' h'):RegSem P ops n k τ0 η0 e t' h':=by
 intro F hF B ds R a w listed h1 h2 h3 he ht hn hds Q hQ
 have hlen:L.length=i - k:=by have:=congrArg List.length hL; simpa using this
 have hsort:=range_sorted hL
 have hind:=chkAll_spec hm (L:=L.reverse) (List.pairwise_reverse.2 hsort) (by rw [List.map_reverse]; exact hchk)
 rw [show ops.size - k=(i - k)+(ops.size - i) by omega]
 refine seg_run (n:=n) (k:=k) (m:=i) hF hback later (i - k) L listed τ0 η0 R a w hlen h1 h2 (fun j hj=>?_) hsort (fun p hp=>?_) hf (fun p hp q hq=>hind p (by simpa using hp) q (by simpa using hq)) hrun ht he hn hds ?_
 ·rw [h3 j hj,hL]
  simp
  omega
 ·have:=range_in hL hp
  exact ⟨this.1,by omega,(hin p hp).1,(hin p hp).2⟩
 ·intro listed' R' a' w' g1 g2 g3 g4 g5 g6 g7 g8
  exact hc F hF B ds R' a' w' listed' g1 g2 g3 g5 g6 g7 g8 Q (fun ex a'' w'' hp=>hQ ex a'' w'' (hp.of_next g4))
theorem reg_end {e:VEx} {t:Slots} {h:VH} (he:e=.normal):RegSem P ops n ops.size (look t) h.at e t h:=by
 subst he
 intro F hF B ds R a w listed h1 h2 h3 he ht hn hds Q hQ
 rw [Nat.sub_self]
 refine ⟨?_,hQ _ _ _ (post0 (Nxt.refl _ _ _ he.fresh) he ht hn hds rfl)⟩
 rw [List.eq_nil_iff_forall_not_mem]
 intro i hi
 obtain ⟨g1,o,ho,_⟩:=mem_ready.1 hi
 have hlt:=(Array.getElem?_eq_some_iff.1 ho).1
 have:=(h3 i hlt).1 (getD_both g1)
 omega
def plainApp (h:VH) (fp:List Nat) (op:Op) (t:Slots):Prop:=
 ∀ c a x,op=.call c->c.callee=.builtin .append->c.args.toList.map (evO t)=[a,x]->∀ m off k cc,x=.slice (.own m off) k cc->m ∈ fp/\∃ cs ty,h.at m=.cells cs ty/\belL 0 cs=true
theorem clsE_some {h:VH} {nx0 lock:Nat} {un:List Nat} {op:Op} {t:Slots} {K:Cls->List Nat->Prop} (hK:clsE h nx0 lock un op t K):∃ cl fp,K cl fp/\(∀ m,cl=.wr m->fp=[m]/\lock<=m)/\(cl=.new->fp=[])/\(∀ m,cl=.wrc m->lock<=m/\∃ l,fp=m::l/\∀ q ∈ l,q<m)/\(∀ m,cl=.wv m->appTo op t=some m/\lock<=m/\m ∈ fp/\plainApp h fp op t)/\(∀ m,cl=.wrq m->lock<=m/\m ∈ fp):=by
 unfold clsE at hK
 have q:∀ fp,K .quiet fp->∃ cl fp,K cl fp/\(∀ m,cl=.wr m->fp=[m]/\lock<=m)/\(cl=.new->fp=[])/\(∀ m,cl=.wrc m->lock<=m/\∃ l,fp=m::l/\∀ q ∈ l,q<m)/\(∀ m,cl=.wv m->appTo op t=some m/\lock<=m/\m ∈ fp/\plainApp h fp op t)/\(∀ m,cl=.wrq m->lock<=m/\m ∈ fp):=fun fp hk=>⟨_,fp,hk,(fun m hm=>by cases hm),(fun hm=>by cases hm),(fun m hm=>by cases hm),(fun m hm=>by cases hm),(fun m hm=>by cases hm)⟩
 have nq:K .new []->∃ cl fp,K cl fp/\(∀ m,cl=.wr m->fp=[m]/\lock<=m)/\(cl=.new->fp=[])/\(∀ m,cl=.wrc m->lock<=m/\∃ l,fp=m::l/\∀ q ∈ l,q<m)/\(∀ m,cl=.wv m->appTo op t=some m/\lock<=m/\m ∈ fp/\plainApp h fp op t)/\(∀ m,cl=.wrq m->lock<=m/\m ∈ fp):=fun hk=>⟨_,_,hk,(fun m hm=>by cases hm),(fun _=>rfl),(fun m hm=>by cases hm),(fun m hm=>by cases hm),(fun m hm=>by cases hm)⟩
 have wq:∀ n,(bif Nat.ble lock n then K (.wr n) [n] else False)->∃ cl fp,K cl fp/\(∀ m,cl=.wr m->fp=[m]/\lock<=m)/\(cl=.new->fp=[])/\(∀ m,cl=.wrc m->lock<=m/\∃ l,fp=m::l/\∀ q ∈ l,q<m)/\(∀ m,cl=.wv m->appTo op t=some m/\lock<=m/\m ∈ fp/\plainApp h fp op t)/\(∀ m,cl=.wrq m->lock<=m/\m ∈ fp):=fun n hk=>by
  obtain ⟨h1,h2⟩:=cond_f hk
  exact ⟨_,_,h2,(fun m hm=>by cases hm; exact ⟨rfl,Nat.le_of_ble_eq_true h1⟩),(fun hm=>by cases hm),(fun m hm=>by cases hm),(fun m hm=>by cases hm),(fun m hm=>by cases hm)⟩
 have fq:∀ n acc,fpE un n acc (fun l=>K .quiet l)->∃ cl fp,K cl fp/\(∀ m,cl=.wr m->fp=[m]/\lock<=m)/\(cl=.new->fp=[])/\(∀ m,cl=.wrc m->lock<=m/\∃ l,fp=m::l/\∀ q ∈ l,q<m)/\(∀ m,cl=.wv m->appTo op t=some m/\lock<=m/\m ∈ fp/\plainApp h fp op t)/\(∀ m,cl=.wrq m->lock<=m/\m ∈ fp):=fun n acc hk=>by
  obtain ⟨l,hl⟩:=fpE_some _ _ _ _ hk
  exact q _ hl
 split at hK
 ·split at hK
  ·exact q _ hK
  ·exact q _ hK
  ·exact q _ hK
  ·exact q _ hK
  ·exact q _ hK
  ·exact q _ hK
  ·exact hK.elim
 ·split at hK
  ·exact wq _ hK
  ·exact wq _ hK
  ·exact wq _ hK
  ·exact hK.elim
 ·split at hK
  ·exact q _ hK
  ·exact hK.elim
 ·split at hK
  ·exact wq _ hK
  ·exact hK.elim
 ·split at hK
  ·exact wq _ hK
  ·exact hK.elim
 ·exact nq hK
 ·exact nq hK
 ·exact nq hK
 ·exact nq hK
 ·split at hK
  ·exact q _ hK
  ·exact q _ hK
  ·exact q _ hK
  ·exact q _ hK
 ·split at hK
  ·exact q _ hK
  ·exact q _ hK
  ·exact q _ hK
 ·split at hK
  ·rename_i hcal
   split at hK
   ·rename_i a0 x0 hargs
    split at hK
    ·rename_i n0 hd
     obtain ⟨h1,h2⟩:=cond_f hK
     have ap:∀ c:Call,c.callee=.builtin .append->∀ n a x,c.args.toList.map (evO t)=[a,x]->dstN a=some n->appTo (.call c) t=some n:=by
      intro c h1 n a x h2 h3
      simp only [appTo,h1,h2]
      exact h3
     have key:∀ fp,K (.wv n0) fp->n0 ∈ fp->(∀ m off k cc,x0=.slice (.own m off) k cc->m ∈ fp/\∃ cs ty,h.at m=.cells cs ty/\belL 0 cs=true)->∃ cl fp,K cl fp/\(∀ m,cl=.wr m->fp=[m]/\lock<=m)/\(cl=.new->fp=[])/\(∀ m,cl=.wrc m->lock<=m/\∃ l,fp=m::l/\∀ q ∈ l,q<m)/\(∀ m,cl=.wv m->appTo (.call _) t=some m/\lock<=m/\m ∈ fp/\plainApp h fp (.call _) t)/\(∀ m,cl=.wrq m->lock<=m/\m ∈ fp):=fun fp hk hmem hpl=>
      ⟨_,fp,hk,(fun m hm=>by cases hm),(fun hm=>by cases hm),(fun m hm=>by cases hm),(fun m hm=>by cases hm; exact ⟨ap _ hcal _ _ _ hargs hd,Nat.le_of_ble_eq_true h1,hmem,fun c a x hop _ ha=>(by cases hop; rw [hargs] at ha; cases ha; exact hpl)⟩),(fun m hm=>by cases hm)⟩
     split at h2
     ·exact key _ h2 (by simp) (fun _ _ _ _ h=>by cases h)
     ·exact key _ h2 (by simp) (fun _ _ _ _ h=>by cases h)
     ·rename_i m0 off0 k0 c0
      split at h2
      ·rename_i cs0 ty0 hm0
       obtain ⟨hb0,h2⟩:=cond_f h2
       exact key _ h2 (by simp) (fun _ _ _ _ h=>by cases h; exact ⟨by simp,cs0,ty0,hm0,hb0⟩)
      ·exact h2.elim
     ·exact key _ h2 (by simp) (fun _ _ _ _ h=>by cases h)
     ·rename_i hn0 _
      exact key _ h2 (by simp) (fun m off k cc h=>(hn0 m off k cc h).elim)
    ·exact q _ hK
   ·exact q _ hK
  ·split at hK
   ·exact q _ hK
   ·exact q _ hK
  ·exact q _ hK
  ·split at hK
   ·rename_i m _ _ _
    rcases bif_cases hK with ⟨hb,hK⟩ | ⟨_,hK⟩
    ·obtain ⟨l,hl,hlt⟩:=fpE_lt un m m [] _ hK (Nat.le_refl m) (fun q hq=>by cases hq)
     exact ⟨_,_,hl,(fun m hm=>by cases hm),(fun hm=>by cases hm),(fun m' hm=>by cases hm; exact ⟨Nat.le_of_ble_eq_true hb,l,rfl,hlt⟩),(fun m hm=>by cases hm),(fun m hm=>by cases hm)⟩
    ·exact fq _ _ hK
   ·split at hK
    ·split at hK
     ·rename_i m _
      rcases bif_cases hK with ⟨hb,hK⟩ | ⟨_,hK⟩
      ·obtain ⟨l,hl⟩:=fpE_some _ _ _ _ hK
       obtain ⟨hm,hl⟩:=cond_f hl
       exact ⟨_,_,hl,(fun m hm=>by cases hm),(fun hm=>by cases hm),(fun m' hm=>by cases hm),(fun m hm=>by cases hm),(fun m' hm'=>by cases hm'; exact ⟨Nat.le_of_ble_eq_true hb,memN_iff.1 hm⟩)⟩
      ·exact fq _ _ hK
     ·exact fq _ _ hK
    ·rename_i m _ _ _
     rcases bif_cases hK with ⟨hb,hK⟩ | ⟨_,hK⟩
     ·obtain ⟨l,hl⟩:=fpE_some _ _ _ _ hK
      obtain ⟨hm,hl⟩:=cond_f hl
      exact ⟨_,_,hl,(fun m hm=>by cases hm),(fun hm=>by cases hm),(fun m' hm=>by cases hm),(fun m hm=>by cases hm),(fun m' hm'=>by cases hm'; exact ⟨Nat.le_of_ble_eq_true hb,memN_iff.1 hm⟩)⟩
     ·exact fq _ _ hK
    ·exact fq _ _ hK
  ·exact fq _ _ hK
 ·exact hK.elim
 ·exact hK.elim
 ·exact q _ hK
theorem keepP_spec {h h1:VH} {m:Nat}:∀ {l:List Nat},keepP h h1 m l->∀ n ∈ l,n ≠ m->h1.at n=h.at n
 | [],_,n,hn,_=>by cases hn
 | q::r,hk,n,hn,hne=>by
  simp only [keepP] at hk
  rcases bif_cases hk with ⟨hb,hk⟩ | ⟨hb,hk1,hk2⟩
  ·rcases List.mem_cons.1 hn with rfl | hn
   ·exact (hne (Nat.eq_of_beq_eq_true hb)).elim
   ·exact keepP_spec hk n hn hne
  ·rcases List.mem_cons.1 hn with rfl | hn
   ·exact hk1
   ·exact keepP_spec hk2 n hn hne
theorem opE_keep {call:CallT} {lock:Nat} {op:Op} {t:Slots} {h:VH} {K Kp:VV->VH->Prop} {m:Nat} (hK:opE P call lock op t h K Kp) (ha:appTo op t=some m) (hpl:∀ c a x,op=.call c->c.args.toList.map (evO t)=[a,x]->c.callee=.builtin .append->∀ m off k cc,x=.slice (.own m off) k cc->∀ cs ty,h.at m=.cells cs ty->belL 0 cs=true):∃ v h',K v h'/\OpV P op t h v h'/\∀ q,q ≠ m->h'.at q=h.at q:=by
 unfold appTo at ha
 split at ha
 ·rename_i c
  split at ha
  ·rename_i hc
   split at ha
   ·rename_i a x hargs
    simp only [opE,tellO,opE0,hc,foL_eq] at hK
    have hK:frzA lock (c.args.toList.map (evO t)) h (fun h=>appE P lock c.argTypes.toList (c.args.toList.map (evO t)) h K):=hK
    rw [hargs] at hK
    have hK:=frzA_id (hpl c a x rfl hargs hc) hK
    rw [<- hargs] at hK
    obtain ⟨v,h',hv,_,hr,hk⟩:=appE_sound hc hK
    exact ⟨v,h',hv,hr.opV (by simp),hk _ _ _ hargs ha⟩
   ·cases ha
  ·cases ha
 ·cases ha
theorem mrgT_fun {fl:Bool} {cl:Cls} (hcl:∀ m,cl ≠ .wv m) (K:VV->VH->Prop):(fun v h1=>mrgT fl cl v h1 K)=K:=by
 funext v h1
 cases cl with
 | wv m=>exact (hcl m rfl).elim
 | _=>rfl
theorem mrgT_sound {fl:Bool} {op:Op} {t:Slots} {h h0 h1:VH} {v:VV} {m:Nat} {K:VV->VH->Prop} (hK:mrgT fl (.wv m) v h1 K) (hop:OpV P op t h v h1) (hkp:∀ q,q ≠ m->h1.at q=h0.at q) :
  ∃ v' h1',K v' h1'/\OpV P op t h v' h1'/\∀ q,q ≠ m->h1'.at q=h0.at q:=by
 simp only [mrgT] at hK
 cases fl with
 | false=>exact ⟨v,h1,hK,hop,hkp⟩
 | true=>
  simp only [cond_true] at hK
  split at hK
  ·rename_i b L nx1 bs1
   obtain ⟨hb,hK⟩:=cond_f hK
   obtain rfl:b=m:=Nat.eq_of_beq_eq_true hb
   split at hK
   ·rename_i L' g s ty hv
    obtain ⟨hc,hK⟩:=cond_f hK
    simp only [Bool.and_eq_true] at hc
    obtain rfl:L'=L:=Nat.eq_of_beq_eq_true hc.1
    have hat:(VH.mk nx1 ((b,.gone)::bs1)).at=upd (VH.mk nx1 bs1).at b .gone:=VH.at_put ⟨nx1,bs1⟩ b .gone (by rw [hv]; simp)
    refine ⟨_,_,hK,fun F hF o ho B R a w e ht next Q hn=>hop F hF o ho B R a w e ht next Q fun x R' w' n1 e1 hx=>?_,fun q hq=>?_⟩
    ·obtain ⟨R2,hle,e2,n2,hv2⟩:=emb_frzV e1 hv
     exact hn x R2 w' (by rw [hat]; exact n1.trans n2) (by rw [hat]; exact e2) (hv2 x hx)
    ·rw [hat]
     simp only [upd,if_neg hq]
     exact hkp q hq
   ·exact hK.elim
  ·exact hK.elim
theorem at_ltA {h:VH} {n:Nat} (hn:n<h.nx):h.at n=lookB h.bs n:=by
 show (bif Nat.blt n h.nx then lookB h.bs n else .free)=_
 rw [blt_t hn]; rfl
theorem at_geA {h:VH} {n:Nat} (hn:¬ n<h.nx):h.at n=.free:=by
 show (bif Nat.blt n h.nx then lookB h.bs n else .free)=_
 rw [blt_f hn]; rfl
theorem tailE_go {h1:VH}:∀ (k n:Nat) (acc:List (Nat × VB)) (K:List (Nat × VB)->Prop),tailE h1 k n acc K ->
  ∃ l,K l/\(∀ p ∈ l,p ∈ acc ∨ ((n<=p.1/\p.1<n+k/\p.2=h1.at p.1)/\p.2.lay))/\(∀ m,n<=m->m<n+k->∃ p ∈ l,p.1=m)/\(∀ p ∈ acc,p ∈ l)
 | 0,n,acc,K,h=>⟨acc,h,fun p hp=>.inl hp,fun m h1 h2=>by omega,fun p hp=>hp⟩
 | k+1,n,acc,K,h=>by
  have key:∀ b,h1.at n=b->b.lay->tailE h1 k (n+1) ((n,b)::acc) K->∃ l,K l/\(∀ p ∈ l,p ∈ acc ∨ ((n<=p.1/\p.1<n+(k+1)/\p.2=h1.at p.1)/\p.2.lay))/\(∀ m,n<=m->m<n+(k+1)->∃ p ∈ l,p.1=m)/\(∀ p ∈ acc,p ∈ l):=by
   intro b hb hlay h2
   obtain ⟨l,g1,g2,g3,g4⟩:=tailE_go k (n+1) _ K h2
   refine ⟨l,g1,fun p hp=>?_,fun m h3 h4=>?_,fun p hp=>g4 p (List.mem_cons_of_mem _ hp)⟩
   ·rcases g2 p hp with h5 | ⟨⟨h5,h6,h7⟩,h8⟩
    ·rcases List.mem_cons.1 h5 with rfl | h5
     ·exact .inr ⟨⟨Nat.le_refl _,by dsimp only; omega,hb.symm⟩,hlay⟩
     ·exact .inl h5
    ·exact .inr ⟨⟨by omega,by omega,h7⟩,h8⟩
   ·by_cases hm:m=n
    ·subst hm; exact ⟨(m,b),g4 _ (List.mem_cons_self ..),rfl⟩
    ·exact g3 m (by omega) (by omega)
  unfold tailE at h
  split at h
  ·rename_i hb; exact key _ hb trivial h
  ·rename_i hb; exact key _ hb trivial h
  ·rename_i hb; exact key _ hb trivial h
  ·rename_i hb; exact key _ hb trivial h
  ·rename_i hb; exact key _ hb trivial h
  ·exact h.elim
theorem belBl_mem {k:Nat}:∀ {l:List (Nat × VB)},belBl k l=true->∀ {p},p ∈ l->p.2.bel k=true
 | [],_,p,hp=>by cases hp
 | (n,b)::r,h,p,hp=>by
  simp only [belBl,Bool.and_eq_true] at h
  rcases List.mem_cons.1 hp with rfl | hp
  ·exact h.1
  ·exact belBl_mem h.2 hp
theorem namesL_map:∀ l:List (Nat × VB),namesL l=l.map (·.1)
 | []=>rfl
 | (n,b)::r=>by simp [namesL,namesL_map r]
theorem lookB_app (l bs:List (Nat × VB)) (m:Nat):lookB (l ++ bs) m=ov l (lookB bs) m:=by
 induction l with
 | nil=>rfl
 | cons p l ih=>
  obtain ⟨n,b⟩:=p
  simp only [List.cons_append,lookB,ov,upd]
  by_cases h:n=m
  ·subst h; rw [beq_t rfl]; simp
  ·rw [beq_f h,cond_false,if_neg (fun e=>h e.symm)]; exact ih
theorem ov_congr {f g:Nat->VB} {m:Nat}:∀ l:List (Nat × VB),(f m=g m ∨ ∃ p ∈ l,p.1=m)->ov l f m=ov l g m
 | [],h=>by
  rcases h with h | ⟨p,hp,_⟩
  ·exact h
  ·cases hp
 | (n,b)::r,h=>by
  simp only [ov,upd]
  by_cases hn:m=n
  ·rw [if_pos hn,if_pos hn]
  ·rw [if_neg hn,if_neg hn]
   refine ov_congr r ?_
   rcases h with h | ⟨p,hp,hpn⟩
   ·exact .inl h
   ·rcases List.mem_cons.1 hp with rfl | hp
    ·exact (hn hpn.symm).elim
    ·exact .inr ⟨p,hp,hpn⟩
theorem at_tail {nx k:Nat} {bs l:List (Nat × VB)} (h1:∀ p ∈ l,nx<=p.1/\p.1<nx+k) (h2:∀ m,nx<=m->m<nx+k->∃ p ∈ l,p.1=m):(VH.mk (nx+k) (l ++ bs)).at=ov l (VH.mk nx bs).at:=by
 funext m
 by_cases hm:m<nx+k
 ·rw [at_ltA hm]
  show lookB (l ++ bs) m=_
  rw [lookB_app]
  refine ov_congr l ?_
  by_cases hm2:m<nx
  ·left; rw [at_ltA hm2]
  ·exact .inr (h2 m (by omega) hm)
 ·rw [at_geA hm,ov_out (fun p hp e=>by have:=(h1 p hp).2; omega),at_geA (by show ¬ m<nx; omega)]
theorem regE_sound {call:CallT} (hg:Good P call) {lock nx0:Nat} {un:List Nat} {ms:List (Nat × Nat)} (hm:MaskOK ops ms) (hback:∀ j o,ops[j]? = some o->∀ e ∈ o.after,Region.binds .any e=true->e.on<j) :
  ∀ (rest:List Oper) (i:Nat) (t:Slots) (h:VH) (rc:List RC) (K:CK),regE P call n lock nx0 un ops ms ops.size rest i t h rc K->(∀ q,rest[q]? = ops[i+q]?)->i+rest.length=ops.size ->
  ∀ (k:Nat) (L:List (Nat × Rec)) (τ0:Nat->VV) (η0:Nat->VB),rc=(L.map rcOf).reverse->L.map (·.1)=List.range' k (i - k)->k<=i ->
   (∀ p ∈ L,ops[p.1]? = some p.2.o/\(∀ d,p.2.o.dst=some d->d<n))->(∀ p ∈ L,FactR P ops p.1 p.2)->TRun L τ0 η0 (look t) h.at ->
   ∃ e t' h',K e t' h'/\LockP lock h h'/\RegSem P ops n k τ0 η0 e t' h':=by
 intro rest
 induction rest with
 | nil=>
  intro i t h rc K hK hrest hlen k L τ0 η0 hrc hL hki hin hf hrun
  simp only [regE] at hK
  obtain ⟨h1,h2⟩:=cond_f hK
  simp at hlen
  subst hrc
  refine ⟨_,_,_,h2,lockP_refl _ _,seg_close hm hback hki (by omega) hL hin hf h1 hrun (fun j h3 h4=>by omega) ?_⟩
  rw [hlen]
  exact reg_end rfl
 | cons o rest ih=>
  intro i t h rc K hK hrest hlen k L τ0 η0 hrc hL hki hin hf hrun
  have hoi:ops[i]? = some o:=by have:=hrest 0; simpa using this.symm
  have hrest':∀ q,rest[q]? = ops[i+1+q]?:=fun q=>by have:=hrest (q+1); simpa [Nat.add_assoc,Nat.add_comm 1 q] using this
  simp only [List.length_cons] at hlen
  have hlen':i+1+rest.length=ops.size:=by omega
  simp only [regE] at hK
  cases hbar:isBar ms ops.size i with
  | true=>
   rw [hbar] at hK
   simp only [cond_true] at hK
   obtain ⟨hchk,hK⟩:=cond_f hK
   obtain ⟨bar1,bar2⟩:=isBar_spec hm hbar
   obtain ⟨t1,b,hK,hgd⟩:=guardE_sound hK
   subst hrc
   have hlater:∀ j,i<=j->j<ops.size->∀ q,k<=q->q<i->Reach ops j q:=by
    intro j h1 h2 q h3 h4
    by_cases hji:j=i
    ·subst hji; exact bar1 q (by omega) h4
    ·exact (bar2 j h2 (by omega)).trans (bar1 q (by omega) h4)
   have hready:∀ (listed:Array Bool),listed.size=ops.size->Cl ops listed->(∀ j,j<ops.size->(listed.getD j false=false ↔ i<=j))->i ∈ Region.ready .any ops listed/\∀ i' ∈ Region.ready .any ops listed,i'=i:=by
    intro listed g1 g2 g3
    refine ⟨mem_ready.2 ⟨getD_in (by omega) ((g3 i (by omega)).2 (Nat.le_refl _)),o,hoi,fun e he hb=>?_⟩,fun i' hi'=>?_⟩
    ·have hlt:=hback i o hoi e he hb
     cases hl:listed.getD e.on false with
     | true=>rfl
     | false=>have:=(g3 e.on (by omega)).1 hl; omega
    ·obtain ⟨q1,o',ho',_⟩:=mem_ready.1 hi'
     have hs':=(Array.getElem?_eq_some_iff.1 ho').1
     have h1:=(g3 i' hs').1 (getD_both q1)
     by_cases hne:i'=i
     ·exact hne
     ·have:=reach_ready g2 (bar2 i' hs' (by omega)) hi'
      rw [(g3 i (by omega)).2 (Nat.le_refl _)] at this; cases this
   have hset:∀ (listed:Array Bool),listed.size=ops.size->(∀ j,j<ops.size->(listed.getD j false=false ↔ i<=j))->(∀ j,j<ops.size->((listed.setIfInBounds i true).getD j false=false ↔ i+1<=j)):=by
    intro listed g1 g3 j hj
    by_cases hij:i=j
    ·subst hij
     constructor
     ·intro hh
      rw [Array.getD_eq_getD_getElem?,Array.getElem?_setIfInBounds] at hh
      simp [g1,hj] at hh
     ·intro hh; omega
    ·rw [getD_set_ne false hij,g3 j hj]; omega
   have step:∀ (v:VV) (h2:VH) (t2:Slots) (e:VEx) (t':Slots) (h':VH),look t2=updT (look t1) o.dst v->(∀ x,o.dst=some x->x<n)->RegSem P ops n (i+1) (look t2) h2.at e t' h' ->
     (∀ (F:Fence),WF P F->∀ (B:Nat) (R:Rn) (a:Act) (w:World),Emb B R h.at w->TRel R t a->∀ (next:Act->World->Prop) (Q:Exit->Act->World->Prop),
      (∀ x R' w',Nxt h.at R w h2.at R' w'->Emb B R' h2.at w'->VRel R' v x->next (a.put o.dst x) w')->wpOpIn F 0 P ops Q i next a w) ->
     RegSem P ops n k τ0 η0 e t' h':=by
    intro v h2 t2 e t' h' hl2 hd2 hsem hop
    refine seg_close hm hback hki (by omega) hL hin hf hchk hrun hlater ?_
    intro F hF B ds R a w listed g1 g2 g3 he ht hn hds Q hQ
    obtain ⟨r1,r2⟩:=hready listed g1 g2 g3
    rw [show ops.size - i=(ops.size - (i+1))+1 by omega]
    refine ⟨fun hnil=>(by rw [hnil] at r1; cases r1),fun i' hi'=>?_⟩
    have:=r2 i' hi'
    subst this
    refine hop F hF B R a w he ht _ _ (fun x R' w' n1 e1 hv=>?_)
    have htr:TRelF R' (look t2) (a.put o.dst x):=by
     rw [hl2]
     have h5:TRelF R (look t1) a:=(hgd R a ht).1
     exact (h5.mono (n1.le he)).put (fun d hd=>by rw [hn]; exact hd2 d hd) hv
    exact hsem F hF B ds R' _ w' _ (by simp [g1]) (g2.set r1) (hset listed g1 g3) e1 htr (by rw [put_size]; exact hn) (by rw [put_defers]; exact hds) Q (fun ex a' w'' hp=>hQ ex a' w'' (hp.of_next n1))
   cases b with
   | false=>
    simp only [cond_false,foN_eq] at hK
    obtain ⟨t2,hK,hl2,hd2⟩:=putT_sound hK
    obtain ⟨e,t',h',h5,h6,h7⟩:=ih (i+1) t2 h [] K hK hrest' hlen' (i+1) [] (look t2) h.at rfl (by simp) (Nat.le_refl _) (by simp) (by simp) ⟨rfl,rfl⟩
    refine ⟨e,t',h',h5,h6,step udf h t2 e t' h' hl2 hd2 h7 ?_⟩
    intro F hF B R a w he ht next Q hnx
    unfold wpOpIn
    rw [hoi]
    simp only [(hgd R a ht).2]
    exact ⟨fun f _=>hF.fn f,hnx undef R w (Nxt.refl _ _ _ he.fresh) he ⟨[],rfl,rfl⟩⟩
   | true=>
    simp only [cond_true] at hK
    rcases opE_sound hg hK with ⟨v,h2,hK,hlk,hop⟩ | ⟨v,h2,hK,hlk,hop⟩
    ·obtain ⟨t2,hK,hl2,hd2⟩:=putT_sound hK
     simp only [foN_eq] at hK
     obtain ⟨e,t',h',h5,h6,h7⟩:=ih (i+1) t2 h2 [] K hK hrest' hlen' (i+1) [] (look t2) h2.at rfl (by simp) (Nat.le_refl _) (by simp) (by simp) ⟨rfl,rfl⟩
     refine ⟨e,t',h',h5,lockP_trans hlk h6,step v h2 t2 e t' h' hl2 hd2 h7 ?_⟩
     intro F hF B R a w he ht next Q hnx
     unfold wpOpIn
     rw [hoi]
     simp only [(hgd R a ht).2,if_true]
     exact hop F hF o rfl B R a w he (hgd R a ht).1 next Q hnx
    ·refine ⟨_,_,_,hK,hlk,seg_close hm hback hki (by omega) hL hin hf hchk hrun hlater ?_⟩
     intro F hF B ds R a w listed g1 g2 g3 he ht hn hds Q hQ
     obtain ⟨r1,r2⟩:=hready listed g1 g2 g3
     rw [show ops.size - i=(ops.size - (i+1))+1 by omega]
     refine ⟨fun hnil=>(by rw [hnil] at r1; cases r1),fun i' hi'=>?_⟩
     have:=r2 i' hi'
     subst this
     unfold wpOpIn
     rw [hoi]
     simp only [(hgd R a ht).2,if_true]
     refine hop F hF o rfl B R a w he (hgd R a ht).1 _ Q (fun x R' w' n1 e1 hv=>?_)
     exact hQ _ _ _ (post0 n1 e1 ((hgd R a ht).1.mono (n1.le he)) hn hds ⟨x,hv,rfl⟩)
  | false=>
   rw [hbar] at hK
   simp only [cond_false] at hK
   obtain ⟨t1,b,gl,hK,hlk1,hgl,hgw⟩:=gE_sound hK
   have hlk1':look t1=look t:=funext hlk1
   have finish:∀ (r:Rec) (t2:Slots) (h2:VH),r.o=o->FactR P ops i r->StepR r (look t) h.at (look t2) h2.at->(∀ x,o.dst=some x->x<n)->LockP lock h h2 ->
     regE P call n lock nx0 un ops ms ops.size rest (i+1) t2 h2 (rcOf (i,r)::rc) K->∃ e t' h',K e t' h'/\LockP lock h h'/\RegSem P ops n k τ0 η0 e t' h':=by
    intro r t2 h2 hro hfact hstep hd2 hlk hK
    obtain ⟨e,t',h',h5,h6,h7⟩:=ih (i+1) t2 h2 _ K hK hrest' hlen' k (L ++ [(i,r)]) τ0 η0 (by rw [hrc]; simp) (by
      rw [List.map_append,hL,show i+1 - k=(i - k)+1 by omega,List.range'_concat]
      simp
      omega) (by omega)
     (fun p hp=>by
      rcases List.mem_append.1 hp with hp | hp
      ·exact hin p hp
      ·simp at hp; subst hp; exact ⟨by rw [hro]; exact hoi,by rw [hro]; exact hd2⟩)
     (fun p hp=>by
      rcases List.mem_append.1 hp with hp | hp
      ·exact hf p hp
      ·simp at hp; subst hp; exact hfact)
     (hrun.append ⟨_,_,hstep,rfl,rfl⟩)
    exact ⟨e,t',h',h5,lockP_trans hlk h6,h7⟩
   cases b with
   | false=>
    simp only [cond_false] at hK
    obtain ⟨t2,hK,hl2,hd2⟩:=putT_sound hK
    simp only [foN_eq] at hK
    refine finish ⟨o,gl,[],[],udf⟩ t2 h rfl (fact_skip hoi hgw) ⟨fun p hp=>?_,by simp,?_,rfl⟩ hd2 (lockP_refl _ _) hK
    ·rw [<- hlk1']; exact (hgl p hp).symm
    ·rw [<- hlk1']; exact hl2
   | true=>
    simp only [cond_true] at hK
    obtain ⟨cl,fp,hK,hwr,hnw,hwc,hwv,hwq⟩:=clsE_some hK
    obtain ⟨hchk,hK⟩:=cond_f hK
    simp only [Bool.and_eq_true] at hchk
    have hs:=okFp_spec hchk.1
    have hlooks:∀ p ∈ gl ++ lkL t1 o.op.operands.toList,look t p.1=p.2:=by
     intro p hp
     rw [<- hlk1']
     rcases List.mem_append.1 hp with hp | hp
     ·exact (hgl p hp).symm
     ·exact (lkL_mem hp).symm
    have hpreq:∀ p ∈ fp.map (fun m=>(m,h.at m)),h.at p.1=p.2:=by
     intro p hp
     obtain ⟨m,_,rfl⟩:=List.mem_map.1 hp
     rfl
    by_cases hcl:∃ m,cl=.wv m
    ·obtain ⟨m,rfl⟩:=hcl
     obtain ⟨hap,hlm,hmf,hpa⟩:=hwv m rfl
     obtain ⟨v,h1,hK,hop,hkp⟩:=opE_keep hK hap (fun c a x hoc hag hca m' off k cc hxe cs ty hcs=>by
      obtain ⟨g1,cs2,ty2,g2,g3⟩:=hpa c a x hoc hca hag m' off k cc hxe
      rw [mask_at (hs m' g1).1,if_pos g1,g2] at hcs
      cases hcs
      exact g3)
     obtain ⟨v,h1,hK,hop,hkp⟩:=mrgT_sound hK hop hkp
     simp only [mrgE] at hK
     split at hK
     ·rename_i L g sv ty _ _ _ _ hc hc0
      obtain ⟨hvb,hK⟩:=cond_f hK
      obtain ⟨t2,hK,hl2,hd2⟩:=putT_sound hK
      simp only [foN_eq] at hK
      have hat:(h.put m (.vec L g sv ty)).at=upd h.at m (.vec L g sv ty):=VH.at_put h m _ (hs m hmf).2.1
      refine finish ⟨o,gl ++ lkL t1 o.op.operands.toList,fp.map (fun m=>(m,h.at m)),[(m,.vec L g sv ty)],v⟩ t2 (h.put m (.vec L g sv ty)) rfl ?_ ⟨hlooks,hpreq,by rw [<- hlk1']; exact hl2,hat⟩ hd2 ?_ ?_
      ·have:=fact_run (P:=P) (nw:=0) hoi hgw hchk.1 hchk.2 hop (po:=[(m,.vec L g sv ty)]) (by simp [hc,hc0,VB.mine,hmf]) (by simp [VB.lay]) (by simp [VB.bel]) (fun q hq hne=>by
        have hqm:q ≠ m:=fun hh=>hne (m,.vec L g sv ty) (by simp) hh.symm
        have h3:=hs q hq
        rw [hkp q hqm,mask_at h3.1,if_pos hq]) hvb (fun n h1 h2=>by omega)
       simpa using this
      ·intro q hq _
       rw [hat]
       simp [upd,show q ≠ m by omega]
      ·simpa [rcOf,fstL,VH.put,Function.comp_def] using hK
     ·rename_i _ _ _ _ hc hc0
      obtain ⟨hvb,hK⟩:=cond_f hK
      obtain ⟨t2,hK,hl2,hd2⟩:=putT_sound hK
      simp only [foN_eq] at hK
      have hat:(h.put m .gone).at=upd h.at m .gone:=VH.at_put h m _ (hs m hmf).2.1
      refine finish ⟨o,gl ++ lkL t1 o.op.operands.toList,fp.map (fun m=>(m,h.at m)),[(m,.gone)],v⟩ t2 (h.put m .gone) rfl ?_ ⟨hlooks,hpreq,by rw [<- hlk1']; exact hl2,hat⟩ hd2 ?_ ?_
      ·have:=fact_run (P:=P) (nw:=0) hoi hgw hchk.1 hchk.2 hop (po:=[(m,.gone)]) (by simp [hc,hc0,VB.mine,hmf]) (by simp [VB.lay]) (by simp [VB.bel]) (fun q hq hne=>by
        have hqm:q ≠ m:=fun hh=>hne (m,.gone) (by simp) hh.symm
        have h3:=hs q hq
        rw [hkp q hqm,mask_at h3.1,if_pos hq]) hvb (fun n h1 h2=>by omega)
       simpa using this
      ·intro q hq _
       rw [hat]
       simp [upd,show q ≠ m by omega]
      ·simpa [rcOf,fstL,VH.put,Function.comp_def] using hK
     ·exact hK.elim
    rw [mrgT_fun (fun m hm=>hcl ⟨m,hm⟩)] at hK
    rcases opE_sound hg hK with ⟨v,h1,hK,hlk,hop⟩ | ⟨v,h1,hK,_,_⟩
    ·have hkeep:lockOf h cl=h.nx->∀ m ∈ fp,h1.at m=h.at m:=by
      intro hl m hmf
      rw [hl] at hlk
      have h3:=hs m hmf
      have h4:(maskH fp h).at m=h.at m:=by rw [mask_at h3.1,if_pos hmf]
      rw [hlk m h3.1 (by rw [h4]; exact h3.2.1),h4]
     cases cl with
     | wv m=>exact (hcl ⟨m,rfl⟩).elim
     | quiet=>
      simp only [mrgE] at hK
      cases hvb:v.bel h.nx with
      | true=>
       rw [hvb] at hK
       simp only [cond_true] at hK
       obtain ⟨t2,hK,hl2,hd2⟩:=putT_sound hK
       simp only [foN_eq] at hK
       refine finish ⟨o,gl ++ lkL t1 o.op.operands.toList,fp.map (fun m=>(m,h.at m)),[],v⟩ t2 h rfl ?_ ⟨hlooks,hpreq,by rw [<- hlk1']; exact hl2,rfl⟩ hd2 (lockP_refl _ _) ?_
       ·have:=fact_run (P:=P) (nw:=0) hoi hgw hchk.1 hchk.2 hop (po:=[]) (by simp) (by simp) (by simp) (fun m hmf _=>hkeep rfl m hmf) hvb (fun n h1 h2=>by omega)
        simpa using this
       ·simpa [rcOf,Function.comp_def] using hK
      | false=>
       rw [hvb] at hK
       simp only [cond_false] at hK
       obtain ⟨nx,bs⟩:=h
       obtain ⟨nx1,bs1⟩:=h1
       simp only [foN_eq] at hK
       obtain ⟨l,hK,q0,q2,_⟩:=tailE_go _ _ _ _ hK
       have q1:∀ p ∈ l,nx<=p.1/\p.1<nx+(nx1 - nx)/\p.2=(VH.mk nx1 bs1).at p.1:=fun p hp=>by
        rcases q0 p hp with h | h
        ·cases h
        ·exact h.1
       have q3:∀ p ∈ l,p.2.lay:=fun p hp=>by
        rcases q0 p hp with h | h
        ·cases h
        ·exact h.2
       obtain ⟨hb2,hK⟩:=cond_f hK
       simp only [Bool.and_eq_true] at hb2
       obtain ⟨t2,hK,hl2,hd2⟩:=putT_sound hK
       have hat:=at_tail (nx:=nx) (bs:=bs) (fun p hp=>⟨(q1 p hp).1,(q1 p hp).2.1⟩) (fun m h1 h2=>q2 m h1 h2)
       refine finish ⟨o,gl ++ lkL t1 o.op.operands.toList,(List.range' nx (nx1 - nx)).map (fun n=>(n,VB.free)) ++ fp.map (fun m=>(m,(VH.mk nx bs).at m)),l,v⟩ t2 ⟨nx+(nx1 - nx),l ++ bs⟩ rfl ?_ ⟨hlooks,?_,by rw [<- hlk1']; exact hl2,hat⟩ hd2 ?_ ?_
       ·exact fact_run (P:=P) (nw:=nx1 - nx) (h:=⟨nx,bs⟩) (h1:=⟨nx1,bs1⟩) hoi hgw hchk.1 hchk.2 hop (po:=l) (fun p hp=>.inr (q1 p hp)) (fun p hp=>q3 p hp) (fun p hp=>belBl_mem hb2.1 hp) (fun m hmf _=>hkeep rfl m hmf) hb2.2 (fun n h1 h2=>q2 n h1 h2)
       ·intro p hp
        rcases List.mem_append.1 hp with hp | hp
        ·obtain ⟨n,hn,rfl⟩:=List.mem_map.1 hp
         rw [List.mem_range'_1] at hn
         exact at_geA (by show ¬ n<nx; omega)
        ·exact hpreq p hp
       ·intro q hq hne
        have hqn:q<nx:=by
         by_cases hqn:q<nx
         ·exact hqn
         ·exact (hne (at_geA hqn)).elim
        rw [hat]
        exact ov_out (fun p hp=>by have:=(q1 p hp).1; omega)
       ·simpa [rcOf,namesL_map,Function.comp_def] using hK
     | wr m=>
      obtain ⟨hfpm,hlm⟩:=hwr m rfl
      subst hfpm
      have put1:∀ b:VB,h1.at m=b->(h.at m).mine->b.lay->b.bel h.nx=true->v.bel h.nx=true ->
        (putT n t1 o.dst v fun t'=>foN (i+1) fun j=>regE P call n lock nx0 un ops ms ops.size rest j t' (h.put m b) (⟨i,fstL (gl ++ lkL t1 o.op.operands.toList),o.dst,[] ++ [m],[m]⟩::rc) K) ->
        ∃ e t' h',K e t' h'/\LockP lock h h'/\RegSem P ops n k τ0 η0 e t' h':=by
       intro b hc hc0 hlay hb1 hb2 hK
       obtain ⟨t2,hK,hl2,hd2⟩:=putT_sound hK
       simp only [foN_eq] at hK
       have hat:(h.put m b).at=upd h.at m b:=VH.at_put h m _ (hs m (by simp)).2.1
       refine finish ⟨o,gl ++ lkL t1 o.op.operands.toList,[(m,h.at m)],[(m,b)],v⟩ t2 (h.put m b) rfl ?_ ⟨hlooks,by simp,by rw [<- hlk1']; exact hl2,hat⟩ hd2 ?_ ?_
       ·have:=fact_run (P:=P) (nw:=0) hoi hgw hchk.1 hchk.2 hop (po:=[(m,b)]) (by simp [hc,hc0]) (by simpa using hlay) (by simpa using hb1) (by simp) hb2 (fun n h1 h2=>by omega)
        simpa using this
       ·intro q hq _
        rw [hat]
        simp [upd,show q ≠ m by omega]
       ·simpa [rcOf,fstL,VH.put] using hK
      simp only [mrgE] at hK
      split at hK
      ·rename_i cs ty _ _ hc hc0
       obtain ⟨hvb,hK⟩:=cond_f hK
       simp only [Bool.and_eq_true] at hvb
       exact put1 _ hc (by rw [hc0]; trivial) trivial hvb.1 hvb.2 hK
      ·rename_i cs L g ty _ _ _ _ hc hc0
       obtain ⟨hvb,hK⟩:=cond_f hK
       simp only [Bool.and_eq_true] at hvb
       exact put1 _ hc (by rw [hc0]; trivial) trivial hvb.1 hvb.2 hK
      ·rename_i ks vk es _ _ _ hc hc0
       obtain ⟨hvb,hK⟩:=cond_f hK
       exact put1 _ hc (by rw [hc0]; trivial) trivial rfl hvb hK
      ·rename_i Kr r C g t te _ _ _ _ _ _ hc hc0
       obtain ⟨hvb,hK⟩:=cond_f hK
       exact put1 _ hc (by rw [hc0]; trivial) trivial rfl hvb hK
      ·exact hK.elim
     | wrq m=>
      obtain ⟨hlm,hmf⟩:=hwq m rfl
      simp only [mrgE] at hK
      split at hK
      ·rename_i ks vk es _ _ _ hc hc0
       obtain ⟨hkp,hK⟩:=hK
       obtain ⟨hvb,hK⟩:=cond_f hK
       obtain ⟨t2,hK,hl2,hd2⟩:=putT_sound hK
       simp only [foN_eq] at hK
       have hat:(h.put m (.map ks vk es)).at=upd h.at m (.map ks vk es):=VH.at_put h m _ (hs m hmf).2.1
       refine finish ⟨o,gl ++ lkL t1 o.op.operands.toList,fp.map (fun m=>(m,h.at m)),[(m,.map ks vk es)],v⟩ t2 (h.put m (.map ks vk es)) rfl ?_ ⟨hlooks,hpreq,by rw [<- hlk1']; exact hl2,hat⟩ hd2 ?_ ?_
       ·have:=fact_run (P:=P) (nw:=0) hoi hgw hchk.1 hchk.2 hop (po:=[(m,.map ks vk es)]) (by simp [hc,hc0,VB.mine,hmf]) (by simp [VB.lay]) (by simp [VB.bel]) (fun q hq hne=>by
         have hqm:q ≠ m:=fun hh=>hne (m,.map ks vk es) (by simp) hh.symm
         exact keepP_spec hkp q hq hqm) hvb (fun n h1 h2=>by omega)
        simpa using this
       ·intro q hq _
        rw [hat]
        simp [upd,show q ≠ m by omega]
       ·simpa [rcOf,fstL,VH.put,Function.comp_def] using hK
      ·rename_i L g s ty _ _ _ _ hc hc0
       obtain ⟨hkp,hK⟩:=hK
       obtain ⟨hvb,hK⟩:=cond_f hK
       obtain ⟨t2,hK,hl2,hd2⟩:=putT_sound hK
       simp only [foN_eq] at hK
       have hat:(h.put m (.vec L g s ty)).at=upd h.at m (.vec L g s ty):=VH.at_put h m _ (hs m hmf).2.1
       refine finish ⟨o,gl ++ lkL t1 o.op.operands.toList,fp.map (fun m=>(m,h.at m)),[(m,.vec L g s ty)],v⟩ t2 (h.put m (.vec L g s ty)) rfl ?_ ⟨hlooks,hpreq,by rw [<- hlk1']; exact hl2,hat⟩ hd2 ?_ ?_
       ·have:=fact_run (P:=P) (nw:=0) hoi hgw hchk.1 hchk.2 hop (po:=[(m,.vec L g s ty)]) (by simp [hc,hc0,VB.mine,hmf]) (by simp [VB.lay]) (by simp [VB.bel]) (fun q hq hne=>by
         have hqm:q ≠ m:=fun hh=>hne (m,.vec L g s ty) (by simp) hh.symm
         exact keepP_spec hkp q hq hqm) hvb (fun n h1 h2=>by omega)
        simpa using this
       ·intro q hq _
        rw [hat]
        simp [upd,show q ≠ m by omega]
       ·simpa [rcOf,fstL,VH.put,Function.comp_def] using hK
      ·exact hK.elim
     | wrc m=>
      obtain ⟨hlm,l,hfpl,hlt⟩:=hwc m rfl
      have hmf:m ∈ fp:=by rw [hfpl]; simp
      simp only [mrgE] at hK
      split at hK
      ·rename_i cs ty _ _ hc hc0
       obtain ⟨hvb,hK⟩:=cond_f hK
       simp only [Bool.and_eq_true] at hvb
       obtain ⟨t2,hK,hl2,hd2⟩:=putT_sound hK
       simp only [foN_eq] at hK
       have hat:(h.put m (.cells cs ty)).at=upd h.at m (.cells cs ty):=VH.at_put h m _ (hs m hmf).2.1
       refine finish ⟨o,gl ++ lkL t1 o.op.operands.toList,fp.map (fun m=>(m,h.at m)),[(m,.cells cs ty)],v⟩ t2 (h.put m (.cells cs ty)) rfl ?_ ⟨hlooks,hpreq,by rw [<- hlk1']; exact hl2,hat⟩ hd2 ?_ ?_
       ·have:=fact_run (P:=P) (nw:=0) hoi hgw hchk.1 hchk.2 hop (po:=[(m,.cells cs ty)]) (by simp [hc,hc0,VB.mine,hmf]) (by simp [VB.lay]) (by simpa [VB.bel] using hvb.1) (fun q hq hne=>by
         have hqm:q ≠ m:=fun hh=>hne (m,.cells cs ty) (by simp) hh.symm
         have hql:q<m:=by
          rw [hfpl] at hq
          rcases List.mem_cons.1 hq with hq | hq
          ·exact absurd hq hqm
          ·exact hlt q hq
         have h3:=hs q hq
         have h4:(maskH fp h).at q=h.at q:=by rw [mask_at h3.1,if_pos hq]
         rw [hlk q hql (by rw [h4]; exact h3.2.1),h4]) hvb.2 (fun n h1 h2=>by omega)
        simpa using this
       ·intro q hq _
        rw [hat]
        simp [upd,show q ≠ m by omega]
       ·simpa [rcOf,fstL,VH.put,Function.comp_def] using hK
      ·exact hK.elim
     | new=>
      have hfp0:=hnw rfl
      subst hfp0
      simp only [mrgE] at hK
      have put1:∀ b:VB,h1.at h.nx=b->b.lay->b.bel (h.nx+1)=true->v.bel (h.nx+1)=true ->
        (putT n t1 o.dst v fun t'=>foN (i+1) fun j=>regE P call n lock nx0 un ops ms ops.size rest j t' (h.new b) (⟨i,fstL (gl ++ lkL t1 o.op.operands.toList),o.dst,[h.nx] ++ [],[h.nx]⟩::rc) K) ->
        ∃ e t' h',K e t' h'/\LockP lock h h'/\RegSem P ops n k τ0 η0 e t' h':=by
       intro b hc hlay hb1 hb2 hK
       obtain ⟨t2,hK,hl2,hd2⟩:=putT_sound hK
       simp only [foN_eq] at hK
       have hat:=VH.at_new h b
       refine finish ⟨o,gl ++ lkL t1 o.op.operands.toList,[(h.nx,.free)],[(h.nx,b)],v⟩ t2 (h.new b) rfl ?_ ⟨hlooks,by simp [VH.at_nx],by rw [<- hlk1']; exact hl2,hat⟩ hd2 (lockP_new _ _ _) ?_
       ·have:=fact_run (P:=P) (nw:=1) hoi hgw hchk.1 hchk.2 hop (po:=[(h.nx,b)]) (fun p hp=>by simp only [List.mem_singleton] at hp; subst hp; exact .inr ⟨Nat.le_refl _,by dsimp only; omega,hc.symm⟩) (by simpa using hlay) (by simpa using hb1) (by simp) (by simpa using hb2) (fun n h1 h2=>⟨_,List.mem_singleton.2 rfl,by show h.nx=n; omega⟩)
        simpa using this
       ·simpa [rcOf,fstL,VH.new] using hK
      split at hK
      ·rename_i cs ty hc
       obtain ⟨hvb,hK⟩:=cond_f hK
       simp only [Bool.and_eq_true] at hvb
       simp only [foN_eq] at hK
       exact put1 _ hc trivial hvb.1 hvb.2 hK
      ·rename_i L g sv ty hc
       obtain ⟨hvb,hK⟩:=cond_f hK
       simp only [foN_eq] at hK
       exact put1 _ hc trivial rfl hvb hK
      ·rename_i cs L g ty hc
       obtain ⟨hvb,hK⟩:=cond_f hK
       simp only [Bool.and_eq_true] at hvb
       simp only [foN_eq] at hK
       exact put1 _ hc trivial hvb.1 hvb.2 hK
      ·rename_i ks vk es hc
       obtain ⟨hvb,hK⟩:=cond_f hK
       simp only [foN_eq] at hK
       exact put1 _ hc trivial rfl hvb hK
      ·exact hK.elim
    ·exact hK.elim
end
end Go.Sx
