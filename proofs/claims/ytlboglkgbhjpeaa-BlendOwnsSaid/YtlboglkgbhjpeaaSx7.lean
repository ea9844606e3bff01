/- Operations that look at different things may change places. -/
import Derived.Test.YtlboglkgbhjpeaaSx6
import Derived.StillTail
namespace Go.Sx
open Go
structure Agree (k:Nat) (R R':Rn):Prop where
 blk:∀ n,n<k->R'.blk n=R.blk n
 arr:R'.arr=R.arr
 str:R'.str=R.str
 vec:∀ n,n<k->R'.vec n=R.vec n
 frz:∀ b xs,R.frz b=some xs->R'.frz b=some xs
theorem Agree.no {k:Nat} {R R':Rn} (h:Agree k R R'):R.no.le R'.no:=⟨fun _ _ h=>(by cases h),h.arr,h.str,fun _ _ _ h=>(by cases h),h.frz⟩
theorem ltb {n k:Nat} (h:Nat.blt n k=true):n<k:=by rw [Nat.blt_eq] at h; exact h
theorem bel_A {k:Nat} {R R':Rn} (h:Agree k R R'):∀ (a:VA) (p:Addr),a.bel k=true->ARel R a p->ARel R' a p
 | .own n off,_,hk,⟨b,hb,hx⟩=>⟨b,by rw [h.blk n (ltb hk)]; exact hb,hx⟩
 | .el n ix i off,_,_,hx=>by simp only [ARel] at hx ⊢; rw [h.arr,h.str]; exact hx
 | .ve n L s i off,_,hk,⟨h0,v,b,h1,h2,h3⟩=>⟨h0,v,b,by rw [h.vec n (ltb hk)]; exact h1,h2,h3⟩
 | .fa n p o,_,hk,⟨b,hb,hx⟩=>⟨b,by rw [h.blk n (ltb hk)]; exact hb,hx⟩
 | .rw n j o,_,hk,⟨v,b,h1,h2,h3⟩=>⟨v,b,by rw [h.vec n (ltb hk)]; exact h1,h2,h3⟩
 | .hb _ _ _,_,_,⟨xs,v,b,h1,h2⟩=>⟨xs,v,b,h.frz _ _ h1,h2⟩
mutual
theorem bel_V {k:Nat} {R R':Rn} (h:Agree k R R'):∀ (v:VV) (x:Value),v.bel k=true->VRel R v x->VRel R' v x
 | .bool _,_,_,hx=>hx
 | .int _ _,_,_,hx=>hx
 | .nilp,_,_,hx=>hx
 | .ptr a,_,hb,⟨p,hp,hx⟩=>⟨p,bel_A h a p hb hp,hx⟩
 | .nils,_,_,hx=>hx
 | .slice a _ _,_,hb,⟨hl,p,hp,hx⟩=>⟨hl,p,hp.imp id (fun ⟨q,h1,h2⟩=>⟨q,h1,bel_A h a q hb h2⟩),hx⟩
 | .func _ a b,_,hb,⟨xs,ys,h1,h2,hx⟩=>by
  simp only [VV.bel,Bool.and_eq_true] at hb
  exact ⟨xs,ys,bel_L h a xs hb.1 h1,bel_L h b ys hb.2 h2,hx⟩
 | .nilf,_,_,hx=>hx
 | .iface _ v,_,hb,⟨y,hy,hx⟩=>⟨y,bel_V h v y hb hy,hx⟩
 | .niff,_,_,hx=>hx
 | .agg cs,_,hb,⟨xs,h1,hx⟩=>⟨xs,bel_L h cs xs hb h1,hx⟩
 | .tup vs,_,hb,⟨xs,h1,hx⟩=>⟨xs,bel_L h vs xs hb h1,hx⟩
 | .opq _,_,_,hx=>hx
 | .any,_,_,hx=>hx
 | .yld n,_,hb,⟨b,hx,hy⟩=>⟨b,by rw [h.blk n (ltb hb)]; exact hx,hy⟩
 | .sl n L,_,hb,⟨hx,hy⟩=>⟨by rw [h.vec n (ltb hb)]; exact hx,hy⟩
 | .sub n _ _ _ _,_,hb,⟨v,a,c,hx,hy⟩=>⟨v,a,c,by rw [h.vec n (ltb hb)]; exact hx,hy⟩
 | .mp n,_,hb,⟨b,hx,hy⟩=>⟨b,by rw [h.blk n (ltb hb)]; exact hx,hy⟩
 | .tl _ _ g,_,_,⟨p,cap,h1,h2,h3⟩=>⟨p,cap,h1,h2,fun i hi=>by
   obtain ⟨b,o,xs,g1,g2,g3,g5,g4⟩:=h3 i hi
   exact ⟨b,o,xs,g1,h.frz _ _ g2,g3,g5,VRelL.mono h.no (g i) _ g4⟩⟩
 | .tp cs,_,_,⟨b,o,xs,h1,h2,h3⟩=>⟨b,o,xs,h1,h.frz _ _ h2,VRelL.mono h.no cs _ h3⟩
 | .hs _ _ _,_,_,⟨xs,h1,h2⟩=>⟨xs,h.frz _ _ h1,h2⟩
theorem bel_L {k:Nat} {R R':Rn} (h:Agree k R R'):∀ (cs:List VV) (xs:List Value),belL k cs=true->VRelL R cs xs->VRelL R' cs xs
 | [],_,_,hx=>hx
 | c::cs,_,hb,⟨y,ys,h1,h2,hx⟩=>by
  simp only [belL,Bool.and_eq_true] at hb
  exact ⟨y,ys,bel_V h c y hb.1 h1,bel_L h cs ys hb.2 h2,hx⟩
end
def belS (k:Nat):Slots->Bool
 | []=>true
 | (_,v)::r=>v.bel k && belS k r
theorem look_bel {k:Nat}:∀ {t:Slots},belS k t=true->∀ d,(look t d).bel k=true
 | [],_,_=>rfl
 | (m,v)::r,hf,d=>by
  simp only [belS,Bool.and_eq_true] at hf
  rw [look_cons]
  by_cases hm:m=d
  ·rw [if_pos hm]; exact hf.1
  ·rw [if_neg hm]; exact look_bel hf.2 d
def VB.bel (k:Nat):VB->Bool
 | .cells cs _=>belL k cs
 | .loop _ _ t _ _ _ _=>belS k t
 | .fam pre _ _ _=>belL k pre
 | _=>true
theorem belL_app {k:Nat}:∀ {l l':List VV},belL k (l ++ l')=(belL k l && belL k l')
 | [],_=>by simp [belL]
 | v::l,l'=>by simp [belL,belL_app (l:=l),Bool.and_assoc]
theorem belL_ints {k:Nat}:∀ (ns:List Nat) (g:Nat->Int),belL k (ns.map fun j=>VV.int .i64 (g j))=true
 | [],_=>rfl
 | n::ns,g=>by simp [belL,VV.bel,belL_ints ns g]
theorem bel_cs {k:Nat} {b:VB} {cs:List VV} {t:TypeId} (h:b.cs? = some (cs,t)) (hb:b.bel k=true):belL k cs=true:=by
 cases b <;> simp at h
 ·rw [<- h.1]; exact hb
 ·rw [<- h.1,belL_app]
  simp only [Bool.and_eq_true]
  exact ⟨hb,belL_ints _ _⟩
theorem LRel.bel {k:Nat} {R R':Rn} (h:Agree k R R') {st:Bool} {pd:Option VEx} {t:Slots} {m:Nat} {ps:List Nat} {assign body:Code} {r:Loop} (hb:belS k t=true) (l:LRel R st pd t m ps assign body r):LRel R' st pd t m ps assign body r:=
 ⟨l.state,l.pending,l.params,l.assign,l.body,l.size,fun d=>bel_V h _ _ (look_bel hb d) (l.tmps d)⟩
structure Rec where
 o:Oper
 looks:List (Nat × VV)
 pre:List (Nat × VB)
 post:List (Nat × VB)
 v:VV
def ov:List (Nat × VB)->(Nat->VB)->Nat->VB
 | [],η=>η
 | (n,b)::r,η=>upd (ov r η) n b
theorem ov_out {po:List (Nat × VB)} {η:Nat->VB} {n:Nat} (h:∀ p ∈ po,p.1 ≠ n):ov po η n=η n:=by
 induction po with
 | nil=>rfl
 | cons p po ih=>
  obtain ⟨m,b⟩:=p
  have h1:=h (m,b) (by simp)
  simp only [ov,upd]
  rw [if_neg (by simpa using fun e=>h1 e.symm)]
  exact ih (fun q hq=>h q (by simp [hq]))
theorem ov_in {po:List (Nat × VB)} {η η':Nat->VB} {n:Nat} (h:∃ p ∈ po,p.1=n):ov po η n=ov po η' n:=by
 induction po with
 | nil=>obtain ⟨p,hp,_⟩:=h; cases hp
 | cons p po ih=>
  obtain ⟨m,b⟩:=p
  simp only [ov,upd]
  by_cases hm:n=m
  ·simp [hm]
  ·rw [if_neg hm,if_neg hm]
   obtain ⟨q,hq,he⟩:=h
   rcases List.mem_cons.1 hq with rfl | hq
   ·exact (hm he.symm).elim
   ·exact ih ⟨q,hq,he⟩
def updT (τ:Nat->VV) (d:Option Tmp) (v:VV):Nat->VV:=
 match d with
 | some d=>fun m=>if d=m then v else τ m
 | none=>τ
structure StepR (r:Rec) (τ:Nat->VV) (η:Nat->VB) (τ':Nat->VV) (η':Nat->VB):Prop where
 looks:∀ p ∈ r.looks,τ p.1=p.2
 pre:∀ p ∈ r.pre,η p.1=p.2
 t:τ'=updT τ r.o.dst r.v
 h:η'=ov r.post η
structure Indep (r s:Rec):Prop where
 a:∀ d,r.o.dst=some d->(∀ p ∈ s.looks,p.1 ≠ d)/\s.o.dst ≠ some d
 b:∀ d,s.o.dst=some d->∀ p ∈ r.looks,p.1 ≠ d
 c:∀ p ∈ r.post,∀ q ∈ s.pre,p.1 ≠ q.1
 d:∀ p ∈ s.post,∀ q ∈ r.pre,p.1 ≠ q.1
 e:∀ p ∈ r.post,∀ q ∈ s.post,p.1 ≠ q.1
theorem updT_ne {τ:Nat->VV} {d:Option Tmp} {v:VV} {m:Nat} (h:∀ x,d=some x->m ≠ x):updT τ d v m=τ m:=by
 cases d with
 | none=>rfl
 | some x=>simp only [updT]; rw [if_neg (fun e=>h x rfl e.symm)]
theorem swapR {r s:Rec} {τ τ1 τ2:Nat->VV} {η η1 η2:Nat->VB} (hi:Indep r s) (h1:StepR s τ η τ1 η1) (h2:StepR r τ1 η1 τ2 η2) :
  ∃ τ3 η3,StepR r τ η τ3 η3/\StepR s τ3 η3 τ2 η2:=by
 have e1:=h1.t
 have e2:=h1.h
 subst e1; subst e2
 refine ⟨_,_,⟨fun p hp=>?_,fun p hp=>?_,rfl,rfl⟩,⟨fun p hp=>?_,fun p hp=>?_,?_,?_⟩⟩
 ·rw [<- h2.looks p hp,updT_ne (fun x hx=>hi.b x hx p hp)]
 ·rw [<- h2.pre p hp,ov_out (fun q hq=>hi.d q hq p hp)]
 ·rw [<- h1.looks p hp,updT_ne (fun x hx=>(hi.a x hx).1 p hp)]
 ·rw [<- h1.pre p hp,ov_out (fun q hq=>hi.c q hq p hp)]
 ·rw [h2.t]
  funext m
  cases hr:r.o.dst with
  | none=>simp [updT]
  | some x=>
   cases hs:s.o.dst with
   | none=>simp [updT]
   | some y=>
    have hxy:x ≠ y:=fun e=>(hi.a x hr).2 (by rw [hs,e])
    simp only [updT]
    by_cases a1:x=m
    ·have a2:¬ y=m:=fun e=>hxy (by rw [a1,e])
     simp [a1,a2]
    ·simp [a1]
 ·rw [h2.h]
  funext m
  by_cases a1:∃ p ∈ r.post,p.1=m
  ·have a2:∀ p ∈ s.post,p.1 ≠ m:=fun q hq e=>by obtain ⟨p,hp,hpm⟩:=a1; exact hi.e p hp q hq (by rw [hpm,e])
   rw [ov_out (po:=s.post) a2]
   exact ov_in a1
  ·have a1':∀ p ∈ r.post,p.1 ≠ m:=fun p hp e=>a1 ⟨p,hp,e⟩
   rw [ov_out (po:=r.post) a1']
   by_cases a2:∃ p ∈ s.post,p.1=m
   ·exact ov_in a2
   ·have a2':∀ p ∈ s.post,p.1 ≠ m:=fun p hp e=>a2 ⟨p,hp,e⟩
    rw [ov_out a2',ov_out a2',ov_out a1']
def TRun:List (Nat × Rec)->(Nat->VV)->(Nat->VB)->(Nat->VV)->(Nat->VB)->Prop
 | [],τ,η,τ',η'=>τ'=τ/\η'=η
 | p::l,τ,η,τ',η'=>∃ τ1 η1,StepR p.2 τ η τ1 η1/\TRun l τ1 η1 τ' η'
theorem TRun.append {l l':List (Nat × Rec)} {τ τ1 τ2:Nat->VV} {η η1 η2:Nat->VB} (h:TRun l τ η τ1 η1) (h':TRun l' τ1 η1 τ2 η2):TRun (l ++ l') τ η τ2 η2:=by
 induction l generalizing τ η with
 | nil=>obtain ⟨rfl,rfl⟩:=h; exact h'
 | cons p l ih=>obtain ⟨a,b,h1,h2⟩:=h; exact ⟨a,b,h1,ih h2⟩
theorem bubble {p:Nat × Rec} {l2:List (Nat × Rec)}:∀ (l1:List (Nat × Rec)) (τ τ':Nat->VV) (η η':Nat->VB),(∀ q ∈ l1,Indep p.2 q.2)->TRun (l1 ++ p::l2) τ η τ' η' ->
  ∃ τ1 η1,StepR p.2 τ η τ1 η1/\TRun (l1 ++ l2) τ1 η1 τ' η'
 | [],_,_,_,_,_,h=>h
 | q::l1,τ,τ',η,η',hi,h=>by
  obtain ⟨τa,ηa,h1,h2⟩:=h
  obtain ⟨τb,ηb,h3,h4⟩:=bubble l1 τa τ' ηa η' (fun x hx=>hi x (by simp [hx])) h2
  obtain ⟨τc,ηc,h5,h6⟩:=swapR (hi q (by simp)) h1 h3
  exact ⟨τc,ηc,h5,τb,ηb,h6,h4⟩
inductive Reach (ops:Array Oper):Nat->Nat->Prop
 | one {s:Nat} {o:Oper} {e:Edge}:ops[s]? = some o->e ∈ o.after->Region.binds .any e=true->Reach ops s e.on
 | more {s r:Nat} {o:Oper} {e:Edge}:ops[s]? = some o->e ∈ o.after->Region.binds .any e=true->Reach ops e.on r->Reach ops s r
theorem Reach.trans {ops:Array Oper} {a b c:Nat} (h:Reach ops a b) (k:Reach ops b c):Reach ops a c:=by
 induction h with
 | one h1 h2 h3=>exact .more h1 h2 h3 k
 | more h1 h2 h3 _ ih=>exact .more h1 h2 h3 (ih k)
def Cl (ops:Array Oper) (listed:Array Bool):Prop:=
 ∀ j o,ops[j]? = some o->listed.getD j false=true->∀ e ∈ o.after,Region.binds .any e=true->listed.getD e.on false=true
theorem reach_listed {ops:Array Oper} {listed:Array Bool} (hc:Cl ops listed) {s r:Nat} (h:Reach ops s r) (hs:listed.getD s false=true):listed.getD r false=true:=by
 induction h with
 | one h1 h2 h3=>exact hc _ _ h1 hs _ h2 h3
 | more h1 h2 h3 _ ih=>exact ih (hc _ _ h1 hs _ h2 h3)
theorem reach_ready {ops:Array Oper} {listed:Array Bool} (hc:Cl ops listed) {s r:Nat} (h:Reach ops s r) (hs:s ∈ Region.ready .any ops listed):listed.getD r false=true:=by
 obtain ⟨_,o,ho,hall⟩:=mem_ready.1 hs
 cases h with
 | one h1 h2 h3=>rw [ho] at h1; cases h1; exact hall _ h2 h3
 | more h1 h2 h3 h4=>rw [ho] at h1; cases h1; exact reach_listed hc h4 (hall _ h2 h3)
theorem Cl.set {ops:Array Oper} {listed:Array Bool} (hc:Cl ops listed) {i:Nat} (hi:i ∈ Region.ready .any ops listed):Cl ops (listed.setIfInBounds i true):=by
 obtain ⟨_,oi,hoi,hall⟩:=mem_ready.1 hi
 intro j o hj hl e he hb
 by_cases hij:i=j
 ·subst hij
  rw [hj] at hoi
  cases hoi
  exact getD_set_true (hall e he hb)
 ·rw [getD_set_ne false hij] at hl
  exact getD_set_true (hc j o hj hl e he hb)
def TRelF (R:Rn) (τ:Nat->VV) (a:Act):Prop:=∀ d,VRel R (τ d) (a.tmps.getD d undef)
theorem TRelF.put {R:Rn} {τ:Nat->VV} {a:Act} (ht:TRelF R τ a) {d:Option Tmp} (hd:∀ x,d=some x->x<a.tmps.size) {v:VV} {x:Value} (hv:VRel R v x):TRelF R (updT τ d v) (a.put d x):=by
 cases d with
 | none=>exact ht
 | some d=>
  intro d'
  simp only [updT,Act.put,Array.getD_eq_getD_getElem?,Array.getElem?_setIfInBounds]
  by_cases h:d=d'
  ·subst h; simp [hd d rfl,hv]
  ·simp only [h,if_false]
   have:=ht d'
   rwa [Array.getD_eq_getD_getElem?] at this
theorem TRelF.mono {R R':Rn} (h:R.le R') {τ:Nat->VV} {a:Act} (ht:TRelF R τ a):TRelF R' τ a:=fun d=>VRel.mono h _ _ (ht d)
def FactR (P:Program) (ops:Array Oper) (i:Nat) (r:Rec):Prop:=
 ∀ (F:Fence),WF P F->∀ (B:Nat) (R:Rn) (a:Act) (w:World) (η:Nat->VB),Emb B R η w->(∀ p ∈ r.looks,VRel R p.2 (a.tmps.getD p.1 undef))->(∀ p ∈ r.pre,η p.1=p.2) ->
  ∀ (K:Act->World->Prop) (Q:Exit->Act->World->Prop),(∀ x R' w',Nxt η R w (ov r.post η) R' w'->Emb B R' (ov r.post η) w'->VRel R' r.v x->K (a.put r.o.dst x) w')->wpOpIn F 0 P ops Q i K a w
theorem put_size (a:Act) (d:Option Tmp) (x:Value):(a.put d x).tmps.size=a.tmps.size:=by cases d <;> simp [Act.put]
theorem put_defers (a:Act) (d:Option Tmp) (x:Value):(a.put d x).defers=a.defers:=by cases d <;> simp [Act.put]
section
variable {P:Program} {ops:Array Oper} {Q:Exit->Act->World->Prop} {F:Fence}
theorem seg_run (hF:WF P F) (hback:∀ j o,ops[j]? = some o->∀ e ∈ o.after,Region.binds .any e=true->e.on<j) {k m f n:Nat} {B:Nat} {ds:List Deferred} {τ':Nat->VV} {η':Nat->VB}
  (later:∀ j,m<=j->j<ops.size->∀ i,k<=i->i<m->Reach ops j i):∀ (len:Nat) (L:List (Nat × Rec)) (listed:Array Bool) (τ:Nat->VV) (η:Nat->VB) (R:Rn) (a:Act) (w:World),
  L.length=len->listed.size=ops.size->Cl ops listed->(∀ j,j<ops.size->(listed.getD j false=false ↔ (j ∈ L.map (·.1) ∨ m<=j))) ->
  L.Pairwise (fun p q=>p.1<q.1)->(∀ p ∈ L,k<=p.1/\p.1<m/\ops[p.1]? = some p.2.o/\(∀ d,p.2.o.dst=some d->d<n))->(∀ p ∈ L,FactR P ops p.1 p.2) ->
  (∀ p ∈ L,∀ q ∈ L,p.1<q.1->Reach ops q.1 p.1 ∨ Indep q.2 p.2)->TRun L τ η τ' η'->TRelF R τ a->Emb B R η w->a.tmps.size=n->a.defers=ds ->
  (∀ listed' R' a' w',listed'.size=ops.size->Cl ops listed'->(∀ j,j<ops.size->(listed'.getD j false=false ↔ m<=j))->Nxt η R w η' R' w'->Emb B R' η' w'->TRelF R' τ' a'->a'.tmps.size=n->a'.defers=ds ->
   wpAnyIn F 0 P .any ops Q f listed' a' w')->wpAnyIn F 0 P .any ops Q (len+f) listed a w:=by
 intro len
 induction len with
 | zero=>
  intro L listed τ η R a w hlen hsz hcl hun _ _ _ _ hrun ht he hn hds hfin
  have:L=[]:=List.length_eq_zero_iff.1 hlen
  subst this
  obtain ⟨rfl,rfl⟩:=hrun
  rw [Nat.zero_add]
  exact hfin listed R a w hsz hcl (fun j hj=>by simpa using hun j hj) (Nxt.refl _ _ _ he.fresh) he ht hn hds
 | succ len ih=>
  intro L listed τ η R a w hlen hsz hcl hun hsort hinb hfact hind hrun ht he hn hds hfin
  cases L with
  | nil=>simp at hlen
  | cons p0 L0=>
  have hp0:=hinb p0 (by simp)
  have hlt0:p0.1<ops.size:=(Array.getElem?_eq_some_iff.1 hp0.2.2.1).1
  have hun0:listed.getD p0.1 false=false:=(hun p0.1 hlt0).2 (.inl (by simp))
  have hmin:∀ q ∈ p0::L0,p0.1<=q.1:=by
   intro q hq
   rcases List.mem_cons.1 hq with rfl | hq
   ·exact Nat.le_refl _
   ·exact Nat.le_of_lt ((List.pairwise_cons.1 hsort).1 q hq)
  rw [show len+1+f=(len+f)+1 by omega]
  refine ⟨fun hnil=>?_,fun i hi=>?_⟩
  ·exfalso
   have:p0.1 ∈ Region.ready .any ops listed:=by
    refine mem_ready.2 ⟨getD_in (by omega) hun0,_,hp0.2.2.1,fun e hme hb=>?_⟩
    have hlt:=hback _ _ hp0.2.2.1 e hme hb
    cases hl:listed.getD e.on false with
    | true=>rfl
    | false=>
     rcases (hun e.on (by omega)).1 hl with h1 | h1
     ·obtain ⟨q,hq,hqe⟩:=List.mem_map.1 h1
      have:=hmin q hq
      omega
     ·omega
   rw [hnil] at this
   cases this
  ·obtain ⟨hiun,oi,hoi,hall⟩:=mem_ready.1 hi
   have hisz:i<ops.size:=(Array.getElem?_eq_some_iff.1 hoi).1
   have hiun':listed.getD i false=false:=getD_both hiun
   have him:i<m:=by
    rcases Nat.lt_or_ge i m with h | h
    ·exact h
    ·have:=reach_ready hcl (later i h hisz p0.1 hp0.1 hp0.2.1) hi
     rw [hun0] at this; cases this
   have hmem:i ∈ (p0::L0).map (·.1):=((hun i hisz).1 hiun').resolve_right (by omega)
   obtain ⟨p,hp,rfl⟩:=List.mem_map.1 hmem
   obtain ⟨l1,l2,hsplit⟩:=List.append_of_mem hp
   rw [hsplit] at hsort hinb hfact hind hrun hun hlen
   have hpi:∀ q ∈ l1,Indep p.2 q.2:=by
    intro q hq
    have hlt:q.1<p.1:=by
     have:=(List.pairwise_append.1 hsort).2.2 q hq p (by simp)
     exact this
    rcases hind q (by simp [hq]) p (by simp) hlt with hr | hr
    ·exfalso
     have h1:=reach_ready hcl hr hi
     have hq':=hinb q (by simp [hq])
     have hqs:q.1<ops.size:=(Array.getElem?_eq_some_iff.1 hq'.2.2.1).1
     have h2:=(hun q.1 hqs).2 (.inl (List.mem_map.2 ⟨q,by simp [hq],rfl⟩))
     rw [h2] at h1; cases h1
    ·exact hr
   obtain ⟨τ1,η1,hstep,hrest⟩:=bubble l1 τ τ' η η' hpi hrun
   have hpinb:=hinb p (by simp)
   refine hfact p (by simp) F hF B R a w η he (fun q hq=>by rw [<- hstep.looks q hq]; exact ht q.1) hstep.pre _ _ (fun x R' w' hn1 he1 hv=>?_)
   rw [<- hstep.h] at hn1 he1
   have hle:=hn1.le he
   have hsub:∀ q,q ∈ l1 ++ l2->q ∈ l1 ++ p::l2:=fun q hq=>by
    rcases List.mem_append.1 hq with h | h
    ·exact List.mem_append.2 (.inl h)
    ·exact List.mem_append.2 (.inr (by simp [h]))
   have hsorted':(l1 ++ l2).Pairwise (fun p q=>p.1<q.1):=hsort.sublist (by simp)
   have hne:∀ q ∈ l1 ++ l2,q.1 ≠ p.1:=by
    intro q hq
    rcases List.mem_append.1 hq with h | h
    ·have:=(List.pairwise_append.1 hsort).2.2 q h p (by simp); omega
    ·have:=(List.pairwise_cons.1 (List.pairwise_append.1 hsort).2.1).1 q h; omega
   refine ih (l1 ++ l2) (listed.setIfInBounds p.1 true) τ1 η1 R' _ w' (by simp at hlen ⊢; omega) (by simp [hsz]) (hcl.set hi) ?_ hsorted' (fun q hq=>hinb q (hsub q hq)) (fun q hq=>hfact q (hsub q hq))
    (fun x hx y hy=>hind x (hsub x hx) y (hsub y hy)) hrest (by rw [hstep.t]; exact (ht.mono hle).put (fun d hd=>by rw [hn]; exact hpinb.2.2.2 d hd) hv) he1 (by rw [put_size]; exact hn) (by rw [put_defers]; exact hds) ?_
   ·intro j hj
    by_cases hpj:p.1=j
    ·subst hpj
     constructor
     ·intro h
      rw [Array.getD_eq_getD_getElem?,Array.getElem?_setIfInBounds] at h
      simp [hsz,hj] at h
     ·rintro (h | h)
      ·obtain ⟨q,hq,hqe⟩:=List.mem_map.1 h
       exact absurd hqe (hne q hq)
      ·omega
    ·rw [getD_set_ne false hpj,hun j hj]
     constructor
     ·rintro (h | h)
      ·left
       obtain ⟨q,hq,hqe⟩:=List.mem_map.1 h
       refine List.mem_map.2 ⟨q,?_,hqe⟩
       rcases List.mem_append.1 hq with h | h
       ·exact List.mem_append.2 (.inl h)
       ·rcases List.mem_cons.1 h with rfl | h
        ·exact absurd hqe hpj
        ·exact List.mem_append.2 (.inr h)
      ·exact .inr h
     ·rintro (h | h)
      ·left
       obtain ⟨q,hq,hqe⟩:=List.mem_map.1 h
       exact List.mem_map.2 ⟨q,hsub q hq,hqe⟩
      ·exact .inr h
   ·intro listed' R'' a'' w'' g1 g2 g3 g4 g5 g6 g7 g8
    exact hfin listed' R'' a'' w'' g1 g2 g3 (hn1.trans g4) g5 g6 g7 g8
end
end Go.Sx
