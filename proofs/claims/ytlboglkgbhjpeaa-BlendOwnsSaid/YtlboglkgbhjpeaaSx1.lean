/- Abstract values and heaps, and how they stand to the model's. -/
import Derived.CallsIn
import Derived.OrdersIn
import Derived.KernelRfl
import Derived.Below
import Derived.RangeFuncOwn
import Derived.RangeFuncLeaves
import Derived.Maps.AppendAt
namespace Go.Sx
open Go
inductive VA where
 | own (n off:Nat)
 | el (n:Nat) (ix:List Int) (i:Int) (off:Nat)
 | ve (n L s i off:Nat)
 | fa (n p o:Nat)
 | rw (n j o:Nat)
 | hb (t j o:Nat)
inductive VV where
 | bool (b:Bool)
 | int (k:IntKind) (n:Int)
 | nilp
 | ptr (a:VA)
 | nils
 | slice (a:VA) (len cap:Nat)
 | func (f:FuncId) (first cap:List VV)
 | nilf
 | iface (t:TypeId) (v:VV)
 | niff
 | agg (cs:List VV)
 | tup (vs:List VV)
 | opq (v:Value)
 | any
 | yld (n:Nat)
 | sl (n L:Nat)
 | sub (n L s i k:Nat)
 | mp (n:Nat)
 | tl (L s:Nat) (g:Nat->List VV)
 | tp (cs:List VV)
 | hs (t j C:Nat)
def VV.one:VV->Bool
 | .agg _=>false
 | .tup _=>false
 | .opq v=>v.oneCell'
 | .any=>false
 | _=>true
inductive FK where
 | blk (b:Nat)
 | reg (t j:Nat)
 deriving DecidableEq
instance:Coe Nat FK:=⟨.blk⟩
structure Rn where
 blk:Nat->Option Nat
 arr:Nat->List Int->Addr
 str:Nat->Nat
 vec:Nat->Nat->Option Value
 frz:FK->Option (List Value)
def Rn.no (R:Rn):Rn:=⟨fun _=>none,R.arr,R.str,fun _ _=>none,R.frz⟩
def ARel (R:Rn):VA->Addr->Prop
 | .own n off,x=>∃ b,R.blk n=some b/\x=⟨b,off,none⟩
 | .el n ix i off,x=>x=(R.arr n ix).add (i.toNat*R.str n+off)
 | .ve n L s i off,x=>i<L/\∃ v b,R.vec n L=some v/\v.ownBlock=some b/\x=⟨b,i*s+off,none⟩
 | .fa n p o,x=>∃ b,R.blk n=some b/\x=⟨b,p+o,none⟩
 | .rw n j o,x=>∃ v b,R.vec n j=some v/\v.ownBlock=some b/\x=⟨b,o,none⟩
 | .hb t j o,x=>∃ xs v b,R.frz (.reg t j)=some xs/\xs[0]? = some v/\v.ownBlock=some b/\x=⟨b,o,none⟩
mutual
def VRel:Rn->VV->Value->Prop
 | _,.bool b,x=>x=.bool b
 | _,.int k n,x=>x=.int k n
 | _,.nilp,x=>x=.pointer none
 | R,.ptr a,x=>∃ p,ARel R a p/\x=.pointer (some p)
 | _,.nils,x=>x=.slice none 0 0
 | R,.slice a len cap,x=>len<=cap/\∃ p:Option Addr,(cap=0 ∨ ∃ q,p=some q/\ARel R a q)/\x=.slice p len cap
 | R,.func f first cap,x=>∃ xs ys,VRelL R first xs/\VRelL R cap ys/\x=.func (.func f) xs.toArray ys.toArray
 | _,.nilf,x=>x=.nilFunc
 | R,.iface t v,x=>∃ y,VRel R v y/\x=.iface t y
 | _,.niff,x=>x=.nilIface
 | R,.agg cs,x=>∃ xs,VRelL R cs xs/\x=.agg xs.toArray
 | R,.tup vs,x=>∃ xs,VRelL R vs xs/\x=.tuple xs.toArray
 | _,.opq v,x=>x=v
 | _,.any,_=>True
 | R,.yld n,x=>∃ b,R.blk n=some b/\x=.func (.yield b) #[] #[]
 | R,.sl n L,x=>R.vec n L=some x/\∃ a c,x=.slice a L c
 | R,.sub n L s i k,x=>∃ v a c,R.vec n L=some v/\x=.slice a k c/\i+k<=L/\k<=c/\L<=i+c/\(c=0 ∨ ∃ b,v.ownBlock=some b/\a=some ⟨b,i*s,none⟩)/\∃ a0,v=.slice a0 L (i+c)/\(i=0->a=a0)
 | R,.mp n,x=>∃ b,R.blk n=some b/\x=.map (some b)
 | R,.tl L s g,x=>∃ p cap,x=.slice p L cap/\(L<=cap/\(p=none->cap=0))/\∀ i,i<L->∃ b o xs,p=some ⟨b,o,none⟩/\R.frz (.blk b)=some xs/\o+i*s+s<=xs.length/\(g i).all VV.one=true/\VRelL R.no (g i) ((xs.drop (o+i*s)).take s)
 | R,.tp cs,x=>∃ b o xs,x=.pointer (some ⟨b,o,none⟩)/\R.frz (.blk b)=some xs/\VRelL R.no cs ((xs.drop o).take cs.length)
 | R,.hs t j C,x=>∃ xs,R.frz (.reg t j)=some xs/\xs[0]? = some x/\∃ a c,x=.slice a C c
def VRelL:Rn->List VV->List Value->Prop
 | _,[],xs=>xs=[]
 | R,c::cs,xs=>∃ y ys,VRel R c y/\VRelL R cs ys/\xs=y::ys
end
structure Rn.le (R R':Rn):Prop where
 blk:∀ n b,R.blk n=some b->R'.blk n=some b
 arr:R'.arr=R.arr
 str:R'.str=R.str
 vec:∀ n L v,R.vec n L=some v->R'.vec n L=some v
 frz:∀ b xs,R.frz b=some xs->R'.frz b=some xs
theorem Rn.le.no {R R':Rn} (h:R.le R'):R.no.le R'.no:=⟨fun _ _ h=>(by cases h),h.arr,h.str,fun _ _ _ h=>(by cases h),h.frz⟩
theorem ARel.mono {R R':Rn} (h:R.le R') {a:VA} {x:Addr} (hx:ARel R a x):ARel R' a x:=by
 cases a with
 | own n off=>obtain ⟨b,hb,rfl⟩:=hx; exact ⟨b,h.1 _ _ hb,rfl⟩
 | el n ix i off=>simp only [ARel] at hx ⊢; rw [h.arr,h.str]; exact hx
 | ve n L s i off=>obtain ⟨h0,v,b,h1,h2,h3⟩:=hx; exact ⟨h0,v,b,h.vec _ _ _ h1,h2,h3⟩
 | fa n p o=>obtain ⟨b,hb,rfl⟩:=hx; exact ⟨b,h.1 _ _ hb,rfl⟩
 | rw n j o=>obtain ⟨v,b,h1,h2,h3⟩:=hx; exact ⟨v,b,h.vec _ _ _ h1,h2,h3⟩
 | hb t j o=>obtain ⟨xs,v,b,h1,h2⟩:=hx; exact ⟨xs,v,b,h.frz _ _ h1,h2⟩
mutual
theorem VRel.mono:∀ {R R':Rn} (_:R.le R') (v:VV) (x:Value),VRel R v x->VRel R' v x
 | _,_,_,.bool _,_,hx=>hx
 | _,_,_,.int _ _,_,hx=>hx
 | _,_,_,.nilp,_,hx=>hx
 | _,_,h,.ptr _,_,⟨p,hp,hx⟩=>⟨p,hp.mono h,hx⟩
 | _,_,_,.nils,_,hx=>hx
 | _,_,h,.slice _ _ _,_,⟨hl,p,hp,hx⟩=>⟨hl,p,hp.imp id (fun ⟨q,h1,h2⟩=>⟨q,h1,h2.mono h⟩),hx⟩
 | _,_,h,.func _ first cap,_,⟨xs,ys,h1,h2,hx⟩=>⟨xs,ys,VRelL.mono h first xs h1,VRelL.mono h cap ys h2,hx⟩
 | _,_,_,.nilf,_,hx=>hx
 | _,_,h,.iface _ v,_,⟨y,hy,hx⟩=>⟨y,VRel.mono h v y hy,hx⟩
 | _,_,_,.niff,_,hx=>hx
 | _,_,h,.agg cs,_,⟨xs,h1,hx⟩=>⟨xs,VRelL.mono h cs xs h1,hx⟩
 | _,_,h,.tup vs,_,⟨xs,h1,hx⟩=>⟨xs,VRelL.mono h vs xs h1,hx⟩
 | _,_,_,.opq _,_,hx=>hx
 | _,_,_,.any,_,hx=>hx
 | _,_,h,.yld _,_,⟨b,hb,hx⟩=>⟨b,h.1 _ _ hb,hx⟩
 | _,_,h,.sl _ _,_,⟨hx,hy⟩=>⟨h.vec _ _ _ hx,hy⟩
 | _,_,h,.sub _ _ _ _ _,_,⟨v,a,c,hx,hy⟩=>⟨v,a,c,h.vec _ _ _ hx,hy⟩
 | _,_,h,.mp _,_,⟨b,hb,hx⟩=>⟨b,h.1 _ _ hb,hx⟩
 | _,_,h,.tl _ _ g,_,⟨p,cap,h1,h2,h3⟩=>⟨p,cap,h1,h2,fun i hi=>by
   obtain ⟨b,o,xs,g1,g2,g3,g5,g4⟩:=h3 i hi
   exact ⟨b,o,xs,g1,h.frz _ _ g2,g3,g5,VRelL.mono h.no (g i) _ g4⟩⟩
 | _,_,h,.tp cs,_,⟨b,o,xs,h1,h2,h3⟩=>⟨b,o,xs,h1,h.frz _ _ h2,VRelL.mono h.no cs _ h3⟩
 | _,_,h,.hs _ _ _,_,⟨xs,h1,h2⟩=>⟨xs,h.frz _ _ h1,h2⟩
theorem VRelL.mono:∀ {R R':Rn} (_:R.le R') (cs:List VV) (xs:List Value),VRelL R cs xs->VRelL R' cs xs
 | _,_,_,[],_,hx=>hx
 | _,_,h,c::cs,_,⟨y,ys,h1,h2,hx⟩=>⟨y,ys,VRel.mono h c y h1,VRelL.mono h cs ys h2,hx⟩
end
theorem VRelL.length {R:Rn}:∀ {cs:List VV} {xs:List Value},VRelL R cs xs->cs.length=xs.length
 | [],_,h=>by simp only [VRelL] at h; subst h; rfl
 | c::cs,_,h=>by obtain ⟨y,ys,_,h2,rfl⟩:=h; simp [h2.length]
theorem VRelL.get {R:Rn}:∀ {cs:List VV} {xs:List Value},VRelL R cs xs->∀ (i:Nat) (v:VV),cs[i]? = some v->∃ x,xs[i]? = some x/\VRel R v x
 | [],_,_=>fun i v hv=>by simp at hv
 | c::cs,_,h=>by
  obtain ⟨y,ys,h1,h2,rfl⟩:=h
  intro i v hv
  cases i with
  | zero=>simp at hv; subst hv; exact ⟨y,by simp,h1⟩
  | succ i=>simpa using h2.get i v (by simpa using hv)
theorem VRelL.set {R:Rn}:∀ {cs:List VV} {xs:List Value},VRelL R cs xs->∀ (i:Nat) (v:VV) (x:Value),VRel R v x->VRelL R (cs.set i v) (xs.set i x)
 | [],_,h=>by simp only [VRelL] at h; subst h; intro i v x _; simp [VRelL]
 | c::cs,_,h=>by
  obtain ⟨y,ys,h1,h2,rfl⟩:=h
  intro i v x hv
  cases i with
  | zero=>exact ⟨x,ys,hv,h2,rfl⟩
  | succ i=>exact ⟨y,ys.set i x,h1,h2.set i v x hv,rfl⟩
theorem VRelL.append {R:Rn}:∀ {cs ds:List VV} {xs ys:List Value},VRelL R cs xs->VRelL R ds ys->VRelL R (cs ++ ds) (xs ++ ys)
 | [],_,_,_,h,h'=>by simp only [VRelL] at h; subst h; simpa using h'
 | c::cs,_,_,_,h,h'=>by
  obtain ⟨y,ys,h1,h2,rfl⟩:=h
  exact ⟨y,_,h1,h2.append h',rfl⟩
theorem VRelL.drop {R:Rn}:∀ {cs:List VV} {xs:List Value} (n:Nat),VRelL R cs xs->VRelL R (cs.drop n) (xs.drop n)
 | _,_,0,h=>by simpa using h
 | [],_,n+1,h=>by simp only [VRelL] at h; subst h; simp [VRelL]
 | c::cs,_,n+1,h=>by
  obtain ⟨y,ys,h1,h2,rfl⟩:=h
  simpa using h2.drop n
theorem VRelL.take {R:Rn}:∀ {cs:List VV} {xs:List Value} (n:Nat),VRelL R cs xs->VRelL R (cs.take n) (xs.take n)
 | _,_,0,h=>by simp [VRelL]
 | [],_,n+1,h=>by simp only [VRelL] at h; subst h; simp [VRelL]
 | c::cs,_,n+1,h=>by
  obtain ⟨y,ys,h1,h2,rfl⟩:=h
  exact ⟨y,_,h1,h2.take n,by simp⟩
theorem VRelL.replicate {R:Rn} {v:VV} {x:Value} (h:VRel R v x):∀ (n:Nat),VRelL R (List.replicate n v) (List.replicate n x)
 | 0=>by simp [VRelL]
 | n+1=>⟨x,_,h,VRelL.replicate h n,by simp [List.replicate_succ]⟩
inductive VEx where
 | normal
 | exit (id:Nat)
 | goto (l:Nat)
 | ret
 | panic (v:VV)
abbrev Slots:=List (Nat × VV)
def look:Slots->Nat->VV
 | [],_=>.any
 | (m,v)::r,n=>bif Nat.beq m n then v else look r n
inductive PK where
 | bool
 | int (k:IntKind)
def PK.val:PK->Int->Value
 | .bool,n=>.bool (decide (n=1))
 | .int k,n=>.int k n
def PK.vv:PK->Int->VV
 | .bool,n=>.bool (decide (n=1))
 | .int k,n=>.int k n
def keyV:List PK->List Int->List Value
 | k::ks,n::ns=>k.val n::keyV ks ns
 | _,_=>[]
def keyB:List PK->List Int->Bool
 | [],[]=>true
 | .bool::ks,n::ns=>(decide (n=0) || decide (n=1)) && keyB ks ns
 | .int _::ks,_::ns=>keyB ks ns
 | _,_=>false
def famL (L:Nat) (g:Nat->Int):List VV:=(List.range L).map fun k=>.int .i64 (g k)
inductive VB where
 | cells (cs:List VV) (t:TypeId)
 | arr (stride:Nat) (ok:List Int->Int->Prop) (g:List Int->Int->List VV)
 | gone
 | free
 | loop (st:Bool) (pd:Option VEx) (t:Slots) (m:Nat) (ps:List Nat) (assign body:Code)
 | vec (L:Nat) (g:Nat->List VV) (s:Nat) (t:TypeId)
 | fam (pre:List VV) (L:Nat) (g:Nat->Int) (t:TypeId)
 | map (ks:List PK) (vk:PK) (es:List (List Int × Int))
 | mat (K r C:Nat) (g:Nat->Nat->Int) (t te:TypeId)
 | bun (t r C:Nat) (g:Nat->Nat->Int) (te:TypeId)
@[simp] def VB.ver:VB->Option Nat
 | .vec L ..=>some L
 | .mat _ r ..=>some r
 | _=>none
@[simp] def VB.cs? : VB->Option (List VV × TypeId)
 | .cells cs t=>some (cs,t)
 | .fam pre L g t=>some (pre ++ famL L g,t)
 | _=>none
def VB.live:VB->Prop
 | .cells ..=>True
 | .loop ..=>True
 | .fam ..=>True
 | .map ..=>True
 | _=>False
def VB.mine:VB->Prop
 | .cells ..=>True
 | .loop ..=>True
 | .vec ..=>True
 | .fam ..=>True
 | .map ..=>True
 | .mat ..=>True
 | .bun ..=>True
 | _=>False
def pdc:Option VEx->Option Code
 | some .ret=>some .ret
 | some (.exit id)=>some (.exit id)
 | some (.goto l)=>some (.goto l)
 | _=>none
structure LRel (R:Rn) (st:Bool) (pd:Option VEx) (t:Slots) (m:Nat) (ps:List Nat) (assign body:Code) (r:Loop):Prop where
 state:r.state=if st then .ready else .done
 pending:r.pending=pdc pd
 params:r.params=ps.toArray
 assign:r.assign=assign
 body:r.body=body
 size:r.tmps.size=m
 tmps:∀ d,VRel R (look t d) (r.tmps.getD d undef)
theorem LRel.mono {R R':Rn} (h:R.le R') {st:Bool} {pd:Option VEx} {t:Slots} {m:Nat} {ps:List Nat} {assign body:Code} {r:Loop} (l:LRel R st pd t m ps assign body r):LRel R' st pd t m ps assign body r:=
 ⟨l.state,l.pending,l.params,l.assign,l.body,l.size,fun d=>VRel.mono h _ _ (l.tmps d)⟩
structure VH where
 nx:Nat
 bs:List (Nat × VB)
def lookB:List (Nat × VB)->Nat->VB
 | [],_=>.gone
 | (m,b)::r,n=>bif Nat.beq m n then b else lookB r n
def VH.at (h:VH) (n:Nat):VB:=bif Nat.blt n h.nx then lookB h.bs n else .free
def VH.put (h:VH) (n:Nat) (b:VB):VH:=⟨h.nx,(n,b)::h.bs⟩
def VH.new (h:VH) (b:VB):VH:=⟨h.nx+1,(h.nx,b)::h.bs⟩
theorem Rn.no_le (R:Rn):R.no.le R:=⟨fun _ _ h=>(by cases h),rfl,rfl,fun _ _ _ h=>(by cases h),fun _ _ h=>h⟩
def Rn.ow (R:Rn) (n:Nat):VB->Nat->Prop
 | .cells ..=>fun b=>R.blk n=some b
 | .loop ..=>fun b=>R.blk n=some b
 | .vec L ..=>fun b=>(R.vec n L).bind Value.ownBlock=some b
 | .fam ..=>fun b=>R.blk n=some b
 | .map ..=>fun b=>R.blk n=some b
 | .mat _ r ..=>fun b=>∃ j v,j<=r/\R.vec n j=some v/\v.ownBlock=some b
 | .bun t r ..=>fun b=>∃ j xs v,j<r/\R.frz (.reg t j)=some xs/\xs[0]? = some v/\v.ownBlock=some b
 | _=>fun _=>False
structure VecOk (B:Nat) (R:Rn) (n:Nat) (w:World) (L:Nat) (g:Nat->List VV) (s:Nat) (t:TypeId):Prop where
 row:∃ v xs,R.vec n L=some v/\w.ownsRow B t s v L xs/\∀ i,i<L->VRelL R.no (g i) ((xs.drop (i*s)).take s)/\(g i).all VV.one=true
 last:∀ L',L<L'->R.vec n L'=none
structure MapOk (B:Nat) (R:Rn) (n:Nat) (w:World) (ks:List PK) (vk:PK) (es:List (List Int × Int)):Prop where
 row:∃ b ents clock,R.blk n=some b/\B<=b/\w.heap[b]? = some (.map ents clock)/\ents.toList.map (fun e=>(e.key,e.val))=es.map (fun e=>(.agg (keyV ks e.1).toArray,vk.val e.2))
 len:∀ e ∈ es,keyB ks e.1=true
structure MatOk (B:Nat) (R:Rn) (n:Nat) (w:World) (K r C:Nat) (g:Nat->Nat->Int) (t te:TypeId):Prop where
 le:r<=K
 outer:∃ (b:Nat) (xs:List Value),R.vec n 0=some (.slice (some ⟨b,0,none⟩) K K)/\B<=b/\w.heap[b]? = some (.cells xs.toArray t (0,0))/\xs.length=K/\(∀ i,i<r->∃ v,R.vec n (i+1)=some v/\xs[i]? = some v)/\∀ i,r<=i->i<K->xs[i]? = some (.slice none 0 0)
 rows:∀ i,i<r->∃ (b:Nat) (xs:List Value),R.vec n (i+1)=some (.slice (some ⟨b,0,none⟩) C C)/\B<=b/\w.heap[b]? = some (.cells xs.toArray te (0,0))/\xs.length=C/\∀ k,k<C->xs[k]? = some (.int .i64 (g i k))
 inj:∀ i j u v b,i<=r->j<=r->R.vec n i=some u->R.vec n j=some v->u.ownBlock=some b->v.ownBlock=some b->i=j
 last:∀ L',r<L'->R.vec n L'=none
structure BunOk (B:Nat) (R:Rn) (w:World) (t r C:Nat) (g:Nat->Nat->Int) (te:TypeId):Prop where
 rows:∀ i,i<r->∃ ys v xs,R.frz (.reg t i)=some ys/\ys[0]? = some v/\w.ownsRow B te 1 v C xs/\∀ k,k<C->xs[k]? = some (.int .i64 (g i k))
 inj:∀ i j us vs u v b,i<r->j<r->R.frz (.reg t i)=some us->R.frz (.reg t j)=some vs->us[0]? = some u->vs[0]? = some v->u.ownBlock=some b->v.ownBlock=some b->i=j
 last:∀ i,r<=i->R.frz (.reg t i)=none
structure Emb (B:Nat) (R:Rn) (η:Nat->VB) (w:World):Prop where
 base:B<=w.heap.size
 ownC:∀ n cs t,(η n).cs? = some (cs,t)->∃ b xs,R.blk n=some b/\B<=b/\VRelL R cs xs/\w.heap[b]? = some (.cells xs.toArray t (0,0))
 inj:∀ n m b,R.ow n (η n) b->R.ow m (η m) b->n=m
 arr:∀ n s ok g,η n=.arr s ok g->R.str n=s/\∀ ix i,ok ix i->0<=i/\(R.arr n ix).block<B/\(R.arr n ix).spot=none /\
  ∃ xs,VRelL R.no (g ix i) xs/\xs.length=s/\∀ k x,xs[k]? = some x->w.cell? ((R.arr n ix).add (i.toNat*s+k))=some x
 fresh:∀ n,η n=.free->R.blk n=none
 lp:∀ n st pd t m ps as bd,η n=.loop st pd t m ps as bd->∃ b r,R.blk n=some b/\B<=b/\w.heap[b]? = some (.loop r)/\LRel R st pd t m ps as bd r
 vec:∀ n L g s t,η n=.vec L g s t->VecOk B R n w L g s t
 fvec:∀ n,η n=.free->∀ L,R.vec n L=none
 map:∀ n ks vk es,η n=.map ks vk es->MapOk B R n w ks vk es
 mat:∀ n K r C g t te,η n=.mat K r C g t te->MatOk B R n w K r C g t te
 bun:∀ n t r C g te,η n=.bun t r C g te->BunOk B R w t r C g te/\∀ m r' C' g' te',η m=.bun t r' C' g' te'->m=n
 frz:∀ (b:Nat) xs,R.frz (.blk b)=some xs->b<w.heap.size/\(∀ n,¬ R.ow n (η n) b)/\∀ k x,xs[k]? = some x->w.cell? ⟨b,k,none⟩=some x
theorem Emb.own {B:Nat} {R:Rn} {η:Nat->VB} {w:World} (e:Emb B R η w) (n:Nat) (cs:List VV) (t:TypeId) (h:η n=.cells cs t):∃ b xs,R.blk n=some b/\B<=b/\VRelL R cs xs/\w.heap[b]? = some (.cells xs.toArray t (0,0)):=
 e.ownC n cs t (by rw [h]; rfl)
theorem Emb.ownF {B:Nat} {R:Rn} {η:Nat->VB} {w:World} (e:Emb B R η w) {n:Nat} {pre:List VV} {L:Nat} {g:Nat->Int} {t:TypeId} (h:η n=.fam pre L g t):∃ b xs,R.blk n=some b/\B<=b/\VRelL R (pre ++ famL L g) xs/\w.heap[b]? = some (.cells xs.toArray t (0,0)):=
 e.ownC n _ t (by rw [h]; rfl)
structure RegN (η:Nat->VB) (R:Rn) (η':Nat->VB) (R':Rn):Prop where
 new:∀ t j xs,R'.frz (.reg t j)=some xs->R.frz (.reg t j)=some xs ∨ ∃ n r C g te,η n=.bun t r C g te
 old:∀ n t r C g te,η' n=.bun t r C g te->∃ r' C' g' te',η n=.bun t r' C' g' te'
theorem RegN.refl (η:Nat->VB) (R:Rn):RegN η R η R:=⟨fun _ _ _ h=>.inl h,fun _ _ _ _ _ _ h=>⟨_,_,_,_,h⟩⟩
theorem RegN.trans {η η1 η2:Nat->VB} {R R1 R2:Rn} (h:RegN η R η1 R1) (k:RegN η1 R1 η2 R2):RegN η R η2 R2:=by
 refine ⟨fun t j xs hx=>?_,fun n t r C g te hn=>?_⟩
 ·rcases k.new t j xs hx with h1 | ⟨n,r,C,g,te,h1⟩
  ·exact h.new t j xs h1
  ·obtain ⟨r',C',g',te',h2⟩:=h.old n t r C g te h1
   exact .inr ⟨n,r',C',g',te',h2⟩
 ·obtain ⟨r',C',g',te',h1⟩:=k.old n t r C g te hn
  exact h.old n t r' C' g' te' h1
theorem RegN.same {η η':Nat->VB} {R R':Rn} (hf:∀ t j,R'.frz (.reg t j)=R.frz (.reg t j)) (ho:∀ n t r C g te,η' n=.bun t r C g te->η n=.bun t r C g te):RegN η R η' R':=
 ⟨fun t j _ h=>.inl (by rw [<- hf t j]; exact h),fun n t r C g te h=>⟨_,_,_,_,ho n t r C g te h⟩⟩
structure Nxt (η:Nat->VB) (R:Rn) (w:World) (η':Nat->VB) (R':Rn) (w':World):Prop where
 keep:∀ n,η n ≠ .free->η' n ≠ .free
 old:∀ n,η n ≠ .free->R'.blk n=R.blk n
 arr:R'.arr=R.arr
 str:R'.str=R.str
 vold:∀ n L v,R.vec n L=some v->R'.vec n L=some v
 vnew:∀ n L v,R.vec n L=none->R'.vec n L=some v->η n=.free ∨ ∃ L0,(η n).ver=some L0/\L0<L
 vmono:∀ n L,(η' n).ver=some L->η n=.free ∨ ∃ L0,(η n).ver=some L0/\L0<=L
 own:∀ n b,R'.ow n (η' n) b->(∃ m,R.ow m (η m) b) ∨ w.heap.size<=b
 size:w.heap.size<=w'.heap.size
 frame:∀ b,b<w.heap.size->(∀ n,¬ R.ow n (η n) b)->w'.heap[b]? = w.heap[b]?
 os:w'.os=w.os
 tape:w'.tape=w.tape
 output:w'.output=w.output
 fmono:∀ b xs,R.frz b=some xs->R'.frz b=some xs
 fnew:∀ (b:Nat) xs,R'.frz (.blk b)=some xs->R.frz (.blk b)=some xs ∨ (∃ n,R.ow n (η n) b) ∨ w.heap.size<=b
 reg:RegN η R η' R'
theorem VB.live_not_free {b:VB} (h:b.live):b ≠ .free:=by cases b <;> simp_all [VB.live]
theorem Nxt.refl (η:Nat->VB) (R:Rn) (w:World) (_:∀ n,η n=.free->R.blk n=none):Nxt η R w η R w:=
 ⟨fun _ h=>h,fun _ _=>rfl,rfl,rfl,fun _ _ _ h=>h,fun n L v h h'=>(by rw [h] at h'; cases h'),fun n L h=>.inr ⟨L,h,Nat.le_refl _⟩,fun n _ h=>.inl ⟨n,h⟩,Nat.le_refl _,fun _ _ _=>rfl,rfl,rfl,rfl,fun _ _ h=>h,fun _ _ h=>.inl h,RegN.refl _ _⟩
theorem Nxt.trans {η η1 η2:Nat->VB} {R R1 R2:Rn} {w w1 w2:World} (h:Nxt η R w η1 R1 w1) (k:Nxt η1 R1 w1 η2 R2 w2):Nxt η R w η2 R2 w2 where
 keep n hn:=k.keep n (h.keep n hn)
 old n hn:=(k.old n (h.keep n hn)).trans (h.old n hn)
 arr:=k.arr.trans h.arr
 str:=k.str.trans h.str
 vold n L v hv:=k.vold n L v (h.vold n L v hv)
 vnew n L v hv hv':=by
  cases h1:R1.vec n L with
  | some y=>exact h.vnew n L y hv h1
  | none=>
   rcases k.vnew n L v h1 hv' with h2 | ⟨L0,h2,h3⟩
   ·left
    by_cases hf:η n=.free
    ·exact hf
    ·exact (h.keep n hf h2).elim
   ·rcases h.vmono n _ h2 with h4 | ⟨L1,h4,h5⟩
    ·exact .inl h4
    ·exact .inr ⟨L1,h4,by omega⟩
 vmono n L hn:=by
  rcases k.vmono n L hn with h2 | ⟨L0,h2,h3⟩
  ·left
   by_cases hf:η n=.free
   ·exact hf
   ·exact (h.keep n hf h2).elim
  ·rcases h.vmono n _ h2 with h4 | ⟨L1,h4,h5⟩
   ·exact .inl h4
   ·exact .inr ⟨L1,h4,by omega⟩
 own n b hb:=by
  rcases k.own n b hb with ⟨m,h1⟩ | h1
  ·exact h.own m b h1
  ·exact .inr (Nat.le_trans h.size h1)
 size:=Nat.le_trans h.size k.size
 frame b hb hn:=by
  rw [k.frame b (Nat.lt_of_lt_of_le hb h.size) ?_,h.frame b hb hn]
  intro n hR
  rcases h.own n b hR with ⟨m,h1⟩ | h1
  ·exact hn m h1
  ·omega
 os:=k.os.trans h.os
 tape:=k.tape.trans h.tape
 output:=k.output.trans h.output
 fmono b xs hb:=k.fmono b xs (h.fmono b xs hb)
 fnew b xs hb:=by
  rcases k.fnew b xs hb with h1 | ⟨n,h1⟩ | h1
  ·exact h.fnew b xs h1
  ·rcases h.own n b h1 with ⟨m,h2⟩ | h2
   ·exact .inr (.inl ⟨m,h2⟩)
   ·exact .inr (.inr h2)
  ·exact .inr (.inr (Nat.le_trans h.size h1))
 reg:=h.reg.trans k.reg
theorem Nxt.le {η η1:Nat->VB} {R R1:Rn} {w w1:World} {B:Nat} (h:Nxt η R w η1 R1 w1) (e:Emb B R η w):R.le R1:=
 ⟨fun n b hb=>by
  have:η n ≠ .free:=fun hf=>by rw [e.fresh n hf] at hb; cases hb
  rw [h.old n this]; exact hb,h.arr,h.str,h.vold,h.fmono⟩
theorem Emb.last {B:Nat} {R:Rn} {η:Nat->VB} {w:World} (e:Emb B R η w) {n L:Nat} (h:(η n).ver=some L):∀ L',L<L'->R.vec n L'=none:=by
 cases hn:η n with
 | vec L0 g s t=>rw [hn] at h; cases h; exact (e.vec n _ _ _ _ hn).last
 | mat K r C g t te=>rw [hn] at h; cases h; exact (e.mat n _ _ _ _ _ _ hn).last
 | _=>rw [hn] at h; cases h
theorem Nxt.vsame {η η':Nat->VB} {R R':Rn} {w w':World} {B:Nat} (h:Nxt η R w η' R' w') (e:Emb B R' η' w') {n:Nat} (hf:η n ≠ .free) (hv:∀ L,(η n).ver=some L->(η' n).ver=some L):R'.vec n=R.vec n:=by
 funext L
 cases h1:R.vec n L with
 | some y=>exact h.vold n L y h1
 | none=>
  cases h2:R'.vec n L with
  | none=>rfl
  | some y=>
   rcases h.vnew n L y h1 h2 with h3 | ⟨L0,h3,h4⟩
   ·exact (hf h3).elim
   ·rw [e.last (hv _ h3) L h4] at h2
    cases h2
theorem ownsRow_frame {w w':World} {B:Nat} {t:TypeId} {s:Nat} {v:Value} {L:Nat} {xs:List Value} (h:w.ownsRow B t s v L xs) (hb:∀ b,v.ownBlock=some b->w'.heap[b]? = w.heap[b]?):w'.ownsRow B t s v L xs:=by
 refine ⟨h.1,?_⟩
 rcases h.2 with hn | ⟨g,cap,cur,rfl,h1,h2,h3⟩
 ·exact .inl hn
 ·exact .inr ⟨g,cap,cur,rfl,h1,by rw [hb g rfl]; exact h2,h3⟩
theorem VecOk.frame {B:Nat} {R R':Rn} {n n':Nat} {w w':World} {L:Nat} {g:Nat->List VV} {s:Nat} {t:TypeId} (h:VecOk B R n w L g s t) (hv:R'.vec n'=R.vec n) (hno:R.no.le R'.no) (hb:∀ b,R.ow n (.vec L g s t) b->w'.heap[b]? = w.heap[b]?):VecOk B R' n' w' L g s t:=by
 obtain ⟨⟨v,xs,h1,h2,h3⟩,h4⟩:=h
 refine ⟨⟨v,xs,by rw [hv]; exact h1,ownsRow_frame h2 (fun b hbb=>hb b ?_),fun i hi=>⟨(h3 i hi).1.mono hno,(h3 i hi).2⟩⟩,fun L' hL=>by rw [hv]; exact h4 L' hL⟩
 show (R.vec n L).bind Value.ownBlock=some b
 rw [h1]; exact hbb
theorem MapOk.frame {B:Nat} {R R':Rn} {n n':Nat} {w w':World} {ks:List PK} {vk:PK} {es:List (List Int × Int)} (h:MapOk B R n w ks vk es) (hv:R'.blk n'=R.blk n) (hb:∀ b,R.ow n (.map ks vk es) b->w'.heap[b]? = w.heap[b]?):MapOk B R' n' w' ks vk es:=by
 obtain ⟨⟨b,ents,clock,h1,h2,h3,h4⟩,h5⟩:=h
 exact ⟨⟨b,ents,clock,by rw [hv]; exact h1,h2,by rw [hb b h1]; exact h3,h4⟩,h5⟩
theorem MatOk.frame {B:Nat} {R R':Rn} {n n':Nat} {w w':World} {K r C:Nat} {g:Nat->Nat->Int} {t te:TypeId} (h:MatOk B R n w K r C g t te) (hv:R'.vec n'=R.vec n) (hb:∀ b,R.ow n (.mat K r C g t te) b->w'.heap[b]? = w.heap[b]?):MatOk B R' n' w' K r C g t te:=by
 obtain ⟨h0,⟨b,xs,h1,h2,h3,h4,h5⟩,h6,h7,h8⟩:=h
 refine ⟨h0,⟨b,xs,by rw [hv]; exact h1,h2,by rw [hb b ⟨0,_,Nat.zero_le _,h1,rfl⟩]; exact h3,h4,by rw [hv]; exact h5⟩,fun i hi=>?_,by rw [hv]; exact h7,by rw [hv]; exact h8⟩
 obtain ⟨c,ys,g1,g2,g3,g4⟩:=h6 i hi
 exact ⟨c,ys,by rw [hv]; exact g1,g2,by rw [hb c ⟨i+1,_,hi,g1,rfl⟩]; exact g3,g4⟩
theorem BunOk.frame {B:Nat} {R R':Rn} {n:Nat} {w w':World} {t r C:Nat} {g:Nat->Nat->Int} {te:TypeId} (h:BunOk B R w t r C g te) (hf:∀ j,R'.frz (.reg t j)=R.frz (.reg t j)) (hb:∀ b,R.ow n (.bun t r C g te) b->w'.heap[b]? = w.heap[b]?):BunOk B R' w' t r C g te:=by
 refine ⟨fun i hi=>?_,fun i j us vs u v b hi hj h1 h2=>?_,fun i hi=>by rw [hf]; exact h.last i hi⟩
 ·obtain ⟨ys,v,xs,h1,h2,h3,h4⟩:=h.rows i hi
  exact ⟨ys,v,xs,by rw [hf]; exact h1,h2,ownsRow_frame h3 (fun b hbb=>hb b ⟨i,ys,v,hi,h1,h2,hbb⟩),h4⟩
 ·rw [hf] at h1 h2
  exact h.inj i j us vs u v b hi hj h1 h2
theorem ow_cs {R:Rn} {n:Nat} {b:VB} {cs:List VV} {t:TypeId} (h:b.cs? = some (cs,t)):R.ow n b=fun c=>R.blk n=some c:=by cases b <;> first | rfl | simp at h
def upd (η:Nat->VB) (n:Nat) (b:VB):Nat->VB:=fun m=>if m=n then b else η m
def Rn.put (R:Rn) (n b:Nat):Rn:={ R with blk:=fun m=>if m=n then some b else R.blk m }
theorem ow_put {R:Rn} {n b m:Nat} {x:VB} (h:m ≠ n):(R.put n b).ow m x=R.ow m x:=by cases x <;> simp [Rn.ow,Rn.put,h]
theorem ow_upd {R:Rn} {η:Nat->VB} {n m:Nat} {x:VB} (h:m ≠ n):R.ow m (upd η n x m)=R.ow m (η m):=by simp [upd,h]
theorem Emb.own_lt {B:Nat} {R:Rn} {η:Nat->VB} {w:World} (e:Emb B R η w) {n:Nat} {b:Nat} (hb:R.ow n (η n) b):B<=b/\b<w.heap.size:=by
 cases hn:η n with
 | cells cs t=>
  rw [hn] at hb
  obtain ⟨b',xs,h1,h3,_,h2⟩:=e.own n cs t hn
  rw [show R.blk n=some b from hb] at h1; cases h1
  exact ⟨h3,(Array.getElem?_eq_some_iff.1 h2).1⟩
 | loop st pd t m ps as bd=>
  rw [hn] at hb
  obtain ⟨b',r,h1,h3,h2,_⟩:=e.lp n st pd t m ps as bd hn
  rw [show R.blk n=some b from hb] at h1; cases h1
  exact ⟨h3,(Array.getElem?_eq_some_iff.1 h2).1⟩
 | vec L g s t=>
  rw [hn] at hb
  obtain ⟨v,xs,h1,h2,_⟩:=(e.vec n L g s t hn).row
  have hb:(R.vec n L).bind Value.ownBlock=some b:=hb
  rw [h1] at hb
  exact h2.lt b hb
 | mat K r C g t te=>
  rw [hn] at hb
  obtain ⟨_,⟨b1,xs,h1,h2,h3,_⟩,h6,_,_⟩:=e.mat n K r C g t te hn
  obtain ⟨j,v,hj,hv,ho⟩:=hb
  cases j with
  | zero=>
   rw [h1] at hv
   cases hv
   cases ho
   exact ⟨h2,(Array.getElem?_eq_some_iff.1 h3).1⟩
  | succ i=>
   obtain ⟨b2,ys,g1,g2,g3,_⟩:=h6 i hj
   rw [g1] at hv
   cases hv
   cases ho
   exact ⟨g2,(Array.getElem?_eq_some_iff.1 g3).1⟩
 | bun t r C g te=>
  rw [hn] at hb
  obtain ⟨i,ys,v,hi,h1,h2,h3⟩:=hb
  obtain ⟨ys',v',xs,g1,g2,g3,_⟩:=(e.bun n t r C g te hn).1.rows i hi
  rw [h1] at g1
  cases g1
  rw [h2] at g2
  cases g2
  exact g3.lt b h3
 | fam pre L g t=>
  rw [hn] at hb
  obtain ⟨b',xs,h1,h3,_,h2⟩:=e.ownF hn
  rw [show R.blk n=some b from hb] at h1; cases h1
  exact ⟨h3,(Array.getElem?_eq_some_iff.1 h2).1⟩
 | map ks vk es=>
  rw [hn] at hb
  obtain ⟨b',_,_,h1,h3,h2,_⟩:=(e.map n ks vk es hn).row
  rw [show R.blk n=some b from hb] at h1; cases h1
  exact ⟨h3,(Array.getElem?_eq_some_iff.1 h2).1⟩
 | _=>rw [hn] at hb; cases hb
theorem Emb.lt {B:Nat} {R:Rn} {η:Nat->VB} {w:World} (e:Emb B R η w) {n:Nat} {b:Nat} (hb:R.ow n (η n) b):b<w.heap.size:=(e.own_lt hb).2
theorem ow_live {R:Rn} {n:Nat} {b:VB} (h:b.live):R.ow n b=fun c=>R.blk n=some c:=by cases b <;> first | rfl | exact h.elim
theorem reg_same {B:Nat} {R R0 R1:Rn} {η η0 η1:Nat->VB} {w:World} (e:Emb B R η w) (N:RegN η0 R0 η1 R1) (h0:∀ t j,R0.frz (.reg t j)=R.frz (.reg t j)) (hle:∀ t j xs,R0.frz (.reg t j)=some xs->R1.frz (.reg t j)=some xs) {m t r C:Nat} {g:Nat->Nat->Int} {te:TypeId} (hm:η m=.bun t r C g te)
  (hq:∀ k r C g te,η0 k=.bun t r C g te->∃ n r' C' g' te',n ≠ m/\η n=.bun t r' C' g' te') (j:Nat):R1.frz (.reg t j)=R.frz (.reg t j):=by
 cases h1:R.frz (.reg t j) with
 | some xs=>exact hle t j xs (by rw [h0]; exact h1)
 | none=>
  cases h2:R1.frz (.reg t j) with
  | none=>rfl
  | some xs=>
   rcases N.new t j xs h2 with h3 | ⟨k,r',C',g',te',h3⟩
   ·rw [h0,h1] at h3; cases h3
   ·obtain ⟨n,r2,C2,g2,te2,h4,h5⟩:=hq k r' C' g' te' h3
    exact (h4 ((e.bun m t r C g te hm).2 n r2 C2 g2 te2 h5)).elim
theorem ow_le {B:Nat} {R R':Rn} {η:Nat->VB} {w:World} (e:Emb B R η w) (hf:∀ t j xs,R.frz (.reg t j)=some xs->R'.frz (.reg t j)=some xs) {n:Nat} (hb:R'.blk n=R.blk n) (hv:R'.vec n=R.vec n):R'.ow n (η n)=R.ow n (η n):=by
 cases hn:η n with
 | bun t r C g te=>
  have hr:=(e.bun n t r C g te hn).1.rows
  funext b
  refine propext ⟨fun ⟨j,xs,v,h1,h2,h3⟩=>?_,fun ⟨j,xs,v,h1,h2,h3⟩=>⟨j,xs,v,h1,hf _ _ _ h2,h3⟩⟩
  obtain ⟨ys,_,_,g1,_⟩:=hr j h1
  have:=hf _ _ _ g1
  rw [h2] at this
  cases this
  exact ⟨j,_,v,h1,g1,h3⟩
 | _=>simp [Rn.ow,hb,hv]
theorem bun_mix {B:Nat} {R R' R0 R1:Rn} {η η' η0 η1:Nat->VB} {w w':World} (e:Emb B R η w) (e1:∀ n t r C g te,η1 n=.bun t r C g te->BunOk B R1 w' t r C g te) (N:RegN η0 R0 η1 R1) (h0:∀ t j,R0.frz (.reg t j)=R.frz (.reg t j)) (hle:∀ t j xs,R0.frz (.reg t j)=some xs->R1.frz (.reg t j)=some xs) (h1:∀ t j,R'.frz (.reg t j)=R1.frz (.reg t j))
  (hsub:∀ k t r C g te,η0 k=.bun t r C g te->∃ n r' C' g' te',η n=.bun t r' C' g' te')
  (hmix:∀ m t r C g te,η' m=.bun t r C g te->(∃ k,η1 k=.bun t r C g te/\∀ r C g te,η0 k=.bun t r C g te->∃ r' C' g' te',η m=.bun t r' C' g' te') ∨
   (η m=.bun t r C g te/\(∀ k r C g te,η0 k=.bun t r C g te->∃ n r' C' g' te',n ≠ m/\η n=.bun t r' C' g' te')/\∀ b,R.ow m (η m) b->w'.heap[b]? = w.heap[b]?)) :
  (∀ n t r C g te,η' n=.bun t r C g te->BunOk B R' w' t r C g te/\∀ m r' C' g' te',η' m=.bun t r' C' g' te'->m=n)/\RegN η R η' R':=by
 have old:∀ n t r C g te,η' n=.bun t r C g te->∃ r' C' g' te',η n=.bun t r' C' g' te':=fun n t r C g te hn=>by
  rcases hmix n t r C g te hn with ⟨k,h2,h3⟩ | ⟨h2,_⟩
  ·obtain ⟨r1,C1,g1,te1,h4⟩:=N.old k t r C g te h2
   exact h3 _ _ _ _ h4
  ·exact ⟨_,_,_,_,h2⟩
 refine ⟨fun n t r C g te hn=>⟨?_,fun m r' C' g' te' hm=>?_⟩,⟨fun t j xs h=>?_,old⟩⟩
 ·rcases hmix n t r C g te hn with ⟨k,h2,_⟩ | ⟨h2,h3,h4⟩
  ·exact (e1 k t r C g te h2).frame (n:=n) (h1 t) (fun _ _=>rfl)
  ·exact (e.bun n t r C g te h2).1.frame (n:=n) (fun j=>(h1 t j).trans (reg_same e N h0 hle h2 h3 j)) (fun b hb=>h4 b (by rw [h2]; exact hb))
 ·obtain ⟨_,_,_,_,h2⟩:=old n _ _ _ _ _ hn
  obtain ⟨_,_,_,_,h3⟩:=old m _ _ _ _ _ hm
  exact (e.bun n _ _ _ _ _ h2).2 m _ _ _ _ h3
 ·rw [h1] at h
  rcases N.new t j xs h with h2 | ⟨k,r,C,g,te,h2⟩
  ·rw [h0] at h2; exact .inl h2
  ·obtain ⟨n,r',C',g',te',h3⟩:=hsub k t r C g te h2
   exact .inr ⟨n,r',C',g',te',h3⟩
theorem upd_nbun {η:Nat->VB} {m:Nat} {x:VB} (hx:∀ t r C g te,x ≠ .bun t r C g te:=by simp):∀ n t r C g te,upd η m x n=.bun t r C g te->η n=.bun t r C g te:=fun n t r C g te h=>by
 by_cases hk:n=m
 ·subst hk; simp only [upd,if_true] at h; exact (hx _ _ _ _ _ h).elim
 ·simpa only [upd,if_neg hk] using h
theorem Emb.bunF {B:Nat} {R R':Rn} {η η':Nat->VB} {w w':World} (e:Emb B R η w) (hη:∀ n t r C g te,η' n=.bun t r C g te->η n=.bun t r C g te) (hf:∀ t j,R'.frz (.reg t j)=R.frz (.reg t j))
  (hb:∀ n t r C g te,η' n=.bun t r C g te->∀ b,R.ow n (η n) b->w'.heap[b]? = w.heap[b]?):∀ n t r C g te,η' n=.bun t r C g te->BunOk B R' w' t r C g te/\∀ m r' C' g' te',η' m=.bun t r' C' g' te'->m=n:=fun n t r C g te hn=>by
 have h1:=hη _ _ _ _ _ _ hn
 obtain ⟨h2,h3⟩:=e.bun _ _ _ _ _ _ h1
 exact ⟨h2.frame (n:=n) (hf t) (fun b hbb=>hb n t r C g te hn b (by rw [h1]; exact hbb)),fun m r' C' g' te' hm=>h3 m r' C' g' te' (hη _ _ _ _ _ _ hm)⟩
theorem Emb.step {B:Nat} {R R':Rn} {η:Nat->VB} {w w':World} (e:Emb B R η w) {n0:Nat} {x:VB} (hsz:w.heap.size<=w'.heap.size) (hle:R.le R') (hblk:∀ n,n ≠ n0->R'.blk n=R.blk n) (hvec:∀ n,n ≠ n0->R'.vec n=R.vec n)
  (hsame:∀ b,b<w.heap.size->¬ R.ow n0 (η n0) b->w'.heap[b]? = w.heap[b]?) (how:∀ b,R'.ow n0 x b->R.ow n0 (η n0) b ∨ w.heap.size<=b)
  (hxf:x ≠ .free) (hxa:∀ s ok g,x ≠ .arr s ok g) (hxc:∀ cs t,x.cs? = some (cs,t)->∃ b xs,R'.blk n0=some b/\B<=b/\VRelL R' cs xs/\w'.heap[b]? = some (.cells xs.toArray t (0,0)))
  (hxl:∀ st pd t m ps as bd,x=.loop st pd t m ps as bd->∃ b r,R'.blk n0=some b/\B<=b/\w'.heap[b]? = some (.loop r)/\LRel R' st pd t m ps as bd r)
  (hxv:∀ L g s t,x=.vec L g s t->VecOk B R' n0 w' L g s t) (hxm:∀ ks vk es,x=.map ks vk es->MapOk B R' n0 w' ks vk es:=by simp) (hfz:R'.frz=R.frz:=by rfl) (hxt:∀ K r C g t te,x=.mat K r C g t te->MatOk B R' n0 w' K r C g t te:=by simp) (hxb:∀ t r C g te,x=.bun t r C g te->BunOk B R' w' t r C g te/\∃ r' C' g' te',η n0=.bun t r' C' g' te':=by simp):Emb B R' (upd η n0 x) w':=by
 have hne:∀ n,n ≠ n0->∀ b,R.ow n (η n) b->w'.heap[b]? = w.heap[b]?:=fun n hn b hb=>
  hsame b (e.lt hb) (fun h=>hn (e.inj n n0 b hb h))
 have how':∀ n,n ≠ n0->R'.ow n (upd η n0 x n)=R.ow n (η n):=fun n hn=>by
  simp only [upd,if_neg hn]
  cases η n <;> simp [Rn.ow,hblk n hn,hvec n hn,hfz]
 refine ⟨Nat.le_trans e.base hsz,fun n cs t hn=>?_,fun n m b h1 h2=>?_,fun n s ok g hn=>?_,fun n hn=>?_,fun n st pd t m ps as bd hn=>?_,fun n L g s t hn=>?_,fun n hn L=>?_,fun n ks vk es hn=>?_,fun n K r C g t te hn=>?_,fun n t r C g te hn=>?_,fun b xs hb=>?_⟩
 ·by_cases h:n=n0
  ·subst h
   simp only [upd,if_true] at hn
   exact hxc cs t hn
  ·simp only [upd,if_neg h] at hn
   obtain ⟨b,xs,h1,h2,h3,h4⟩:=e.ownC n cs t hn
   exact ⟨b,xs,by rw [hblk n h]; exact h1,h2,h3.mono hle,by rw [hne n h b (by rw [ow_cs hn]; exact h1)]; exact h4⟩
 ·by_cases hn:n=n0 <;> by_cases hm:m=n0
  ·rw [hn,hm]
  ·rw [how' m hm] at h2
   subst hn
   simp only [upd,if_true] at h1
   rcases how b h1 with h3 | h3
   ·exact e.inj n m b h3 h2
   ·have:=e.lt h2; omega
  ·rw [how' n hn] at h1
   subst hm
   simp only [upd,if_true] at h2
   rcases how b h2 with h3 | h3
   ·exact e.inj n m b h1 h3
   ·have:=e.lt h1; omega
  ·rw [how' n hn] at h1
   rw [how' m hm] at h2
   exact e.inj n m b h1 h2
 ·have h:n ≠ n0:=fun h=>by subst h; simp only [upd,if_true] at hn; exact hxa _ _ _ hn
  simp only [upd,if_neg h] at hn
  obtain ⟨h1,h2⟩:=e.arr n s ok g hn
  refine ⟨by rw [hle.str]; exact h1,fun ix i hi=>?_⟩
  obtain ⟨h3,h4,h5,xs,h6,h7,h8⟩:=h2 ix i hi
  refine ⟨h3,by rw [hle.arr]; exact h4,by rw [hle.arr]; exact h5,xs,h6.mono hle.no,h7,fun k y hk=>?_⟩
  rw [hle.arr]
  have hblk2:((R.arr n ix).add (i.toNat*s+k)).block=(R.arr n ix).block:=by unfold Addr.add; split <;> rfl
  have h9:=h8 k y hk
  unfold World.cell? at h9 ⊢
  rw [hblk2] at h9 ⊢
  rw [hsame _ (Nat.lt_of_lt_of_le h4 e.base) (fun hb=>by have:=(e.own_lt hb).1; omega)]
  exact h9
 ·have h:n ≠ n0:=fun h=>by subst h; simp only [upd,if_true] at hn; exact hxf hn
  simp only [upd,if_neg h] at hn
  rw [hblk n h]; exact e.fresh n hn
 ·by_cases h:n=n0
  ·subst h
   simp only [upd,if_true] at hn
   exact hxl _ _ _ _ _ _ _ hn
  ·simp only [upd,if_neg h] at hn
   obtain ⟨b,r,h1,h2,h3,h4⟩:=e.lp n st pd t m ps as bd hn
   exact ⟨b,r,by rw [hblk n h]; exact h1,h2,by rw [hne n h b (by rw [hn]; exact h1)]; exact h3,h4.mono hle⟩
 ·by_cases h:n=n0
  ·subst h
   simp only [upd,if_true] at hn
   exact hxv _ _ _ _ hn
  ·simp only [upd,if_neg h] at hn
   exact (e.vec n L g s t hn).frame (hvec n h) hle.no (fun b hb=>hne n h b (by rw [hn]; exact hb))
 ·have h:n ≠ n0:=fun h=>by subst h; simp only [upd,if_true] at hn; exact hxf hn
  simp only [upd,if_neg h] at hn
  rw [hvec n h]; exact e.fvec n hn L
 ·by_cases h:n=n0
  ·subst h
   simp only [upd,if_true] at hn
   exact hxm _ _ _ hn
  ·simp only [upd,if_neg h] at hn
   exact (e.map n ks vk es hn).frame (hblk n h) (fun b hb=>hne n h b (by rw [hn]; exact hb))
 ·by_cases h:n=n0
  ·subst h
   simp only [upd,if_true] at hn
   exact hxt _ _ _ _ _ _ hn
  ·simp only [upd,if_neg h] at hn
   exact (e.mat n K r C g t te hn).frame (hvec n h) (fun b hb=>hne n h b (by rw [hn]; exact hb))
 ·have hbn:∀ n t r C g te,upd η n0 x n=.bun t r C g te->∃ r' C' g' te',η n=.bun t r' C' g' te':=fun n t r C g te hn=>by
   by_cases h:n=n0
   ·subst h; simp only [upd,if_true] at hn; exact (hxb _ _ _ _ _ hn).2
   ·simp only [upd,if_neg h] at hn; exact ⟨_,_,_,_,hn⟩
  obtain ⟨_,_,_,_,h2⟩:=hbn n t r C g te hn
  refine ⟨?_,fun m r' C' g' te' hm=>?_⟩
  ·by_cases h:n=n0
   ·subst h; simp only [upd,if_true] at hn; exact (hxb _ _ _ _ _ hn).1
   ·simp only [upd,if_neg h] at hn
    exact (e.bun n t r C g te hn).1.frame (n:=n) (fun j=>by rw [hfz]) (fun b hb=>hne n h b (by rw [hn]; exact hb))
  ·obtain ⟨_,_,_,_,h3⟩:=hbn m _ _ _ _ _ hm
   exact (e.bun n _ _ _ _ _ h2).2 m _ _ _ _ h3
 ·rw [hfz] at hb
  obtain ⟨h1,h2,h3⟩:=e.frz b xs hb
  refine ⟨Nat.lt_of_lt_of_le h1 hsz,fun n hn=>?_,fun k y hk=>?_⟩
  ·by_cases h:n=n0
   ·subst h
    simp only [upd,if_true] at hn
    rcases how b hn with h4 | h4
    ·exact h2 n h4
    ·omega
   ·rw [how' n h] at hn
    exact h2 n hn
  ·have h4:=h3 k y hk
   unfold World.cell? at h4 ⊢
   rw [hsame b h1 (h2 n0)]
   exact h4
theorem Nxt.step {R R':Rn} {η:Nat->VB} {w w':World} {n0:Nat} {x:VB} (hsz:w.heap.size<=w'.heap.size) (hle:R.le R') (hblk:∀ n,n ≠ n0 ∨ η n ≠ .free->R'.blk n=R.blk n) (hvec:∀ n,n ≠ n0->R'.vec n=R.vec n)
  (hsame:∀ b,b<w.heap.size->¬ R.ow n0 (η n0) b->w'.heap[b]? = w.heap[b]?) (how:∀ b,R'.ow n0 x b->R.ow n0 (η n0) b ∨ w.heap.size<=b)
  (hxf:x ≠ .free) (hvn:∀ L v,R.vec n0 L=none->R'.vec n0 L=some v->η n0=.free ∨ ∃ L0,(η n0).ver=some L0/\L0<L) (hvm:∀ L,x.ver=some L->η n0=.free ∨ ∃ L0,(η n0).ver=some L0/\L0<=L)
  (hos:w'.os=w.os) (htape:w'.tape=w.tape) (hout:w'.output=w.output) (hfz:R'.frz=R.frz:=by rfl) (hxb:∀ t r C g te,x=.bun t r C g te->∃ r' C' g' te',η n0=.bun t r' C' g' te':=by simp):Nxt η R w (upd η n0 x) R' w':=by
 refine ⟨fun n hn=>?_,fun n hn=>hblk n (.inr hn),hle.arr,hle.str,hle.vec,fun n L v h1 h2=>?_,fun n L hn=>?_,fun n b hb=>?_,hsz,fun b hb hn=>hsame b hb (hn n0),hos,htape,hout,hle.frz,fun b xs hb=>.inl (by rw [<- hfz]; exact hb),⟨fun t j xs h=>.inl (by rw [<- hfz]; exact h),fun n t r C g te hn=>?_⟩⟩
 ·by_cases h:n=n0
  ·subst h; simpa [upd] using hxf
  ·simpa [upd,h] using hn
 ·by_cases h:n=n0
  ·subst h; exact hvn L v h1 h2
  ·rw [hvec n h,h1] at h2; cases h2
 ·by_cases h:n=n0
  ·subst h; simp only [upd,if_true] at hn; exact hvm _ hn
  ·simp only [upd,if_neg h] at hn; exact .inr ⟨L,hn,Nat.le_refl _⟩
 ·by_cases h:n=n0
  ·subst h; simp only [upd,if_true] at hb; exact (how b hb).imp (fun h=>⟨n,h⟩) id
  ·left
   refine ⟨n,?_⟩
   simp only [upd,if_neg h] at hb
   have:R'.ow n (η n)=R.ow n (η n):=by cases η n <;> simp [Rn.ow,hblk n (.inl h),hvec n h,hfz]
   rw [<- this]
   exact hb
 ·by_cases h:n=n0
  ·subst h; simp only [upd,if_true] at hn; exact hxb _ _ _ _ _ hn
  ·simp only [upd,if_neg h] at hn; exact ⟨_,_,_,_,hn⟩
theorem le_put {R:Rn} {n0 b0:Nat} (hfree:R.blk n0=none):R.le (R.put n0 b0):=⟨fun n b hb=>by
  simp only [Rn.put]
  by_cases h:n=n0
  ·subst h; rw [hfree] at hb; cases hb
  ·simp [h,hb],rfl,rfl,fun _ _ _ h=>h,fun _ _ h=>h⟩
theorem Emb.alloc {B:Nat} {R:Rn} {η:Nat->VB} {w:World} (e:Emb B R η w) {n0:Nat} (hn0:η n0=.free) {cs:List VV} {xs:List Value} {t:TypeId} (hx:VRelL R cs xs) :
  Emb B (R.put n0 w.heap.size) (upd η n0 (.cells cs t)) (w.alloc (.cells xs.toArray t))/\Nxt η R w (upd η n0 (.cells cs t)) (R.put n0 w.heap.size) (w.alloc (.cells xs.toArray t)):=by
 have hle:R.le (R.put n0 w.heap.size):=le_put (e.fresh n0 hn0)
 have hold:∀ b,b<w.heap.size->¬ R.ow n0 (η n0) b->(w.alloc (.cells xs.toArray t)).heap[b]? = w.heap[b]?:=fun b hb _=>by
  show (w.heap.push _)[b]? = _
  rw [Array.getElem?_push,if_neg (by omega)]
 have how:∀ b,(R.put n0 w.heap.size).ow n0 (.cells cs t) b->R.ow n0 (η n0) b ∨ w.heap.size<=b:=fun b hb=>by
  simp [Rn.ow,Rn.put] at hb
  omega
 refine ⟨e.step (by simp) hle (fun n h=>by simp [Rn.put,h]) (fun n _=>rfl) hold how (by simp) (by simp) (fun cs' t' h=>?_) (by simp) (by simp),
  Nxt.step (by simp) hle (fun n h=>?_) (fun n _=>rfl) hold how (by simp) (fun L v h1 h2=>?_) (by simp) rfl rfl rfl⟩
 ·cases h
  refine ⟨w.heap.size,xs,by simp [Rn.put],e.base,hx.mono hle,?_⟩
  show (w.heap.push _)[w.heap.size]? = _
  simp
 ·have h:n ≠ n0:=h.elim id (fun hf h'=>by subst h'; exact hf hn0)
  simp [Rn.put,h]
 ·rw [show (R.put n0 w.heap.size).vec n0 L=R.vec n0 L from rfl,h1] at h2; cases h2
theorem Emb.cell {B:Nat} {R:Rn} {η:Nat->VB} {w:World} (e:Emb B R η w) {n:Nat} {cs:List VV} {t:TypeId} (hn:η n=.cells cs t) {off:Nat} {v:VV} (hv:cs[off]? = some v) {b:Nat} (hb:R.blk n=some b) :
  ∃ x,w.cell? ⟨b,off,none⟩=some x/\VRel R v x/\w.frozen? ⟨b,off,none⟩=false:=by
 obtain ⟨b',xs,h1,_,h3,h4⟩:=e.own n cs t hn
 rw [hb] at h1; cases h1
 obtain ⟨x,hx,hr⟩:=h3.get off v hv
 refine ⟨x,?_,hr,?_⟩
 ·simp [World.cell?,h4,hx]
 ·simp [World.frozen?,h4]
theorem Emb.store {B:Nat} {R:Rn} {η:Nat->VB} {w:World} (e:Emb B R η w) {n:Nat} {cs:List VV} {t:TypeId} (hn:η n=.cells cs t) {off:Nat} {v:VV} {x:Value} (hx:VRel R v x) {b:Nat} (hb:R.blk n=some b) :
  Emb B R (upd η n (.cells (cs.set off v) t)) (w.setCell ⟨b,off,none⟩ x)/\Nxt η R w (upd η n (.cells (cs.set off v) t)) R (w.setCell ⟨b,off,none⟩ x):=by
 obtain ⟨b',xs,h1,hB,h3,h4⟩:=e.own n cs t hn
 rw [hb] at h1; cases h1
 have how0:R.ow n (η n) b:=by rw [hn]; exact hb
 have hother:∀ k,k<w.heap.size->¬ R.ow n (η n) k->(w.setCell ⟨b,off,none⟩ x).heap[k]? = w.heap[k]?:=fun k _ hk=>RowKit.Below.heap_setCell w ⟨b,off,none⟩ x k (fun h=>hk (by rw [h]; exact how0))
 have hsame:(w.setCell ⟨b,off,none⟩ x).heap[b]? = some (.cells (xs.set off x).toArray t (0,0)):=by
  simp only [World.setCell,Array.getElem?_modify,h4]
  simp [List.setIfInBounds_toArray]
 have hle:R.le R:=⟨fun _ _ h=>h,rfl,rfl,fun _ _ _ h=>h,fun _ _ h=>h⟩
 have how:∀ c,R.ow n (.cells (cs.set off v) t) c->R.ow n (η n) c ∨ w.heap.size<=c:=fun c hc=>.inl (by rw [hn]; exact hc)
 refine ⟨e.step (by simp) hle (fun _ _=>rfl) (fun _ _=>rfl) hother how (by simp) (by simp) (fun cs' t' h=>?_) (by simp) (by simp),
  Nxt.step (by simp) hle (fun _ _=>rfl) (fun _ _=>rfl) hother how (by simp) (fun L v h1 h2=>by rw [h1] at h2; cases h2) (by simp) rfl rfl rfl⟩
 cases h
 exact ⟨b,xs.set off x,hb,hB,h3.set off v x hx,hsame⟩
theorem Emb.swap {B:Nat} {R:Rn} {η:Nat->VB} {w:World} (e:Emb B R η w) {n:Nat} {x:VB} {cs:List VV} {t:TypeId} (h:(η n).cs? = some (cs,t)) (hx:x.cs? = some (cs,t)):Emb B R (upd η n x) w/\Nxt η R w (upd η n x) R w:=by
 have hle:R.le R:=⟨fun _ _ h=>h,rfl,rfl,fun _ _ _ h=>h,fun _ _ h=>h⟩
 have how:∀ b,R.ow n x b->R.ow n (η n) b ∨ w.heap.size<=b:=fun b hb=>.inl (by rw [ow_cs h]; rw [ow_cs hx] at hb; exact hb)
 have hnf:x ≠ .free:=by intro he; rw [he] at hx; simp at hx
 refine ⟨e.step (Nat.le_refl _) hle (fun _ _=>rfl) (fun _ _=>rfl) (fun _ _ _=>rfl) how hnf (by intro s ok g he; rw [he] at hx; simp at hx) (fun cs' t' h'=>?_) (by intro _ _ _ _ _ _ _ he; rw [he] at hx; simp at hx) (by intro _ _ _ _ he; rw [he] at hx; simp at hx) (by intro _ _ _ he; rw [he] at hx; simp at hx) rfl (by intro _ _ _ _ _ _ he; rw [he] at hx; simp at hx) (by intro _ _ _ _ _ he; rw [he] at hx; simp at hx),
  Nxt.step (Nat.le_refl _) hle (fun _ _=>rfl) (fun _ _=>rfl) (fun _ _ _=>rfl) how hnf (fun L v h1 h2=>by rw [h1] at h2; cases h2) (by intro _ he; cases x <;> simp at hx he) rfl rfl rfl rfl (by intro _ _ _ _ _ he; rw [he] at hx; simp at hx)⟩
 rw [hx] at h'
 cases h'
 exact e.ownC n _ _ h
theorem blt_t {m n:Nat} (h:m<n):Nat.blt m n=true:=by rw [Nat.blt_eq]; exact h
theorem blt_f {m n:Nat} (h:¬ m<n):Nat.blt m n=false:=by rw [Bool.eq_false_iff,ne_eq,Nat.blt_eq]; exact h
theorem VH.at_nx (h:VH):h.at h.nx=.free:=by
 unfold VH.at
 rw [show Nat.blt h.nx h.nx=false from blt_f (Nat.lt_irrefl _)]
 rfl
theorem VH.at_new (h:VH) (b:VB):(h.new b).at=upd h.at h.nx b:=by
 funext m
 unfold VH.at VH.new upd
 by_cases h1:m=h.nx
 ·subst h1
  have:Nat.blt h.nx (h.nx+1)=true:=blt_t (by omega)
  simp [this,lookB]
 ·simp only [h1,if_false]
  by_cases h2:m<h.nx
  ·have a1:Nat.blt m (h.nx+1)=true:=blt_t (by omega)
   have a2:Nat.blt m h.nx=true:=blt_t h2
   have a3:Nat.beq h.nx m=false:=by rw [Bool.eq_false_iff]; intro hh; exact h1 (Nat.eq_of_beq_eq_true hh).symm
   simp [a1,a2,a3,lookB]
  ·have a1:Nat.blt m (h.nx+1)=false:=blt_f (by omega)
   have a2:Nat.blt m h.nx=false:=blt_f (by omega)
   simp [a1,a2]
theorem VH.at_put (h:VH) (n:Nat) (b:VB) (hn:h.at n ≠ .free):(h.put n b).at=upd h.at n b:=by
 funext m
 unfold VH.at VH.put upd
 by_cases h1:m=n
 ·subst h1
  have:Nat.blt m h.nx=true:=by
   by_cases hh:Nat.blt m h.nx=true
   ·exact hh
   ·exfalso; apply hn; unfold VH.at; simp [hh]
  simp [this,lookB]
 ·have a3:Nat.beq n m=false:=by rw [Bool.eq_false_iff]; intro hh; exact h1 (Nat.eq_of_beq_eq_true hh).symm
  simp [h1,a3,lookB]
end Go.Sx
