/- Loops: one law for all. -/
import Derived.Test.YtlboglkgbhjpeaaSxQ
import Derived.Test.YtlboglkgbhjpeaaSxH
namespace Go.Sx
open Go
def belBs (k:Nat):List VB->Bool
 | []=>true
 | b::r=>b.bel k && belBs k r
def VEx.bel (k:Nat):VEx->Bool
 | .panic v=>v.bel k
 | _=>true
def obs (nx:Nat) (ds ns:List Nat) (Q:VEx->List VV->List VB->Prop):CK:=fun e t h=>
 bif (belL nx (ds.map (look t)) && belBs nx (ns.map h.at) && e.bel nx) then Q e (ds.map (look t)) (ns.map h.at) else False
def fitBs:List VB->List VB->Prop
 | [],[]=>True
 | b::r,b'::r'=>b.fit b'/\fitBs r r'
 | _,_=>False
def exitOf (id:Nat):VEx->VEx
 | .exit id'=>bif Nat.beq id' id then .normal else .exit id'
 | e=>e
theorem VB.fit_refl (b:VB):b.fit b:=by
 cases b <;> first | rfl | exact ⟨rfl,rfl,rfl,fun _ _=>rfl⟩ | exact ⟨rfl,rfl,rfl,rfl,rfl,fun _ _ _ _=>rfl⟩ | exact ⟨rfl,rfl,rfl,rfl,fun _ _ _ _=>rfl⟩
theorem VB.fit_bel {k:Nat} {b b':VB} (h:b.fit b'):b.bel k=b'.bel k:=by
 cases b with
 | vec L g s t=>obtain ⟨g',rfl,_⟩:=VB.fit_vec h; rfl
 | fam pre L g t=>obtain ⟨g',rfl,_⟩:=VB.fit_fam h; rfl
 | mat K r C g t te=>obtain ⟨g',rfl,_⟩:=VB.fit_mat h; rfl
 | bun t r C g te=>obtain ⟨g',rfl,_⟩:=VB.fit_bun h; rfl
 | _=>rw [VB.fit_eq h (by simp)]
theorem fitBs_refl:∀ l:List VB,fitBs l l
 | []=>trivial
 | b::r=>⟨b.fit_refl,fitBs_refl r⟩
theorem fitS_zip (t:Slots):∀ ds:List Nat,fitS (ds.zip (ds.map (look t))) t
 | []=>trivial
 | d::r=>⟨rfl,fitS_zip t r⟩
theorem fitB_zip (h:VH):∀ (ns:List Nat) (bs:List VB),fitBs bs (ns.map h.at)->fitB (ns.zip bs) h
 | [],bs,_=>by cases bs <;> trivial
 | n::r,[],hf=>hf.elim
 | n::r,b::bs,hf=>⟨hf.1,fitB_zip h r bs hf.2⟩
theorem belS_zip {k:Nat}:∀ (ds:List Nat) (vs:List VV),belL k vs=true->belS k (ds.zip vs)=true
 | [],_,_=>by simp [belS]
 | d::r,[],_=>rfl
 | d::r,v::vs,h=>by
  simp only [belL,Bool.and_eq_true] at h
  simp only [List.zip_cons_cons,belS,Bool.and_eq_true]
  exact ⟨h.1,belS_zip r vs h.2⟩
theorem belB_zip {k:Nat}:∀ (ns:List Nat) (bs bs':List VB),fitBs bs bs'->belBs k bs'=true->belB k (ns.zip bs)=true
 | [],_,_,_,_=>by simp [belB]
 | n::r,[],_,_,_=>rfl
 | n::r,b::bs,[],h,_=>h.elim
 | n::r,b::bs,b'::bs',h,hb=>by
  simp only [belBs,Bool.and_eq_true] at hb
  simp only [List.zip_cons_cons,belB,Bool.and_eq_true]
  exact ⟨by rw [VB.fit_bel h.1]; exact hb.1,belB_zip r bs bs' h.2 hb.2⟩
def nodB:List Nat->Bool
 | []=>true
 | n::r=>!(r.any (Nat.beq n)) && nodB r
def allLtB (k:Nat):List Nat->Bool
 | []=>true
 | n::r=>Nat.blt n k && allLtB k r
theorem zip_fst {α:Type} {n:Nat} {v:α}:∀ {ns:List Nat} {vs:List α},(n,v) ∈ ns.zip vs->n ∈ ns
 | [],_,h=>by simp at h
 | m::r,[],h=>by simp at h
 | m::r,w::vs,h=>by
  simp only [List.zip_cons_cons,List.mem_cons,Prod.mk.injEq] at h
  rcases h with ⟨rfl,rfl⟩ | h
  ·simp
  ·exact List.mem_cons_of_mem _ (zip_fst h)
theorem nodB_not {n:Nat} {r:List Nat} (h:nodB (n::r)=true):n ∉ r/\nodB r=true:=by
 simp only [nodB,Bool.and_eq_true,Bool.not_eq_true'] at h
 refine ⟨fun hm=>?_,h.2⟩
 have:r.any (Nat.beq n)=true:=List.any_eq_true.2 ⟨n,hm,Nat.beq_refl n⟩
 rw [this] at h
 cases h.1
theorem lookB_zip:∀ {ns:List Nat} {bs:List VB} {n:Nat} {b:VB},nodB ns=true->(n,b) ∈ ns.zip bs->lookB (ns.zip bs) n=b
 | [],_,_,_,_,h=>by simp at h
 | m::r,[],_,_,_,h=>by simp at h
 | m::r,c::bs,n,b,hn,h=>by
  obtain ⟨h1,h2⟩:=nodB_not hn
  simp only [List.zip_cons_cons,lookB]
  simp only [List.zip_cons_cons,List.mem_cons,Prod.mk.injEq] at h
  rcases h with ⟨rfl,rfl⟩ | h
  ·rw [beq_t rfl]; rfl
  ·rw [beq_f (fun e:m=n=>h1 (e ▸ zip_fst h))]
   exact lookB_zip h2 h
theorem look_zip:∀ {ns:List Nat} {vs:List VV} {n:Nat} {v:VV},nodB ns=true->(n,v) ∈ ns.zip vs->look (ns.zip vs) n=v
 | [],_,_,_,_,h=>by simp at h
 | m::r,[],_,_,_,h=>by simp at h
 | m::r,c::bs,n,b,hn,h=>by
  obtain ⟨h1,h2⟩:=nodB_not hn
  simp only [List.zip_cons_cons,look]
  simp only [List.zip_cons_cons,List.mem_cons,Prod.mk.injEq] at h
  rcases h with ⟨rfl,rfl⟩ | h
  ·rw [beq_t rfl]; rfl
  ·rw [beq_f (fun e:m=n=>h1 (e ▸ zip_fst h))]
   exact look_zip h2 h
theorem fitB_of {h:VH}:∀ {l:List (Nat × VB)},(∀ p ∈ l,h.at p.1=p.2)->fitB l h
 | [],_=>trivial
 | p::r,hp=>⟨by rw [hp p (by simp)]; exact VB.fit_refl _,fitB_of (fun q hq=>hp q (by simp [hq]))⟩
theorem fitS_of {t:Slots}:∀ {l:Slots},(∀ p ∈ l,look t p.1=p.2)->fitS l t
 | [],_=>trivial
 | p::r,hp=>⟨hp p (by simp),fitS_of (fun q hq=>hp q (by simp [hq]))⟩
theorem allLtB_mem {k:Nat}:∀ {ns:List Nat},allLtB k ns=true->∀ n ∈ ns,n<k
 | [],_,n,h=>by cases h
 | m::r,ha,n,h=>by
  simp only [allLtB,Bool.and_eq_true] at ha
  rcases List.mem_cons.1 h with rfl | h
  ·exact ltb ha.1
  ·exact allLtB_mem ha.2 n h
theorem fitP_self {nx:Nat} {ds ns:List Nat} {vs:List VV} {bs:List VB} (h1:(allLtB nx ns && nodB ns && nodB ds)=true):FitP 0 ⟨nx,ns.zip bs⟩ (ds.zip vs) ⟨nx,ns.zip bs⟩ (ds.zip vs):=by
 simp only [Bool.and_eq_true] at h1
 obtain ⟨⟨h1,h2⟩,h3⟩:=h1
 refine ⟨⟨rfl,rfl,fitB_of (fun p hp=>?_)⟩,fitS_of (fun p hp=>look_zip h3 hp)⟩
 rw [at_lt (allLtB_mem h1 _ (zip_fst hp))]
 exact lookB_zip h2 hp
section
variable {P:Program}
def RoundQ {σ:Type} (V:σ->List VV) (Bk:σ->List VB) (Inv:σ->Prop) (μ:σ->Nat) (Out:σ->VEx->List VV->List VB->Prop) (s:σ):VEx->List VV->List VB->Prop:=fun e vs bs=>
 match e with
 | .normal=>∃ s',Inv s'/\μ s'<μ s/\vs=V s'/\fitBs (Bk s') bs/\∀ e vs bs,Out s' e vs bs->Out s e vs bs
 | e=>Out s e vs bs
theorem loop_allD {σ:Type} (hmix:P.follows .mixedOrders=true) {call:CallT} (hg:Good P call) {lsp:σ->Nat->Option LT} {un n nx:Nat} {ds ns:List Nat} {b:Code} (V:σ->List VV) (Bk:σ->List VB) (Inv:σ->Prop) (μ:σ->Nat) (Out:σ->VEx->List VV->List VB->Prop)
  (hls:∀ s,Inv s->∀ id T,lsp s id=some T->∀ b' ∈ blocksOf id b,LSound P true (.block id b') n T)
  (hr:∀ s,Inv s->codeE P call (lsp s) true un n 0 b (ds.zip (V s)) ⟨nx,ns.zip (Bk s)⟩ (obs nx ds ns (RoundQ V Bk Inv μ Out s))) :
  ∀ s,Inv s->∃ e vs bs,Out s e vs bs/\e ≠ .normal/\LoopTo P true b n (ds.zip (V s)) ⟨nx,ns.zip (Bk s)⟩ e (ds.zip vs) ⟨nx,ns.zip bs⟩:=by
 have key:∀ (m:Nat) (s:σ),μ s<m->Inv s->∃ e vs bs,Out s e vs bs/\e ≠ .normal/\LoopTo P true b n (ds.zip (V s)) ⟨nx,ns.zip (Bk s)⟩ e (ds.zip vs) ⟨nx,ns.zip bs⟩:=by
  intro m
  induction m with
  | zero=>intro s hs; omega
  | succ m ih=>
   intro s hs hi
   obtain ⟨e,t',h',hK,_,hsem⟩:=code_sound (pl:=true) hmix hg b _ _ _ (hls s hi) (hr s hi)
   obtain ⟨hbel,hQ⟩:=cond_f hK
   simp only [Bool.and_eq_true] at hbel
   obtain ⟨⟨b1,b2⟩,b3⟩:=hbel
   have hpan:∀ v,e=.panic v->v.bel nx=true:=fun v hv=>by subst hv; exact b3
   by_cases hn:e=.normal
   ·subst hn
    obtain ⟨s',q1,q2,q3,q4,q5⟩:=hQ
    obtain ⟨e2,vs,bs,w1,w2,w3⟩:=ih s' (by omega) q1
    have hsem2:=sem_weak (bs:=ns.zip (Bk s')) (t2:=ds.zip (V s')) hsem (Nat.le_refl nx) (fitB_zip h' ns (Bk s') q4) (belB_zip ns _ _ q4 b2) (by rw [<- q3]; exact fitS_zip t' ds) (by rw [<- q3]; exact belS_zip ds _ b1) hpan
    exact ⟨e2,vs,bs,q5 _ _ _ w1,w2,.next hsem2 w3⟩
   ·have hsem2:=sem_weak (bs:=ns.zip (ns.map h'.at)) (t2:=ds.zip (ds.map (look t'))) hsem (Nat.le_refl nx) (fitB_zip h' ns _ (fitBs_refl _)) (belB_zip ns _ _ (fitBs_refl _) b2) (fitS_zip t' ds) (belS_zip ds _ b1) hpan
    refine ⟨e,_,_,?_,hn,.last hsem2 hn⟩
    cases e <;> first | exact (hn rfl).elim | exact hQ
 exact fun s hi=>key (μ s+1) s (Nat.lt_succ_self _) hi
theorem loop_rowD {σ:Type} (hmix:P.follows .mixedOrders=true) {call:CallT} (hg:Good P call) {lsp:σ->Nat->Option LT} {un n nx id:Nat} {ds ns:List Nat} {b:Code} {T:LT} (V:σ->List VV) (Bk:σ->List VB) (Inv:σ->Prop) (μ:σ->Nat) (Out:σ->VEx->List VV->List VB->Prop)
  (hls:∀ s,Inv s->∀ id T,lsp s id=some T->∀ b' ∈ blocksOf id b,LSound P true (.block id b') n T)
  (hr:∀ s,Inv s->codeE P call (lsp s) true un n 0 b (ds.zip (V s)) ⟨nx,ns.zip (Bk s)⟩ (obs nx ds ns (RoundQ V Bk Inv μ Out s)))
  (hT:∀ lock t h K,T lock t h K->∃ s,FitP lock h t ⟨nx,ns.zip (Bk s)⟩ (ds.zip (V s))/\Inv s/\∀ e vs bs,Out s e vs bs->K (exitOf id e) (ds.zip vs) ⟨nx,ns.zip bs⟩) :
  LSound P true (.block id (.loop b)) n T:=by
 intro lock t h K hK
 obtain ⟨s,hf,hi,hO⟩:=hT lock t h K hK
 obtain rfl:=hf.1.1
 obtain ⟨e,vs,bs,w1,w2,w3⟩:=loop_allD hmix hg V Bk Inv μ Out hls hr s hi
 refine ⟨_,_,_,hO e vs bs w1,lock0 _ _,sem_fit hf (block_sound (loopTo_sound w3) ?_)⟩
 cases e with
 | exit id'=>
  by_cases hid:id'=id
  ·subst hid
   left
   refine ⟨rfl,?_⟩
   simp only [exitOf,beq_t rfl,cond_true]
  ·right
   refine ⟨by simpa using hid,?_⟩
   simp only [exitOf,beq_f hid,cond_false]
 | normal=>exact (w2 rfl).elim
 | goto l=>exact .inr ⟨by simp,rfl⟩
 | ret=>exact .inr ⟨by simp,rfl⟩
 | panic v=>exact .inr ⟨by simp,rfl⟩
theorem loop_row {σ:Type} (hmix:P.follows .mixedOrders=true) {call:CallT} (hg:Good P call) {lsp:Nat->Option LT} {un n nx id:Nat} {ds ns:List Nat} {b:Code} {T:LT} (V:σ->List VV) (Bk:σ->List VB) (Inv:σ->Prop) (μ:σ->Nat) (Out:σ->VEx->List VV->List VB->Prop)
  (hls:∀ id T,lsp id=some T->∀ b' ∈ blocksOf id b,LSound P true (.block id b') n T)
  (hr:∀ s,Inv s->codeE P call lsp true un n 0 b (ds.zip (V s)) ⟨nx,ns.zip (Bk s)⟩ (obs nx ds ns (RoundQ V Bk Inv μ Out s)))
  (hT:∀ lock t h K,T lock t h K->∃ s,FitP lock h t ⟨nx,ns.zip (Bk s)⟩ (ds.zip (V s))/\Inv s/\∀ e vs bs,Out s e vs bs->K (exitOf id e) (ds.zip vs) ⟨nx,ns.zip bs⟩) :
  LSound P true (.block id (.loop b)) n T:=loop_rowD hmix hg (lsp:=fun _=>lsp) V Bk Inv μ Out (fun _ _=>hls) hr hT
def atF (f:FuncId) (l:List (Nat × LT)):FuncId->Nat->Option LT:=fun g id=>bif Nat.beq g f then tabB l id else none
theorem callL_good (hmix:P.follows .mixedOrders=true) {sp:SpecT} (hs:∀ f T,sp f=some T->SpOk P f T) {f:FuncId} {l:List (Nat × LT)} (hl:LoopsOk P f l) {un:Nat} (m:Nat):Good P (callN P sp (atF f l) un m):=by
 refine callN_good hmix hs (fun g fn c hf hc id T hT b hb=>?_) m
 unfold atF at hT
 cases hg:Nat.beq g f with
 | true=>
  rw [hg] at hT
  have:=Nat.eq_of_beq_eq_true hg
  subst this
  exact loops_use hl hf c hc id T hT b hb
 | false=>rw [hg] at hT; cases hT
theorem nil_ghost {R:Rn} {n:Nat} {x:Value} (hv:R.vec n 0=some (.slice none 0 0)) (h:VRel R .nils x):VRel R (.sl n 0) x:=by
 simp only [VRel] at h
 rw [h]
 exact ⟨hv,none,0,rfl⟩
end
end Go.Sx
