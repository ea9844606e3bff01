/- Code and calls. -/
import Derived.Test.YtlboglkgbhjpeaaSxA
import Derived.LoopNIn
namespace Go.Sx
open Go
abbrev LT:=Nat->Slots->VH->CK->Prop
def iterE (b:Slots->VH->CK->Prop):Nat->Slots->VH->CK->Prop
 | 0,_,_,_=>False
 | n+1,t,h,K=>b t h fun e t h=>match e with
   | .normal=>iterE b n t h K
   | e=>K e t h
def zipT (m:Nat):List Nat->List VV->Slots->(Slots->Prop)->Prop
 | [],[],t,K=>K t
 | p::ps,v::vs,t,K=>bif Nat.blt p m then zipT m ps vs ((p,v)::t) K else False
 | _,_,_,_=>False
def rangeE (P:Program) (call:CallT) (n lock:Nat) (f:Operand) (ps:Array Tmp) (as bd:Code) (t:Slots) (h:VH) (K:CK):Prop:=
 match evO t f with
 | .func g first cap=>
  match P.funcs[g]? with
  | some fn => bif (fn.body.isSome && !(fn.name == "runtime.NumGoroutine")) then
    match h with
    | ⟨nx,bs⟩=>foN nx fun nx=>foL (first ++ [.yld nx] ++ cap) fun l=>
     call lock (.fn g) l ⟨nx+1,(nx,.loop true none t n ps.toList as bd)::bs⟩ fun r h2=>
      match r with
      | .ret _=>
       match h2.at nx with
       | .loop _ pd _ _ _ _ _=>
        (match h2 with
        | ⟨nx2,bs2⟩=>
         match pd with
         | none=>K .normal t ⟨nx2,(nx,.gone)::bs2⟩
         | some .ret=>K .ret t ⟨nx2,(nx,.gone)::bs2⟩
         | some (.exit id)=>K (.exit id) t ⟨nx2,(nx,.gone)::bs2⟩
         | some (.goto l)=>K (.goto l) t ⟨nx2,(nx,.gone)::bs2⟩
         | _=>False)
       | _=>False
      | .panic v=>K (.panic v) t h2
   else False
  | none=>False
 | _=>False
def codeE (P:Program) (call:CallT) (lsp:Nat->Option LT) (pl:Bool) (unroll n lock:Nat):Code->Slots->VH->CK->Prop
 | .skip,t,h,K=>K .normal t h
 | .region _ ops d,t,h,K=>bif d then drawE P call n lock ops t h K else opsE P call n lock ops ops.toList t h K
 | .seq a b,t,h,K=>codeE P call lsp pl unroll n lock a t h fun e t h=>match e with
   | .normal=>codeE P call lsp pl unroll n lock b t h K
   | e=>K e t h
 | .cond c a b,t,h,K=>
  match c with
  | .tmp d=>
   match look t d with
   | .bool q=>bif q then codeE P call lsp pl unroll n lock a ((d,.bool true)::t) h K else codeE P call lsp pl unroll n lock b ((d,.bool false)::t) h K
   | _=>False
  | _=>False
 | .block id b,t,h,K=>
  match lsp id with
  | some T=>T lock t h K
  | none=>codeE P call lsp pl unroll n lock b t h fun e t h=>match e with
   | .exit id'=>bif Nat.beq id' id then K .normal t h else K (.exit id') t h
   | e=>K e t h
 | .loop b,t,h,K=>iterE (codeE P call lsp pl unroll n lock b) unroll t h K
 | .scope b,t,h,K=>codeE P call lsp pl unroll n lock b t h fun e t h=>match e with
   | .goto _=>False
   | e=>K e t h
 | .exit id,t,h,K=>K (.exit id) t h
 | .goto l,t,h,K=>K (.goto l) t h
 | .ret,t,h,K=>K .ret t h
 | .label _,t,h,K=>K .normal t h
 | .rangeFunc f ps as bd,t,h,K=>bif pl then rangeE P call n lock f ps as bd t h K else False
 | _,_,_,_=>False
def argT:Nat->List VV->(Slots->Prop)->Prop
 | _,[],K=>K []
 | i,v::vs,K=>foN (i+1) fun j=>argT j vs fun r=>K ((i,v)::r)
def resL (P:Program) (t:Slots) (h:VH):List ResultVar->(List VV->Prop)->Prop
 | [],K=>K []
 | .tmp d::r,K=>fo (look t d) fun v=>resL P t h r fun vs=>K (v::vs)
 | .cell a ty::r,K=>
  match look t a,tyI P ty with
  | .ptr p,some (agg,size)=>loadE agg size p h fun v=>resL P t h r fun vs=>K (v::vs)
  | _,_=>False
def endE (P:Program) (fn:Func) (K:VRes->VH->Prop):CK:=fun e t h=>
 match e with
 | .normal=>resL P t h fn.results.toList fun vs=>(match vs with
  | [v]=>K (.ret v) h
  | vs=>K (.ret (.tup vs)) h)
 | .ret=>resL P t h fn.results.toList fun vs=>(match vs with
  | [v]=>K (.ret v) h
  | vs=>K (.ret (.tup vs)) h)
 | .panic v=>K (.panic v) h
 | _=>False
abbrev SpecT:=FuncId->Option (Nat->List VV->VH->(VRes->VH->Prop)->Prop)
def bodyE (P:Program) (call:CallT) (lsp:Nat->Option LT) (unroll:Nat) (fn:Func) (lock:Nat) (args:List VV) (h:VH) (K:VRes->VH->Prop):Prop:=
 match fn.body with
 | some c=>bif Nat.ble args.length fn.ntmps then foN fn.ntmps fun n=>argT 0 args fun t=>codeE P call lsp true unroll n lock c t h (endE P fn K) else False
 | none=>False
def roundE (P:Program) (call:CallT) (unroll lock nm:Nat) (args:List VV) (h:VH) (K:VRes->VH->Prop):Prop:=
 match h.at nm with
 | .loop true none tt mm pp as bd=>
  bif Nat.ble lock nm then
   zipT mm pp args tt fun t1=>codeE P call (fun _=>none) false unroll mm lock as t1 h fun e t2 h1=>
    match e,h1.at nm,h1 with
    | .normal,.loop true none t m ps as bd',⟨nx1,bs1⟩=>
     codeE P call (fun _=>none) false unroll mm lock bd t2 ⟨nx1,(nm,.gone)::bs1⟩ fun e _ h2=>
      match e,h2 with
      | .normal,⟨nx2,bs2⟩=>K (.ret (.bool true)) ⟨nx2,(nm,.loop true none t m ps as bd')::bs2⟩
      | .ret,⟨nx2,bs2⟩=>K (.ret (.bool false)) ⟨nx2,(nm,.loop false (some .ret) t m ps as bd')::bs2⟩
      | .exit id,⟨nx2,bs2⟩=>K (.ret (.bool false)) ⟨nx2,(nm,.loop false (some (.exit id)) t m ps as bd')::bs2⟩
      | .goto l,⟨nx2,bs2⟩=>K (.ret (.bool false)) ⟨nx2,(nm,.loop false (some (.goto l)) t m ps as bd')::bs2⟩
      | _,_=>False
    | _,_,_=>False
  else False
 | _=>False
def callN (P:Program) (spec:SpecT) (lsp:FuncId->Nat->Option LT) (unroll:Nat):Nat->CallT
 | 0,_,_,_,_,_=>False
 | n+1,lock,.fn f,args,h,K=>
  match spec f with
  | some T=>T lock args h K
  | none=>
   match P.funcs[f]? with
   | some fn=>bodyE P (callN P spec lsp unroll n) (lsp f) unroll fn lock args h K
   | none=>False
 | n+1,lock,.yl nm,args,h,K=>roundE P (callN P spec lsp unroll n) unroll lock nm args h K
def SemC (P:Program) (pl:Bool) (c:Code) (n:Nat) (t:Slots) (h:VH) (e:VEx) (t':Slots) (h':VH):Prop:=
 ∀ (F:Fence),WF P F->(pl=true->F.round=none)->∀ (B:Nat) (ds:List Deferred) (R:Rn) (a:Act) (w:World),Emb B R h.at w->TRel R t a->a.tmps.size=n->a.defers=ds ->
  c.wpIn F 0 P (PostC pl B ds n R h.at w e t' h') a w
def LSound (P:Program) (pl:Bool) (c:Code) (n:Nat) (T:LT):Prop:=
 ∀ lock t h K,T lock t h K->∃ e t' h',K e t' h'/\LockP lock h h'/\SemC P pl c n t h e t' h'
def blocksOf (id:Nat):Code->List Code
 | .seq a b=>blocksOf id a ++ blocksOf id b
 | .cond _ a b=>blocksOf id a ++ blocksOf id b
 | .block i b=>(if i=id then [b] else []) ++ blocksOf id b
 | .loop b=>blocksOf id b
 | .scope b=>blocksOf id b
 | .rangeFunc _ _ a b=>blocksOf id a ++ blocksOf id b
 | _=>[]
section
variable {P:Program} {pl:Bool}
theorem nole (R:Rn):R.no.le R.no:=⟨fun _ _ h=>h,rfl,rfl,fun _ _ _ h=>h,fun _ _ h=>h⟩
theorem emb_drew {B:Nat} {R:Rn} {η:Nat->VB} {w:World} (e:Emb B R η w):Emb B R η w.drew:=⟨e.base,e.ownC,e.inj,e.arr,e.fresh,e.lp,fun n L g s t h=>(e.vec n L g s t h).frame rfl (nole R) (fun _ _=>rfl),e.fvec,fun n ks vk es h=>(e.map n ks vk es h).frame rfl (fun _ _=>rfl),fun n K r C g t te h=>(e.mat n K r C g t te h).frame rfl (fun _ _=>rfl),e.bunF (fun _ _ _ _ _ _ h=>h) (fun _ _=>rfl) (fun _ _ _ _ _ _ _ _ _=>rfl),e.frz⟩
theorem nxt_drew {B:Nat} {R:Rn} {η:Nat->VB} {w:World} (_:Emb B R η w):Nxt η R w η R w.drew:=
 ⟨fun _ h=>h,fun _ _=>rfl,rfl,rfl,fun _ _ _ h=>h,fun n L v h h'=>(by rw [h] at h'; cases h'),fun n L h=>.inr ⟨L,h,Nat.le_refl _⟩,fun n _ h=>.inl ⟨n,h⟩,Nat.le_refl _,fun _ _ _=>rfl,rfl,rfl,rfl,fun _ _ h=>h,fun _ _ h=>.inl h,RegN.refl _ _⟩
theorem draw_sound (hmix:P.follows .mixedOrders=true) {call:CallT} (hg:Good P call) {n lock id:Nat} {ops:Array Oper} {t:Slots} {h:VH} {K:CK} (hK:drawE P call n lock ops t h K) :
  ∃ e t' h',K e t' h'/\LockP lock h h'/\SemC P pl (.region id ops true) n t h e t' h':=by
 unfold drawE at hK
 obtain ⟨ms,hK,hm,hback⟩:=mkE_sound (ops:=ops) _ _ _ _ hK (fun q=>by simp) (fun j i hj=>by simp [lookM] at hj)
 obtain ⟨un,hK⟩:=preE_some _ _ _ _ _ hK
 simp only [foN_eq] at hK
 obtain ⟨e,t',h',h1,h2,h3⟩:=regE_sound hg hm (fun j o ho=>hback j o (Nat.zero_le _) ho) _ _ _ _ _ _ hK (fun q=>by simp) (by simp) 0 [] (look t) h.at rfl (by simp) (Nat.le_refl _) (by simp) (by simp) ⟨rfl,rfl⟩
 refine ⟨e,t',h',h1,h2,?_⟩
 intro F hF _ B ds R a w he ht hn hds
 refine wpIn_region_any hmix ?_
 have:=h3 F hF B ds R a w.drew (Array.replicate ops.size false) (by simp) (fun j o _ hl=>by
   rw [Array.getD_eq_getD_getElem?,Array.getElem?_replicate] at hl
   split at hl <;> simp at hl) (fun j hj=>by simp [hj]) (emb_drew he) ht hn hds (PostC pl B ds n R h.at w e t' h') (fun ex a' w' hp=>(hp.of_next (nxt_drew he)).any)
 exact this
theorem ops_sound {call:CallT} (hg:Good P call) {n lock:Nat} {ops:Array Oper}:∀ (l:List Oper) (k:Nat) (t:Slots) (h:VH) (K:CK),opsE P call n lock ops l t h K->(∀ j,l[j]? = ops[k+j]?) ->
  ∃ e t' h',K e t' h'/\LockP lock h h'/\∀ (F:Fence),WF P F->∀ (B:Nat) (ds:List Deferred) (R:Rn) (a:Act) (w:World),Emb B R h.at w->TRel R t a->a.tmps.size=n->a.defers=ds ->
   ∀ (Q:Exit->Act->World->Prop),(∀ ex a' w',PostC false B ds n R h.at w e t' h' ex a' w'->Q ex a' w')->wpOpsIn F 0 P ops Q (List.range' k l.length) a w:=by
 intro l
 induction l with
 | nil=>
  intro k t h K hK _
  refine ⟨_,t,h,hK,lockP_refl _ _,?_⟩
  intro F hF B ds R a w he ht hn hds Q hQ
  exact hQ _ _ _ (post0 (Nxt.refl _ _ _ he.fresh) he ht hn hds rfl)
 | cons o rest ih=>
  intro k t h K hK hl
  have ho:ops[k]? = some o:=by have:=hl 0; simpa using this.symm
  have hl':∀ j,rest[j]? = ops[k+1+j]?:=fun j=>by have:=hl (j+1); simpa [Nat.add_assoc,Nat.add_comm 1 j] using this
  simp only [opsE] at hK
  obtain ⟨t1,b,hK,hgd⟩:=guardE_sound hK
  cases b with
  | false=>
   simp only [cond_false] at hK
   obtain ⟨t2,hK,hl2,hd2⟩:=putT_sound hK
   obtain ⟨e,t',h',h1,h2,h3⟩:=ih (k+1) t2 h K hK hl'
   refine ⟨e,t',h',h1,h2,?_⟩
   intro F hF B ds R a w he ht hn hds Q hQ
   simp only [List.length_cons,List.range'_succ]
   rw [wpOpsIn_cons]
   unfold wpOpIn
   rw [ho]
   simp only [(hgd R a ht).2]
   refine ⟨fun f _=>hF.fn f,h3 F hF B ds R _ w he ?_ (by rw [put_size]; exact hn) (by rw [put_defers]; exact hds) Q hQ⟩
   have h5:TRelF R (look t1) a:=(hgd R a ht).1
   show TRelF R (look t2) _
   rw [hl2]
   exact h5.put (fun d hd=>by rw [hn]; exact hd2 d hd) ⟨[],rfl,rfl⟩
  | true=>
   simp only [cond_true] at hK
   rcases opE_sound hg hK with ⟨v,h2,hK,hlk,hop⟩ | ⟨v,h2,hK,hlk,hop⟩
   ·obtain ⟨t2,hK,hl2,hd2⟩:=putT_sound hK
    obtain ⟨e,t',h',h1,h4,h3⟩:=ih (k+1) t2 h2 K hK hl'
    refine ⟨e,t',h',h1,lockP_trans hlk h4,?_⟩
    intro F hF B ds R a w he ht hn hds Q hQ
    simp only [List.length_cons,List.range'_succ]
    rw [wpOpsIn_cons]
    unfold wpOpIn
    rw [ho]
    simp only [(hgd R a ht).2,if_true]
    refine hop F hF o rfl B R a w he (hgd R a ht).1 _ Q (fun x R' w' n1 e1 hv=>?_)
    refine h3 F hF B ds R' _ w' e1 ?_ (by rw [put_size]; exact hn) (by rw [put_defers]; exact hds) Q (fun ex a' w'' hp=>hQ ex a' w'' (hp.of_next n1))
    have h5:TRelF R (look t1) a:=(hgd R a ht).1
    show TRelF R' (look t2) _
    rw [hl2]
    exact (h5.mono (n1.le he)).put (fun d hd=>by rw [hn]; exact hd2 d hd) hv
   ·refine ⟨_,t1,h2,hK,hlk,?_⟩
    intro F hF B ds R a w he ht hn hds Q hQ
    simp only [List.length_cons,List.range'_succ]
    rw [wpOpsIn_cons]
    unfold wpOpIn
    rw [ho]
    simp only [(hgd R a ht).2,if_true]
    refine hop F hF o rfl B R a w he (hgd R a ht).1 _ Q (fun x R' w' n1 e1 hv=>?_)
    exact hQ _ _ _ (post0 n1 e1 ((hgd R a ht).1.mono (n1.le he)) hn hds ⟨x,hv,rfl⟩)
theorem seq_sound {a b:Code} {n:Nat} {t t1 t':Slots} {h hm h':VH} {e:VEx} (h1:SemC P pl a n t h .normal t1 hm) (h2:SemC P pl b n t1 hm e t' h'):SemC P pl (.seq a b) n t h e t' h':=by
 intro F hF hp B ds R ac w he ht hn hds
 refine wpIn_seq (wpIn_mono (h1 F hF hp B ds R ac w he ht hn hds) ?_)
 rintro ex a' w' ⟨R',rs,n1,e1,t1,s1,d1,m1,q1,z1,rfl⟩
 exact wpIn_mono (h2 F hF hp B _ R' a' w' e1 t1 s1 d1) (fun ex a'' w'' hp=>hp.join n1 m1 q1 z1)
theorem ex_ne {R:Rn} {e:VEx} {ex:Exit} (h:ExRel R e ex) (hn:e ≠ .normal):ex ≠ .normal:=by
 cases e <;> simp only [ExRel] at h
 ·exact (hn rfl).elim
 ·subst h; simp
 ·subst h; simp
 ·subst h; simp
 ·obtain ⟨_,_,rfl⟩:=h; simp
theorem then_ne {next:Act->World->Prop} {Q:Exit->Act->World->Prop} {ex:Exit} {a:Act} {w:World} (hn:ex ≠ .normal) (h:Q ex a w):Exit.then next Q ex a w:=by
 cases ex <;> first | exact (hn rfl).elim | exact h
theorem seq_stop {a b:Code} {n:Nat} {t t':Slots} {h h':VH} {e:VEx} (hn:e ≠ .normal) (h1:SemC P pl a n t h e t' h'):SemC P pl (.seq a b) n t h e t' h':=by
 intro F hF hp B ds R ac w he ht hs hds
 refine wpIn_seq (wpIn_mono (h1 F hF hp B ds R ac w he ht hs hds) ?_)
 intro ex a' w' hp
 have hx:=hp
 obtain ⟨R',_,_,_,_,_,_,_,_,_,x⟩:=hx
 exact then_ne (ex_ne x hn) hp
inductive LoopTo (P:Program) (pl:Bool) (b:Code) (n:Nat):Slots->VH->VEx->Slots->VH->Prop
 | last {t t':Slots} {h h':VH} {e:VEx}:SemC P pl b n t h e t' h'->e ≠ .normal->LoopTo P pl b n t h e t' h'
 | next {t t1 t':Slots} {h h1 h':VH} {e:VEx}:SemC P pl b n t h .normal t1 h1->LoopTo P pl b n t1 h1 e t' h'->LoopTo P pl b n t h e t' h'
theorem loopTo_rounds {b:Code} {n:Nat} {t t':Slots} {h h':VH} {e:VEx} (hl:LoopTo P pl b n t h e t' h'):∃ m,∀ (F:Fence),WF P F->(pl=true->F.round=none)->∀ (B:Nat) (ds:List Deferred) (R:Rn) (a:Act) (w:World),Emb B R h.at w->TRel R t a->a.tmps.size=n->a.defers=ds ->
  ∀ (Q:Exit->Act->World->Prop),(∀ ex a' w',PostC pl B ds n R h.at w e t' h' ex a' w'->Q ex a' w')->Code.roundsIn F 0 P b Q m a w:=by
 induction hl with
 | last h1 hn=>
  refine ⟨1,fun F hF hp B ds R a w he ht hs hds Q hQ=>wpIn_mono (h1 F hF hp B ds R a w he ht hs hds) ?_⟩
  intro ex a' w' hp
  have hx:=hp
  obtain ⟨R',_,_,_,_,_,_,_,_,_,x⟩:=hx
  exact then_ne (ex_ne x hn) (hQ _ _ _ hp)
 | next h1 _ ih=>
  obtain ⟨m,ih⟩:=ih
  refine ⟨m+1,fun F hF hp B ds R a w he ht hs hds Q hQ=>wpIn_mono (h1 F hF hp B ds R a w he ht hs hds) ?_⟩
  rintro ex a' w' ⟨R',rs,n1,e1,t1,s1,d1,m1,q1,z1,rfl⟩
  exact ih F hF hp B _ R' a' w' e1 t1 s1 d1 Q (fun ex a'' w'' hp=>hQ _ _ _ (hp.join n1 m1 q1 z1))
theorem loopTo_sound {b:Code} {n:Nat} {t t':Slots} {h h':VH} {e:VEx} (hl:LoopTo P pl b n t h e t' h'):SemC P pl (.loop b) n t h e t' h':=by
 obtain ⟨m,hm⟩:=loopTo_rounds hl
 intro F hF hp B ds R a w he ht hs hds
 exact wpIn_loop_rounds m (hm F hF hp B ds R a w he ht hs hds _ (fun _ _ _ hp=>hp))
theorem block_sound {b:Code} {id n:Nat} {t t':Slots} {h h':VH} {e e':VEx} (h1:SemC P pl b n t h e t' h') (he':(e=.exit id/\e'=.normal) ∨ (e ≠ .exit id/\e'=e)):SemC P pl (.block id b) n t h e' t' h':=by
 intro F hF hp B ds R a w he ht hs hds
 refine wpIn_block (wpIn_mono (h1 F hF hp B ds R a w he ht hs hds) ?_)
 rintro ex a' w' ⟨R',rs,n1,e1,t1,s1,d1,m1,q1,z1,x⟩
 rcases he' with ⟨rfl,rfl⟩ | ⟨hne,rfl⟩
 ·simp only [ExRel] at x
  subst x
  simp only [Exit.inBlock,if_true]
  exact ⟨R',rs,n1,e1,t1,s1,d1,m1,q1,z1,rfl⟩
 ·have hp:PostC pl B ds n R h.at w e' t' h' ex a' w':=⟨R',rs,n1,e1,t1,s1,d1,m1,q1,z1,x⟩
  cases e' <;> simp only [ExRel] at x
  ·subst x; exact hp
  ·rename_i id'
   subst x
   have:id' ≠ id:=fun hh=>hne (by rw [hh])
   simp only [Exit.inBlock,this,if_false]
   exact hp
  ·subst x; exact hp
  ·subst x; exact hp
  ·obtain ⟨_,_,rfl⟩:=x; exact hp
theorem stepR_scope {P:Program} {b:Frame} {a:Act} {k:List Item} {cs:List Frame} {w:World} {c:Code}:step P (lone (b.atR a (.code (.scope c)::k)) cs w)=.next (lone (b.atR a (.code c::.inScope c::k)) cs w):=
 step_lone_go (by simp [stepG,stepG.exec,Frame.atR])
theorem stepR_inScope {P:Program} {b:Frame} {a:Act} {k:List Item} {cs:List Frame} {w:World} {c:Code}:step P (lone (b.atR a (.inScope c::k)) cs w)=.next (lone (b.atR a k) cs w):=
 step_lone_go (by simp [stepG,stepG.exec,Frame.atR])
theorem wpIn_scope {F:Fence} {n:Nat} {P:Program} {Q:Exit->Act->World->Prop} {a:Act} {w:World} {c:Code} (h:c.wpIn F n P (fun e a w=>(∀ l,e ≠ .goto l)/\Q e a w) a w):(Code.scope c).wpIn F n P Q a w:=by
 intro b k cs hro hb hr
 have h0:(lone (b.atR a (.code (.scope c)::k)) cs w).fenced P F:=fenced_calm hb hr rfl
 obtain ⟨e,a₁,w₁,⟨hg,hq⟩,harr⟩:=h b (.inScope c::k) cs hro hb hr
 cases e with
 | normal=>exact ⟨.normal,a₁,w₁,hq,.head h0 stepR_scope (StepsIn.trans harr (.one (fenced_calm hb hr rfl) stepR_inScope))⟩
 | exit id'=>
  have hx:exitTo id' (.inScope c::k)=exitTo id' k:=by simp [exitTo]
  exact ⟨.exit id',a₁,w₁,hq,fun k' hk=>.head h0 stepR_scope (harr.1 k' (by rw [hx]; exact hk)),
   fun hr' hk=>let ⟨k₁,h1,h2⟩:=harr.2 hr' (by rw [hx]; exact hk); ⟨k₁,h1,.head h0 stepR_scope h2⟩⟩
 | goto l=>exact (hg l rfl).elim
 | ret=>exact ⟨_,a₁,w₁,hq,.of_steps (.one h0 stepR_scope) harr⟩
 | panic ch=>exact ⟨_,a₁,w₁,hq,.of_steps (.one h0 stepR_scope) harr⟩
 | outgrown=>exact ⟨_,a₁,w₁,hq,.of_steps (.one h0 stepR_scope) harr⟩
theorem scope_sound {b:Code} {n:Nat} {t t':Slots} {h h':VH} {e:VEx} (hg:∀ l,e ≠ .goto l) (h1:SemC P pl b n t h e t' h'):SemC P pl (.scope b) n t h e t' h':=by
 intro F hF hp B ds R a w he ht hs hds
 refine wpIn_scope (wpIn_mono (h1 F hF hp B ds R a w he ht hs hds) ?_)
 intro ex a' w' hp
 have hx:=hp
 obtain ⟨R',_,_,_,_,_,_,_,_,_,x⟩:=hx
 refine ⟨fun l hl=>?_,hp⟩
 subst hl
 cases e with
 | goto l'=>exact hg l' rfl
 | normal=>cases x
 | exit _=>cases x
 | ret=>cases x
 | panic _=>obtain ⟨_,_,hx⟩:=x; cases hx
theorem emb_allocU {B:Nat} {R:Rn} {η:Nat->VB} {w:World} (e:Emb B R η w) (o:Obj):Emb B R η (w.alloc o)/\Nxt η R w η R (w.alloc o):=by
 have hold:∀ b,b<w.heap.size->(w.alloc o).heap[b]? = w.heap[b]?:=fun b hb=>by
  show (w.heap.push _)[b]? = _
  rw [Array.getElem?_push,if_neg (by omega)]
 refine ⟨⟨by have:=e.base; simp; omega,fun n cs t hn=>?_,e.inj,fun n s ok g hn=>?_,e.fresh,fun n st pd t m ps as bd hn=>?_,fun n L g s t hn=>(e.vec n L g s t hn).frame rfl (nole R) (fun b hb=>hold b (e.lt (n:=n) (by rw [hn]; exact hb))),e.fvec,fun n ks vk es hn=>(e.map n ks vk es hn).frame rfl (fun b hb=>hold b (e.lt (n:=n) (by rw [hn]; exact hb))),fun n K r C g t te hn=>(e.mat n K r C g t te hn).frame rfl (fun b hb=>hold b (e.lt (n:=n) (by rw [hn]; exact hb))),e.bunF (fun _ _ _ _ _ _ h=>h) (fun _ _=>rfl) (fun n _ _ _ _ _ _ b hb=>hold b (e.lt (n:=n) hb)),fun b xs hb=>⟨by have:=(e.frz b xs hb).1; simp; omega,(e.frz b xs hb).2.1,fun k x hk=>(cell_same (p:=⟨b,k,none⟩) (hold b (e.frz b xs hb).1)).trans ((e.frz b xs hb).2.2 k x hk)⟩⟩,
  ⟨fun _ h=>h,fun _ _=>rfl,rfl,rfl,fun _ _ _ h=>h,fun n L v h h'=>(by rw [h] at h'; cases h'),fun n L h=>.inr ⟨L,h,Nat.le_refl _⟩,fun n _ h=>.inl ⟨n,h⟩,by simp,fun b hb _=>hold b hb,rfl,rfl,rfl,fun _ _ h=>h,fun _ _ h=>.inl h,RegN.refl _ _⟩⟩
 ·obtain ⟨b,xs,h1,h2,h3,h4⟩:=e.ownC n cs t hn
  exact ⟨b,xs,h1,h2,h3,by rw [hold b (Array.getElem?_eq_some_iff.1 h4).1]; exact h4⟩
 ·obtain ⟨h1,h2⟩:=e.arr n s ok g hn
  refine ⟨h1,fun ix i hi=>?_⟩
  obtain ⟨h3,h4,h5,xs,h6,h7,h8⟩:=h2 ix i hi
  refine ⟨h3,h4,h5,xs,h6,h7,fun k x hk=>?_⟩
  rw [World.cell?_alloc_lt]
  ·exact h8 k x hk
  ·have:=e.base
   have:((R.arr n ix).add (i.toNat*s+k)).block=(R.arr n ix).block:=by unfold Addr.add; split <;> rfl
   show ((R.arr n ix).add (i.toNat*s+k)).block<_
   omega
 ·obtain ⟨b,r,h1,h2,h3,h4⟩:=e.lp n st pd t m ps as bd hn
  exact ⟨b,r,h1,h2,by rw [hold b (Array.getElem?_eq_some_iff.1 h3).1]; exact h3,h4⟩
theorem emb_allocL {B:Nat} {R:Rn} {η:Nat->VB} {w:World} (e:Emb B R η w) {n0:Nat} (hn0:η n0=.free) {st:Bool} {pd:Option VEx} {t:Slots} {m:Nat} {ps:List Nat} {as bd:Code} {r:Loop} (hl:LRel R st pd t m ps as bd r) :
  Emb B (R.put n0 w.heap.size) (upd η n0 (.loop st pd t m ps as bd)) (w.alloc (.loop r))/\Nxt η R w (upd η n0 (.loop st pd t m ps as bd)) (R.put n0 w.heap.size) (w.alloc (.loop r)):=by
 have hle:R.le (R.put n0 w.heap.size):=le_put (e.fresh n0 hn0)
 have hold:∀ b,b<w.heap.size->¬ R.ow n0 (η n0) b->(w.alloc (.loop r)).heap[b]? = w.heap[b]?:=fun b hb _=>by
  show (w.heap.push _)[b]? = _
  rw [Array.getElem?_push,if_neg (by omega)]
 have how:∀ b,(R.put n0 w.heap.size).ow n0 (.loop st pd t m ps as bd) b->R.ow n0 (η n0) b ∨ w.heap.size<=b:=fun b hb=>by
  simp [Rn.ow,Rn.put] at hb
  omega
 refine ⟨e.step (by simp) hle (fun n h=>by simp [Rn.put,h]) (fun n _=>rfl) hold how (by simp) (by simp) (by simp) (fun st' pd' t' m' ps' as' bd' h=>?_) (by simp),
  Nxt.step (by simp) hle (fun n h=>?_) (fun n _=>rfl) hold how (by simp) (fun L v h1 h2=>?_) (by simp) rfl rfl rfl⟩
 ·cases h
  refine ⟨w.heap.size,r,by simp [Rn.put],e.base,?_,hl.mono hle⟩
  show (w.heap.push _)[w.heap.size]? = _
  simp
 ·have h:n ≠ n0:=h.elim id (fun hf h'=>by subst h'; exact hf hn0)
  simp [Rn.put,h]
 ·rw [show (R.put n0 w.heap.size).vec n0 L=R.vec n0 L from rfl,h1] at h2; cases h2
theorem le_self (R:Rn):R.le R:=⟨fun _ _ h=>h,rfl,rfl,fun _ _ _ h=>h,fun _ _ h=>h⟩
theorem emb_putObj {B:Nat} {R:Rn} {η:Nat->VB} {w:World} (e:Emb B R η w) {n bk:Nat} {o:Obj} (hn:η n ≠ .free) (hb:R.blk n=some bk) (hB:B<=bk) (hlt:bk<w.heap.size) (hoth:∀ m,m ≠ n->¬ R.ow m (η m) bk) (hfz:∀ xs,R.frz (.blk bk) ≠ some xs) {b:VB} (hbf:b ≠ .free) (hbc:b.cs? = none) (hba:∀ s ok g,b ≠ .arr s ok g) (hbv:b.ver=none)
  (hl:∀ st pd t m ps as bd,b=.loop st pd t m ps as bd->∃ r,o=.loop r/\LRel R st pd t m ps as bd r) (hbm:∀ ks vk es,b ≠ .map ks vk es:=by simp) (hbb:∀ t r C g te,b ≠ .bun t r C g te:=by simp):Emb B R (upd η n b) (w.putObj bk o):=by
 have hother:∀ k,k ≠ bk->(w.putObj bk o).heap[k]? = w.heap[k]?:=fun k hk=>World.putObj_heap_other hk
 have hne:∀ m,m ≠ n->∀ c,R.ow m (η m) c->(w.putObj bk o).heap[c]? = w.heap[c]?:=fun m hm c hc=>hother c (fun h=>hoth m hm (by rw [<- h]; exact hc))
 have howb:∀ c,R.ow n b c->c=bk:=fun c hc=>by
  cases b with
  | cells cs t=>simp at hbc
  | fam pre L g t=>simp at hbc
  | map ks vk es=>exact (hbm _ _ _ rfl).elim
  | vec L g s t=>cases hbv
  | mat K r C g t te=>cases hbv
  | bun t r C g te=>exact (hbb _ _ _ _ _ rfl).elim
  | loop st pd t m ps as bd=>
   have hc:R.blk n=some c:=hc
   rw [hb] at hc; cases hc; rfl
  | _=>cases hc
 refine ⟨by simpa [World.putObj] using e.base,fun m cs t hm=>?_,fun m q c h1 h2=>?_,fun m s ok g hm=>?_,fun m hm=>?_,fun m st pd t m' ps as bd hm=>?_,fun m L g s t hm=>?_,fun m hm=>?_,fun m ks vk es hm=>?_,fun m K r C g t te hm=>?_,e.bunF (upd_nbun hbb) (fun _ _=>rfl) (fun m t r C g te hm c hc=>hne m (fun h=>by simp only [upd,h,if_true] at hm; exact hbb _ _ _ _ _ hm) c hc),fun c xs hc=>?_⟩
 ·have h:m ≠ n:=fun h=>by simp only [upd,h,if_true] at hm; rw [hbc] at hm; cases hm
  simp only [upd,h,if_false] at hm
  obtain ⟨c,xs,h1,h2,h3,h4⟩:=e.ownC m cs t hm
  exact ⟨c,xs,h1,h2,h3,by rw [hne m h c (by rw [ow_cs hm]; exact h1)]; exact h4⟩
 ·by_cases h3:m=n <;> by_cases h4:q=n
  ·rw [h3,h4]
  ·rw [ow_upd h4] at h2
   subst h3
   simp only [upd,if_true] at h1
   have:=howb c h1
   subst this
   exact (hoth q h4 h2).elim
  ·rw [ow_upd h3] at h1
   subst h4
   simp only [upd,if_true] at h2
   have:=howb c h2
   subst this
   exact (hoth m h3 h1).elim
  ·rw [ow_upd h3] at h1
   rw [ow_upd h4] at h2
   exact e.inj m q c h1 h2
 ·have h:m ≠ n:=fun h=>by simp [upd,h] at hm; exact hba _ _ _ hm
  simp [upd,h] at hm
  obtain ⟨h1,h2⟩:=e.arr m s ok g hm
  refine ⟨h1,fun ix i hi=>?_⟩
  obtain ⟨h3,h4,h5,xs,h6,h7,h8⟩:=h2 ix i hi
  refine ⟨h3,h4,h5,xs,h6,h7,fun k x hk=>?_⟩
  have hblk:((R.arr m ix).add (i.toNat*s+k)).block=(R.arr m ix).block:=by unfold Addr.add; split <;> rfl
  rw [cell_same (w:=w)]
  ·exact h8 k x hk
  ·rw [hblk]; exact hother _ (by omega)
 ·have h:m ≠ n:=fun h=>by simp [upd,h] at hm; exact hbf hm
  simp [upd,h] at hm
  exact e.fresh m hm
 ·by_cases h:m=n
  ·subst h
   simp [upd] at hm
   obtain ⟨r,rfl,hr⟩:=hl _ _ _ _ _ _ _ hm
   exact ⟨bk,r,hb,hB,World.putObj_heap_same hlt,hr⟩
  ·simp [upd,h] at hm
   obtain ⟨c,r,h1,h2,h3,h4⟩:=e.lp m st pd t m' ps as bd hm
   exact ⟨c,r,h1,h2,by rw [hne m h c (by rw [hm]; exact h1)]; exact h3,h4⟩
 ·have h:m ≠ n:=fun h=>by simp only [upd,h,if_true] at hm; rw [hm] at hbv; cases hbv
  simp [upd,h] at hm
  exact (e.vec m L g s t hm).frame rfl (nole R) (fun c hc=>hne m h c (by rw [hm]; exact hc))
 ·have h:m ≠ n:=fun h=>by simp [upd,h] at hm; exact hbf hm
  simp [upd,h] at hm
  exact e.fvec m hm
 ·have h:m ≠ n:=fun h=>by simp [upd,h] at hm; exact hbm _ _ _ hm
  simp [upd,h] at hm
  exact (e.map m ks vk es hm).frame rfl (fun c hc=>hne m h c (by rw [hm]; exact hc))
 ·have h:m ≠ n:=fun h=>by simp only [upd,h,if_true] at hm; rw [hm] at hbv; cases hbv
  simp [upd,h] at hm
  exact (e.mat m K r C g t te hm).frame rfl (fun c hc=>hne m h c (by rw [hm]; exact hc))
 ·obtain ⟨g1,g2,g3⟩:=e.frz c xs hc
  have hcb:c ≠ bk:=fun h=>hfz xs (by rw [<- h]; exact hc)
  refine ⟨by simpa [World.putObj] using g1,fun m hm=>?_,fun k x hk=>?_⟩
  ·by_cases h:m=n
   ·subst h
    simp only [upd,if_true] at hm
    exact hcb (howb c hm)
   ·rw [ow_upd h] at hm
    exact g2 m hm
  ·exact (cell_same (p:=⟨c,k,none⟩) (World.putObj_heap_other hcb)).trans (g3 k x hk)
theorem put_at_ne {h:VH} {n:Nat} {b:VB} (hn:h.at n ≠ .free):(VH.mk h.nx ((n,b)::h.bs)).at=upd h.at n b:=VH.at_put h n b hn
theorem nxt_put {B:Nat} {R:Rn} {η:Nat->VB} {w:World} (_:Emb B R η w) {n bk:Nat} {o:Obj} {b:VB} (hb:R.blk n=some bk) (hlv:(η n).live) (hbf:b ≠ .free) (hbv:b.ver=none) (hbb:∀ t r C g te,b ≠ .bun t r C g te:=by simp):Nxt η R w (upd η n b) R (w.putObj bk o):=by
 have how0:R.ow n (η n) bk:=by rw [ow_live hlv]; exact hb
 refine Nxt.step (by simp [World.putObj]) (le_self R) (fun _ _=>rfl) (fun _ _=>rfl) (fun c _ hc=>World.putObj_heap_other (fun h=>hc (by rw [h]; exact how0))) (fun c hc=>?_) hbf (fun L v h1 h2=>by rw [h1] at h2; cases h2) (fun L h=>by rw [hbv] at h; cases h) rfl rfl rfl rfl (fun _ _ _ _ _ h=>(hbb _ _ _ _ _ h).elim)
 left
 have hcb:c=bk->R.ow n (η n) c:=fun h=>by rw [h]; exact how0
 refine hcb ?_
 have key:R.blk n=some c->c=bk:=fun h=>by rw [hb] at h; cases h; rfl
 cases b with
 | cells cs t=>exact key hc
 | fam _ _ _ _=>exact key hc
 | map _ _ _=>exact key hc
 | loop st pd t m ps as bd=>exact key hc
 | vec L g s t=>cases hbv
 | mat K r C g t te=>cases hbv
 | bun t r C g te=>exact (hbb _ _ _ _ _ rfl).elim
 | _=>exact hc.elim
theorem range_sound {call:CallT} (hg:Good P call) {n lock:Nat} {f:Operand} {ps:Array Tmp} {as bd:Code} {t:Slots} {h:VH} {K:CK} (hK:rangeE P call n lock f ps as bd t h K) :
  ∃ e t' h',K e t' h'/\LockP lock h h'/\SemC P true (.rangeFunc f ps as bd) n t h e t' h':=by
 unfold rangeE at hK
 split at hK
 ·rename_i g first cap hf
  split at hK
  ·rename_i fn hfn
   obtain ⟨hc,hK⟩:=cond_f hK
   simp only [Bool.and_eq_true,Bool.not_eq_true'] at hc
   simp only [foN_eq,foL_eq] at hK
   obtain ⟨r,h2,hK,hlk,hcv⟩:=hg _ _ _ _ _ hK
   have hcv:CallsV P g (first ++ [.yld h.nx] ++ cap) (h.new (.loop true none t n ps.toList as bd)) r h2:=hcv
   have hlk:LockP lock (h.new (.loop true none t n ps.toList as bd)) h2:=hlk
   have hlk1:LockP lock h h2:=lockP_trans (lockP_new _ _ _) hlk
   have hlk2:LockP lock h ⟨h2.nx,(h.nx,.gone)::h2.bs⟩:=by
    intro m hm hf
    have hne:m ≠ h.nx:=fun e=>by subst e; exact hf (VH.at_nx h)
    show (bif Nat.blt m h2.nx then lookB ((h.nx,.gone)::h2.bs) m else .free)=_
    simp only [lookB,beq_f (fun e:h.nx=m=>hne e.symm),cond_false]
    exact hlk1 m hm hf
   have core:∀ (F:Fence),WF P F->F.round=none->∀ (B:Nat) (ds:List Deferred) (R:Rn) (a:Act) (w:World),Emb B R h.at w->TRel R t a->a.tmps.size=n->a.defers=ds->∀ (Q:Exit->Act->World->Prop),
     (∀ (en:Ending) (w3:World) (R1 R3:Rn) (W1:World),Nxt h.at R w (h.new (.loop true none t n ps.toList as bd)).at R1 W1->Emb B R1 (h.new (.loop true none t n ps.toList as bd)).at W1->R1.blk h.nx=some (w.heap.size+1)->R.le R1 ->
      Marks [w.heap.size] R1 (h.new (.loop true none t n ps.toList as bd)).at W1->Nxt (h.new (.loop true none t n ps.toList as bd)).at R1 W1 h2.at R3 w3->Emb B R3 h2.at w3->ResRel R3 r en ->
      rangePost F 0 P (w.heap.size+1) Q { a with defers:=[mkD w.heap.size] ++ a.defers } en w3)->(Code.rangeFunc f ps as bd).wpIn F 0 P Q a w:=by
    intro F hF hro B ds R a w he ht hn hds Q hpost
    refine wpIn_rangeFunc ?_
    intro fid _
    rw [hro]
    obtain ⟨e0,n0⟩:=emb_allocU he (.deferred (some []))
    have hr:=evO_rel ht f
    rw [hf] at hr
    obtain ⟨us,vs,g1,g2,g3⟩:=hr
    obtain ⟨e1,n1⟩:=emb_allocL e0 (VH.at_nx h) (st:=true) (pd:=none) (t:=t) (m:=n) (ps:=ps.toList) (as:=as) (bd:=bd)
     (r:={ state:=.ready,pending:=none,fn:=fid,tmps:=a.tmps,params:=ps,assign:=as,body:=bd,defers:=w.heap.size }) ⟨rfl,rfl,by simp,rfl,rfl,hn,ht⟩
    rw [<- VH.at_new] at e1 n1
    have hsz:(w.alloc (.deferred (some []))).heap.size=w.heap.size+1:=by simp
    rw [hsz] at e1 n1
    obtain ⟨W1,hW1⟩:∃ W1,(w.alloc (.deferred (some []))).alloc (.loop { state:=.ready,pending:=none,fn:=fid,tmps:=a.tmps,params:=ps,assign:=as,body:=bd,defers:=w.heap.size })=W1:=⟨_,rfl⟩
    have hen:=run_enterLoop_outer (P:=P) (w:=w) fid a.tmps ps as bd
    have hdm:W1.heap[w.heap.size]? = some (.deferred (some [])):=by
     rw [<- hW1]
     show (((w.heap.push _).push _))[w.heap.size]? = _
     rw [Array.getElem?_push,if_neg (by simp),Array.getElem?_push,if_pos rfl]
    rw [hW1] at e1 n1 hen
    have hn01:=n0.trans n1
    have hle:=hn01.le he
    have hblk:(R.put h.nx (w.heap.size+1)).blk h.nx=some (w.heap.size+1):=by simp [Rn.put]
    refine ⟨w.heap.size+1,[mkD w.heap.size],W1,{ target:=.fn (.func g) vs.toArray,args:=us.toArray ++ #[Value.func (.yield (w.heap.size+1)) #[] #[]] },W1,g,(us ++ [Value.func (.yield (w.heap.size+1)) #[] #[]] ++ vs).toArray,W1,hen,?_,fun f' _=>hF.fn f',?_,fun hd=>(by rw [hF.dep] at hd; cases hd),?_⟩
    ·simp only [resolve,g3]
     simp [Deferred.ofValue,Act.eval]
    ·have hbn:fn.body.isNone=false:=by cases hh:fn.body <;> simp_all
     simp only [invoke]
     unfold callFunc
     simp only [Sem.run_bind,run_program,Result.andThen_ok,hfn,hc.2,hbn]
     simp
    ·have hargs:VRelL (R.put h.nx (w.heap.size+1)) (first ++ [.yld h.nx] ++ cap) (us ++ [Value.func (.yield (w.heap.size+1)) #[] #[]] ++ vs):=
      ((g1.mono hle).append (show VRelL (R.put h.nx (w.heap.size+1)) [.yld h.nx] [Value.func (.yield (w.heap.size+1)) #[] #[]] from ⟨_,[],⟨_,hblk,rfl⟩,rfl,rfl⟩)).append (g2.mono hle)
     refine hF.calls _ _ _ _ _ ((hcv B _ W1 _ e1 hargs).mono ?_)
     rintro en w3 ⟨R3,n3,e3,hx⟩
     have hmk:Marks [w.heap.size] (R.put h.nx (w.heap.size+1)) (h.new (.loop true none t n ps.toList as bd)).at W1:=by
      refine ⟨by simp,fun q hq=>?_⟩
      simp only [List.mem_singleton] at hq
      subst hq
      refine ⟨hdm,fun m hb=>?_⟩
      ·by_cases hm:m=h.nx
       ·subst hm
        rw [VH.at_new] at hb
        simp only [upd,if_true] at hb
        have hb:(R.put h.nx (w.heap.size+1)).blk h.nx=some w.heap.size:=hb
        rw [hblk] at hb
        simp at hb
       ·rw [VH.at_new,ow_upd hm,ow_put hm] at hb
        have:=he.lt hb
        omega
     exact hpost en w3 _ R3 W1 hn01 e1 hblk hle hmk n3 e3 hx
   cases r with
   | panic v=>
    refine ⟨_,t,h2,hK,hlk1,?_⟩
    intro F hF hp B ds R a w he ht hn hds
    refine core F hF (hp rfl) B ds R a w he ht hn hds _ ?_
    rintro en w3 R1 R3 W1 n1 e1 hb1 hle1 hm1 n3 e3 ⟨x,hx,rfl⟩
    refine ⟨R3,[w.heap.size],n1.trans n3,e3,fun d=>VRel.mono ((n1.trans n3).le he) _ _ (ht d),hn,by simp [hds],hm1.next n3,by simp,by simp,x,hx,rfl⟩
   | ret v=>
    simp only at hK
    have hnl:(h.new (.loop true none t n ps.toList as bd)).at h.nx ≠ .free:=by rw [VH.at_new]; simp [upd]
    split at hK
    ·rename_i st pd t2 m2 ps2 as2 bd2 hat
     have fin:∀ (e:VEx) (jump:Option Code),pdc pd=jump->(∀ (F:Fence),WF P F->∀ (Q:Exit->Act->World->Prop) (a:Act) (w:World),(∀ (ex:Exit),(∀ R,ExRel R e ex)->Q ex a w)->(match jump with
       | none=>Q .normal a w
       | some c=>c.wpIn F 0 P Q a w))->SemC P true (.rangeFunc f ps as bd) n t h e t ⟨h2.nx,(h.nx,.gone)::h2.bs⟩:=by
      intro e jump hj hfin F hF hp B ds R a w he ht hn hds
      refine core F hF (hp rfl) B ds R a w he ht hn hds _ ?_
      rintro en w3 R1 R3 W1 n1 e1 hb1 hle1 hm1 n3 e3 ⟨x,hx,rfl⟩
      obtain ⟨b,rec,q1,q2,q3,q4⟩:=e3.lp h.nx st pd t2 m2 ps2 as2 bd2 hat
      have hb3:R3.blk h.nx=some (w.heap.size+1):=by rw [n3.old _ hnl]; exact hb1
      rw [hb3] at q1; cases q1
      have hbusy:rec.state ≠ .busy:=by rw [q4.state]; cases st <;> simp
      have hlive:(h2.at h.nx).live:=by rw [hat]; trivial
      have hlt:=(Array.getElem?_eq_some_iff.1 q3).1
      have e4:=emb_putObj e3 (n:=h.nx) (o:=.loop { rec with state:=.exhausted }) (b:=.gone) (VB.live_not_free hlive) hb3 q2 hlt (fun m hm hbm=>hm (e3.inj m h.nx _ hbm (by rw [ow_live hlive]; exact hb3))) (fun xs hxs=>(e3.frz _ xs hxs).2.1 h.nx (by rw [ow_live hlive]; exact hb3)) (by simp) (by simp) (by simp) (by simp) (by simp)
      have n4:=nxt_put e3 (o:=.loop { rec with state:=.exhausted }) (b:=.gone) hb3 hlive (by simp) (by simp)
      have hat2:(VH.mk h2.nx ((h.nx,.gone)::h2.bs)).at=upd h2.at h.nx .gone:=put_at_ne (VB.live_not_free hlive)
      rw [<- hat2] at e4 n4
      have hnn:=(n1.trans n3).trans n4
      refine ⟨jump,_,(by rw [run_endLoop q3 hbusy,q4.pending,hj]),hfin F hF _ _ _ (fun ex hex=>⟨R3,[w.heap.size],hnn,e4,fun d=>VRel.mono (hnn.le he) _ _ (ht d),hn,by simp [hds],(hm1.next n3).next n4,by simp,by simp,hex R3⟩)⟩
     split at hK
     ·exact ⟨_,t,_,hK,hlk2,fin _ none rfl (fun F hF Q a w hq=>hq _ (fun _=>rfl))⟩
     ·exact ⟨_,t,_,hK,hlk2,fin _ (some .ret) rfl (fun F hF Q a w hq=>wpIn_ret (hq _ (fun _=>rfl)))⟩
     ·exact ⟨_,t,_,hK,hlk2,fin _ (some (.exit _)) rfl (fun F hF Q a w hq=>wpIn_exit (hq _ (fun _=>rfl)))⟩
     ·exact ⟨_,t,_,hK,hlk2,fin _ (some (.goto _)) rfl (fun F hF Q a w hq=>wpIn_goto (hq _ (fun _=>rfl)))⟩
     ·exact hK.elim
    ·exact hK.elim
  ·exact hK.elim
 ·exact hK.elim
end
end Go.Sx
