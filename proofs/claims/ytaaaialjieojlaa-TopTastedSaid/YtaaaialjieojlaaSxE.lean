/- The body of a function that defers one closure, which recovers. -/
import Derived.Test.YtaaaialjieojlaaSxD
namespace Go.Sx
open Go
def finE (P:Program) (fn:Func) (t:Slots) (h:VH) (K:VRes->VH->Prop):Prop:=
 resL P t h fn.results.toList fun vs=>(match vs with
  | [v]=>K (.ret v) h
  | vs=>K (.ret (.tup vs)) h)
def leaveE (P:Program) (call:CallT) (unroll lock:Nat) (fn gn:Func) (cl:List VV) (K:VRes->VH->Prop):CK:=fun e t h=>
 match e with
 | .normal=>dfrE P call unroll lock gn .niff cl h fun h'=>finE P fn t h' K
 | .ret=>dfrE P call unroll lock gn .niff cl h fun h'=>finE P fn t h' K
 | .panic v=>dfrE P call unroll lock gn v cl h fun h'=>finE P fn t h' K
 | _=>False
def isDfr:Code->Option (Oper × Operand)
 | .region _ ops false=>
  match ops.toList with
  | [o,⟨none,.defer ⟨.value x,as,_⟩,_,_,_,none⟩]=>bif as.isEmpty then some (o,x) else none
  | _=>none
 | _=>none
def spineE (P:Program) (call:CallT) (lsp:Nat->Option LT) (unroll n lock:Nat) (fn:Func) (K:VRes->VH->Prop):Code->Slots->VH->Prop
 | .seq a b,t,h=>
  match isDfr a with
  | some (o,x)=>
   match o.guard with
   | none=>opE P call lock o.op t h (fun v h=>putT n t o.dst v fun t=>
     match evO t x with
     | .func g first cap=>
      match P.funcs[g]? with
      | some gn => bif (gn.body.isSome && !(gn.name == "runtime.NumGoroutine")) then foL (first ++ cap) fun cl => codeE P call lsp true unroll n lock b t h (leaveE P call unroll lock fn gn cl K) else False
      | none=>False
     | _=>False) (fun _ _=>False)
   | some _=>False
  | none=>codeE P call (fun _=>none) false unroll n lock a t h fun e t h=>match e with
    | .normal=>spineE P call lsp unroll n lock fn K b t h
    | e=>endE P fn K e t h
 | _,_,_=>False
def bodyDE (P:Program) (call:CallT) (lsp:Nat->Option LT) (unroll:Nat) (fn:Func) (lock:Nat) (args:List VV) (h:VH) (K:VRes->VH->Prop):Prop:=
 match fn.body with
 | some c=>bif Nat.ble args.length fn.ntmps then foN fn.ntmps fun n=>argT 0 args fun t=>spineE P call lsp unroll n lock fn K c t h else False
 | none=>False
section
variable {P:Program}
theorem leaves_marks' {fn:Func} {tmps:Array Value} {Rr:Ending->World->Prop} {u:FrameMode} (hu:u ≠ .run) {B:Nat} {h':VH} {R0 R:Rn} {η0:Nat->VB} {w0:World} {ds:List Deferred} :
  ∀ (rs:List Nat) (w:World),Marks rs R h'.at w->Emb B R h'.at w->Nxt η0 R0 w0 h'.at R w->(∀ r ∈ rs,w0.heap.size<=r)->(∀ w',Emb B R h'.at w'->Nxt η0 R0 w0 h'.at R w'->LeavesInM Fence.wide 0 P fn tmps Rr ds u w')->LeavesInM Fence.wide 0 P fn tmps Rr (rs.map mkD ++ ds) u w
 | [],w,_,e,n,_,hf=>hf w e n
 | r::rs,w,hm,e,n,hr,hf=>by
  obtain ⟨h1,h2⟩:=hm.blk r (by simp)
  have hlt:=(Array.getElem?_eq_some_iff.1 h1).1
  have hother:∀ k,k ≠ r->(w.putObj r (.deferred none)).heap[k]? = w.heap[k]?:=fun k hk=>World.putObj_heap_other hk
  have e':Emb B R h'.at (w.putObj r (.deferred none)):=by
   refine ⟨by simpa [World.putObj] using e.base,fun m cs t hm'=>?_,e.inj,fun m s ok g hm'=>?_,e.fresh,fun m st pd t m' ps as bd hm'=>?_,fun m L g s t hm'=>(e.vec m L g s t hm').frame rfl (nole R) (fun c hc=>hother c (fun hh=>h2 m (by rw [hm',<- hh]; exact hc))),e.fvec,fun m ks vk es hm'=>(e.map m ks vk es hm').frame rfl (fun c hc=>hother c (fun hh=>h2 m (by rw [hm',<- hh]; exact hc))),fun m K r C g t te hm'=>(e.mat m K r C g t te hm').frame rfl (fun c hc=>hother c (fun hh=>h2 m (by rw [hm',<- hh]; exact hc))),fun c xs hc=>⟨by simpa [World.putObj] using (e.frz c xs hc).1,(e.frz c xs hc).2.1,fun k x hk=>?_⟩⟩
   ·obtain ⟨c,xs,g1,g2,g3,g4⟩:=e.ownC m cs t hm'
    refine ⟨c,xs,g1,g2,g3,?_⟩
    rw [hother c (fun hc=>h2 m (by rw [ow_cs hm',<- hc]; exact g1))]; exact g4
   ·obtain ⟨g1,g2⟩:=e.arr m s ok g hm'
    refine ⟨g1,fun ix i hi=>?_⟩
    obtain ⟨g3,g4,g5,xs,g6,g7,g8⟩:=g2 ix i hi
    refine ⟨g3,g4,g5,xs,g6,g7,fun k x hk=>?_⟩
    have h8:=g8 k x hk
    have hblk:((R.arr m ix).add (i.toNat*s+k)).block ≠ r:=by
     intro hh
     unfold World.cell? at h8
     rw [hh,h1] at h8
     simp at h8
    rw [cell_same (w:=w) (hother _ hblk)]
    exact h8
   ·obtain ⟨c,rr,g1,g2,g3,g4⟩:=e.lp m st pd t m' ps as bd hm'
    refine ⟨c,rr,g1,g2,?_,g4⟩
    rw [hother c (fun hc=>h2 m (by rw [hm',<- hc]; exact g1))]; exact g3
   ·have h8:=(e.frz c xs hc).2.2 k x hk
    have hcr:c ≠ r:=by
     intro hh
     unfold World.cell? at h8
     rw [hh,h1] at h8
     simp at h8
    rw [cell_same (w:=w) (hother _ hcr)]
    exact h8
  have n':Nxt η0 R0 w0 h'.at R (w.putObj r (.deferred none)):=by
   refine ⟨n.keep,n.old,n.arr,n.str,n.vold,n.vnew,n.vmono,n.own,by simpa [World.putObj] using n.size,fun c hc hn=>?_,n.os,n.tape,n.output,n.fmono,n.fnew⟩
   rw [hother c (by have:=hr r (by simp); omega)]
   exact n.frame c hc hn
  have hnd:=List.nodup_cons.1 hm.nodup
  refine ⟨hu,.inl ⟨r,_,rfl,run_takeDeferred h1,leaves_marks' hu rs _ ⟨hnd.2,fun q hq=>?_⟩ e' n' (fun q hq=>hr q (by simp [hq])) hf⟩⟩
  obtain ⟨g1,g2⟩:=hm.blk q (by simp [hq])
  exact ⟨by rw [hother q (fun hh=>hnd.1 (hh ▸ hq))]; exact g1,g2⟩
theorem end_sound {fn:Func} {K:VRes->VH->Prop} {e:VEx} {t':Slots} {h':VH} (hK:endE P fn K e t' h'):∃ r,K r h'/\∀ (pl:Bool) (B:Nat) (n:Nat) (R:Rn) (η:Nat->VB) (w:World) (ex:Exit) (a':Act) (w':World),
  PostC pl B [] n R η w e t' h' ex a' w'->bodyPostM Fence.wide 0 P fn (fun en w'=>∃ R',Nxt η R w h'.at R' w'/\Emb B R' h'.at w'/\ResRel R' r en) ex a' w':=by
 cases e with
 | normal=>
  obtain ⟨v,hK,hv⟩:=results_sound hK
  refine ⟨_,hK,?_⟩
  rintro pl B n R η w ex a' w' ⟨R',rs,n1,e1,t1,s1,d1,m1,q1,z1,rfl⟩
  show LeavesInM Fence.wide 0 P fn a'.tmps _ a'.defers .returning w'
  rw [d1,List.append_nil]
  refine leaves_marks (by simp) rs w' m1 e1 n1 q1 (fun w'' e2 n2=>?_)
  obtain ⟨x,x1,x2⟩:=hv B R' a' w'' e2 t1
  exact ⟨x,x2,R',n2,e2,x,x1,rfl⟩
 | ret=>
  obtain ⟨v,hK,hv⟩:=results_sound hK
  refine ⟨_,hK,?_⟩
  rintro pl B n R η w ex a' w' ⟨R',rs,n1,e1,t1,s1,d1,m1,q1,z1,rfl⟩
  show LeavesInM Fence.wide 0 P fn a'.tmps _ a'.defers .returning w'
  rw [d1,List.append_nil]
  refine leaves_marks (by simp) rs w' m1 e1 n1 q1 (fun w'' e2 n2=>?_)
  obtain ⟨x,x1,x2⟩:=hv B R' a' w'' e2 t1
  exact ⟨x,x2,R',n2,e2,x,x1,rfl⟩
 | panic v=>
  refine ⟨_,hK,?_⟩
  rintro pl B n R η w ex a' w' ⟨R',rs,n1,e1,t1,s1,d1,m1,q1,z1,x,hx1,rfl⟩
  show LeavesInM Fence.wide 0 P fn a'.tmps _ a'.defers (.panicking _) w'
  rw [d1,List.append_nil]
  refine leaves_marks (by simp) rs w' m1 e1 n1 q1 (fun w'' e2 n2=>?_)
  exact ⟨R',n2,e2,x,hx1,rfl⟩
 | exit id=>exact hK.elim
 | goto l=>exact hK.elim
theorem leave_sound (hmix : P.follows .mixedOrders = true) {call : CallT} (hg : Good P call) {unroll lock : Nat} {fn gn : Func} {g : FuncId} (hf : P.funcs[g]? = some gn) (hgn : gn.body.isSome = true /\ (gn.name == "runtime.NumGoroutine") = false)
  {cl:List VV} {K:VRes->VH->Prop} {e:VEx} {t':Slots} {h':VH} (hK:leaveE P call unroll lock fn gn cl K e t' h'):∃ r h2,K r h2/\LockP lock h' h2/\∀ (pl:Bool) (B:Nat) (n:Nat) (R:Rn) (η:Nat->VB) (w:World) (us vs:List Value) (ex:Exit) (a':Act) (w':World) (η0:Nat->VB) (R0:Rn) (w0:World),Nxt η0 R0 w0 η R w ->
  Emb B R η w->VRelL R cl (us ++ vs)->PostC pl B [{ target:=.fn (.func g) vs.toArray,args:=us.toArray }] n R η w e t' h' ex a' w'->bodyPostM Fence.wide 0 P fn (fun en w'=>∃ R',Nxt η0 R0 w0 h2.at R' w'/\Emb B R' h2.at w'/\ResRel R' r en) ex a' w':=by
 have hinv:∀ (us vs:List Value) (w:World),(invoke (.fn (.func g) vs.toArray) us.toArray).run P w=.ok (.enter g (us ++ vs).toArray) w:=by
  intro us vs w
  have hbn:gn.body.isNone=false:=by cases hh:gn.body <;> simp_all
  simp only [invoke]
  unfold callFunc
  simp only [Sem.run_bind,run_program,Result.andThen_ok,hf,hgn.2,hbn]
  simp
 have core:∀ (rv:VV) (K':VH->Prop),dfrE P call unroll lock gn rv cl h' K'->(∀ h2,K' h2->finE P fn t' h2 K)->∃ r h2,K r h2/\LockP lock h' h2/\∀ (B:Nat) (n:Nat) (R:Rn) (η:Nat->VB) (w:World) (us vs:List Value) (a':Act) (w':World) (R':Rn) (rs:List Nat) (x:Value) (u u':FrameMode) (η0:Nat->VB) (R0:Rn) (w0:World),Nxt η0 R0 w0 η R w ->
   Emb B R η w->VRelL R cl (us ++ vs)->Nxt η R w h'.at R' w'->Emb B R' h'.at w'->TRel R' t' a'->a'.defers=rs.map mkD ++ [{ target:=.fn (.func g) vs.toArray,args:=us.toArray }]->Marks rs R' h'.at w'->(∀ r ∈ rs,w.heap.size<=r)->VRel R' rv x->RecRel u x u'->u ≠ .run->settle u'=.returning ->
   LeavesInM Fence.wide 0 P fn a'.tmps (fun en w'=>∃ R',Nxt η0 R0 w0 h2.at R' w'/\Emb B R' h2.at w'/\ResRel R' r en) a'.defers u w':=by
  intro rv K' hd hfin
  obtain ⟨h2,hk,hlk,hd⟩:=dfr_sound hmix hg hf hd
  obtain ⟨v,hK,hv⟩:=results_sound (hfin h2 hk)
  refine ⟨_,h2,hK,hlk,?_⟩
  intro B n R η w us vs a' w' R' rs x u u' η0 R0 w0 n0 he hcl n1 e1 t1 d1 m1 q1 hx hrec hu hset
  rw [d1]
  refine leaves_marks' hu rs w' m1 e1 n1 q1 (fun w'' e2 n2=>?_)
  refine ⟨hu,.inr ⟨fun h=>(by simp [Fence.wide] at h),_,_,g,(us ++ vs).toArray,rfl,hinv us vs w'',fun _ _=>trivial,?_⟩⟩
  refine CallsDIn.mono (hd B R' w'' (us ++ vs) x u u' e2 (hcl.mono (n2.le he)) hx hrec) ?_
  rintro en u'' w3 ⟨⟨v',rfl⟩,rfl,R3,n3,e3⟩
  show LeavesInM Fence.wide 0 P fn a'.tmps _ [] (settle u'') w3
  rw [hset]
  obtain ⟨y,y1,y2⟩:=hv B R3 a' w3 e3 (fun d=>VRel.mono (n3.le e2) _ _ (t1 d))
  exact ⟨y,y2,R3,n0.trans (n2.trans n3),e3,y,y1,rfl⟩
 cases e with
 | normal=>
  obtain ⟨r,h2,hk,hlk,H⟩:=core _ _ hK (fun _ h=>h)
  refine ⟨r,h2,hk,hlk,?_⟩
  rintro pl B n R η w us vs ex a' w' η0 R0 w0 n0 he hcl ⟨R',rs,n1,e1,t1,s1,d1,m1,q1,z1,rfl⟩
  exact H B n R η w us vs a' w' R' rs .nilIface .returning .returning η0 R0 w0 n0 he hcl n1 e1 t1 d1 m1 q1 rfl rec_ret (by simp) rfl
 | ret=>
  obtain ⟨r,h2,hk,hlk,H⟩:=core _ _ hK (fun _ h=>h)
  refine ⟨r,h2,hk,hlk,?_⟩
  rintro pl B n R η w us vs ex a' w' η0 R0 w0 n0 he hcl ⟨R',rs,n1,e1,t1,s1,d1,m1,q1,z1,rfl⟩
  exact H B n R η w us vs a' w' R' rs .nilIface .returning .returning η0 R0 w0 n0 he hcl n1 e1 t1 d1 m1 q1 rfl rec_ret (by simp) rfl
 | panic v=>
  obtain ⟨r,h2,hk,hlk,H⟩:=core _ _ hK (fun _ h=>h)
  refine ⟨r,h2,hk,hlk,?_⟩
  rintro pl B n R η w us vs ex a' w' η0 R0 w0 n0 he hcl ⟨R',rs,n1,e1,t1,s1,d1,m1,q1,z1,x,hx,rfl⟩
  exact H B n R η w us vs a' w' R' rs x _ _ η0 R0 w0 n0 he hcl n1 e1 t1 d1 m1 q1 hx (rec_pan x) (by simp) rfl
 | exit id=>exact hK.elim
 | goto l=>exact hK.elim
theorem spine_sound (hmix:P.follows .mixedOrders=true) {call:CallT} (hg:Good P call) {lsp:Nat->Option LT} {unroll n lock:Nat} {fn:Func} {K:VRes->VH->Prop}:∀ (c:Code) (t:Slots) (h:VH),
  (∀ id T,lsp id=some T->∀ b ∈ blocksOf id c,LSound P true (.block id b) n T)->spineE P call lsp unroll n lock fn K c t h ->
  ∃ r h',K r h'/\LockP lock h h'/\∀ (B:Nat) (R:Rn) (a:Act) (w:World) (η0:Nat->VB) (R0:Rn) (w0:World),Nxt η0 R0 w0 h.at R w->Emb B R h.at w->TRel R t a->a.tmps.size=n->a.defers=[] ->
   c.wpIn Fence.wide 0 P (bodyPostM Fence.wide 0 P fn (fun en w'=>∃ R',Nxt η0 R0 w0 h'.at R' w'/\Emb B R' h'.at w'/\ResRel R' r en)) a w:=by
 intro c
 induction c with
 | seq ca cb iha ihb=>
  intro t h hl hK
  simp only [spineE] at hK
  split at hK
  ·rename_i o x hd
   split at hK
   ·rename_i hgd
    rcases opE_sound hg hK with ⟨v,h1,hK,hlk,hop⟩ | ⟨v,h1,hK,_⟩
    ·obtain ⟨t1,hK,hl1,hd1⟩:=putT_sound hK
     split at hK
     ·rename_i g first cap hev
      split at hK
      ·rename_i gn hgn
       obtain ⟨hc,hK⟩:=cond_f hK
       simp only [Bool.and_eq_true,Bool.not_eq_true'] at hc
       rw [foL_eq] at hK
       obtain ⟨e,t2,h2,hK,hlk2,hs⟩:=code_sound (pl:=true) hmix hg cb t1 h1 _ (fun id T hT b hb=>hl id T hT b (by simp [blocksOf,hb])) hK
       obtain ⟨r,h3,hK,hlk3,H⟩:=leave_sound hmix hg hgn hc hK
       refine ⟨r,h3,hK,lockP_trans hlk (lockP_trans hlk2 hlk3),?_⟩
       intro B R a w η0 R0 w0 n0 he ht hn hds
       unfold isDfr at hd
       split at hd
       ·rename_i id ops
        split at hd
        ·rename_i o' x' as ts ty ps af hops
         obtain ⟨has,hd⟩:as.isEmpty=true/\(o',x')=(o,x):=by
          cases has:as.isEmpty <;> simp [has] at hd
          exact ⟨rfl,by simp [hd]⟩
         obtain ⟨rfl,rfl⟩:=Prod.mk.inj hd
         have hops':ops=[o',⟨none,.defer ⟨.value x',as,ts⟩,ty,ps,af,none⟩].toArray:=by apply Array.ext'; simpa using hops
         have has:as = #[]:=by simpa using has
         subst has
         refine wpIn_seq (wpIn_region ?_)
         have hrange:List.range ops.size=[0,1]:=by rw [hops']; rfl
         rw [hrange,wpOpsIn_cons]
         unfold wpOpIn
         have h0:ops[0]? = some o':=by rw [hops']; rfl
         have h11:ops[1]? = some ⟨none,.defer ⟨.value x',#[],ts⟩,ty,ps,af,none⟩:=by rw [hops']; rfl
         rw [h0]
         simp only [show Region.wanted o' (yielded ops a.tmps)=true by simp [Region.wanted,hgd],if_true]
         refine hop Fence.wide (wf_wide P) o' rfl B R a w he ht _ _ (fun y R' w' n1 e1 hv=>?_)
         rw [wpOpsIn_cons]
         unfold wpOpIn
         rw [h11]
         simp only [Region.wanted,if_true]
         have ht1:TRel R' t1 (a.put o'.dst y):=by
          show TRelF R' (look t1) _
          rw [hl1]
          exact TRelF.put (fun d=>VRel.mono (n1.le he) _ _ (ht d)) (fun d hd=>by rw [hn]; exact hd1 d hd) hv
         have hr:=evO_rel ht1 x'
         rw [hev] at hr
         obtain ⟨us,vs,g1,g2,g3⟩:=hr
         refine ⟨fun _ _=>trivial,?_⟩
         have hrun:(Oper.semAt Fence.wide.round (a.put o'.dst y).eval ⟨none,.defer ⟨.value x',#[],ts⟩,ty,ps,af,none⟩).run P w'=.ok (.defer { target:=.fn (.func g) vs.toArray,args:=us.toArray }) w':=by
          rw [show Fence.wide.round=none from rfl,Oper.semAt_none]
          unfold execOp
          simp only [resolve,g3,Deferred.ofValue]
          simp
         rw [hrun]
         simp only [Oper.uponIn]
         refine wpIn_mono (hs Fence.wide (wf_wide P) (fun _=>rfl) B [{ target:=.fn (.func g) vs.toArray,args:=us.toArray }] R' _ w' e1 ?_ ?_ ?_) ?_
         ·exact ht1
         ·show (a.put o'.dst y).tmps.size=n
          rw [put_size]; exact hn
         ·show (_::(a.put o'.dst y).defers)=_
          rw [put_defers,hds]
         ·intro ex a2 w2 hp
          exact H true B n R' h1.at w' us vs ex a2 w2 η0 R0 w0 (n0.trans n1) e1 (g1.append g2) hp
        ·cases hd
       ·cases hd
      ·exact hK.elim
     ·exact hK.elim
    ·exact hK.elim
   ·exact hK.elim
  ·obtain ⟨e,t1,h1,hK,hlk,hs⟩:=code_sound (pl:=false) hmix hg ca t h _ (fun _ _ hT=>by cases hT) hK
   by_cases he:e=.normal
   ·subst he
    obtain ⟨r,h2,hK,hlk2,H⟩:=ihb t1 h1 (fun id T hT b hb=>hl id T hT b (by simp [blocksOf,hb])) hK
    refine ⟨r,h2,hK,lockP_trans hlk hlk2,?_⟩
    intro B R a w η0 R0 w0 n0 he ht hn hds
    refine wpIn_seq (wpIn_mono (hs Fence.wide (wf_wide P) (fun hh=>by cases hh) B [] R a w he ht hn hds) ?_)
    rintro ex a' w' ⟨R',rs,n1,e1,t1,s1,d1,m1,q1,z1,rfl⟩
    have hrs:=z1 rfl
    subst hrs
    exact H B R' a' w' η0 R0 w0 (n0.trans n1) e1 t1 s1 (by simpa using d1)
   ·have hK':endE P fn K e t1 h1:=by
     cases e <;> first | exact (he rfl).elim | exact hK
    obtain ⟨r,hK,H⟩:=end_sound hK'
    refine ⟨r,h1,hK,hlk,?_⟩
    intro B R a w η0 R0 w0 n0 hem ht hn hds
    refine wpIn_seq (wpIn_mono (hs Fence.wide (wf_wide P) (fun hh=>by cases hh) B [] R a w hem ht hn hds) ?_)
    intro ex a' w' hp
    have hx:=hp
    obtain ⟨R',_,_,_,_,_,_,_,_,_,x⟩:=hx
    exact then_ne (ex_ne x he) (H _ _ _ _ _ _ _ _ _ (hp.of_next n0))
 | _=>intro t h _ hK; exact hK.elim
theorem bodyD_sound (hmix:P.follows .mixedOrders=true) {call:CallT} (hg:Good P call) {lsp:Nat->Option LT} {unroll:Nat} {f:FuncId} {fn:Func} (hf:P.funcs[f]? = some fn)
  (hl:∀ c,fn.body=some c->∀ id T,lsp id=some T->∀ b ∈ blocksOf id c,LSound P true (.block id b) fn.ntmps T)
  {lock:Nat} {args:List VV} {h:VH} {K:VRes->VH->Prop} (hK:bodyDE P call lsp unroll fn lock args h K):∃ r h',K r h'/\LockP lock h h'/\CallsV P f args h r h':=by
 unfold bodyDE at hK
 split at hK
 ·rename_i c hb
  obtain ⟨hle,hK⟩:=cond_f hK
  have hle':=Nat.le_of_ble_eq_true hle
  rw [foN_eq] at hK
  obtain ⟨t,hK,ht⟩:=argT_sound args 0 _ hK
  obtain ⟨r,h',hK,hlk,H⟩:=spine_sound hmix hg c t h (hl c hb) hK
  refine ⟨r,h',hK,hlk,?_⟩
  intro B R w xs he hx
  have hlen:=hx.length
  exact callsIn_wide.1 (callsIn_of_wp_marks (n:=0) hf hb trivial (H B R _ w _ _ _ (Nxt.refl _ _ _ he.fresh) he (args_rel hx ht (fn.ntmps - xs.toArray.size)) (by simp; omega) rfl) rfl)
 ·exact hK.elim
end
end Go.Sx
