/- Rounds, bodies and calls. -/
import Derived.Test.YtlboglkgbhjpeaaSxB
namespace Go.Sx
open Go
section
variable {P:Program} {pl:Bool}
theorem code_sound (hmix:P.follows .mixedOrders=true) {call:CallT} (hg:Good P call) {lsp:Nat->Option LT} {unroll n lock:Nat}:∀ (c:Code) (t:Slots) (h:VH) (K:CK),
  (∀ id T,lsp id=some T->∀ b ∈ blocksOf id c,LSound P pl (.block id b) n T)->codeE P call lsp pl unroll n lock c t h K->∃ e t' h',K e t' h'/\LockP lock h h'/\SemC P pl c n t h e t' h':=by
 intro c
 induction c with
 | skip=>
  intro t h K _ hK
  refine ⟨_,t,h,hK,lockP_refl _ _,?_⟩
  intro F hF _ B ds R a w he ht hn hds
  exact wpIn_skip (post0 (Nxt.refl _ _ _ he.fresh) he ht hn hds rfl)
 | region id ops d=>
  intro t h K _ hK
  simp only [codeE] at hK
  cases d with
  | true=>exact draw_sound hmix hg hK
  | false=>
   obtain ⟨e,t',h',h1,h2,h3⟩:=ops_sound hg _ 0 t h K hK (fun j=>by simp)
   refine ⟨e,t',h',h1,h2,?_⟩
   intro F hF _ B ds R a w he ht hn hds
   refine wpIn_region ?_
   have:=h3 F hF B ds R a w he ht hn hds (PostC pl B ds n R h.at w e t' h') (fun _ _ _ hp=>hp.any)
   rwa [Array.length_toList,<- List.range_eq_range'] at this
 | seq a b iha ihb=>
  intro t h K hls hK
  simp only [codeE] at hK
  obtain ⟨e,t1,h1,hK,hl1,hs1⟩:=iha t h _ (fun id T hT b hb=>hls id T hT b (by simp [blocksOf,hb])) hK
  by_cases hn:e=.normal
  ·subst hn
   obtain ⟨e2,t2,h2,hK,hl2,hs2⟩:=ihb t1 h1 K (fun id T hT b hb=>hls id T hT b (by simp [blocksOf,hb])) hK
   exact ⟨e2,t2,h2,hK,lockP_trans hl1 hl2,seq_sound hs1 hs2⟩
  ·refine ⟨e,t1,h1,?_,hl1,seq_stop hn hs1⟩
   cases e <;> first | exact (hn rfl).elim | exact hK
 | cond c a b iha ihb=>
  intro t h K hls hK
  simp only [codeE] at hK
  split at hK
  ·rename_i d
   split at hK
   ·rename_i q hq
    have hev:∀ (R:Rn) (ac:Act),TRel R t ac->ac.eval (.tmp d)=.bool q:=by
     intro R ac ht
     have:=ht d
     rw [hq] at this
     exact this
    cases q with
    | true=>
     obtain ⟨e,t1,h1,hK,hl1,hs1⟩:=iha _ h K (fun id T hT b hb=>hls id T hT b (by simp [blocksOf,hb])) hK
     refine ⟨e,t1,h1,hK,hl1,?_⟩
     intro F hF hp B ds R ac w he ht hn hds
     exact wpIn_cond_true (hev R ac ht) (hs1 F hF hp B ds R ac w he (ht.same hq) hn hds)
    | false=>
     obtain ⟨e,t1,h1,hK,hl1,hs1⟩:=ihb _ h K (fun id T hT b hb=>hls id T hT b (by simp [blocksOf,hb])) hK
     refine ⟨e,t1,h1,hK,hl1,?_⟩
     intro F hF hp B ds R ac w he ht hn hds
     exact wpIn_cond_false (hev R ac ht) (hs1 F hF hp B ds R ac w he (ht.same hq) hn hds)
   ·exact hK.elim
  ·exact hK.elim
 | block id b ih=>
  intro t h K hls hK
  simp only [codeE] at hK
  split at hK
  ·rename_i T hT
   exact hls id T hT b (by simp [blocksOf]) lock t h K hK
  ·obtain ⟨e,t1,h1,hK,hl1,hs1⟩:=ih t h _ (fun id T hT b hb=>hls id T hT b (by simp [blocksOf,hb])) hK
   cases e with
   | exit id'=>
    simp only at hK
    by_cases hid:id'=id
    ·subst hid
     rw [beq_t rfl] at hK
     exact ⟨_,t1,h1,hK,hl1,block_sound hs1 (.inl ⟨rfl,rfl⟩)⟩
    ·rw [beq_f hid] at hK
     exact ⟨_,t1,h1,hK,hl1,block_sound hs1 (.inr ⟨by simpa using hid,rfl⟩)⟩
   | _=>exact ⟨_,t1,h1,hK,hl1,block_sound hs1 (.inr ⟨by simp,rfl⟩)⟩
 | loop b ih=>
  intro t h K hls hK
  simp only [codeE] at hK
  have key:∀ (m:Nat) (t:Slots) (h:VH),iterE (codeE P call lsp pl unroll n lock b) m t h K->∃ e t' h',K e t' h'/\LockP lock h h'/\LoopTo P pl b n t h e t' h':=by
   intro m
   induction m with
   | zero=>intro t h hh; exact hh.elim
   | succ m ihm=>
    intro t h hh
    simp only [iterE] at hh
    obtain ⟨e,t1,h1,hK,hl1,hs1⟩:=ih t h _ hls hh
    by_cases hn:e=.normal
    ·subst hn
     obtain ⟨e2,t2,h2,hK,hl2,hs2⟩:=ihm t1 h1 hK
     exact ⟨e2,t2,h2,hK,lockP_trans hl1 hl2,.next hs1 hs2⟩
    ·refine ⟨e,t1,h1,?_,hl1,.last hs1 hn⟩
     cases e <;> first | exact (hn rfl).elim | exact hK
  obtain ⟨e,t',h',h1,h2,h3⟩:=key _ t h hK
  exact ⟨e,t',h',h1,h2,loopTo_sound h3⟩
 | rangeFunc f ps a b _ _=>
  intro t h K _ hK
  simp only [codeE] at hK
  cases pl with
  | false=>exact hK.elim
  | true=>exact range_sound hg hK
 | exit id=>
  intro t h K _ hK
  refine ⟨_,t,h,hK,lockP_refl _ _,?_⟩
  intro F hF _ B ds R a w he ht hn hds
  exact wpIn_exit (post0 (Nxt.refl _ _ _ he.fresh) he ht hn hds rfl)
 | scope b ih=>
  intro t h K hls hK
  simp only [codeE] at hK
  obtain ⟨e,t1,h1,hK,hl1,hs1⟩:=ih t h _ (fun id T hT b hb=>hls id T hT b (by simp [blocksOf,hb])) hK
  cases e with
  | goto l=>exact hK.elim
  | normal=>exact ⟨_,t1,h1,hK,hl1,scope_sound (by simp) hs1⟩
  | exit id=>exact ⟨_,t1,h1,hK,hl1,scope_sound (by simp) hs1⟩
  | ret=>exact ⟨_,t1,h1,hK,hl1,scope_sound (by simp) hs1⟩
  | panic v=>exact ⟨_,t1,h1,hK,hl1,scope_sound (by simp) hs1⟩
 | label l=>
  intro t h K _ hK
  refine ⟨_,t,h,hK,lockP_refl _ _,?_⟩
  intro F hF _ B ds R a w he ht hn hds
  exact wpIn_label (post0 (Nxt.refl _ _ _ he.fresh) he ht hn hds rfl)
 | goto l=>
  intro t h K _ hK
  refine ⟨_,t,h,hK,lockP_refl _ _,?_⟩
  intro F hF _ B ds R a w he ht hn hds
  exact wpIn_goto (post0 (Nxt.refl _ _ _ he.fresh) he ht hn hds rfl)
 | ret=>
  intro t h K _ hK
  refine ⟨_,t,h,hK,lockP_refl _ _,?_⟩
  intro F hF _ B ds R a w he ht hn hds
  exact wpIn_ret (post0 (Nxt.refl _ _ _ he.fresh) he ht hn hds rfl)
 | refuse _=>intro t h K _ hK; exact hK.elim
theorem argT_sound:∀ (vs:List VV) (i:Nat) (K:Slots->Prop),argT i vs K->∃ t,K t/\∀ d,look t d=if i<=d then vs.getD (d - i) .any else .any
 | [],i,K,h=>⟨[],h,fun d=>by simp [look]⟩
 | v::vs,i,K,h=>by
  simp only [argT,foN_eq] at h
  obtain ⟨t,hK,hl⟩:=argT_sound vs (i+1) _ h
  refine ⟨_,hK,fun d=>?_⟩
  rw [look_cons,hl d]
  by_cases h1:i=d
  ·subst h1; simp
  ·rw [if_neg h1]
   by_cases h2:i+1<=d
   ·rw [if_pos h2,if_pos (by omega),show d - i=(d - (i+1))+1 by omega]; rfl
   ·rw [if_neg h2,if_neg (by omega)]
theorem args_rel {R:Rn} {args:List VV} {xs:List Value} (hx:VRelL R args xs) {t:Slots} (ht:∀ d,look t d=if 0<=d then args.getD (d - 0) .any else .any) (m:Nat) :
  TRel R t { tmps:=xs.toArray ++ Array.replicate m undef,defers:=[] }:=by
 intro d
 rw [ht d]
 simp only [Nat.zero_le,if_true,Nat.sub_zero,List.getD_eq_getElem?_getD]
 cases hd:args[d]? with
 | none=>trivial
 | some v=>
  obtain ⟨x,h1,h2⟩:=hx.get d v hd
  have hlt:d<xs.length:=(List.getElem?_eq_some_iff.1 h1).1
  simp only [Option.getD_some,Array.getD_eq_getD_getElem?]
  rw [Array.getElem?_append_left (by simpa using hlt)]
  simp [h1,h2]
theorem resL_sound {t:Slots} {h:VH}:∀ (rs:List ResultVar) (K:List VV->Prop),resL P t h rs K->∃ vs,K vs/\∀ (B:Nat) (R:Rn) (a:Act) (w:World),Emb B R h.at w->TRel R t a ->
  ∃ xs,VRelL R vs xs/\(rs.mapM fun
   | .tmp t=>pure (a.tmps.getD t undef)
   | .cell ad t=>do loadVar t (<- asAddr (a.tmps.getD ad undef)):Sem (List Value)).run P w=.ok xs w
 | [],K,hK=>⟨[],hK,fun B R a w _ _=>⟨[],rfl,rfl⟩⟩
 | .tmp d::rs,K,hK=>by
  simp only [resL,fo_eq] at hK
  obtain ⟨vs,h1,h2⟩:=resL_sound rs _ hK
  refine ⟨_,h1,fun B R a w he ht=>?_⟩
  obtain ⟨xs,h3,h4⟩:=h2 B R a w he ht
  refine ⟨a.tmps.getD d undef::xs,⟨_,_,ht d,h3,rfl⟩,?_⟩
  simp only [List.mapM_cons,Sem.run_bind,Sem.run_pure,Result.andThen_ok,h4]
 | .cell ad ty::rs,K,hK=>by
  simp only [resL] at hK
  split at hK
  ·rename_i p agg size hp hty
   obtain ⟨v,hK,hv⟩:=loadE_sound (P:=P) hK
   obtain ⟨vs,h1,h2⟩:=resL_sound rs _ hK
   refine ⟨_,h1,fun B R a w he ht=>?_⟩
   obtain ⟨xs,h3,h4⟩:=h2 B R a w he ht
   have hr:=ht ad
   rw [hp] at hr
   obtain ⟨q,hq,hx⟩:=hr
   obtain ⟨x,hx1,hx2⟩:=hv ty hty B R w q he hq
   refine ⟨x::xs,⟨_,_,hx2,h3,rfl⟩,?_⟩
   have has:(asAddr (a.tmps.getD ad undef)).run P w=.ok q w:=by rw [hx]; rfl
   simp only [List.mapM_cons,Sem.run_bind,has,Sem.run_pure,Result.andThen_ok,hx1,h4]
  ·exact hK.elim
theorem results_sound {fn:Func} {t:Slots} {h:VH} {K:VRes->VH->Prop} (hK:resL P t h fn.results.toList fun vs=>(match vs with
  | [v]=>K (.ret v) h
  | vs=>K (.ret (.tup vs)) h)):∃ v,K (.ret v) h/\∀ (B:Nat) (R:Rn) (a:Act) (w:World),Emb B R h.at w->TRel R t a->∃ x,VRel R v x/\(results fn a.tmps).run P w=.ok x w:=by
 obtain ⟨vs,h1,h2⟩:=resL_sound _ _ hK
 have key:∀ (a:Act) (w:World) (xs:List Value),(fn.results.toList.mapM fun
   | .tmp t=>pure (a.tmps.getD t undef)
   | .cell ad t=>do loadVar t (<- asAddr (a.tmps.getD ad undef)):Sem (List Value)).run P w=.ok xs w ->
   (results fn a.tmps).run P w=.ok (if hh:xs.toArray.size=1 then xs.toArray[0] else .tuple xs.toArray) w:=by
  intro a w xs hx
  unfold results
  rw [Array.mapM_eq_mapM_toList]
  simp only [Sem.run_bind,Sem.run_map,Sem.run_pure]
  erw [hx]
  rfl
 split at h1
 ·rename_i v
  refine ⟨v,h1,fun B R a w he ht=>?_⟩
  obtain ⟨xs,h3,h4⟩:=h2 B R a w he ht
  obtain ⟨y,ys,g1,g2,rfl⟩:=h3
  simp only [VRelL] at g2
  subst g2
  exact ⟨y,g1,by rw [key a w _ h4]; rfl⟩
 ·rename_i hne
  refine ⟨_,h1,fun B R a w he ht=>?_⟩
  obtain ⟨xs,h3,h4⟩:=h2 B R a w he ht
  refine ⟨.tuple xs.toArray,⟨xs,h3,rfl⟩,?_⟩
  rw [key a w _ h4]
  have hl:=h3.length
  have:¬ xs.toArray.size=1:=by
   intro hh
   simp at hh
   rw [hh] at hl
   obtain ⟨v,hv⟩:=List.length_eq_one_iff.1 hl
   exact hne v hv
  rw [dif_neg this]
theorem wf_in {F:Fence} (h:WF P F) (l:Nat):WF P (F.inRound l):=⟨h.fn,h.dep,fun n f args w R hc=>(h.calls n f args w R hc)⟩
theorem zipT_sound {m:Nat}:∀ (ps:List Nat) (vs:List VV) (t:Slots) (K:Slots->Prop),zipT m ps vs t K->∃ t1,K t1/\ps.length=vs.length /\
  ∀ (R:Rn) (tm:Array Value) (xs:List Value),tm.size=m->(∀ d,VRel R (look t d) (tm.getD d undef))->VRelL R vs xs ->
   (∀ d,VRel R (look t1 d) (((ps.zip xs).foldl (fun (t:Array Value) (p:Nat × Value)=>t.setIfInBounds p.1 p.2) tm).getD d undef))/\((ps.zip xs).foldl (fun (t:Array Value) (p:Nat × Value)=>t.setIfInBounds p.1 p.2) tm).size=m
 | [],[],t,K,h=>⟨t,h,rfl,fun R tm xs hs ht _=>by simp only [List.zip_nil_left,List.foldl_nil]; exact ⟨ht,hs⟩⟩
 | p::ps,v::vs,t,K,h=>by
  simp only [zipT] at h
  obtain ⟨h1,h2⟩:=cond_f h
  obtain ⟨t1,hK,hl,H⟩:=zipT_sound ps vs _ K h2
  refine ⟨t1,hK,by simp [hl],fun R tm xs hs ht hx=>?_⟩
  obtain ⟨y,ys,g1,g2,rfl⟩:=hx
  simp only [List.zip_cons_cons,List.foldl_cons]
  refine H R (tm.setIfInBounds p y) ys (by simp [hs]) (fun d=>?_) g2
  have:=(show TRelF R (look t) ⟨tm,[]⟩ from ht).put (d:=some p) (fun x hx=>by cases hx; simp only [hs]; exact ltb h1) g1
  have h3:=this d
  rw [look_cons]
  exact h3
 | [],_::_,_,_,h=>h.elim
 | _::_,[],_,_,h=>h.elim
theorem nxt_round {η1 η2:Nat->VB} {R1 R3:Rn} {w1 w3:World} {nm b:Nat} {o1 o2:Obj} {L:VB} (hlv:(η1 nm).live) (hb:R1.blk nm=some b) (hL:L ≠ .free) (hLv:L.ver=none) (n3:Nxt (upd η1 nm .gone) R1 (w1.putObj b o1) η2 R3 w3) (hLb:∀ t r C g te,L ≠ .bun t r C g te:=by simp) :
  Nxt η1 R1 w1 (upd η2 nm L) R3 (w3.putObj b o2):=by
 have hne:∀ m,η1 m ≠ .free->upd η1 nm .gone m ≠ .free:=fun m hm=>by
  by_cases h:m=nm
  ·simp [upd,h]
  ·simpa [upd,h] using hm
 have hsz:(w1.putObj b o1).heap.size=w1.heap.size:=by simp [World.putObj]
 have how0:R1.ow nm (η1 nm) b:=by rw [ow_live hlv]; exact hb
 have hb3:R3.blk nm=some b:=by rw [n3.old nm (by simp [upd])]; exact hb
 refine ⟨fun m hm=>?_,fun m hm=>n3.old m (hne m hm),n3.arr,n3.str,n3.vold,fun m M v h1 h2=>?_,fun m M hm=>?_,fun m c hc=>?_,?_,fun c hc hn=>?_,n3.os,n3.tape,n3.output,n3.fmono,fun c xs hc=>?_,⟨fun t j xs h=>(n3.reg.new t j xs h).imp id (fun ⟨k,r,C,g,te,h⟩=>⟨k,r,C,g,te,upd_nbun (by simp) k t r C g te h⟩),fun m t r C g te h=>?_⟩⟩
 ·by_cases h:m=nm
  ·simp [upd,h,hL]
  ·have:=n3.keep m (hne m hm); simpa [upd,h] using this
 ·rcases n3.vnew m M v h1 h2 with h3 | ⟨L0,h3,h4⟩
  ·left
   by_cases h:m=nm
   ·simp [upd,h] at h3
   ·simpa [upd,h] using h3
  ·by_cases h:m=nm
   ·simp [upd,h] at h3
   ·exact .inr ⟨L0,by simpa [upd,h] using h3,h4⟩
 ·by_cases h:m=nm
  ·subst h; simp only [upd,if_true] at hm; rw [hLv] at hm; cases hm
  ·simp only [upd,if_neg h] at hm
   rcases n3.vmono m M hm with h3 | ⟨L0,h3,h4⟩
   ·left; simpa [upd,h] using h3
   ·exact .inr ⟨L0,by simpa [upd,h] using h3,h4⟩
 ·by_cases h:m=nm
  ·subst h
   left
   have key:R3.blk m=some c->∃ q,R1.ow q (η1 q) c:=fun h=>by rw [hb3] at h; cases h; exact ⟨m,how0⟩
   simp only [upd,if_true] at hc
   cases L with
   | vec M g s t=>cases hLv
   | mat K r C g t te=>cases hLv
   | bun t r C g te=>exact (hLb _ _ _ _ _ rfl).elim
   | cells cs t=>exact key hc
   | fam _ _ _ _=>exact key hc
   | map _ _ _=>exact key hc
   | loop st pd t m ps as bd=>exact key hc
   | _=>exact hc.elim
  ·rw [ow_upd h] at hc
   rcases n3.own m c hc with ⟨q,h3⟩ | h3
   ·left
    by_cases hq:q=nm
    ·simp [upd,hq,Rn.ow] at h3
    ·rw [ow_upd hq] at h3; exact ⟨q,h3⟩
   ·right; rw [hsz] at h3; exact h3
 ·have:=n3.size
  simp only [World.putObj,Array.size_setIfInBounds] at this ⊢
  exact this
 ·have hcb:c ≠ b:=fun h=>hn nm (by rw [h]; exact how0)
  rw [World.putObj_heap_other hcb,n3.frame c (by rw [hsz]; exact hc) (fun m hm=>?_),World.putObj_heap_other hcb]
  by_cases h:m=nm
  ·simp [upd,h,Rn.ow] at hm
  ·rw [ow_upd h] at hm; exact hn m hm
 ·rcases n3.fnew c xs hc with h1 | ⟨m,h1⟩ | h1
  ·exact .inl h1
  ·by_cases h:m=nm
   ·simp [upd,h,Rn.ow] at h1
   ·rw [ow_upd h] at h1; exact .inr (.inl ⟨m,h1⟩)
  ·rw [hsz] at h1; exact .inr (.inr h1)
 ·obtain ⟨r',C',g',te',h1⟩:=n3.reg.old m t r C g te (upd_nbun hLb m t r C g te h)
  exact ⟨_,_,_,_,upd_nbun (by simp) _ _ _ _ _ _ h1⟩
theorem round_sound (hmix:P.follows .mixedOrders=true) {call:CallT} (hg:Good P call) {unroll lock nm:Nat} {args:List VV} {h:VH} {K:VRes->VH->Prop} (hK:roundE P call unroll lock nm args h K) :
  ∃ r h',K r h'/\LockP lock h h'/\RoundV P nm args h r h':=by
 unfold roundE at hK
 split at hK
 ·rename_i tt mm pp as bd hat
  obtain ⟨hlo,hK⟩:=cond_f hK
  have hlo':=Nat.le_of_ble_eq_true hlo
  obtain ⟨t1,hK,hpl,hz⟩:=zipT_sound _ _ _ _ hK
  obtain ⟨e1,t2,h1,hK,hlk1,hs1⟩:=code_sound (pl:=false) hmix hg as t1 h _ (fun id T hT=>by cases hT) hK
  split at hK
  ·rename_i _ t m ps as' bd' nx1 bs1 hat1
   obtain ⟨e2,t3,h2,hK,hlk2,hs2⟩:=code_sound (pl:=false) hmix hg bd t2 ⟨nx1,(nm,.gone)::bs1⟩ _ (fun id T hT=>by cases hT) hK
   have hlive1:((VH.mk nx1 bs1).at nm).live:=by rw [hat1]; trivial
   have hg1:(VH.mk nx1 ((nm,.gone)::bs1)).at=upd (VH.mk nx1 bs1).at nm .gone:=put_at_ne (h:=⟨nx1,bs1⟩) (VB.live_not_free hlive1)
   have hlkL:∀ (L:VB),LockP lock h ⟨h2.nx,(nm,L)::h2.bs⟩:=by
    intro L q hq hf
    have hne:q ≠ nm:=by omega
    have h3:(VH.mk h2.nx ((nm,L)::h2.bs)).at q=h2.at q:=by
     show (bif Nat.blt q h2.nx then lookB ((nm,L)::h2.bs) q else .free)=_
     simp only [lookB,beq_f (fun e:nm=q=>hne e.symm),cond_false]
     rfl
    rw [h3]
    have h4:=hlk1 q hq hf
    rw [hlk2 q hq (by rw [hg1]; simp [upd,hne]; rw [h4]; exact hf),hg1]
    simp [upd,hne,h4]
   have core:∀ (st:Bool) (pd:Option VEx) (jump:Option Code),pdc pd=jump->(jump.isNone=st)->(∀ (b:Nat) (R:Rn) (ex:Exit) (a:Act) (w:World) (Rr:Ending->World->Prop),ExRel R e2 ex->(∃ v w',(Instr.endRound b jump).run P w=.ok v w'/\Rr (.returned v) w')->roundPost P b Rr ex a w) ->
     RoundV P nm args h (.ret (.bool st)) ⟨h2.nx,(nm,.loop st pd t m ps as' bd')::h2.bs⟩:=by
    intro st pd jump hpd hst hrp F hF B R w xs b em hx hb
    obtain ⟨b0,rec,q1,q2,q3,q4⟩:=em.lp nm true none tt mm pp as bd hat
    rw [hb] at q1; cases q1
    have hlen:=hx.length
    refine ⟨rec.fn,_,rec.assign,rec.body,run_yield q3 (by rw [q4.params]; simp; omega),?_⟩
    refine roundIn_of_wpIn (hF.fn _) ?_
    rw [q4.assign,q4.body,q4.params]
    have hfold:(pp.toArray.zip xs.toArray).foldl (fun (tmps:Array Value) (x:Tmp × Value)=>match x with | (t,a)=>tmps.setIfInBounds t a) rec.tmps=(pp.zip xs).foldl (fun (t:Array Value) (p:Nat × Value)=>t.setIfInBounds p.1 p.2) rec.tmps:=by
     rw [List.zip_toArray,List.foldl_toArray]
    obtain ⟨z1,z2⟩:=hz R rec.tmps xs q4.size q4.tmps hx
    rw [<- hfold] at z1 z2
    refine wpIn_mono (hs1 (F.inRound b) (wf_in hF b) (fun h=>by cases h) B [] R _ w em z1 z2 rfl) ?_
    rintro ex a1 w1 ⟨R1,rs,n1,e1',tr1,s1,d1,m1,r1,zz1,rfl⟩
    obtain ⟨b1,rec1,p1,p2,p3,p4⟩:=e1'.lp nm true none t m ps as' bd' hat1
    have hb1:R1.blk nm=some b:=by rw [n1.old nm (by rw [hat]; simp)]; exact hb
    rw [hb1] at p1; cases p1
    have hlt1:=(Array.getElem?_eq_some_iff.1 p3).1
    refine ⟨_,run_beginRound p3 (by rw [p4.state]; rfl),?_⟩
    have hoth1:∀ q,q ≠ nm->¬ R1.ow q ((VH.mk nx1 bs1).at q) b:=fun q hq hbq=>hq (e1'.inj q nm b hbq (by rw [ow_live hlive1]; exact hb1))
    have hfz1:∀ xs,R1.frz b ≠ some xs:=fun xs hxs=>(e1'.frz b xs hxs).2.1 nm (by rw [ow_live hlive1]; exact hb1)
    have e2':=emb_putObj e1' (n:=nm) (o:=.loop { rec1 with state:=.busy }) (b:=.gone) (VB.live_not_free hlive1) hb1 p2 hlt1 hoth1 hfz1 (by simp) (by simp) (by simp) (by simp) (by simp)
    rw [<- hg1] at e2'
    refine wpIn_mono (hs2 (F.inRound b) (wf_in hF b) (fun h=>by cases h) B _ R1 a1 _ e2' tr1 s1 rfl) ?_
    rintro ex2 a3 w3 ⟨R3,rs3,n3,e3,tr3,s3,d3,m3,r3,zz3,x3⟩
    refine hrp b R3 ex2 a3 w3 _ x3 ?_
    rw [hg1] at n3
    have hb3:R3.blk nm=some b:=by rw [n3.old nm (by simp [upd])]; exact hb1
    have hrec3:w3.heap[b]? = some (.loop { rec1 with state:=.busy }):=by
     rw [n3.frame b (by simpa [World.putObj] using hlt1) (fun q hbq=>?_)]
     ·exact World.putObj_heap_same hlt1
     ·by_cases hqn:q=nm
      ·simp [upd,hqn,Rn.ow] at hbq
      ·rw [ow_upd hqn] at hbq; exact hoth1 q hqn hbq
    have hnot:h2.at nm ≠ .free:=n3.keep nm (by simp [upd])
    have hoth3:∀ q,q ≠ nm->¬ R3.ow q (h2.at q) b:=by
     intro q hq hbq
     rcases n3.own q b hbq with ⟨k,h5⟩ | h5
     ·by_cases hk:k=nm
      ·simp [upd,hk,Rn.ow] at h5
      ·rw [ow_upd hk] at h5; exact hoth1 k hk h5
     ·simp [World.putObj] at h5
      omega
    have hfz3:∀ xs,R3.frz b ≠ some xs:=by
     intro xs hxs
     rcases n3.fnew b xs hxs with h5 | ⟨q,h5⟩ | h5
     ·exact hfz1 xs h5
     ·by_cases hqn:q=nm
      ·simp [upd,hqn,Rn.ow] at h5
      ·rw [ow_upd hqn] at h5; exact hoth1 q hqn h5
     ·simp [World.putObj] at h5
      omega
    have hle13:R1.le R3:=by
     rw [hg1] at e2'
     exact n3.le e2'
    refine ⟨_,_,run_endRound jump hrec3,R3,?_,?_,.bool jump.isNone,by rw [hst]; rfl,rfl⟩
    ·rw [put_at_ne hnot]
     exact n1.trans (nxt_round hlive1 hb1 (by simp) (by simp) n3)
    ·rw [put_at_ne hnot]
     refine emb_putObj e3 hnot hb3 p2 (Array.getElem?_eq_some_iff.1 hrec3).1 hoth3 hfz3 (by simp) (by simp) (by simp) (by simp) ?_
     intro st' pd' t' m' ps' as'' bd'' heq
     simp only [VB.loop.injEq] at heq
     obtain ⟨rfl,rfl,rfl,rfl,rfl,rfl,rfl⟩:=heq
     refine ⟨_,rfl,⟨by simp [hst],by simp [hpd],p4.params,p4.assign,p4.body,p4.size,fun d=>VRel.mono hle13 _ _ (p4.tmps d)⟩⟩
   cases e2 with
   | normal=>exact ⟨_,_,hK,hlkL _,core true none none rfl rfl (fun b R ex a w Rr hx hh=>by simp only [ExRel] at hx; subst hx; exact hh)⟩
   | ret=>exact ⟨_,_,hK,hlkL _,core false (some .ret) (some .ret) rfl rfl (fun b R ex a w Rr hx hh=>by simp only [ExRel] at hx; subst hx; exact hh)⟩
   | exit id=>exact ⟨_,_,hK,hlkL _,core false (some (.exit id)) (some (.exit id)) rfl rfl (fun b R ex a w Rr hx hh=>by simp only [ExRel] at hx; subst hx; exact hh)⟩
   | goto l=>exact ⟨_,_,hK,hlkL _,core false (some (.goto l)) (some (.goto l)) rfl rfl (fun b R ex a w Rr hx hh=>by simp only [ExRel] at hx; subst hx; exact hh)⟩
   | panic v=>exact hK.elim
  ·exact hK.elim
 ·exact hK.elim
theorem leaves_marks {fn:Func} {tmps:Array Value} {Rr:Ending->World->Prop} {u:FrameMode} (hu:u ≠ .run) {B:Nat} {h':VH} {R0 R:Rn} {η0:Nat->VB} {w0:World} :
  ∀ (rs:List Nat) (w:World),Marks rs R h'.at w->Emb B R h'.at w->Nxt η0 R0 w0 h'.at R w->(∀ r ∈ rs,w0.heap.size<=r)->(∀ w',Emb B R h'.at w'->Nxt η0 R0 w0 h'.at R w'->LeavesIn Fence.wide 0 P fn tmps Rr [] u w')->LeavesInM Fence.wide 0 P fn tmps Rr (rs.map mkD) u w
 | [],w,_,e,n,_,hf=>hf w e n
 | r::rs,w,hm,e,n,hr,hf=>by
  obtain ⟨h1,h2⟩:=hm.blk r (by simp)
  have hlt:=(Array.getElem?_eq_some_iff.1 h1).1
  have hother:∀ k,k ≠ r->(w.putObj r (.deferred none)).heap[k]? = w.heap[k]?:=fun k hk=>World.putObj_heap_other hk
  have e':Emb B R h'.at (w.putObj r (.deferred none)):=by
   refine ⟨by simpa [World.putObj] using e.base,fun m cs t hm'=>?_,e.inj,fun m s ok g hm'=>?_,e.fresh,fun m st pd t m' ps as bd hm'=>?_,fun m L g s t hm'=>(e.vec m L g s t hm').frame rfl (nole R) (fun c hc=>hother c (fun hh=>h2 m (by rw [hm',<- hh]; exact hc))),e.fvec,fun m ks vk es hm'=>(e.map m ks vk es hm').frame rfl (fun c hc=>hother c (fun hh=>h2 m (by rw [hm',<- hh]; exact hc))),fun m K r C g t te hm'=>(e.mat m K r C g t te hm').frame rfl (fun c hc=>hother c (fun hh=>h2 m (by rw [hm',<- hh]; exact hc))),e.bunF (fun _ _ _ _ _ _ h=>h) (fun _ _=>rfl) (fun m _ _ _ _ _ _ c hc=>hother c (fun hh=>h2 m (by rw [<- hh]; exact hc))),fun c xs hc=>⟨by simpa [World.putObj] using (e.frz c xs hc).1,(e.frz c xs hc).2.1,fun k x hk=>?_⟩⟩
   ·obtain ⟨c,xs,g1,g2,g3,g4⟩:=e.ownC m cs t hm'
    refine ⟨c,xs,g1,g2,g3,?_⟩
    rw [hother c (fun hc=>h2 m (by rw [ow_cs hm',<- hc]; exact g1))]; exact g4
   ·obtain ⟨g1,g2⟩:=e.arr m s ok g hm'
    refine ⟨g1,fun ix i hi=>?_⟩
    obtain ⟨g3,g4,g5,xs,g6,g7,g8⟩:=g2 ix i hi
    refine ⟨g3,g4,g5,xs,g6,g7,fun k x hk=>?_⟩
    have h8:=g8 k x hk
    have hblk:((R.arr m ix).add (i.toNat*s+k)).block ≠ r:=by
     intro hh
     unfold World.cell? at h8
     rw [hh,h1] at h8
     simp at h8
    rw [cell_same (w:=w) (hother _ hblk)]
    exact h8
   ·obtain ⟨c,rr,g1,g2,g3,g4⟩:=e.lp m st pd t m' ps as bd hm'
    refine ⟨c,rr,g1,g2,?_,g4⟩
    rw [hother c (fun hc=>h2 m (by rw [hm',<- hc]; exact g1))]; exact g3
   ·have h8:=(e.frz c xs hc).2.2 k x hk
    have hcr:c ≠ r:=by
     intro hh
     unfold World.cell? at h8
     rw [hh,h1] at h8
     simp at h8
    rw [cell_same (w:=w) (hother _ hcr)]
    exact h8
  have n':Nxt η0 R0 w0 h'.at R (w.putObj r (.deferred none)):=by
   refine ⟨n.keep,n.old,n.arr,n.str,n.vold,n.vnew,n.vmono,n.own,by simpa [World.putObj] using n.size,fun c hc hn=>?_,n.os,n.tape,n.output,n.fmono,n.fnew,n.reg⟩
   rw [hother c (by have:=hr r (by simp); omega)]
   exact n.frame c hc hn
  have hnd:=List.nodup_cons.1 hm.nodup
  refine ⟨hu,.inl ⟨r,_,rfl,run_takeDeferred h1,leaves_marks hu rs _ ⟨hnd.2,fun q hq=>?_⟩ e' n' (fun q hq=>hr q (by simp [hq])) hf⟩⟩
  obtain ⟨g1,g2⟩:=hm.blk q (by simp [hq])
  exact ⟨by rw [hother q (fun hh=>hnd.1 (hh ▸ hq))]; exact g1,g2⟩
theorem body_sound (hmix:P.follows .mixedOrders=true) {call:CallT} (hg:Good P call) {lsp:Nat->Option LT} {unroll:Nat} {f:FuncId} {fn:Func} (hf:P.funcs[f]? = some fn)
  (hl:∀ c,fn.body=some c->∀ id T,lsp id=some T->∀ b ∈ blocksOf id c,LSound P true (.block id b) fn.ntmps T)
  {lock:Nat} {args:List VV} {h:VH} {K:VRes->VH->Prop} (hK:bodyE P call lsp unroll fn lock args h K):∃ r h',K r h'/\LockP lock h h'/\CallsV P f args h r h':=by
 unfold bodyE at hK
 split at hK
 ·rename_i c hb
  obtain ⟨hle,hK⟩:=cond_f hK
  have hle':=Nat.le_of_ble_eq_true hle
  rw [foN_eq] at hK
  obtain ⟨t,hK,ht⟩:=argT_sound args 0 _ hK
  obtain ⟨e,t',h',hK,hlk,hs⟩:=code_sound (pl:=true) hmix hg c t h _ (hl c hb) hK
  have fin:∀ (r:VRes),(∀ (B:Nat) (R:Rn) (w:World) (ex:Exit) (a':Act) (w':World),PostC true B [] fn.ntmps R h.at w e t' h' ex a' w'->bodyPostM Fence.wide 0 P fn (fun en w'=>∃ R',Nxt h.at R w h'.at R' w'/\Emb B R' h'.at w'/\ResRel R' r en) ex a' w') ->
    CallsV P f args h r h':=by
   intro r hp B R w xs he hx
   have hlen:=hx.length
   refine callsIn_wide.1 (callsIn_of_wp_marks (n:=0) hf hb trivial ?_ rfl)
   have:=hs Fence.wide (wf_wide P) (fun _=>rfl) B [] R _ w he (args_rel hx ht (fn.ntmps - xs.toArray.size)) (by simp; omega) rfl
   exact wpIn_mono this (fun ex a' w' h1=>hp B R w ex a' w' h1)
  cases e with
  | normal=>
   obtain ⟨v,hK,hv⟩:=results_sound hK
   refine ⟨_,h',hK,hlk,fin _ ?_⟩
   rintro B R w ex a' w' ⟨R',rs,n1,e1,t1,s1,d1,m1,q1,z1,rfl⟩
   show LeavesInM Fence.wide 0 P fn a'.tmps _ a'.defers .returning w'
   rw [d1,List.append_nil]
   refine leaves_marks (by simp) rs w' m1 e1 n1 q1 (fun w'' e2 n2=>?_)
   obtain ⟨x,x1,x2⟩:=hv B R' a' w'' e2 t1
   exact ⟨x,x2,R',n2,e2,x,x1,rfl⟩
  | ret=>
   obtain ⟨v,hK,hv⟩:=results_sound hK
   refine ⟨_,h',hK,hlk,fin _ ?_⟩
   rintro B R w ex a' w' ⟨R',rs,n1,e1,t1,s1,d1,m1,q1,z1,rfl⟩
   show LeavesInM Fence.wide 0 P fn a'.tmps _ a'.defers .returning w'
   rw [d1,List.append_nil]
   refine leaves_marks (by simp) rs w' m1 e1 n1 q1 (fun w'' e2 n2=>?_)
   obtain ⟨x,x1,x2⟩:=hv B R' a' w'' e2 t1
   exact ⟨x,x2,R',n2,e2,x,x1,rfl⟩
  | panic v=>
   refine ⟨_,h',hK,hlk,fin _ ?_⟩
   rintro B R w ex a' w' ⟨R',rs,n1,e1,t1,s1,d1,m1,q1,z1,x,hx1,rfl⟩
   show LeavesInM Fence.wide 0 P fn a'.tmps _ a'.defers (.panicking _) w'
   rw [d1,List.append_nil]
   refine leaves_marks (by simp) rs w' m1 e1 n1 q1 (fun w'' e2 n2=>?_)
   exact ⟨R',n2,e2,x,hx1,rfl⟩
  | exit id=>exact hK.elim
  | goto l=>exact hK.elim
 ·exact hK.elim
theorem callN_good (hmix:P.follows .mixedOrders=true) {spec:SpecT} {lsp:FuncId->Nat->Option LT} {unroll:Nat}
  (hs:∀ f T,spec f=some T->∀ lock args h K,T lock args h K->∃ r h',K r h'/\LockP lock h h'/\CallsV P f args h r h')
  (hl:∀ f fn c,P.funcs[f]? = some fn->fn.body=some c->∀ id T,lsp f id=some T->∀ b ∈ blocksOf id c,LSound P true (.block id b) fn.ntmps T):∀ m,Good P (callN P spec lsp unroll m)
 | 0=>fun _ _ _ _ _ h=>(by simp only [callN] at h)
 | m+1=>by
  intro lock cl args h K hK
  cases cl with
  | fn f=>
   simp only [callN] at hK
   split at hK
   ·rename_i T hT
    exact hs f T hT lock args h K hK
   ·split at hK
    ·rename_i fn hf
     exact body_sound hmix (callN_good hmix hs hl m) hf (fun c hc=>hl f fn c hf hc) hK
    ·exact hK.elim
  | yl nm=>
   simp only [callN] at hK
   exact round_sound hmix (callN_good hmix hs hl m) hK
end
end Go.Sx
