/- A function that defers one closure, which recovers. -/
import Derived.Test.YtaaaialjieojlaaSxC
import Derived.RecoverIn
namespace Go.Sx
open Go
def mvE (n:Nat):List Oper->Slots->(Slots->Prop)->Prop
 | [],t,K=>K t
 | o::r,t,K=>
  match o.op,o.guard with
  | .assign x,none=>fo (evO t x) fun v=>putT n t o.dst v fun t=>mvE n r t K
  | _,_=>False
def dfrE (P:Program) (call:CallT) (unroll lock:Nat) (fn:Func) (rv:VV) (cl:List VV) (h:VH) (K:VH->Prop):Prop:=
 match fn.body with
 | some (.seq (.region _ ops false) rest)=>
  match ops.toList with
  | ⟨some d,.call ⟨.builtin .recover,_,_⟩,_,_,_,none⟩::more=>
   bif (Nat.ble cl.length fn.ntmps && Nat.blt d fn.ntmps && fn.results.isEmpty) then
    foN fn.ntmps fun n=>argT 0 cl fun t=>mvE n more ((d,rv)::t) fun t=>codeE P call (fun _=>none) false unroll n lock rest t h fun e _ h'=>
     match e with
     | .normal=>K h'
     | .ret=>K h'
     | _=>False
   else False
  | _=>False
 | _=>False
def RecRel (u:FrameMode) (x:Value) (u':FrameMode):Prop:=
 ∀ (c₀:Frame) (cs:List Frame),c₀.mode=u->(recoverD (c₀::cs)=some (x,{ c₀ with mode:=u' }::cs)) ∨ (recoverD (c₀::cs)=none/\x=.nilIface/\u'=u)
theorem rec_ret:RecRel .returning .nilIface .returning:=fun c₀ cs hu=>.inr ⟨by simp [recoverD,hu],rfl,rfl⟩
theorem rec_pan (x:Value):RecRel (.panicking [{ v:=x,recovered:=false }]) x (.panicking [{ v:=x,recovered:=true }]):=fun c₀ cs hu=>.inl (by simp [recoverD,hu])
section
variable {P:Program}
theorem mvE_sound {ops:Array Oper} {n:Nat}:∀ (l:List Oper) (k:Nat) (t:Slots) (K:Slots->Prop),mvE n l t K->(∀ j,l[j]? = ops[k+j]?)->∃ t',K t' /\
  ∀ (R:Rn) (a:Act) (cs:List Frame) (w:World) (Q:Exit->Act->List Frame->World->Prop),TRel R t a->a.tmps.size=n->a.defers=[]->(∀ a',TRel R t' a'->a'.tmps.size=n->a'.defers=[]->Q .normal a' cs w) ->
   wpOpsSIn Fence.wide 0 P ops Q (List.range' k l.length) a cs w
 | [],k,t,K,h,_=>⟨t,h,fun R a cs w Q ht hn hd hQ=>hQ a ht hn hd⟩
 | o::r,k,t,K,h,hl=>by
  have ho:ops[k]? = some o:=by have:=hl 0; simpa using this.symm
  simp only [mvE] at h
  split at h
  ·rename_i x hop hgd
   rw [fo_eq] at h
   obtain ⟨t1,h,hl1,hd1⟩:=putT_sound h
   obtain ⟨t',hK,H⟩:=mvE_sound r (k+1) t1 K h (fun j=>by have:=hl (j+1); simpa [Nat.add_assoc,Nat.add_comm 1 j] using this)
   refine ⟨t',hK,fun R a cs w Q ht hn hd hQ=>?_⟩
   simp only [List.length_cons,List.range'_succ,wpOpsSIn,ho]
   refine ⟨fun f _=>trivial,?_⟩
   have hw:Region.wanted o (yielded ops a.tmps)=true:=by simp [Region.wanted,hgd]
   have hr:(execOp a.eval o).run P w=.ok (.value (a.eval x)) w:=by unfold execOp; rw [hop]; rfl
   rw [if_pos hw,hr]
   refine H R _ cs w Q ?_ (by rw [put_size]; exact hn) (by rw [put_defers]; exact hd) hQ
   show TRelF R (look t1) _
   rw [hl1]
   exact TRelF.put ht (fun d hd=>by rw [hn]; exact hd1 d hd) (evO_rel ht x)
  ·exact h.elim
theorem dfr_sound (hmix:P.follows .mixedOrders=true) {call:CallT} (hg:Good P call) {unroll lock:Nat} {g:FuncId} {fn:Func} (hf:P.funcs[g]? = some fn) {rv:VV} {cl:List VV} {h:VH} {K:VH->Prop} (hK:dfrE P call unroll lock fn rv cl h K) :
  ∃ h',K h'/\LockP lock h h'/\∀ (B:Nat) (R:Rn) (w:World) (ys:List Value) (x:Value) (u u':FrameMode),Emb B R h.at w->VRelL R cl ys->VRel R rv x->RecRel u x u' ->
   CallsDIn Fence.wide 0 P g ys.toArray u w fun e u'' w'=>(∃ v,e=.returned v)/\u''=u'/\∃ R',Nxt h.at R w h'.at R' w'/\Emb B R' h'.at w':=by
 unfold dfrE at hK
 split at hK
 ·rename_i id ops rest hb
  split at hK
  ·rename_i d as ts ty ps af more hops
   obtain ⟨hc,hK⟩:=cond_f hK
   simp only [Bool.and_eq_true] at hc
   obtain ⟨⟨hc1,hc2⟩,hc3⟩:=hc
   have hle:=Nat.le_of_ble_eq_true hc1
   rw [foN_eq] at hK
   obtain ⟨t0,hK,ht0⟩:=argT_sound cl 0 _ hK
   have hops':ops=(⟨some d,.call ⟨.builtin .recover,as,ts⟩,ty,ps,af,none⟩::more).toArray:=by apply Array.ext'; simpa using hops
   obtain ⟨t1,hK,hmv⟩:=mvE_sound (P:=P) (ops:=ops) more 1 _ _ hK (fun j=>by rw [hops']; simp [Nat.add_comm 1 j])
   obtain ⟨e,t2,h',hK,hlk,hs⟩:=code_sound (pl:=false) hmix hg rest t1 h _ (fun _ _ hT=>by cases hT) hK
   have hfin:(e=.normal ∨ e=.ret)/\K h':=by
    cases e with
    | normal=>exact ⟨.inl rfl,hK⟩
    | ret=>exact ⟨.inr rfl,hK⟩
    | _=>exact hK.elim
   refine ⟨h',hfin.2,hlk,fun B R w ys x u u' he hcl hrv hrec=>?_⟩
   refine callsDIn_of_wpSIn hf hb trivial ?_
   intro c₀ cs hu
   have hlen:=hcl.length
   have hsz:({ tmps:=ys.toArray ++ Array.replicate (fn.ntmps - ys.toArray.size) undef,defers:=[] }:Act).tmps.size=fn.ntmps:=by simp; omega
   have htr:=args_rel hcl ht0 (fn.ntmps - ys.toArray.size)
   refine wpSIn_seq (wpSIn_region ?_)
   have hrange:List.range ops.size=0::List.range' 1 more.length:=by
    rw [hops']
    simp [List.range_eq_range',List.range'_succ]
   rw [hrange]
   have h0:ops[0]? = some ⟨some d,.call ⟨.builtin .recover,as,ts⟩,ty,ps,af,none⟩:=by rw [hops']; rfl
   have hrun:∀ (ρ:Operand->Value),(execOp ρ ⟨some d,.call ⟨.builtin .recover,as,ts⟩,ty,ps,af,none⟩).run P w=.ok .recover w:=fun ρ=>rfl
   have goOn:∀ (cs':List Frame),cs'={ c₀ with mode:=u' }::cs->wpOpsSIn Fence.wide 0 P ops (Exit.thenS (rest.wpSIn Fence.wide 0 P (bodyPostS P fn c₀ cs fun e u'' w'=>(∃ v,e=.returned v)/\u''=u'/\∃ R',Nxt h.at R w h'.at R' w'/\Emb B R' h'.at w')) (bodyPostS P fn c₀ cs fun e u'' w'=>(∃ v,e=.returned v)/\u''=u'/\∃ R',Nxt h.at R w h'.at R' w'/\Emb B R' h'.at w'))
     (List.range' 1 more.length) (({ tmps:=ys.toArray ++ Array.replicate (fn.ntmps - ys.toArray.size) undef,defers:=[] }:Act).put (some d) x) cs' w:=by
    intro cs' hcs
    refine hmv R _ cs' w _ (htr.put (by rw [hsz]; exact ltb hc2) hrv) (by rw [put_size]; exact hsz) (by rw [put_defers]) (fun a' ta sa da=>?_)
    refine wpSIn_of_wpIn rfl (wpIn_mono (hs Fence.wide (wf_wide P) (fun hh=>by cases hh) B [] R a' w he ta sa da) ?_)
    rintro ex a2 w2 ⟨R',rs,n1,e1,tr,s1,d1,m1,q1,z1,xx⟩
    have hrs:=z1 rfl
    subst hrs
    have hres:(results fn a2.tmps).run P w2=.ok (.tuple #[]) w2:=results_none (by simpa using hc3) _ _ _
    have hend:a2.defers=[]/\∃ u'',cs'={ c₀ with mode:=u'' }::cs/\∃ v,(results fn a2.tmps).run P w2=.ok v w2/\((∃ v',Ending.returned v=.returned v')/\u''=u'/\∃ R',Nxt h.at R w h'.at R' w2/\Emb B R' h'.at w2):=
     ⟨by simpa using d1,u',hcs,_,hres,⟨_,rfl⟩,rfl,R',n1,e1⟩
    rcases hfin.1 with rfl | rfl
    ·simp only [ExRel] at xx; subst xx; exact hend
    ·simp only [ExRel] at xx; subst xx; exact hend
   simp only [wpOpsSIn,h0]
   refine ⟨fun f _=>trivial,?_⟩
   rw [if_pos (by simp [Region.wanted]),hrun]
   simp only
   rcases hrec c₀ cs hu with h1 | ⟨h1,rfl,rfl⟩
   ·rw [h1]; exact goOn _ rfl
   ·rw [h1]; refine goOn _ ?_; rw [<- hu]
  ·exact hK.elim
 ·exact hK.elim
end
end Go.Sx
