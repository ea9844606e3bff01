/- The evaluator's operations are sound, second part. -/
import Derived.Test.YtlboglkgbhjpeaaSx3
import Derived.Laws.StructEq
namespace Go.Sx
open Go
structure WF (P:Program) (F:Fence):Prop where
 fn:∀ f,F.fn f
 dep:F.depth=none
 calls:∀ n f args w R,Calls P f args w R->CallsIn F n P f args w R
theorem wf_wide (P:Program):WF P Fence.wide:=⟨fun _=>trivial,rfl,fun _ _ _ _ _ h=>callsIn_wide.2 h⟩
def LockP (lock:Nat) (h h':VH):Prop:=∀ n,n<lock->h.at n ≠ .free->h'.at n=h.at n
def ResRel (R:Rn):VRes->Ending->Prop
 | .ret v,e=>∃ x,VRel R v x/\e=.returned x
 | .panic v,e=>∃ x,VRel R v x/\e=.panicked [{ v:=x,recovered:=false }]
def CallsV (P:Program) (f:FuncId) (args:List VV) (h:VH) (r:VRes) (h':VH):Prop:=
 ∀ (B:Nat) (R:Rn) (w:World) (xs:List Value),Emb B R h.at w->VRelL R args xs ->
  Calls P f xs.toArray w fun e w'=>∃ R',Nxt h.at R w h'.at R' w'/\Emb B R' h'.at w'/\ResRel R' r e
def RoundV (P:Program) (n:Nat) (args:List VV) (h:VH) (r:VRes) (h':VH):Prop:=
 ∀ (F:Fence),WF P F->∀ (B:Nat) (R:Rn) (w:World) (xs:List Value) (b:Nat),Emb B R h.at w->VRelL R args xs->R.blk n=some b ->
  ∃ f tmps as bd,(Instr.yield b xs.toArray).run P w=.ok (.round b f tmps as bd) w /\
   RoundIn F 0 P b f tmps as bd w fun e w'=>∃ R',Nxt h.at R w h'.at R' w'/\Emb B R' h'.at w'/\ResRel R' r e
def CalV (P:Program):Cal->List VV->VH->VRes->VH->Prop
 | .fn f,args,h,r,h'=>CallsV P f args h r h'
 | .yl n,args,h,r,h'=>RoundV P n args h r h'
def Good (P:Program) (call:CallT):Prop:=
 ∀ lock c args h K,call lock c args h K->∃ r h',K r h'/\LockP lock h h'/\CalV P c args h r h'
def OpV (P:Program) (op:Op) (t:Slots) (h:VH) (v:VV) (h':VH):Prop:=
 ∀ (F:Fence),WF P F->∀ (o:Oper),o.op=op->∀ (B:Nat) (R:Rn) (a:Act) (w:World),Emb B R h.at w->TRel R t a->∀ (next:Act->World->Prop) (Q:Exit->Act->World->Prop),
  (∀ x R' w',Nxt h.at R w h'.at R' w'->Emb B R' h'.at w'->VRel R' v x->next (a.put o.dst x) w')->o.wpIn F 0 P a w next Q
def OpX (P:Program) (op:Op) (t:Slots) (h:VH) (v:VV) (h':VH):Prop:=
 ∀ (F:Fence),WF P F->∀ (o:Oper),o.op=op->∀ (B:Nat) (R:Rn) (a:Act) (w:World),Emb B R h.at w->TRel R t a->∀ (next:Act->World->Prop) (Q:Exit->Act->World->Prop),
  (∀ x R' w',Nxt h.at R w h'.at R' w'->Emb B R' h'.at w'->VRel R' v x->Q (.panic [{ v:=x,recovered:=false }]) a w')->o.wpIn F 0 P a w next Q
def RunV (P:Program) (op:Op) (t:Slots) (h:VH) (v:VV) (h':VH):Prop:=
 ∀ (o:Oper),o.op=op->∀ (B:Nat) (R:Rn) (a:Act) (w:World),Emb B R h.at w->TRel R t a ->
  ∃ x R' w',((execOp a.eval o).run P w=.ok (.value x) w' ∨ ((execOp a.eval o).run P w=.ok .skip w'/\x=undef))/\Nxt h.at R w h'.at R' w'/\Emb B R' h'.at w'/\VRel R' v x
def RunP (P:Program) (op:Op) (t:Slots) (h:VH) (v:VV):Prop:=
 ∀ (o:Oper),o.op=op->∀ (B:Nat) (R:Rn) (a:Act) (w:World),Emb B R h.at w->TRel R t a ->
  ∃ x,(execOp a.eval o).run P w=.ok (.value x) w/\VRel R v x
section
variable {P:Program}
theorem RunP.runV {op:Op} {t:Slots} {h:VH} {v:VV} (H:RunP P op t h v):RunV P op t h v h:=by
 intro o ho B R a w e ht
 obtain ⟨x,hx,hv⟩:=H o ho B R a w e ht
 exact ⟨x,R,w,.inl hx,Nxt.refl _ _ _ e.fresh,e,hv⟩
theorem RunV.opV {op:Op} {t:Slots} {h h':VH} {v:VV} (H:RunV P op t h v h') (hd:∀ c,op ≠ .defer c):OpV P op t h v h':=by
 intro F hF o ho B R a w e ht next Q hn
 obtain ⟨x,R',w',hx,n1,e1,hv⟩:=H o ho B R a w e ht
 refine ⟨fun f _=>hF.fn f,?_⟩
 rw [Oper.semAt_eq _ _ _ (by rw [ho]; exact hd)]
 rcases hx with hx | ⟨hx,rfl⟩
 ·rw [hx]; exact hn x R' w' n1 e1 hv
 ·rw [hx]; exact hn undef R' w' n1 e1 hv
theorem lockP_refl (lock:Nat) (h:VH):LockP lock h h:=fun _ _ _=>rfl
theorem lockP_new (lock:Nat) (h:VH) (b:VB):LockP lock h (h.new b):=fun n _ hf=>by
 rw [VH.at_new]
 have:n ≠ h.nx:=fun hh=>by subst hh; exact hf (VH.at_nx h)
 simp [upd,this]
theorem run_move {op:Op} {x:Operand} (ho:op=.move x ∨ op=.assign x) (t:Slots) (h:VH):RunP P op t h (evO t x):=by
 intro o hop B R a w e ht
 refine ⟨a.eval x,?_,evO_rel ht x⟩
 unfold execOp
 rcases ho with rfl | rfl <;> rw [hop] <;> rfl
theorem run_pick {c x y:Operand} {q:Bool} {t:Slots} (hc:evO t c=.bool q) (h:VH):RunP P (.pick c x y) t h (if q then evO t x else evO t y):=by
 intro o hop B R a w e ht
 have hcr:=evO_rel ht c
 rw [hc] at hcr
 refine ⟨if q then a.eval x else a.eval y,?_,?_⟩
 ·unfold execOp
  rw [hop]
  simp only [VRel] at hcr
  simp [hcr,asBool]
 ·cases q
  ·exact evO_rel ht y
  ·exact evO_rel ht x
theorem new_run {ty:TypeId} {cs:List VV} {h:VH} {B:Nat} {R:Rn} {w:World} (e:Emb B R h.at w) {x:Value} (hx:VRelL R cs x.cells.toList) :
  (newVar ty x).run P w=.ok ⟨w.heap.size,0,none⟩ (w.alloc (.cells x.cells ty))/\Nxt h.at R w (h.new (.cells cs ty)).at (R.put h.nx w.heap.size) (w.alloc (.cells x.cells ty)) /\
   Emb B (R.put h.nx w.heap.size) (h.new (.cells cs ty)).at (w.alloc (.cells x.cells ty))/\ARel (R.put h.nx w.heap.size) (.own h.nx 0) ⟨w.heap.size,0,none⟩:=by
 obtain ⟨e1,n1⟩:=e.alloc (VH.at_nx h) (t:=ty) hx
 rw [VH.at_new]
 simp only [Array.toArray_toList] at e1 n1
 exact ⟨by simp [newVar,newRow],n1,e1,w.heap.size,by simp [Rn.put],rfl⟩
theorem new_runC {ty:TypeId} {cs:List VV} {y:VB} (hy:y.cs? = some (cs,ty)) {h:VH} {B:Nat} {R:Rn} {w:World} (e:Emb B R h.at w) {x:Value} (hx:VRelL R cs x.cells.toList) :
  (newVar ty x).run P w=.ok ⟨w.heap.size,0,none⟩ (w.alloc (.cells x.cells ty))/\Nxt h.at R w (h.new y).at (R.put h.nx w.heap.size) (w.alloc (.cells x.cells ty)) /\
   Emb B (R.put h.nx w.heap.size) (h.new y).at (w.alloc (.cells x.cells ty))/\ARel (R.put h.nx w.heap.size) (.own h.nx 0) ⟨w.heap.size,0,none⟩:=by
 obtain ⟨h1,n1,e1,h4⟩:=new_run (P:=P) (ty:=ty) e hx
 rw [VH.at_new] at n1 e1
 obtain ⟨e2,n2⟩:=e1.swap (n:=h.nx) (x:=y) (cs:=cs) (t:=ty) (by simp [upd]) hy
 have:upd (upd h.at h.nx (.cells cs ty)) h.nx y=upd h.at h.nx y:=by
  funext m
  unfold upd
  split <;> simp [*]
 rw [this] at e2 n2
 rw [VH.at_new]
 exact ⟨h1,n1.trans n2,e2,h4⟩
theorem run_allocC {ty:TypeId} {z:List VV} (hz:tyZ P ty=some z) {y:VB} (hy:y.cs? = some (z,ty)) (t:Slots) (h:VH):RunV P (.alloc ty) t h (.ptr (.own h.nx 0)) (h.new y):=by
 intro o hop B R a w e ht
 obtain ⟨zv,hzr,rfl⟩:=tyZ_spec (w:=w) hz
 obtain ⟨h1,h2,h3,h4⟩:=new_runC (P:=P) (ty:=ty) hy e (x:=zv) (ofSL_rel R _)
 refine ⟨_,_,_,.inl ?_,h2,h3,_,h4,rfl⟩
 unfold execOp
 rw [hop]
 simp [Instr.alloc,hzr,h1]
theorem run_boxC {ty:TypeId} {x:Operand} {t:Slots} {cs:List VV} (hc:(evO t x).cs? = some cs) {y:VB} (hy:y.cs? = some (cs,ty)) (h:VH):RunV P (.box ty x) t h (.ptr (.own h.nx 0)) (h.new y):=by
 intro o hop B R a w e ht
 obtain ⟨h1,h2,h3,h4⟩:=new_runC (P:=P) (ty:=ty) hy e (x:=a.eval x) (cs_rel (evO_rel ht x) hc)
 refine ⟨_,_,_,.inl ?_,h2,h3,_,h4,rfl⟩
 unfold execOp
 rw [hop]
 simp [Instr.box,h1]
theorem run_loadop {ty:TypeId} {x:Operand} {t:Slots} {h:VH} {a:VA} {agg:Bool} {size:Nat} (hx:evO t x=.ptr a) (hty:tyI P ty=some (agg,size)) {K:VV->Prop} (hK:loadE agg size a h K) :
  ∃ v,K v/\RunP P (.load ty x) t h v:=by
 obtain ⟨v,hv,H⟩:=loadE_sound (P:=P) hK
 refine ⟨v,hv,?_⟩
 intro o hop B R ac w e ht
 have hr:=evO_rel ht x
 rw [hx] at hr
 obtain ⟨p,hp,hxv⟩:=hr
 obtain ⟨y,hy,hvy⟩:=H ty hty B R w p e hp
 refine ⟨y,?_,hvy⟩
 unfold execOp
 rw [hop]
 simp [Instr.loadAt,hxv,Instr.sureAddr,hy]
theorem run_storeop {ty:TypeId} {x y:Operand} {t:Slots} {h:VH} {a:VA} {agg:Bool} {size lock:Nat} (hx:evO t x=.ptr a) (hty:tyI P ty=some (agg,size)) {K:VH->Prop} (hK:storeE lock size a (evO t y) h K) :
  ∃ h',K h'/\LockP lock h h'/\RunV P (.store ty x y) t h udf h':=by
 obtain ⟨h',hv,hl,H⟩:=storeE_sound (P:=P) hK
 refine ⟨h',hv,fun n hn _=>hl n hn,?_⟩
 intro o hop B R ac w e ht
 have hr:=evO_rel ht x
 rw [hx] at hr
 obtain ⟨p,hp,hxv⟩:=hr
 obtain ⟨w',R',hy,e1,n1⟩:=H ty agg hty B R w p (ac.eval y) e hp (evO_rel ht y)
 refine ⟨undef,R',w',.inr ⟨?_,rfl⟩,n1,e1,[],rfl,rfl⟩
 unfold execOp
 rw [hop]
 simp [Instr.storeAt,hxv,Instr.sureAddr,hy]
def setX:List Value->Nat->List Value->List Value
 | cs,_,[]=>cs
 | cs,off,v::vs=>setX (cs.set off v) (off+1) vs
theorem setL_rel {R:Rn}:∀ (vs:List VV) (ys:List Value) (cs:List VV) (xs:List Value) (off:Nat),VRelL R vs ys->VRelL R cs xs->VRelL R (setL cs off vs) (setX xs off ys)
 | [],_,cs,xs,off,h,hc=>by simp only [VRelL] at h; subst h; exact hc
 | v::vs,_,cs,xs,off,h,hc=>by
  obtain ⟨y,ys,h1,h2,rfl⟩:=h
  exact setL_rel vs ys _ _ _ h2 (hc.set off v y h1)
theorem foldl_setX (off:Nat):∀ (ys:List Value) (k:Nat) (xs:List Value),
  (ys.zipIdx k).foldl (fun cs (p:Value × Nat)=>cs.setIfInBounds (off+p.2) p.1) xs.toArray=(setX xs (off+k) ys).toArray
 | [],_,_=>rfl
 | y::ys,k,xs=>by
  simp only [List.zipIdx_cons,List.foldl_cons,List.setIfInBounds_toArray,setX]
  rw [foldl_setX off ys (k+1)]
  rfl
theorem fill_sound {R:Rn} {place:Nat->Option (Nat × Nat)}:∀ (ps:List (Nat × VV)) (qs:List (Nat × Value)) (cs cs':List VV) (xs:List Value),
  ps.map (·.1)=qs.map (·.1)->VRelL R (ps.map (·.2)) (qs.map (·.2))->VRelL R cs xs->fillL place cs ps=some cs' ->
  ∃ xs',Instr.fill place xs.toArray qs=some xs'.toArray/\VRelL R cs' xs':=by
 intro ps
 induction ps with
 | nil=>
  intro qs cs cs' xs h1 h2 h3 h4
  cases qs with
  | cons q qs=>simp at h1
  | nil=>simp [fillL] at h4; subst h4; exact ⟨xs,rfl,h3⟩
 | cons p ps ih=>
  intro qs cs cs' xs h1 h2 h3 h4
  cases qs with
  | nil=>simp at h1
  | cons q qs=>
   obtain ⟨i,v⟩:=p
   obtain ⟨j,y⟩:=q
   simp only [List.map_cons,List.cons.injEq] at h1
   obtain ⟨rfl,h1⟩:=h1
   obtain ⟨y',ys',g1,g2,g3⟩:=h2
   simp only [List.map_cons,List.cons.injEq] at g3
   obtain ⟨rfl,rfl⟩:=g3
   simp only [fillL] at h4
   split at h4
   ·rename_i off size vs hp hvs
    cases hb:(Nat.beq vs.length size && Nat.ble (off+size) cs.length) with
    | false=>rw [hb] at h4; cases h4
    | true=>
     rw [hb] at h4
     simp only [cond_true] at h4
     simp only [Bool.and_eq_true] at hb
     have a1:vs.length=size:=Nat.eq_of_beq_eq_true hb.1
     have a2:=Nat.le_of_ble_eq_true hb.2
     have hcs:=cs_rel g1 hvs
     have hl:=hcs.length
     have hl3:=h3.length
     have hsz:y.cells.size=size:=by rw [<- a1,hl]; simp
     obtain ⟨xs',f1,f2⟩:=ih qs _ _ _ h1 g2 (setL_rel vs y.cells.toList cs xs off hcs h3) h4
     refine ⟨xs',?_,f2⟩
     simp only [Instr.fill,hp]
     rw [if_neg (by simp [hsz]; omega)]
     rw [<- f1]
     congr 1
     have:=foldl_setX off y.cells.toList 0 xs
     simp only [Nat.add_zero] at this
     rw [<- this,<- Array.foldl_toList,Array.toList_zipIdx]
   ·cases h4
theorem places_run {w:World}:∀ (fs:List Field) (pl:List (Nat × Nat)),placesL P fs=some pl ->
  (fs.mapM fun f=>do pure (f.offset,<- sizeOf f.type):Sem (List (Nat × Nat))).run P w=.ok pl w
 | [],pl,h=>by simp [placesL] at h; subst h; rfl
 | f::fs,pl,h=>by
  simp only [placesL] at h
  split at h
  ·rename_i b s r h1 h2
   simp at h
   subst h
   simp only [List.mapM_cons,Sem.run_bind,(tyI_spec (w:=w) h1).2,Result.andThen_ok,Sem.run_pure]
   rw [places_run fs r h2]
   rfl
  ·cases h
theorem run_build {ty:TypeId} {parts:Array (Nat × Operand)} {t:Slots} {cs:List VV} (hb:buildE P ty (parts.toList.map fun (i,x)=>(i,evO t x))=some cs) (h:VH):RunP P (.build ty parts) t h (.agg cs):=by
 intro o hop B R a w e ht
 have hm1:(parts.toList.map fun (i,x)=>(i,evO t x)).map (·.1)=(parts.toList.map fun (i,x)=>(i,a.eval x)).map (·.1):=by simp [Function.comp_def]
 have hm2:VRelL R ((parts.toList.map fun (i,x)=>(i,evO t x)).map (·.2)) ((parts.toList.map fun (i,x)=>(i,a.eval x)).map (·.2)):=by
  have:=evL_rel (R:=R) ht (parts.toList.map (·.2))
  simpa [Function.comp_def] using this
 unfold buildE at hb
 split at hb
 ·rename_i z fields hz hu
  split at hb
  ·rename_i pl hpl
   obtain ⟨zv,hzr,rfl⟩:=tyZ_spec (w:=w) hz
   obtain ⟨xs',f1,f2⟩:=fill_sound (R:=R) _ _ _ _ _ hm1 hm2 (ofSL_rel R zv.cells.toList) hb
   refine ⟨.agg xs'.toArray,?_,xs',f2,rfl⟩
   unfold execOp
   rw [hop]
   have hpr:(fields.mapM fun f=>do pure (f.offset,<- sizeOf f.type):Sem (Array (Nat × Nat))).run P w=.ok pl.toArray w:=by
    rw [Array.mapM_eq_mapM_toList,Sem.run_map,places_run fields.toList pl hpl]
    rfl
   simp only [Instr.build,Sem.run_bind,hzr,Result.andThen_ok,run_und hu,hpr]
   have f1':Instr.fill (fun x=>pl.toArray[x]?) zv.cells (parts.map fun (i,x)=>(i,a.eval x)).toList=some xs'.toArray:=by
    simpa using f1
   rw [f1']
   rfl
  ·cases hb
 ·rename_i z n el hz hu
  split at hb
  ·rename_i s0 s hs
   obtain ⟨zv,hzr,rfl⟩:=tyZ_spec (w:=w) hz
   obtain ⟨xs',f1,f2⟩:=fill_sound (R:=R) _ _ _ _ _ hm1 hm2 (ofSL_rel R zv.cells.toList) hb
   refine ⟨.agg xs'.toArray,?_,xs',f2,rfl⟩
   unfold execOp
   rw [hop]
   simp only [Instr.build,Sem.run_bind,hzr,Result.andThen_ok,run_und hu,(tyI_spec (w:=w) hs).2]
   have f1':Instr.fill (fun i=>some (i*s,s)) zv.cells (parts.map fun (i,x)=>(i,a.eval x)).toList=some xs'.toArray:=by
    simpa using f1
   rw [f1']
   rfl
  ·cases hb
 ·cases hb
end
end Go.Sx
