/- Maps. -/
import Derived.Test.YtlboglkgbhjpeaaSx5v
namespace Go.Sx
open Go
def getI:List (List Int × Int)->List Int->Nat->Option (Nat × Int)
 | [],_,_=>none
 | (k,v)::r,key,i=>if k=key then some (i,v) else getI r key (i+1)
theorem getI_get:∀ (es:List (List Int × Int)) (key:List Int) (i:Nat),(getI es key i).map (·.2)=getE es key
 | [],_,_=>rfl
 | (k,v)::r,key,i=>by
  simp only [getI,getE]
  split
  ·rfl
  ·exact getI_get r key (i+1)
theorem getI_has:∀ (es:List (List Int × Int)) (key:List Int) (i:Nat),(getI es key i).isSome=hasE es key
 | [],_,_=>rfl
 | (k,v)::r,key,i=>by
  simp only [getI,hasE]
  split
  ·rfl
  ·exact getI_has r key (i+1)
theorem setE_none:∀ (es:List (List Int × Int)) (key:List Int) (x:Int) (i:Nat),getI es key i=none->setE es key x=es ++ [(key,x)]
 | [],_,_,_,_=>rfl
 | (k,v)::r,key,x,i,h=>by
  simp only [getI,setE] at h ⊢
  split at h
  ·cases h
  ·rename_i hk
   rw [if_neg hk,setE_none r key x (i+1) h]
   rfl
theorem setE_some:∀ (es:List (List Int × Int)) (key:List Int) (x:Int) (i j:Nat) (v:Int),getI es key i=some (j,v)->i<=j/\j - i<es.length/\(∃ p,es[j - i]? = some p/\p.1=key)/\setE es key x=es.set (j - i) (key,x)
 | [],_,_,_,_,_,h=>by cases h
 | (k,v0)::r,key,x,i,j,v,h=>by
  simp only [getI,setE] at h ⊢
  split at h
  ·rename_i hk
   cases h
   subst hk
   rw [if_pos rfl]
   simp
  ·rename_i hk
   obtain ⟨h1,h2,h3,h4⟩:=setE_some r key x (i+1) j v h
   rw [if_neg hk,h4,show j - i=(j - (i+1))+1 by omega]
   exact ⟨by omega,by simp; omega,by simpa using h3,rfl⟩
theorem keyE_sound:∀ {ks:List PK} {cs:List VV} {K:List Int->Prop},keyE ks cs K->∃ key,K key/\keyB ks key=true/\∀ (R:Rn) xs,VRelL R cs xs->xs=keyV ks key
 | [],[],K,h=>⟨[],h,rfl,fun R xs hx=>hx⟩
 | .bool::ks,.bool b::vs,K,h=>by
  obtain ⟨key,h1,h2,h3⟩:=keyE_sound (ks:=ks) (cs:=vs) h
  refine ⟨_,h1,?_,fun R xs hx=>?_⟩
  ·cases b <;> simp [keyB,h2]
  ·obtain ⟨y,ys,e1,e2,rfl⟩:=hx
   simp only [VRel] at e1
   subst e1
   rw [h3 R ys e2]
   cases b <;> rfl
 | .int k::ks,.int k' n::vs,K,h=>by
  simp only [keyE] at h
  obtain ⟨g1,h0⟩:=cond_f h
  have g1:k=k':=by simpa using g1
  subst g1
  obtain ⟨key,h1,h2,h3⟩:=keyE_sound (ks:=ks) (cs:=vs) h0
  refine ⟨_,h1,h2,fun R xs hx=>?_⟩
  obtain ⟨y,ys,e1,e2,rfl⟩:=hx
  simp only [VRel] at e1
  subst e1
  rw [h3 R ys e2]
  rfl
theorem valE_sound {k:PK} {v:VV} {K:Int->Prop} (h:valE k v K):∃ x,K x/\∀ (R:Rn) y,VRel R v y->y=k.val x:=by
 unfold valE at h
 split at h
 ·rename_i b
  refine ⟨_,h,fun R y hy=>?_⟩
  simp only [VRel] at hy
  subst hy
  cases b <;> rfl
 ·rename_i k0 k1 n
  obtain ⟨g1,h0⟩:=cond_f h
  have g1:=of_decide_eq_true g1
  subst g1
  exact ⟨_,h0,fun R y hy=>hy⟩
 ·exact h.elim
theorem valZ_spec {k:PK} {z:Value} (h:valZ k z=true):z=k.val 0:=by
 unfold valZ at h
 split at h
 ·rename_i b
  cases b
  ·rfl
  ·cases h
 ·simp only [Bool.and_eq_true,decide_eq_true_eq] at h
  obtain ⟨rfl,rfl⟩:=h
  rfl
 ·cases h
theorem zeroE_run {P:Program} {t:TypeId} {z:Value} {w:World} (h:zeroE P t=some z):(zeroValue t).run P w=.ok z w:=by
 unfold zeroE at h
 split at h
 ·rename_i i hi
  simp [zeroValue,run_tyi hi,h]
 ·cases h
theorem vv_rel (R:Rn) (k:PK) (n:Int):VRel R (k.vv n) (k.val n):=by cases k <;> rfl
section
variable {P:Program}
theorem find_run {w:World} {kt:TypeId} {ks:List PK} {vk:PK} (hl:KeyLaw P kt ks) {key:List Int} (hk:keyB ks key=true):∀ (ents:List MapEntry) (es:List (List Int × Int)) (i:Nat),
  ents.map (fun e=>(e.key,e.val))=es.map (fun e=>(.agg (keyV ks e.1).toArray,vk.val e.2))->(∀ e ∈ es,keyB ks e.1=true) ->
  (Instr.findAsking kt (.agg (keyV ks key).toArray) ents i).run P w=.ok ((getI es key i).map fun p=>(p.1,vk.val p.2)) w
 | [],[],i,_,_=>by simp [Instr.findAsking,getI]
 | [],_::_,_,h,_=>by simp at h
 | _::_,[],_,h,_=>by simp at h
 | e::ents,(k,v)::es,i,h,hb=>by
  simp only [List.map_cons,List.cons.injEq,Prod.mk.injEq] at h
  obtain ⟨⟨h1,h2⟩,h3⟩:=h
  have hk2:=hb (k,v) (by simp)
  have:=(hl.2 w key hk).2 k hk2
  simp only [Instr.findAsking,h1,Sem.run_bind,this,Result.andThen_ok,getI]
  by_cases he:k=key
  ·subst he
   simp [h2]
  ·rw [if_neg he,decide_eq_false (fun h=>he h.symm)]
   exact find_run hl hk ents es (i+1) h3 (fun e he=>hb e (by simp [he]))
theorem findKey_run {w:World} {kt:TypeId} {ks:List PK} {vk:PK} (hl:KeyLaw P kt ks) {key:List Int} (hk:keyB ks key=true) (ents:List MapEntry) (es:List (List Int × Int)) 
  (h:ents.map (fun e=>(e.key,e.val))=es.map (fun e=>(.agg (keyV ks e.1).toArray,vk.val e.2))) (hb:∀ e ∈ es,keyB ks e.1=true) :
  (Instr.findKey kt (.agg (keyV ks key).toArray) ents).run P w=.ok ((getI es key 0).map fun p=>(p.1,vk.val p.2)) w:=by
 obtain ⟨⟨fs,hfs⟩,_⟩:=hl
 cases ents with
 | nil=>
  cases es with
  | nil=>simp [Instr.findKey,run_und hfs,Instr.findNow,getI]
  | cons=>simp at h
 | cons e ents=>
  have:Instr.findNow (.struct fs) (.agg (keyV ks key).toArray) (e::ents) 0=none:=by
   cases es with
   | nil=>simp at h
   | cons p es=>
    simp only [List.map_cons,List.cons.injEq,Prod.mk.injEq] at h
    simp [Instr.findNow,Instr.sameNow]
  simp only [Instr.findKey,Sem.run_bind,run_und hfs,Result.andThen_ok,this]
  exact find_run ⟨⟨fs,hfs⟩,‹_›⟩ hk _ es 0 h hb
theorem MapOk.get {B:Nat} {R:Rn} {n:Nat} {w:World} {ks:List PK} {vk:PK} {es:List (List Int × Int)} (h:MapOk B R n w ks vk es) {b:Nat} (hb:R.blk n=some b) :
  ∃ ents clock,B<=b/\w.heap[b]? = some (.map ents clock)/\ents.toList.map (fun e=>(e.key,e.val))=es.map (fun e=>(.agg (keyV ks e.1).toArray,vk.val e.2)):=by
 obtain ⟨b',ents,clock,h1,h2,h3,h4⟩:=h.row
 rw [hb] at h1
 cases h1
 exact ⟨ents,clock,h2,h3,h4⟩
theorem run_mapObj {w:World} {b:Nat} {es:Array MapEntry} {clock:Nat} (hb:w.heap[b]? = some (.map es clock)):(getObj b).run P w=.ok (.map es clock) w:=by
 simp [getObj,Sem.run,hb]
theorem run_setMap {w:World} {b:Nat} {es:Array MapEntry} {clock:Nat} (o:Obj) (hb:w.heap[b]? = some (.map es clock)):(setObj b o).run P w=.ok () { w with heap:=w.heap.setIfInBounds b o }:=by
 simp [setObj,Sem.run,hb]
theorem lookupE_sound {ty kt et:TypeId} {x ix:Operand} {ok:Bool} {t:Slots} {h:VH} {n:Nat} {cs:List VV} {K:VV->Prop} (hx:evO t x=.mp n) (hi:evO t ix=.agg cs) (hu:P.underlying ty=some (.map kt et)) (hK:lookupE P kt et n cs ok h K) :
  ∃ v,K v/\RunP P (.lookup ty x ix ok) t h v:=by
 unfold lookupE at hK
 split at hK
 ·rename_i ks vk es z hn hz
  obtain ⟨key,⟨hl,hv⟩,hkb,hkx⟩:=keyE_sound hK
  obtain ⟨hzv,hv2⟩:=cond_f hv
  clear hv
  have hz0:=valZ_spec hzv
  subst hz0
  have run:∀ (o:Oper),o.op=.lookup ty x ix ok->∀ (B:Nat) (R:Rn) (a:Act) (w:World),Emb B R h.at w->TRel R t a ->
    (execOp a.eval o).run P w=.ok (.value (if ok then .tuple #[vk.val (valOf es key),.bool (hasE es key)] else vk.val (valOf es key))) w:=by
   intro o hop B R a w e ht
   have r1:=evO_rel ht x
   have r2:=evO_rel ht ix
   rw [hx] at r1
   rw [hi] at r2
   obtain ⟨b,hb,h1⟩:=r1
   obtain ⟨xs,h2,h3⟩:=r2
   rw [hkx R xs h2] at h3
   obtain ⟨ents,clock,_,g2,g3⟩:=(e.map n ks vk es hn).get hb
   have f1:=findKey_run (P:=P) (w:=w) hl hkb ents.toList es g3 (e.map n ks vk es hn).len
   have f2:=(hl.2 w key hkb).1
   have f3:=getI_get es key 0
   have f4:=getI_has es key 0
   unfold execOp
   rw [hop]
   simp only [Instr.lookup,Sem.run_bind,run_und hu,Result.andThen_ok,h1,h3,run_mapObj g2,Sem.run_pure,f2,f1]
   cases hg:getI es key 0 with
   | none=>
    rw [hg] at f3 f4
    simp only [Option.map_none,Option.isSome_none] at f3 f4
    simp only [Option.map_none,Sem.run_bind,zeroE_run hz,Result.andThen_ok,Sem.run_pure,valOf,<- f3,<- f4]
    cases ok <;> rfl
   | some p=>
    rw [hg] at f3 f4
    simp only [Option.map_some,Option.isSome_some] at f3 f4
    simp only [Option.map_some,valOf,<- f3,<- f4]
    cases ok <;> rfl
  cases ok with
  | true=>
   refine ⟨_,hv2,fun o hop B R a w e ht=>⟨_,run o hop B R a w e ht,?_⟩⟩
   exact ⟨[_,_],⟨_,_,vv_rel R vk _,⟨_,_,rfl,rfl,rfl⟩,rfl⟩,rfl⟩
  | false=>
   simp only [cond_false,fo_eq] at hv2
   exact ⟨_,hv2,fun o hop B R a w e ht=>⟨_,run o hop B R a w e ht,vv_rel R vk _⟩⟩
 ·exact hK.elim
theorem updateE_sound {op:Op} {ty kt et:TypeId} {x ix y:Operand} {t:Slots} {h:VH} {n lock:Nat} {cs:List VV} {K:VH->Prop} (hop:op=.mapUpdate ty x ix y ∨ op=.insert ty x ix y) (hx:evO t x=.mp n) (hi:evO t ix=.agg cs) (hu:P.underlying ty=some (.map kt et)) (hK:updateE P lock kt n cs (evO t y) h K) :
  ∃ h',K h'/\LockP lock h h'/\RunV P op t h udf h':=by
 unfold updateE at hK
 split at hK
 ·rename_i ks vk es hn
  obtain ⟨hlock,hK⟩:=cond_f hK
  obtain ⟨key,⟨hl,hv⟩,hkb,hkx⟩:=keyE_sound hK
  obtain ⟨v,hv,hvx⟩:=valE_sound hv
  have hnf:h.at n ≠ .free:=by rw [hn]; simp
  have hat:=VH.at_put h n (.map ks vk (setE es key v)) hnf
  refine ⟨h.put n (.map ks vk (setE es key v)),hv,fun m hm _=>?_,?_⟩
  ·rw [hat]
   have:=Nat.le_of_ble_eq_true hlock
   simp [upd,show m ≠ n by omega]
  ·intro o ho B R a w e ht
   have r1:=evO_rel ht x
   have r2:=evO_rel ht ix
   have r3:=evO_rel ht y
   rw [hx] at r1
   rw [hi] at r2
   obtain ⟨b,hb,h1⟩:=r1
   obtain ⟨xs,h2,h3⟩:=r2
   rw [hkx R xs h2] at h3
   have h4:=hvx R _ r3
   have mo:=e.map n ks vk es hn
   obtain ⟨ents,clock,g1,g2,g3⟩:=mo.get hb
   have f1:=findKey_run (P:=P) (w:=w) hl hkb ents.toList es g3 mo.len
   have f2:=(hl.2 w key hkb).1
   have hlen:ents.toList.length=es.length:=by have:=congrArg List.length g3; simpa using this
   have how0:R.ow n (h.at n) b:=by rw [hn]; exact hb
   have hbl:b<w.heap.size:=(Array.getElem?_eq_some_iff.1 g2).1
   have setb:∀ (o:Obj) (k:Nat),({ w with heap:=w.heap.setIfInBounds b o }:World).heap[k]? = if k=b then some o else w.heap[k]?:=by
    intro o k
    show (w.heap.setIfInBounds b o)[k]? = _
    rw [Array.getElem?_setIfInBounds]
    by_cases hk:b=k
    ·subst hk; simp [hbl]
    ·rw [if_neg hk,if_neg (fun h=>hk h.symm)]
   have fin:∀ (ents':Array MapEntry) (clock':Nat),ents'.toList.map (fun e=>(e.key,e.val))=(setE es key v).map (fun e=>(.agg (keyV ks e.1).toArray,vk.val e.2))->(∀ e ∈ setE es key v,keyB ks e.1=true) ->
     Nxt h.at R w (h.put n (.map ks vk (setE es key v))).at R { w with heap:=w.heap.setIfInBounds b (.map ents' clock') }/\Emb B R (h.put n (.map ks vk (setE es key v))).at { w with heap:=w.heap.setIfInBounds b (.map ents' clock') }:=by
    intro ents' clock' q1 q2
    have hle:R.le R:=⟨fun _ _ h=>h,rfl,rfl,fun _ _ _ h=>h,fun _ _ h=>h⟩
    have hother:∀ k,k<w.heap.size->¬ R.ow n (h.at n) k->({ w with heap:=w.heap.setIfInBounds b (.map ents' clock') }:World).heap[k]? = w.heap[k]?:=fun k _ hk=>by
     rw [setb,if_neg (fun he=>hk (by rw [he]; exact how0))]
    have how:∀ c,R.ow n (.map ks vk (setE es key v)) c->R.ow n (h.at n) c ∨ w.heap.size<=c:=fun c hc=>.inl (by rw [hn]; exact hc)
    rw [hat]
    refine ⟨Nxt.step (by simp) hle (fun _ _=>rfl) (fun _ _=>rfl) hother how (by simp) (fun L v h1 h2=>by rw [h1] at h2; cases h2) (by simp) rfl rfl rfl,
     e.step (by simp) hle (fun _ _=>rfl) (fun _ _=>rfl) hother how (by simp) (by simp) (by simp) (by simp) (by simp) (fun ks' vk' es' he=>?_)⟩
    cases he
    exact ⟨⟨b,ents',clock',hb,g1,by rw [setb,if_pos rfl],q1⟩,q2⟩
   have hstay:(Instr.keyThatStays (.agg (keyV ks key).toArray) (.agg (keyV ks key).toArray)).run P w=.ok (.agg (keyV ks key).toArray) w:=by
    have sb:∀ (ks:List PK) (k:List Int),((keyV ks k).zip (keyV ks k)).all (fun (x,y)=>Instr.sameBits 9999 x y)=true:=by
     intro ks
     induction ks with
     | nil=>intro k; cases k <;> rfl
     | cons p ks ih=>
      intro k
      cases k with
      | nil=>rfl
      | cons n k=>
       simp only [keyV,List.zip_cons_cons,List.all_cons,Bool.and_eq_true]
       refine ⟨?_,ih k⟩
       cases p <;> simp [PK.val,Instr.sameBits]
    have:Instr.sameBits 10000 (.agg (keyV ks key).toArray) (.agg (keyV ks key).toArray)=true:=by
     rw [Instr.sameBits]
     simp only [Bool.and_eq_true,beq_self_eq_true,true_and]
     exact sb ks key
    simp [Instr.keyThatStays,this]
   have run:∃ ents' clock',(Instr.mapUpdate ty (a.eval x) (a.eval ix) (a.eval y)).run P w=.ok () { w with heap:=w.heap.setIfInBounds b (.map ents' clock') }/\ents'.toList.map (fun e=>(e.key,e.val))=(setE es key v).map (fun e=>(.agg (keyV ks e.1).toArray,vk.val e.2))/\(∀ e ∈ setE es key v,keyB ks e.1=true):=by
    simp only [Instr.mapUpdate,Sem.run_bind,run_und hu,Result.andThen_ok,h1,h3,run_mapObj g2,f2,f1]
    cases hg:getI es key 0 with
    | none=>
     have s1:=setE_none es key v 0 hg
     refine ⟨ents.push { key:=.agg (keyV ks key).toArray,val:=a.eval y,born:=clock },clock+1,?_,?_,?_⟩
     ·simp only [Option.map_none]
      exact run_setMap _ g2
     ·rw [s1]
      simp [g3,h4]
     ·rw [s1]
      intro p hp
      rcases List.mem_append.1 hp with hp | hp
      ·exact mo.len p hp
      ·simp at hp; subst hp; exact hkb
    | some q=>
     obtain ⟨j,u⟩:=q
     obtain ⟨_,s2,⟨p,s3,s4⟩,s5⟩:=setE_some es key v 0 j u hg
     rw [Nat.sub_zero] at s2 s3 s5
     have hje:∃ en,ents[j]? = some en/\en.key=.agg (keyV ks key).toArray:=by
      have h5:=congrArg (·[j]?) g3
      simp only [List.getElem?_map,s3,Option.map_some] at h5
      have hjl:j<ents.toList.length:=by omega
      rw [List.getElem?_eq_getElem hjl] at h5
      simp only [Option.map_some,Option.some.injEq,Prod.mk.injEq] at h5
      refine ⟨ents.toList[j],?_,by rw [h5.1,s4]⟩
      rw [<- Array.getElem?_toList,List.getElem?_eq_getElem hjl]
     obtain ⟨en,he1,he2⟩:=hje
     refine ⟨ents.modify j fun e=>{ e with key:=.agg (keyV ks key).toArray,val:=a.eval y },clock,?_,?_,?_⟩
     ·simp only [Option.map_some,he1,Option.getD_some,he2,Sem.run_bind,hstay,Result.andThen_ok]
      exact run_setMap _ g2
     ·rw [s5,List.map_set,<- g3,Array.toList_modify]
      apply List.ext_getElem?
      intro c
      rw [List.getElem?_map,List.getElem?_modify,List.getElem?_set,List.getElem?_map]
      by_cases hc:j=c
      ·subst hc
       rw [if_pos rfl,if_pos (by rw [List.length_map,hlen]; exact s2),Array.getElem?_toList,he1]
       simp [h4]
      ·rw [if_neg hc]
       simp [hc]
     ·rw [s5]
      intro p hp
      rcases List.mem_or_eq_of_mem_set hp with hp | rfl
      ·exact mo.len p hp
      ·exact hkb
   obtain ⟨ents',clock',q1,q2,q3⟩:=run
   obtain ⟨n1,e1⟩:=fin ents' clock' q2 q3
   refine ⟨undef,R,_,.inr ⟨?_,rfl⟩,n1,e1,⟨[],rfl,rfl⟩⟩
   unfold execOp
   rcases hop with rfl | rfl <;> rw [ho] <;> simp only [Sem.run_bind,q1,Result.andThen_ok] <;> rfl
 ·exact hK.elim
theorem run_makeMap {ty:TypeId} {ks:List PK} {vk:PK} {t:Slots} {h:VH}:RunV P (.makeMap ty none) t h (.mp h.nx) (h.new (.map ks vk [])):=by
 intro o hop B R a w e ht
 have hfree:=VH.at_nx h
 have hle:R.le (R.put h.nx w.heap.size):=le_put (e.fresh h.nx hfree)
 have hold:∀ b,b<w.heap.size->¬ R.ow h.nx (h.at h.nx) b->(w.alloc (.map #[] 0)).heap[b]? = w.heap[b]?:=fun b hb _=>by
  show (w.heap.push _)[b]? = _
  rw [Array.getElem?_push,if_neg (by omega)]
 have how:∀ b,(R.put h.nx w.heap.size).ow h.nx (.map ks vk []) b->R.ow h.nx (h.at h.nx) b ∨ w.heap.size<=b:=fun b hb=>by
  simp [Rn.ow,Rn.put] at hb
  omega
 refine ⟨.map (some w.heap.size),R.put h.nx w.heap.size,w.alloc (.map #[] 0),.inl ?_,?_,?_,⟨_,by simp [Rn.put],rfl⟩⟩
 ·unfold execOp
  rw [hop]
  simp only [Option.map_none,Instr.makeMap]
  rfl
 ·rw [VH.at_new]
  refine Nxt.step (by simp) hle (fun n h'=>?_) (fun n _=>rfl) hold how (by simp) (fun L v h1 h2=>?_) (by simp) rfl rfl rfl
  ·have h:n ≠ h.nx:=h'.elim id (fun hf h'=>by subst h'; exact hf hfree)
   simp [Rn.put,h]
  ·rw [show (R.put h.nx w.heap.size).vec h.nx L=R.vec h.nx L from rfl,h1] at h2; cases h2
 ·rw [VH.at_new]
  refine e.step (by simp) hle (fun n h=>by simp [Rn.put,h]) (fun n _=>rfl) hold how (by simp) (by simp) (by simp) (by simp) (by simp) (fun ks' vk' es' he=>?_)
  cases he
  refine ⟨⟨w.heap.size,#[],0,by simp [Rn.put],e.base,?_,rfl⟩,by simp⟩
  show (w.heap.push _)[w.heap.size]? = _
  simp
theorem run_lenM {c:Call} {t:Slots} {h:VH} {n:Nat} {ty kt et:TypeId} {ks:List PK} {vk:PK} {es:List (List Int × Int)} (hc:c.callee=.builtin .len) (ha:c.args.toList.map (evO t)=[.mp n]) (hty:c.argTypes.toList=[ty]) (hn:h.at n=.map ks vk es) (hu:P.underlying ty=some (.map kt et)) :
  RunP P (.call c) t h (.int .i64 (es.length:Nat)):=by
 intro o hop B R a w e ht
 have hargs:=evL_rel ht c.args.toList
 rw [ha] at hargs
 obtain ⟨y,ys,h1,h2,h3⟩:=hargs
 obtain ⟨b,hb,rfl⟩:=h1
 simp only [VRelL] at h2
 subst h2
 obtain ⟨ents,clock,_,g2,g3⟩:=(e.map n ks vk es hn).get hb
 have hlen:ents.size=es.length:=by have:=congrArg List.length g3; simpa using this
 refine ⟨.int .i64 (es.length:Nat),?_,rfl⟩
 unfold execOp
 rw [hop]
 have ha2:c.args.map a.eval = #[.map (some b)]:=by
  apply Array.ext'
  rw [Array.toList_map,h3]
 have ht2:c.argTypes = #[ty]:=by
  apply Array.ext'
  rw [hty]
 simp only [resolve,hc,Sem.run_bind,Sem.run_pure,Result.andThen_ok,invoke,builtin,Builtin.len_,ha2,ht2]
 simp only [List.getElem?_toArray,List.getElem?_cons_zero,Sem.run_bind,run_und hu,Result.andThen_ok,run_mapObj g2,Sem.run_pure]
 rw [hlen]
 rfl
end
end Go.Sx
