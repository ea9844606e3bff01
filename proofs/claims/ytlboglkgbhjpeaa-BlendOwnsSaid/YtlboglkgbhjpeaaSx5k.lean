/- 'make' of a list; lists told as data ahead of an operation. -/
import Derived.Test.YtlboglkgbhjpeaaSx5t
import Derived.Laws.MakeOwn
namespace Go.Sx
open Go
theorem range_rep {x:Value} {f:Nat->Value}:∀ n:Nat,(∀ i,i<n->f i=x)->(List.range n).map f=List.replicate n x:=fun n h=>by
 refine List.ext_getElem (by simp) (fun i h1 h2=>?_)
 simp at h1
 simp [h i h1]
theorem made_rep {s:Nat} {x:Value} (hs:1<=s) (n:Nat):madeCells (List.replicate s x).toArray n=(List.replicate n x).toArray:=by
 unfold madeCells
 apply Array.ext'
 simp only [Array.toList_map,Array.toList_range]
 refine range_rep n (fun i _=>?_)
 have hi:i % s<s:=Nat.mod_lt _ hs
 rw [List.size_toArray,List.length_replicate]
 rw [getElem!_pos _ _ (by simpa using hi)]
 simp
theorem ofS_zero {v:Value} {n:Int} (h:ofS v=.int .i64 n):v=.int .i64 n:=by
 unfold ofS at h
 split at h <;> first | (injection h with h1 h2; subst h1; subst h2; rfl) | cases h
theorem zerosB_rep:∀ {l:List Value} {s:Nat},zerosB (l.map ofS) s=true->l=List.replicate s (.int .i64 0)
 | [],0,_=>rfl
 | [],_+1,h=>by simp [zerosB] at h
 | v::r,s,h=>by
  rw [List.map_cons] at h
  cases hv:ofS v <;> rw [hv] at h <;> try (simp [zerosB] at h; done)
  rename_i k n
  cases s with
  | zero=>cases k <;> simp [zerosB] at h
  | succ s=>
   cases k <;> simp [zerosB] at h
   obtain ⟨rfl,h⟩:=h
   rw [ofS_zero hv,zerosB_rep h]
   rfl
theorem famL_zero (m:Nat):famL m (fun _=>0)=List.replicate m (.int .i64 0):=by
 unfold famL
 refine List.ext_getElem (by simp) (fun i h1 h2=>by simp)
section
variable {P:Program}
theorem tyI_info {t:TypeId} {agg:Bool} {s:Nat} (h:tyI P t=some (agg,s)) {i:TypeInfo} (hi:P.info? t=some i):i.size=s:=by
 unfold tyI at h
 rw [hi] at h
 split at h <;> simp at h <;> simp_all
theorem tyZ_info {t:TypeId} {z:List VV} (h:tyZ P t=some z) {i:TypeInfo} (hi:P.info? t=some i):∃ zv,i.zero=some zv/\z=zv.cells.toList.map ofS:=by
 unfold tyZ at h
 rw [hi] at h
 dsimp only at h
 cases hz:i.zero with
 | none=>rw [hz] at h; cases h
 | some zv=>rw [hz] at h; exact ⟨zv,rfl,by simpa using h.symm⟩
theorem make_run {w:World} {ty e:TypeId} {i:TypeInfo} {zv:Value} {s by':Nat} (hu:P.underlying ty=some (.slice e)) (hi:P.info? e=some i) (hz:i.zero=some zv) (hs:i.size=s) (hby:i.bytes=by') (h1:1<=s)
  {kl kc:IntKind} {l c:Int} (hl:0<=l) (hc:c=l) (hroom:roomB l.toNat by'=true) {x:Value} (hx:zv.cells=(List.replicate s x).toArray) :
  (Instr.makeSlice ty (.int kl l) (.int kc c)).run P w=.ok (.slice (some ⟨w.heap.size,0,none⟩) l.toNat l.toNat) (w.alloc (.cells (List.replicate (l.toNat*s) x).toArray e)):=by
 subst hc
 simp only [roomB,Bool.and_eq_true] at hroom
 have r1:=Nat.le_of_ble_eq_true hroom.1
 have r2:=Nat.le_of_ble_eq_true hroom.2
 have r3:((i.bytes:Nat):Int)*c<=281474976710656:=by
  have:((c.toNat*by':Nat):Int)<=140737488355328:=by omega
  rw [Int.natCast_mul,Int.toNat_of_nonneg hl,Int.mul_comm] at this
  rw [hby]
  omega
 rw [run_make w ty e i zv hu hi hz kl kc c c hl (Int.le_refl _) r3 (by omega),hs,hx,made_rep h1]
theorem alloc_cs {ty:TypeId} {cs:List VV} {xs:List Value} {y:VB} (hy:y.cs? = some (cs,ty)) {h:VH} {B:Nat} {R:Rn} {w:World} (e:Emb B R h.at w) (hx:VRelL R cs xs) :
  Nxt h.at R w (h.new y).at (R.put h.nx w.heap.size) (w.alloc (.cells xs.toArray ty))/\Emb B (R.put h.nx w.heap.size) (h.new y).at (w.alloc (.cells xs.toArray ty)):=by
 obtain ⟨_,h2,h3,_⟩:=new_runC (P:=default) (ty:=ty) hy e (x:=.agg xs.toArray) (by simpa [Value.cells] using hx)
 have e2:(Value.agg xs.toArray).cells=xs.toArray:=by simp [Value.cells]
 rw [e2] at h2 h3
 exact ⟨h2,h3⟩
section
variable {ty e:TypeId} {l c:Operand} {i:TypeInfo} {agg:Bool} {s by':Nat} {z:List VV} {t:Slots} {h:VH} {kl kc:IntKind} {m m':Int}
theorem mk_exec (hl:evO t l=.int kl m) (hc:evO t c=.int kc m') (hu:P.underlying ty=some (.slice e)) (hi:P.info? e=some i) (hs:tyI P e=some (agg,s)) (hz:tyZ P e=some z)
  (hby:i.bytes=by') (h1:1<=s) (h0:0<=m) (hm:m'=m) (hroom:roomB m.toNat by'=true) (o:Oper) (hop:o.op=.makeSlice ty l c) (R:Rn) (a:Act) (w:World) (ht:TRel R t a)
  {x:Value} (hx:∀ zv:Value,i.zero=some zv->z=zv.cells.toList.map ofS->zv.cells=(List.replicate s x).toArray) :
  (execOp a.eval o).run P w=.ok (.value (.slice (some ⟨w.heap.size,0,none⟩) m.toNat m.toNat)) (w.alloc (.cells (List.replicate (m.toNat*s) x).toArray e)):=by
 obtain ⟨zv,hzv,hz2⟩:=tyZ_info hz hi
 have r1:=evO_rel ht l
 have r2:=evO_rel ht c
 rw [hl] at r1
 rw [hc] at r2
 simp only [VRel] at r1 r2
 have hr:=make_run (P:=P) (w:=w) hu hi hzv (tyI_info hs hi) hby h1 (kl:=kl) (kc:=kc) h0 hm hroom (hx zv hzv hz2)
 unfold execOp
 rw [hop]
 simp [r1,r2,hr]
theorem run_mkF (hl:evO t l=.int kl m) (hc:evO t c=.int kc m') (hu:P.underlying ty=some (.slice e)) (hi:P.info? e=some i) (hs:tyI P e=some (agg,s)) (hz:tyZ P e=some z)
  (hby:i.bytes=by') (h1:1<=s) (h0:0<=m) (hm:m'=m) (hroom:roomB m.toNat by'=true) (hzs:zerosB z s=true) :
  RunV P (.makeSlice ty l c) t h (.slice (.fa h.nx 0 0) m.toNat m.toNat) (h.new (.fam [] (m.toNat*s) (fun _=>0) e)):=by
 intro o hop B R a w em ht
 have hrun:=mk_exec hl hc hu hi hs hz hby h1 h0 hm hroom o hop R a w ht (x:=.int .i64 0) (fun zv _ hzv=>by
  rw [hzv] at hzs
  apply Array.ext'
  simpa using zerosB_rep hzs)
 obtain ⟨n1,e1⟩:=alloc_cs (ty:=e) (cs:=famL (m.toNat*s) (fun _=>0)) (y:=.fam [] (m.toNat*s) (fun _=>0) e) rfl em (xs:=List.replicate (m.toNat*s) (.int .i64 0)) (by
  rw [famL_zero]
  exact VRelL.replicate (v:=.int .i64 0) rfl _)
 exact ⟨_,_,_,.inl hrun,n1,e1,Nat.le_refl _,_,.inr ⟨_,rfl,_,by simp [Rn.put],rfl⟩,rfl⟩
theorem one_rep {v:VV} {zv:Value} (h:[v]=zv.cells.toList.map ofS):∃ x,zv.cells=(List.replicate 1 x).toArray/\v=ofS x:=by
 cases hl:zv.cells.toList with
 | nil=>rw [hl] at h; cases h
 | cons x r=>
  rw [hl] at h
  cases r with
  | nil=>
   injection h with h1 h2
   exact ⟨x,Array.ext' hl,h1⟩
  | cons _ _=>simp at h
theorem run_mkC {v:VV} (hl:evO t l=.int kl m) (hc:evO t c=.int kc m') (hu:P.underlying ty=some (.slice e)) (hi:P.info? e=some i) (hs:tyI P e=some (agg,1)) (hz:tyZ P e=some [v])
  (hby:i.bytes=by') (h0:0<=m) (hm:m'=m) (hroom:roomB m.toNat by'=true) :
  RunV P (.makeSlice ty l c) t h (.slice (.own h.nx 0) m.toNat m.toNat) (h.new (.cells (List.replicate m.toNat v) e)):=by
 intro o hop B R a w em ht
 obtain ⟨zv,hzv,hz2⟩:=tyZ_info hz hi
 obtain ⟨x,hx1,rfl⟩:=one_rep hz2
 have hrun:=mk_exec hl hc hu hi hs hz hby (Nat.le_refl 1) h0 hm hroom o hop R a w ht (x:=x) (fun zv' h1 _=>by rw [hzv] at h1; cases h1; exact hx1)
 rw [Nat.mul_one] at hrun
 obtain ⟨n1,e1⟩:=alloc_cs (ty:=e) (cs:=List.replicate m.toNat (ofS x)) (y:=.cells (List.replicate m.toNat (ofS x)) e) rfl em (xs:=List.replicate m.toNat x) (VRelL.replicate (ofS_rel R x) _)
 exact ⟨_,_,_,.inl hrun,n1,e1,Nat.le_refl _,_,.inr ⟨_,rfl,_,by simp [Rn.put],rfl⟩,rfl⟩
theorem run_mkV {v:VV} (hl:evO t l=.int kl m) (hc:evO t c=.int kc m') (hu:P.underlying ty=some (.slice e)) (hi:P.info? e=some i) (hs:tyI P e=some (agg,1)) (hz:tyZ P e=some [v])
  (hby:i.bytes=by') (h0:0<=m) (hm:m'=m) (hroom:roomB m.toNat by'=true) (hb:v.bel 0=true) (ho:v.one=true) :
  RunV P (.makeSlice ty l c) t h (.sl h.nx m.toNat) (h.new (.vec m.toNat (fun _=>[v]) 1 e)):=by
 intro o hop B R a w em ht
 obtain ⟨zv,hzv,hz2⟩:=tyZ_info hz hi
 obtain ⟨x,hx1,rfl⟩:=one_rep hz2
 have hrun:=mk_exec hl hc hu hi hs hz hby (Nat.le_refl 1) h0 hm hroom o hop R a w ht (x:=x) (fun zv' h1 _=>by rw [hzv] at h1; cases h1; exact hx1)
 rw [Nat.mul_one] at hrun
 generalize hlen:m.toNat=len at hrun hroom ⊢
 have hfree:=VH.at_nx h
 have hvn:∀ L,R.vec h.nx L=none:=em.fvec h.nx hfree
 have hxl:(List.replicate len x).length=len*1:=by simp
 have hle:R.le (R.putV h.nx len (.slice (some ⟨w.heap.size,0,none⟩) len len)):=le_putV (.inl (hvn len))
 have hsame:∀ c,c<w.heap.size->¬ R.ow h.nx (h.at h.nx) c->(w.alloc (.cells (List.replicate len x).toArray e)).heap[c]? = w.heap[c]?:=fun c hc _=>heap_alloc_old w _ hc
 have how:∀ c,(R.putV h.nx len (.slice (some ⟨w.heap.size,0,none⟩) len len)).ow h.nx (.vec len (fun _=>[ofS x]) 1 e) c->R.ow h.nx (h.at h.nx) c ∨ w.heap.size<=c:=fun c hc=>by
  have hc:((R.putV h.nx len (.slice (some ⟨w.heap.size,0,none⟩) len len)).vec h.nx len).bind Value.ownBlock=some c:=hc
  rw [putV_same] at hc
  simp [Value.ownBlock] at hc
  omega
 have hvec:VecOk B (R.putV h.nx len (.slice (some ⟨w.heap.size,0,none⟩) len len)) h.nx (w.alloc (.cells (List.replicate len x).toArray e)) len (fun _=>[ofS x]) 1 e:=by
  refine ⟨⟨_,List.replicate len x,putV_same,⟨hxl,.inr ⟨w.heap.size,len,(List.replicate len x).toArray,rfl,em.base,heap_alloc_new w _,Nat.le_refl _,?_,by simp,by simp⟩⟩,fun i hi=>⟨?_,by simp [ho]⟩⟩,fun L' hL=>?_⟩
  ·simp only [roomB,Bool.and_eq_true] at hroom
   have r1:=Nat.le_of_ble_eq_true hroom.1
   simp only [maxLen]; omega
  ·have e:((List.replicate len x).drop (i*1)).take 1=[x]:=by
    rw [Nat.mul_one,List.drop_replicate,List.take_replicate,Nat.min_eq_left (by omega)]
    rfl
   rw [e]
   exact bel0_noL _ _ (by simp [belL,hb]) (show VRelL _ [ofS x] [x] from ⟨x,[],ofS_rel _ x,rfl,rfl⟩)
  ·simp only [Rn.putV]
   rw [if_neg (by omega)]
   exact hvn L'
 refine ⟨_,R.putV h.nx len (.slice (some ⟨w.heap.size,0,none⟩) len len),_,.inl hrun,?_,?_,putV_same,_,_,rfl⟩
 ·rw [VH.at_new]
  exact Nxt.step (by simp) hle (fun _ _=>rfl) (fun m hm=>putV_ne hm) hsame how (by simp) (fun L v _ _=>.inl hfree) (fun L _=>.inl hfree) rfl rfl rfl
 ·rw [VH.at_new]
  exact em.step (by simp) hle (fun _ _=>rfl) (fun m hm=>putV_ne hm) hsame how (by simp) (by simp) (by simp) (by simp) (fun L g s t hh=>by cases hh; exact hvec)
theorem isRow_spec (h:isRow P e=true):tyZ P e=some [.nils]:=by
 unfold isRow at h
 split at h
 ·assumption
 ·cases h
theorem run_mkM (hl:evO t l=.int kl m) (hc:evO t c=.int kc m') (hu:P.underlying ty=some (.slice e)) (hi:P.info? e=some i) (hs:tyI P e=some (agg,1)) (hrow:isRow P e=true)
  (hby:i.bytes=by') (h0:0<=m) (hm:m'=m) (hroom:roomB m.toNat by'=true) (g:Nat->Nat->Int) (te:TypeId) :
  RunV P (.makeSlice ty l c) t h (.slice (.rw h.nx 0 0) m.toNat m.toNat) (h.new (.mat m.toNat 0 0 g e te)):=by
 intro o hop B R a w em ht
 obtain ⟨zv,hzv,hz2⟩:=tyZ_info (isRow_spec hrow) hi
 obtain ⟨x,hx1,hx2⟩:=one_rep hz2
 have hxn:x=.slice none 0 0:=by
  have:=ofS_rel R x
  rw [<- hx2] at this
  exact this
 subst hxn
 have hrun:=mk_exec hl hc hu hi hs (isRow_spec hrow) hby (Nat.le_refl 1) h0 hm hroom o hop R a w ht (x:=.slice none 0 0) (fun zv' h1 _=>by rw [hzv] at h1; cases h1; exact hx1)
 rw [Nat.mul_one] at hrun
 generalize hlen:m.toNat=len at hrun hroom ⊢
 have hfree:=VH.at_nx h
 have hvn:∀ L,R.vec h.nx L=none:=em.fvec h.nx hfree
 have hle:R.le (R.putV h.nx 0 (.slice (some ⟨w.heap.size,0,none⟩) len len)):=le_putV (.inl (hvn 0))
 have hsame:∀ c,c<w.heap.size->¬ R.ow h.nx (h.at h.nx) c->(w.alloc (.cells (List.replicate len (Value.slice none 0 0)).toArray e)).heap[c]? = w.heap[c]?:=fun c hc _=>heap_alloc_old w _ hc
 have hlast:∀ L',0<L'->(R.putV h.nx 0 (.slice (some ⟨w.heap.size,0,none⟩) len len)).vec h.nx L'=none:=fun L' hL=>by
  simp only [Rn.putV]
  rw [if_neg (by omega)]
  exact hvn L'
 have how:∀ c,(R.putV h.nx 0 (.slice (some ⟨w.heap.size,0,none⟩) len len)).ow h.nx (.mat len 0 0 g e te) c->R.ow h.nx (h.at h.nx) c ∨ w.heap.size<=c:=fun c hc=>by
  obtain ⟨j,v,hj,hv,ho⟩:=hc
  obtain rfl:j=0:=by omega
  rw [putV_same] at hv
  cases hv
  simp [Value.ownBlock] at ho
  omega
 have hmat:MatOk B (R.putV h.nx 0 (.slice (some ⟨w.heap.size,0,none⟩) len len)) h.nx (w.alloc (.cells (List.replicate len (Value.slice none 0 0)).toArray e)) len 0 0 g e te:=by
  refine ⟨Nat.zero_le _,⟨w.heap.size,_,putV_same,em.base,heap_alloc_new w _,List.length_replicate,fun i hi=>absurd hi (Nat.not_lt_zero _),fun i _ hi=>?_⟩,fun i hi=>absurd hi (Nat.not_lt_zero _),fun i j u v b hi hj _ _ _ _=>by omega,hlast⟩
  rw [List.getElem?_replicate,if_pos hi]
 refine ⟨_,R.putV h.nx 0 (.slice (some ⟨w.heap.size,0,none⟩) len len),_,.inl hrun,?_,?_,Nat.le_refl _,_,.inr ⟨_,rfl,_,w.heap.size,putV_same,rfl,rfl⟩,rfl⟩
 ·rw [VH.at_new]
  exact Nxt.step (by simp) hle (fun _ _=>rfl) (fun m hm=>putV_ne hm) hsame how (by simp) (fun L v _ _=>.inl hfree) (fun L _=>.inl hfree) rfl rfl rfl
 ·rw [VH.at_new]
  exact em.step (by simp) hle (fun _ _=>rfl) (fun m hm=>putV_ne hm) hsame how (by simp) (by simp) (by simp) (by simp) (by simp) (by simp) rfl (fun _ _ _ _ _ _ hh=>by cases hh; exact hmat)
end
theorem mkSl_sound {ty:TypeId} {l c:Operand} {t:Slots} {h:VH} {K:VV->VH->Prop} {lock:Nat} (hK:mkSl P ty (evO t l) (evO t c) h K):∃ v h',K v h'/\LockP lock h h'/\RunV P (.makeSlice ty l c) t h v h':=by
 unfold mkSl at hK
 split at hK
 ·rename_i kl m kc m' e hl hc hu
  split at hK
  ·rename_i i agg s z hi hs hz
   rw [foN_eq,foN_eq] at hK
   obtain ⟨h1,hKa⟩:=cond_f hK
   clear hK
   simp only [Bool.and_eq_true] at h1
   have h1s:=Nat.le_of_ble_eq_true h1.1
   have h1z:=Nat.eq_of_beq_eq_true h1.2
   obtain ⟨h2,hKb⟩:=cond_f hKa
   clear hKa
   simp only [decide_eq_true_eq] at h2
   obtain ⟨h3,hK⟩:=cond_f hKb
   clear hKb
   cases hzs:zerosB z s with
   | true=>
    rw [hzs] at hK
    simp only [cond_true] at hK
    cases h with
    | mk nx bs=>
     simp only [foN_eq] at hK
     exact ⟨_,(VH.mk nx bs).new _,hK,lockP_new _ _ _,run_mkF hl hc hu hi hs hz rfl h1s h2.1 h2.2 h3 hzs⟩
   | false=>
    rw [hzs] at hK
    simp only [cond_false] at hK
    revert hK
    split
    ·rename_i v nx bs
     intro hK
     have hs1:s=1:=h1z.symm
     subst hs1
     cases ha:arrEl P e with
     | true=>
      rw [ha] at hK
      simp only [cond_true,foN_eq,foL_eq] at hK
      exact ⟨_,(VH.mk nx bs).new _,hK,lockP_new _ _ _,run_mkC hl hc hu hi hs hz rfl h2.1 h2.2 h3⟩
     | false=>
      rw [ha] at hK
      simp only [cond_false] at hK
      cases hr:isRow P e with
      | true=>
       rw [hr] at hK
       simp only [cond_true,foN_eq] at hK
       exact ⟨_,(VH.mk nx bs).new _,hK,lockP_new _ _ _,run_mkM hl hc hu hi hs hr rfl h2.1 h2.2 h3 _ _⟩
      | false=>
      rw [hr] at hK
      simp only [cond_false] at hK
      obtain ⟨h4,hK⟩:=cond_f hK
      simp only [Bool.and_eq_true] at h4
      simp only [foN_eq] at hK
      exact ⟨_,(VH.mk nx bs).new _,hK,lockP_new _ _ _,run_mkV hl hc hu hi hs hz rfl h2.1 h2.2 h3 h4.1 h4.2⟩
    ·exact fun hK=>hK.elim
  ·exact hK.elim
 ·exact hK.elim
def ToldT (t:Slots) (h:VH) (t':Slots) (h':VH):Prop:=∀ (B:Nat) (R:Rn) (a:Act) (w:World),Emb B R h.at w->TRel R t a->∃ R',Nxt h.at R w h'.at R' w/\Emb B R' h'.at w/\TRel R' t' a
theorem ToldT.refl (t:Slots) (h:VH):ToldT t h t h:=fun _ R _ _ e ht=>⟨R,Nxt.refl _ _ _ e.fresh,e,ht⟩
theorem ToldT.trans {t t1 t2:Slots} {h h1 h2:VH} (a:ToldT t h t1 h1) (b:ToldT t1 h1 t2 h2):ToldT t h t2 h2:=fun B R ac w e ht=>by
 obtain ⟨R1,n1,e1,ht1⟩:=a B R ac w e ht
 obtain ⟨R2,n2,e2,ht2⟩:=b B R1 ac w e1 ht1
 exact ⟨R2,n1.trans n2,e2,ht2⟩
theorem told_one {t:Slots} {h:VH} {d b L s:Nat} {g:Nat->List VV} {ty:TypeId} (hd:look t d=.sl b L) (hb:h.at b=.vec L g s ty):ToldT t h ((d,.tl L s g)::t) (h.put b .gone):=fun B R a w e ht=>by
 obtain ⟨R',hle,e',n',hv⟩:=emb_frzV e hb
 have hat:(h.put b .gone).at=upd h.at b .gone:=VH.at_put h b .gone (by rw [hb]; simp)
 refine ⟨R',by rw [hat]; exact n',by rw [hat]; exact e',fun x=>?_⟩
 show VRel R' (bif Nat.beq d x then VV.tl L s g else look t x) _
 by_cases hx:d=x
 ·subst hx
  rw [Nat.beq_refl]
  have:=ht d
  rw [hd] at this
  exact hv _ this
 ·rw [beq_f hx]
  exact VRel.mono hle _ _ (ht x)
theorem tellL_sound {lock:Nat}:∀ (l:List Operand) (t:Slots) (h:VH) (K:Slots->VH->Prop),tellL lock l t h K->∃ t' h',K t' h'/\LockP lock h h'/\ToldT t h t' h':=by
 intro l
 induction l with
 | nil=>exact fun t h K hK=>⟨t,h,hK,lockP_refl _ _,ToldT.refl _ _⟩
 | cons o r ih=>
  intro t h K hK
  cases o with
  | tmp d=>
   unfold tellL at hK
   split at hK
   ·rename_i b L nx bs hd
    split at hK
    ·rename_i L' g s ty hb
     rcases Bool.eq_false_or_eq_true (Nat.ble lock b && Nat.beq L' L && Nat.ble 1 s && Nat.ble (occN b [] t) 1) with hc | hc
     ·rw [hc] at hK
      simp only [cond_true] at hK
      simp only [Bool.and_eq_true] at hc
      have hL:=Nat.eq_of_beq_eq_true hc.1.1.2
      subst hL
      have hl:=Nat.le_of_ble_eq_true hc.1.1.1
      obtain ⟨t',h',k1,k2,k3⟩:=ih _ _ K hK
      have hlk:LockP lock (VH.mk nx bs) ((VH.mk nx bs).put b .gone):=fun n hn hf=>by
       rw [VH.at_put _ b .gone (by rw [hb]; simp)]
       unfold upd
       rw [if_neg (by omega)]
      exact ⟨t',h',k1,lockP_trans hlk k2,(told_one hd hb).trans k3⟩
     ·rw [hc] at hK
      simp only [cond_false] at hK
      exact ih _ _ K hK
    ·exact ih _ _ K hK
   ·exact ih _ _ K hK
  | _=>exact ih _ _ K hK
theorem tellO_sound {lock:Nat} {op:Op} {t:Slots} {h:VH} {K:Slots->VH->Prop} (hK:tellO P lock op t h K):∃ t' h',K t' h'/\LockP lock h h'/\ToldT t h t' h':=by
 unfold tellO at hK
 split at hK
 ·rename_i ty _ parts
  cases hs:isSlc P ty with
  | true=>rw [hs] at hK; exact tellL_sound _ _ _ _ hK
  | false=>rw [hs] at hK; exact ⟨t,h,hK,lockP_refl _ _,ToldT.refl _ _⟩
 ·split at hK
  ·exact tellL_sound _ _ _ _ hK
  ·exact ⟨t,h,hK,lockP_refl _ _,ToldT.refl _ _⟩
 ·exact ⟨t,h,hK,lockP_refl _ _,ToldT.refl _ _⟩
theorem ToldT.opV {op:Op} {t t':Slots} {h h' h2:VH} {v:VV} (ht:ToldT t h t' h') (ho:OpV P op t' h' v h2):OpV P op t h v h2:=fun F hF o hop B R a w e htr next Q hn=>by
 obtain ⟨R',n',e',ht'⟩:=ht B R a w e htr
 exact ho F hF o hop B R' a w e' ht' next Q (fun x R2 w2 n2 e2 hv=>hn x R2 w2 (n'.trans n2) e2 hv)
theorem ToldT.opX {op:Op} {t t':Slots} {h h' h2:VH} {v:VV} (ht:ToldT t h t' h') (ho:OpX P op t' h' v h2):OpX P op t h v h2:=fun F hF o hop B R a w e htr next Q hn=>by
 obtain ⟨R',n',e',ht'⟩:=ht B R a w e htr
 exact ho F hF o hop B R' a w e' ht' next Q (fun x R2 w2 n2 e2 hv=>hn x R2 w2 (n'.trans n2) e2 hv)
end
end Go.Sx
