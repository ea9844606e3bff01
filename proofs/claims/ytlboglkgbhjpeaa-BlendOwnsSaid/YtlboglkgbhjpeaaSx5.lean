/- The evaluator's operations are sound, third part. -/
import Derived.Test.YtlboglkgbhjpeaaSx4
import Derived.ChangeKeysEq
namespace Go.Sx
open Go
section
variable {P:Program}
theorem repL_rel {R:Rn} {z:List VV} {zs:List Value} (h:VRelL R z zs):∀ n,VRelL R (repL z n) ((List.replicate n zs).flatten)
 | 0=>rfl
 | n+1=>by simpa [repL,List.replicate_succ] using h.append (repL_rel h n)
theorem flat_get (zs:List Value) (hz:0<zs.length):∀ (n i:Nat),i<n*zs.length->((List.replicate n zs).flatten)[i]? = zs[i % zs.length]?
 | 0,i,h=>by simp at h
 | n+1,i,h=>by
  rw [List.replicate_succ,List.flatten_cons]
  by_cases hi:i<zs.length
  ·rw [List.getElem?_append_left hi,Nat.mod_eq_of_lt hi]
  ·rw [List.getElem?_append_right (by omega),flat_get zs hz n (i - zs.length) (by rw [Nat.add_mul] at h; omega)]
   rw [Nat.mod_eq_sub_mod (a:=i) (by omega)]
theorem flat_len (zs:List Value):∀ n,((List.replicate n zs).flatten).length=n*zs.length
 | 0=>by simp
 | n+1=>by rw [List.replicate_succ,List.flatten_cons,List.length_append,flat_len zs n,Nat.add_mul]; omega
theorem range_map (zv:Array Value) (hz:0<zv.size) (n:Nat):((Array.range (n*zv.size)).map (fun i=>zv[i % zv.size]!))=((List.replicate n zv.toList).flatten).toArray:=by
 apply Array.ext'
 apply List.ext_getElem?
 intro i
 by_cases hi:i<n*zv.size
 ·have:=flat_get zv.toList (by simpa using hz) n i (by simpa using hi)
  simp only [Array.length_toList] at this
  rw [List.toList_toArray,this]
  have hm:i % zv.size<zv.size:=Nat.mod_lt _ hz
  simp [hi,hm]
 ·have:=flat_len zv.toList n
  rw [List.toList_toArray,List.getElem?_eq_none (by simpa using hi),List.getElem?_eq_none (by rw [this]; simpa using hi)]
theorem buildSlice_core {ty e:TypeId} {len s:Nat} {agg:Bool} {z cs:List VV} {parts:Array (Nat × Operand)} {t:Slots} (hu:P.underlying ty=some (.slice e)) (hs:tyI P e=some (agg,s)) (hz:tyZ P e=some z)
  (h1:len*s<=16777216) (h3:1<=s) (h4:z.length=s)
  (hb:fillL (fun i=>some (i*s,s)) (repL z len) (parts.toList.map fun (i,x)=>(i,evO t x))=some cs) (o:Oper) (hop:o.op=.buildSlice ty len parts) (R:Rn) (a:Act) (w:World) (ht:TRel R t a) :
  ∃ xs':List Value,VRelL R cs xs'/\(execOp a.eval o).run P w=.ok (.value (.slice (some ⟨w.heap.size,0,none⟩) len len)) (w.alloc (.cells xs'.toArray e)):=by
 have hm1:(parts.toList.map fun (i,x)=>(i,evO t x)).map (·.1)=(parts.toList.map fun (i,x)=>(i,a.eval x)).map (·.1):=by simp [Function.comp_def]
 have hm2:VRelL R ((parts.toList.map fun (i,x)=>(i,evO t x)).map (·.2)) ((parts.toList.map fun (i,x)=>(i,a.eval x)).map (·.2)):=by
  have:=evL_rel (R:=R) ht (parts.toList.map (·.2))
  simpa [Function.comp_def] using this
 obtain ⟨zv,hzr,rfl⟩:=tyZ_spec (w:=w) hz
 simp only [List.length_map,Array.length_toList] at h4
 obtain ⟨xs',f1,f2⟩:=fill_sound (R:=R) _ _ _ _ _ hm1 hm2 (repL_rel (ofSL_rel R zv.cells.toList) len) hb
 refine ⟨xs',f2,?_⟩
 unfold execOp
 rw [hop]
 have hle:¬ (len*s > 2 ^ 24):=by
  have:(2:Nat) ^ 24=16777216:=by decide
  omega
 by_cases hne:len*s=0
 ·have hl:len=0:=by rcases Nat.mul_eq_zero.1 hne with h | h <;> omega
  subst hl
  have e0:((Array.range (0*s)).map (fun i=>(#[]:Array Value)[i % (#[]:Array Value).size]!)) = #[]:=by simp
  have f1':Instr.fill (fun i=>some (i*s,s)) ((Array.range (0*s)).map (fun i=>(#[]:Array Value)[i % (#[]:Array Value).size]!)) (parts.map fun (i,x)=>(i,a.eval x)).toList=some xs'.toArray:=by
   rw [e0]; simpa using f1
  simp only [Instr.buildSlice,Sem.run_bind,run_und hu,Result.andThen_ok,(tyI_spec (w:=w) hs).2,if_neg hle,Sem.run_pure,if_pos hne]
  rw [f1']
  simp [newRow]
 ·have f1':Instr.fill (fun i=>some (i*s,s)) ((Array.range (len*s)).map (fun i=>zv.cells[i % zv.cells.size]!)) (parts.map fun (i,x)=>(i,a.eval x)).toList=some xs'.toArray:=by
   rw [<- h4,range_map zv.cells (by omega) len,h4]
   simpa using f1
  simp only [Instr.buildSlice,Sem.run_bind,run_und hu,Result.andThen_ok,(tyI_spec (w:=w) hs).2,if_neg hle,Sem.run_pure,if_neg hne,hzr]
  rw [f1']
  simp [newRow]
theorem run_buildSlice {ty e:TypeId} {len s:Nat} {agg:Bool} {z cs:List VV} {parts:Array (Nat × Operand)} {t:Slots} (hu:P.underlying ty=some (.slice e)) (hs:tyI P e=some (agg,s)) (hz:tyZ P e=some z)
  (h1:len*s<=16777216) (h3:1<=s) (h4:z.length=s)
  (hb:fillL (fun i=>some (i*s,s)) (repL z len) (parts.toList.map fun (i,x)=>(i,evO t x))=some cs) (h:VH) :
  RunV P (.buildSlice ty len parts) t h (.slice (.own h.nx 0) len len) (h.new (.cells cs e)):=by
 intro o hop B R a w em ht
 obtain ⟨xs',f2,hrun⟩:=buildSlice_core hu hs hz h1 h3 h4 hb o hop R a w ht
 obtain ⟨e1,n1⟩:=em.alloc (VH.at_nx h) (t:=e) f2
 rw [<- VH.at_new] at e1 n1
 exact ⟨.slice (some ⟨w.heap.size,0,none⟩) len len,_,_,.inl hrun,n1,e1,Nat.le_refl _,_,.inr ⟨_,rfl,w.heap.size,by simp [Rn.put],rfl⟩,rfl⟩
theorem inK_wrap {k:IntKind} {n:Int} (h:inK k n=true):k.wrap n=n:=by
 unfold IntKind.wrap
 cases k <;> simp only [inK,inS_iff,inU_iff] at h <;> simp [IntKind.bits,IntKind.signed] <;> omega
theorem guard_pass {op:BinOp} {ty:TypeId} {x y:Operand} {u v:Value} {w:World} (h1:∀ a,u ≠ .agg a) (h2:u ≠ .nilIface):(eqGuard op ty x y u v).run P w=.ok () w:=by
 cases op <;> first | rfl | (cases u <;> first | rfl | exact (h1 _ rfl).elim | exact (h2 rfl).elim | (cases v <;> rfl))
theorem run_bin {op:BinOp} {ty yt:TypeId} {x y:Operand} {t:Slots} {h:VH} {v:VV}
  (H:∀ (B:Nat) (R:Rn) (a:Act) (w:World),Emb B R h.at w->TRel R t a->∃ z,(eqGuard op ty x y (a.eval x) (a.eval y)).run P w=.ok () w/\(binOp op ty (a.eval x) (a.eval y)).run P w=.ok z w/\VRel R v z) :
  RunP P (.binOp op ty x y yt) t h v:=by
 intro o hop B R a w e ht
 obtain ⟨z,h1,h2,h3⟩:=H B R a w e ht
 refine ⟨z,?_,h3⟩
 unfold execOp
 rw [hop]
 simp [h1,h2]
theorem run_binI {op:BinOp} {ty yt:TypeId} {x y:Operand} {t:Slots} {h:VH} {v:VV} {k k':IntKind} {a b:Int} (hx:evO t x=.int k a) (hy:evO t y=.int k' b)
  (H:∀ (R:Rn) (w:World),∃ z,(binOp op ty (.int k a) (.int k' b)).run P w=.ok z w/\VRel R v z):RunP P (.binOp op ty x y yt) t h v:=by
 refine run_bin fun B R ac w e ht=>?_
 have r1:=evO_rel ht x
 have r2:=evO_rel ht y
 rw [hx] at r1
 rw [hy] at r2
 simp only [VRel] at r1 r2
 obtain ⟨z,h1,h2⟩:=H R w
 exact ⟨z,guard_pass (by rw [r1]; simp) (by rw [r1]; simp),by rw [r1,r2]; exact h1,h2⟩
theorem part_sound {R:Rn} {ty:TypeId} {cs:List VV} {xs:List Value} {off:Nat} {v:VV} (hx:VRelL R cs xs) (hp:partE P ty cs off=some v) (w:World):∃ x,(part ty xs.toArray off).run P w=.ok x w/\VRel R v x:=by
 unfold partE at hp
 split at hp
 ·rename_i s hs
  cases hb:Nat.ble (off+s) cs.length with
  | false=>rw [hb] at hp; cases hp
  | true=>
   rw [hb] at hp
   simp at hp
   subst hp
   obtain ⟨t1,t2⟩:=tyI_spec (w:=w) hs
   refine ⟨.agg (xs.toArray.extract off (off+s)),by simp [part,t1,t2],(xs.drop off).take s,(hx.drop off).take s,?_⟩
   congr 1
   apply Array.ext'
   simp
 ·rename_i s hs
  obtain ⟨x,h1,h2⟩:=hx.get off v hp
  obtain ⟨t1,t2⟩:=tyI_spec (w:=w) hs
  exact ⟨x,by simp [part,t1,h1],h2⟩
 ·cases hp
theorem eqF_sound {R:Rn} {d:Nat} {xs ys:List VV} {us vs:List Value} (hx:VRelL R xs us) (hy:VRelL R ys vs)
  (ih:∀ (ty:TypeId) (x y:VV) (u v:Value) (r:Bool) (w:World),VRel R x u->VRel R y v->eqT P d ty x y=some r->(Op.equalIn d ty u v).run P w=.ok r w) (w:World) :
  ∀ (fs:List Field) (r:Bool),eqF P (eqT P d) xs ys fs=some r->(Op.eqFields d us.toArray vs.toArray fs).run P w=.ok r w
 | [],r,h=>by simp [eqF] at h; subst h; simp [Op.eqFields]
 | f::fs,r,h=>by
  simp only [eqF] at h
  cases hb : (f.name == "_") with
  | true=>rw [hb] at h; cases h
  | false=>
   rw [hb] at h
   simp only [cond_false] at h
   split at h
   ·rename_i a b ha hb'
    split at h
    ·rename_i p q hp hq
     simp at h
     subst h
     obtain ⟨u,hu1,hu2⟩:=part_sound hx ha w
     obtain ⟨v,hv1,hv2⟩:=part_sound hy hb' w
     have h1:=ih f.type a b u v p w hu2 hv2 hp
     have h2:=eqF_sound hx hy ih w fs q hq
     have hne : f.name ≠ "_" := by simpa using hb
     simp only [Op.eqFields,if_pos hne,Sem.run_bind,hu1,Result.andThen_ok,hv1,h1]
     cases p
     ·simp
     ·simpa using h2
    ·cases h
   ·cases h
theorem eqI_sound {R:Rn} {d:Nat} {e:TypeId} {s:Nat} {xs ys:List VV} {us vs:List Value} (hx:VRelL R xs us) (hy:VRelL R ys vs)
  (ih:∀ (ty:TypeId) (x y:VV) (u v:Value) (r:Bool) (w:World),VRel R x u->VRel R y v->eqT P d ty x y=some r->(Op.equalIn d ty u v).run P w=.ok r w) (w:World) :
  ∀ (n j:Nat) (r:Bool),eqI P (eqT P d) e s xs ys n j=some r->(Op.eqItems d e s us.toArray vs.toArray (List.range' j n)).run P w=.ok r w
 | 0,j,r,h=>by simp [eqI] at h; subst h; simp [Op.eqItems]
 | n+1,j,r,h=>by
  simp only [eqI] at h
  split at h
  ·rename_i a b ha hb'
   split at h
   ·rename_i p q hp hq
    simp at h
    subst h
    obtain ⟨u,hu1,hu2⟩:=part_sound hx ha w
    obtain ⟨v,hv1,hv2⟩:=part_sound hy hb' w
    have h1:=ih e a b u v p w hu2 hv2 hp
    have h2:=eqI_sound hx hy ih w n (j+1) q hq
    simp only [List.range'_succ,Op.eqItems,Sem.run_bind,hu1,Result.andThen_ok,hv1,h1]
    cases p
    ·simp
    ·simpa using h2
   ·cases h
  ·cases h
theorem eqT_sound {R:Rn}:∀ (d:Nat) (ty:TypeId) (x y:VV) (u v:Value) (r:Bool) (w:World),VRel R x u->VRel R y v->eqT P d ty x y=some r->(Op.equalIn d ty u v).run P w=.ok r w
 | 0,_,_,_,_,_,_,_,_,_,h=>by simp [eqT] at h
 | d+1,ty,x,y,u,v,r,w,hx,hy,h=>by
  simp only [eqT] at h
  split at h
  ·rename_i a b hu
   simp at h
   subst h
   simp only [VRel] at hx hy
   subst hx; subst hy
   exact run_equalIn_bool' w d ty a b hu
  ·rename_i k0 k a k' b hu
   cases hk:decide (k=k') with
   | false=>rw [hk] at h; cases h
   | true=>
    rw [hk] at h
    simp at h hk
    subst h; subst hk
    simp only [VRel] at hx hy
    subst hx; subst hy
    rw [run_equalIn_int w d ty k k0 a b hu]
    congr 1
  ·rename_i fs xs ys hu
   cases hst:P.stoodInHeld ty with
   | true=>rw [hst] at h; cases h
   | false=>
    rw [hst] at h
    simp only [cond_false] at h
    obtain ⟨us,h1,rfl⟩:=hx
    obtain ⟨vs,h2,rfl⟩:=hy
    have hf:P.fieldsOf ty=fs:=by simp [Program.fieldsOf,hu]
    rw [run_equalIn_struct w d ty us.toArray vs.toArray (by rw [hf]; exact hu) hst,hf]
    exact eqF_sound h1 h2 (fun ty x y u v r w a b c=>eqT_sound d ty x y u v r w a b c) w fs.toList r h
  ·rename_i n e xs ys hu
   split at h
   ·rename_i b s hs
    obtain ⟨us,h1,rfl⟩:=hx
    obtain ⟨vs,h2,rfl⟩:=hy
    obtain ⟨i,hi,his⟩:∃ i,P.info? e=some i/\i.size=s:=by
     have hs':=hs
     unfold tyI at hs'
     split at hs' <;> simp at hs'
     ·rename_i i _ hi _; exact ⟨i,hi,hs'.2⟩
     ·rename_i i _ _ hi _; exact ⟨i,hi,hs'.2⟩
     ·rename_i i _ _ _ hi _; exact ⟨i,hi,hs'.2⟩
    rw [run_equalIn_array w d us.toArray vs.toArray hu hi,show P.cellsOf e=s from by simp [Program.cellsOf,hi,his],List.range_eq_range']
    exact eqI_sound h1 h2 (fun ty x y u v r w a b c=>eqT_sound d ty x y u v r w a b c) w n 0 r h
   ·cases h
  ·cases h
theorem dec_beq (a b:Int):(a == b)=decide (a=b):=by rw [Bool.eq_iff_iff]; simp
theorem dec_bne (a b:Int):(a != b) = !decide (a=b):=by rw [Bool.eq_iff_iff]; simp
theorem eq_ptr_nil {w:World} (d:Nat) (ty:TypeId) (p:Addr) (e:TypeId) (hu:P.underlying ty=some (.pointer e)):(Op.equalIn (d+1) ty (.pointer (some p)) (.pointer none)).run P w=.ok false w:=by
 rw [Op.equalIn]
 simp only [Sem.run_bind,run_und hu,Result.andThen_ok]
 rfl
theorem eq_nil_nil {w:World} (d:Nat) (ty:TypeId) (e:TypeId) (hu:P.underlying ty=some (.pointer e)):(Op.equalIn (d+1) ty (.pointer none) (.pointer none)).run P w=.ok true w:=by
 rw [Op.equalIn]
 simp only [Sem.run_bind,run_und hu,Result.andThen_ok]
 rfl
theorem eq_sl_nil {w:World} (d:Nat) (ty:TypeId) (p:Addr) (l c:Nat) (e:TypeId) (hu:P.underlying ty=some (.slice e)):(Op.equalIn (d+1) ty (.slice (some p) l c) (.slice none 0 0)).run P w=.ok false w:=by
 rw [Op.equalIn]
 simp only [Sem.run_bind,run_und hu,Result.andThen_ok]
 rfl
theorem eq_snil_nil {w:World} (d:Nat) (ty:TypeId) (e:TypeId) (hu:P.underlying ty=some (.slice e)):(Op.equalIn (d+1) ty (.slice none 0 0) (.slice none 0 0)).run P w=.ok true w:=by
 rw [Op.equalIn]
 simp only [Sem.run_bind,run_und hu,Result.andThen_ok]
 rfl
theorem bin_eql {w:World} {ty:TypeId} {u v:Value} {r:Bool} (h2:(∃ p,u=.pointer p) ∨ (∃ p l c,u=.slice p l c)) (hv:(∃ p,v=.pointer p) ∨ (∃ p l c,v=.slice p l c)) (h:(Op.equalIn 10000 ty u v).run P w=.ok r w) :
  (binOp .eql ty u v).run P w=.ok (.bool r) w/\(binOp .neq ty u v).run P w=.ok (.bool (!r)) w:=by
 have h':(Op.equal ty u v).run P w=.ok r w:=h
 rcases h2 with ⟨p,rfl⟩ | ⟨p,l,c,rfl⟩ <;> rcases hv with ⟨p',rfl⟩ | ⟨p',l',c',rfl⟩ <;>
  (constructor <;> simp only [binOp] <;> simp only [Sem.run_bind,h',Result.andThen_ok] <;> rfl)
theorem binNil {op:BinOp} {ty yt:TypeId} {x y:Operand} {t:Slots} {h:VH} {K:VV->Prop} {vx vy:VV} {r:Bool} (hx:evO t x=vx) (hy:evO t y=vy)
  (hk:∀ (R:Rn) (u:Value),VRel R vx u->(∀ a,u ≠ .agg a)/\u ≠ .nilIface) (hs:∀ (R:Rn) (u v:Value),VRel R vx u->VRel R vy v->(∃ p,u=.pointer p)/\(∃ p,v=.pointer p))
  (he:∀ (R:Rn) (u v:Value),VRel R vx u->VRel R vy v->∀ (d:Nat) (w:World) (b:TypeId),P.underlying ty=some (.pointer b)->(Op.equalIn (d+1) ty u v).run P w=.ok r w)
  (hK:match op,P.underlying ty with
   | .eql,some (.pointer _)=>K (.bool r)
   | .neq,some (.pointer _)=>K (.bool (!r))
   | _,_=>False):∃ v,K v/\RunP P (.binOp op ty x y yt) t h v:=by
 split at hK
 ·rename_i b hu
  refine ⟨_,hK,run_bin fun B R ac w e ht=>?_⟩
  have r1:=evO_rel ht x
  have r2:=evO_rel ht y
  rw [hx] at r1
  rw [hy] at r2
  obtain ⟨k1,k2⟩:=hk R _ r1
  obtain ⟨s1,s2⟩:=hs R _ _ r1 r2
  have h1:=he R _ _ r1 r2 9999 w b hu
  exact ⟨_,guard_pass k1 k2,(bin_eql (.inl s1) (.inl s2) h1).1,rfl⟩
 ·rename_i b hu
  refine ⟨_,hK,run_bin fun B R ac w e ht=>?_⟩
  have r1:=evO_rel ht x
  have r2:=evO_rel ht y
  rw [hx] at r1
  rw [hy] at r2
  obtain ⟨k1,k2⟩:=hk R _ r1
  obtain ⟨s1,s2⟩:=hs R _ _ r1 r2
  have h1:=he R _ _ r1 r2 9999 w b hu
  exact ⟨_,guard_pass k1 k2,(bin_eql (.inl s1) (.inl s2) h1).2,rfl⟩
 ·exact hK.elim
theorem binNilS {op:BinOp} {ty yt:TypeId} {x y:Operand} {t:Slots} {h:VH} {K:VV->Prop} {vx vy:VV} {r:Bool} (hx:evO t x=vx) (hy:evO t y=vy)
  (hk:∀ (R:Rn) (u:Value),VRel R vx u->(∀ a,u ≠ .agg a)/\u ≠ .nilIface) (hs:∀ (R:Rn) (u v:Value),VRel R vx u->VRel R vy v->(∃ p l c,u=.slice p l c)/\(∃ p l c,v=.slice p l c))
  (he:∀ (R:Rn) (u v:Value),VRel R vx u->VRel R vy v->∀ (d:Nat) (w:World) (b:TypeId),P.underlying ty=some (.slice b)->(Op.equalIn (d+1) ty u v).run P w=.ok r w)
  (hK:match op,P.underlying ty with
   | .eql,some (.slice _)=>K (.bool r)
   | .neq,some (.slice _)=>K (.bool (!r))
   | _,_=>False):∃ v,K v/\RunP P (.binOp op ty x y yt) t h v:=by
 split at hK
 ·rename_i b hu
  refine ⟨_,hK,run_bin fun B R ac w e ht=>?_⟩
  have r1:=evO_rel ht x
  have r2:=evO_rel ht y
  rw [hx] at r1
  rw [hy] at r2
  obtain ⟨k1,k2⟩:=hk R _ r1
  obtain ⟨s1,s2⟩:=hs R _ _ r1 r2
  have h1:=he R _ _ r1 r2 9999 w b hu
  exact ⟨_,guard_pass k1 k2,(bin_eql (.inr s1) (.inr s2) h1).1,rfl⟩
 ·rename_i b hu
  refine ⟨_,hK,run_bin fun B R ac w e ht=>?_⟩
  have r1:=evO_rel ht x
  have r2:=evO_rel ht y
  rw [hx] at r1
  rw [hy] at r2
  obtain ⟨k1,k2⟩:=hk R _ r1
  obtain ⟨s1,s2⟩:=hs R _ _ r1 r2
  have h1:=he R _ _ r1 r2 9999 w b hu
  exact ⟨_,guard_pass k1 k2,(bin_eql (.inr s1) (.inr s2) h1).2,rfl⟩
 ·exact hK.elim
theorem run_binW {op:BinOp} {ty yt:TypeId} {x y:Operand} {t:Slots} {h:VH} {v:VV} {k k':IntKind} {a b:Int} (hx:evO t x=.opq (.int k a) ∨ evO t x=.int k a) (hy:evO t y=.opq (.int k' b) ∨ evO t y=.int k' b)
  (H:∀ (R:Rn) (w:World),∃ z,(binOp op ty (.int k a) (.int k' b)).run P w=.ok z w/\VRel R v z):RunP P (.binOp op ty x y yt) t h v:=by
 refine run_bin fun B R ac w e ht=>?_
 have r1:=evO_rel ht x
 have r2:=evO_rel ht y
 have r1:ac.eval x=.int k a:=by
  rcases hx with hx | hx <;> rw [hx] at r1 <;> simpa only [VRel] using r1
 have r2:ac.eval y=.int k' b:=by
  rcases hy with hy | hy <;> rw [hy] at r2 <;> simpa only [VRel] using r2
 obtain ⟨z,h1,h2⟩:=H R w
 exact ⟨z,guard_pass (by rw [r1]; simp) (by rw [r1]; simp),by rw [r1,r2]; exact h1,h2⟩
theorem wrE_sound {op:BinOp} {ty yt:TypeId} {x y:Operand} {t:Slots} {h:VH} {K:VV->Prop} {k k':IntKind} {a b:Int} (hx:evO t x=.opq (.int k a) ∨ evO t x=.int k a) (hy:evO t y=.opq (.int k' b) ∨ evO t y=.int k' b)
  (hK:wrE op k k' a b K):∃ v,K v/\RunP P (.binOp op ty x y yt) t h v:=by
 unfold wrE at hK
 obtain ⟨hk,hQ⟩:=cond_f hK
 clear hK
 have hk':k=k':=by simpa using hk
 subst hk'
 unfold wrK at hQ
 split at hQ
 ·exact ⟨_,hQ,run_binW hx hy fun R w=>⟨.int k (k.wrap (a - b)),by simp [binOp,Op.intArith],rfl⟩⟩
 ·exact ⟨_,hQ,run_binW hx hy fun R w=>⟨.bool (decide (a > b)),by simp [binOp,Op.intCmp],rfl⟩⟩
 ·exact ⟨_,hQ,run_binW hx hy fun R w=>⟨.bool (decide (a<b)),by simp [binOp,Op.intCmp],rfl⟩⟩
 ·exact ⟨_,hQ,run_binW hx hy fun R w=>⟨.int k (k.wrap (a+b)),by simp [binOp,Op.intArith],rfl⟩⟩
 ·exact ⟨_,hQ,run_binW hx hy fun R w=>⟨.bool (decide (a<=b)),by simp [binOp,Op.intCmp],rfl⟩⟩
 ·exact ⟨_,hQ,run_binW hx hy fun R w=>⟨.bool (decide (a ≥ b)),by simp [binOp,Op.intCmp],rfl⟩⟩
 ·exact hQ.elim
theorem binE_sound {op:BinOp} {ty yt:TypeId} {x y:Operand} {t:Slots} {h:VH} {K:VV->Prop} (hK:binE P op ty (evO t x) (evO t y) K):∃ v,K v/\RunP P (.binOp op ty x y yt) t h v:=by
 unfold binE at hK
 split at hK
 ·rename_i k a k' b hx hy
  exact wrE_sound (.inl hx) (.inl hy) hK
 ·rename_i k a k' b hx hy
  exact wrE_sound (.inl hx) (.inr hy) hK
 ·rename_i k a k' b hx hy
  exact wrE_sound (.inr hx) (.inl hy) hK
 ·rename_i k a k' b hx hy
  cases hk:decide (k=k') with
  | true=>
   rw [hk] at hK
   simp only [cond_true] at hK
   have hk':k=k':=by simpa using hk
   subst hk'
   split at hK
   ·split at hK
    ·exact ⟨_,hK,run_binI hx hy fun R w=>⟨.int .u32 (IntKind.u32.wrap (a+b)),by simp [binOp,Op.intArith],rfl⟩⟩
    ·obtain ⟨h1,h2⟩:=cond_f hK
     exact ⟨_,h2,run_binI hx hy fun R w=>⟨.int k (k.wrap (a+b)),by simp [binOp,Op.intArith],by rw [inK_wrap h1]; rfl⟩⟩
   ·obtain ⟨h1,h2⟩:=cond_f hK
    exact ⟨_,h2,run_binI hx hy fun R w=>⟨.int k (k.wrap (a - b)),by simp [binOp,Op.intArith],by rw [inK_wrap h1]; rfl⟩⟩
   ·obtain ⟨h1,h2⟩:=cond_f hK
    exact ⟨_,h2,run_binI hx hy fun R w=>⟨.int k (k.wrap (a*b)),by simp [binOp,Op.intArith],by rw [inK_wrap h1]; rfl⟩⟩
   ·obtain ⟨h0,hK⟩:=cond_ff hK
    have h0':¬ b=0:=by simpa using h0
    obtain ⟨h1,h2⟩:=cond_f hK
    exact ⟨_,h2,run_binI hx hy fun R w=>⟨.int k (k.wrap (a.tdiv b)),by simp [binOp,Op.intDiv,h0'],by rw [show a.tdiv b=quoZ a b from rfl,inK_wrap h1]; rfl⟩⟩
   ·obtain ⟨h0,hK⟩:=cond_ff hK
    have h0':¬ b=0:=by simpa using h0
    exact ⟨_,hK,run_binI hx hy fun R w=>⟨.int k (a.tmod b),by simp [binOp,Op.intDiv,h0'],rfl⟩⟩
   ·exact ⟨_,hK,run_binI hx hy fun R w=>⟨.bool (a == b),by simp [binOp,Op.intCmp],by rw [dec_beq]; rfl⟩⟩
   ·exact ⟨_,hK,run_binI hx hy fun R w=>⟨.bool (a != b),by simp [binOp,Op.intCmp],by rw [dec_bne]; rfl⟩⟩
   ·exact ⟨_,hK,run_binI hx hy fun R w=>⟨.bool (decide (a<b)),by simp [binOp,Op.intCmp],rfl⟩⟩
   ·exact ⟨_,hK,run_binI hx hy fun R w=>⟨.bool (decide (a<=b)),by simp [binOp,Op.intCmp],rfl⟩⟩
   ·exact ⟨_,hK,run_binI hx hy fun R w=>⟨.bool (decide (a > b)),by simp [binOp,Op.intCmp],rfl⟩⟩
   ·exact ⟨_,hK,run_binI hx hy fun R w=>⟨.bool (decide (a ≥ b)),by simp [binOp,Op.intCmp],rfl⟩⟩
   ·obtain ⟨h0,h2⟩:=cond_ff hK
    have h0':¬ b<0:=by simpa using h0
    exact ⟨_,h2,run_binI hx hy fun R w=>⟨.int k (a.fdiv (2 ^ (min b.toNat k.bits))),by simp [binOp,Op.shift,h0'],rfl⟩⟩
   ·obtain ⟨h0,hK⟩:=cond_ff hK
    obtain ⟨h1,h2⟩:=cond_f hK
    have h0':¬ b<0:=by simpa using h0
    exact ⟨_,h2,run_binI hx hy fun R w=>⟨.int k (k.wrap (a*2 ^ (min b.toNat k.bits))),by simp [binOp,Op.shift,h0'],by rw [inK_wrap h1]; rfl⟩⟩
   ·exact ⟨_,hK,run_binI hx hy fun R w=>⟨.int k (k.wrap (BitVec.ofInt k.bits a &&& BitVec.ofInt k.bits b).toNat),by simp [binOp,Op.intBits],rfl⟩⟩
   ·exact ⟨_,hK,run_binI hx hy fun R w=>⟨.int k (k.wrap (BitVec.ofInt k.bits a ||| BitVec.ofInt k.bits b).toNat),by simp [binOp,Op.intBits],rfl⟩⟩
   ·exact ⟨_,hK,run_binI hx hy fun R w=>⟨.int k (k.wrap (BitVec.ofInt k.bits a &&& ~~~(BitVec.ofInt k.bits b)).toNat),by simp [binOp,Op.intBits],rfl⟩⟩
   ·exact hK.elim
  | false=>
   rw [hk] at hK
   simp only [cond_false] at hK
   split at hK
   ·obtain ⟨h0,h2⟩:=cond_ff hK
    have h0':¬ b<0:=by simpa using h0
    exact ⟨_,h2,run_binI hx hy fun R w=>⟨.int k (a.fdiv (2 ^ (min b.toNat k.bits))),by simp [binOp,Op.shift,h0'],rfl⟩⟩
   ·obtain ⟨h0,hK⟩:=cond_ff hK
    obtain ⟨h1,h2⟩:=cond_f hK
    have h0':¬ b<0:=by simpa using h0
    exact ⟨_,h2,run_binI hx hy fun R w=>⟨.int k (k.wrap (a*2 ^ (min b.toNat k.bits))),by simp [binOp,Op.shift,h0'],by rw [inK_wrap h1]; rfl⟩⟩
   ·exact hK.elim
 ·rename_i a b hx hy
  split at hK
  ·rename_i hu
   refine ⟨_,hK,run_bin fun B R ac w e ht=>?_⟩
   have r1:=evO_rel ht x
   have r2:=evO_rel ht y
   rw [hx] at r1
   rw [hy] at r2
   simp only [VRel] at r1 r2
   refine ⟨.bool (a == b),guard_pass (by rw [r1]; simp) (by rw [r1]; simp),?_,rfl⟩
   rw [r1,r2]
   simp [binOp,Op.equal,Op.maxDepth,run_equalIn_bool' w 9999 ty a b hu]
  ·rename_i hu
   refine ⟨_,hK,run_bin fun B R ac w e ht=>?_⟩
   have r1:=evO_rel ht x
   have r2:=evO_rel ht y
   rw [hx] at r1
   rw [hy] at r2
   simp only [VRel] at r1 r2
   refine ⟨.bool (!(a == b)),guard_pass (by rw [r1]; simp) (by rw [r1]; simp),?_,rfl⟩
   rw [r1,r2]
   simp [binOp,Op.equal,Op.maxDepth,run_equalIn_bool' w 9999 ty a b hu]
  ·exact hK.elim
 ·rename_i xs ys hx hy
  obtain ⟨hg,hK⟩:=cond_ff hK
  split at hK
  ·rename_i r hr
   have key:∀ (B:Nat) (R:Rn) (ac:Act) (w:World),Emb B R h.at w->TRel R t ac->∃ us vs:Array Value,ac.eval x=.agg us/\ac.eval y=.agg vs/\(Op.equalIn 10000 ty (.agg us) (.agg vs)).run P w=.ok r w:=by
    intro B R ac w e ht
    have r1:=evO_rel ht x
    have r2:=evO_rel ht y
    rw [hx] at r1
    rw [hy] at r2
    have hh:=fun u v hu hv=>eqT_sound (P:=P) (R:=R) 10000 ty (.agg xs) (.agg ys) u v r w hu hv hr
    obtain ⟨us,h1,e1⟩:=r1
    obtain ⟨vs,h2,e2⟩:=r2
    exact ⟨us.toArray,vs.toArray,e1,e2,hh _ _ ⟨us,h1,rfl⟩ ⟨vs,h2,rfl⟩⟩
   split at hK
   ·refine ⟨_,hK,run_bin fun B R ac w e ht=>?_⟩
    obtain ⟨us,vs,e1,e2,h3⟩:=key B R ac w e ht
    refine ⟨.bool r,by rw [e1,e2]; exact run_eqGuard_agg w _ _ _ _ _ _ hg,?_,rfl⟩
    rw [e1,e2,run_eql_struct,h3]
    rfl
   ·refine ⟨_,hK,run_bin fun B R ac w e ht=>?_⟩
    obtain ⟨us,vs,e1,e2,h3⟩:=key B R ac w e ht
    refine ⟨.bool (!r),by rw [e1,e2]; exact run_eqGuard_agg w _ _ _ _ _ _ hg,?_,rfl⟩
    rw [e1,e2,run_neq_struct,h3]
    rfl
   ·exact hK.elim
  ·exact hK.elim
 ·rename_i p hx hy
  exact binNil hx hy (fun R u hu=>(by obtain ⟨q,_,rfl⟩:=hu; exact ⟨by simp,by simp⟩)) (fun R u v hu hv=>(by obtain ⟨q,_,rfl⟩:=hu; simp only [VRel] at hv; subst hv; exact ⟨⟨_,rfl⟩,⟨_,rfl⟩⟩)) (fun R u v hu hv d w b hb=>(by
   obtain ⟨q,_,rfl⟩:=hu
   simp only [VRel] at hv
   subst hv
   exact eq_ptr_nil d ty q b hb)) hK
 ·rename_i cs hx hy
  exact binNil hx hy (fun R u hu=>(by obtain ⟨_,_,_,rfl,_⟩:=hu; exact ⟨by simp,by simp⟩)) (fun R u v hu hv=>(by obtain ⟨_,_,_,rfl,_⟩:=hu; simp only [VRel] at hv; subst hv; exact ⟨⟨_,rfl⟩,⟨_,rfl⟩⟩)) (fun R u v hu hv d w b hb=>(by
   obtain ⟨_,_,_,rfl,_⟩:=hu
   simp only [VRel] at hv
   subst hv
   exact eq_ptr_nil d ty _ b hb)) hK
 ·rename_i hx hy
  exact binNil hx hy (fun R u hu=>(by simp only [VRel] at hu; subst hu; exact ⟨by simp,by simp⟩)) (fun R u v hu hv=>(by simp only [VRel] at hu hv; subst hu; subst hv; exact ⟨⟨_,rfl⟩,⟨_,rfl⟩⟩)) (fun R u v hu hv d w b hb=>(by
   simp only [VRel] at hu hv
   subst hu; subst hv
   exact eq_nil_nil d ty b hb)) hK
 ·rename_i p l c hx hy
  obtain ⟨hc1,hK⟩:=cond_f hK
  have hc1:=Nat.le_of_ble_eq_true hc1
  exact binNilS hx hy (fun R u hu=>(by obtain ⟨_,q,_,rfl⟩:=hu; exact ⟨by simp,by simp⟩)) (fun R u v hu hv=>(by obtain ⟨_,q,_,rfl⟩:=hu; simp only [VRel] at hv; subst hv; exact ⟨⟨_,_,_,rfl⟩,⟨_,_,_,rfl⟩⟩)) (fun R u v hu hv d w b hb=>(by
   obtain ⟨_,q0,hq0,rfl⟩:=hu
   obtain ⟨q,rfl,_⟩:=hq0.resolve_left (by omega)
   simp only [VRel] at hv
   subst hv
   exact eq_sl_nil d ty q l c b hb)) hK
 ·rename_i hx hy
  exact binNilS hx hy (fun R u hu=>(by simp only [VRel] at hu; subst hu; exact ⟨by simp,by simp⟩)) (fun R u v hu hv=>(by simp only [VRel] at hu hv; subst hu; subst hv; exact ⟨⟨_,_,_,rfl⟩,⟨_,_,_,rfl⟩⟩)) (fun R u v hu hv d w b hb=>(by
   simp only [VRel] at hu hv
   subst hu; subst hv
   exact eq_snil_nil d ty b hb)) hK
 ·exact hK.elim
end
end Go.Sx
