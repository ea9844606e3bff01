/- The evaluator's operations are sound. -/
import Derived.Test.YtlboglkgbhjpeaaSx2
import Derived.Laws.Cells
import Derived.WalkKit
import Derived.Laws.IdiomCopy
namespace Go.Sx
open Go
theorem fo_eq (v:VV) (K:VV->Prop):fo v K=K v:=by cases v <;> rfl
theorem foL_eq:∀ (l:List VV) (K:List VV->Prop),foL l K=K l
 | [],_=>rfl
 | v::vs,K=>by simp only [foL,fo_eq,foL_eq vs]
theorem foN_eq (n:Nat) (K:Nat->Prop):foN n K=K n:=by cases n <;> rfl
theorem cond_f {b:Bool} {X:Prop} (h:cond b X False):b=true/\X:=by cases b <;> simp_all
theorem cond_ff {b:Bool} {X:Prop} (h:cond b False X):b=false/\X:=by cases b <;> simp_all
theorem ofS_rel (R:Rn) (v:Value):VRel R (ofS v) v:=by
 unfold ofS
 split <;> simp [VRel]
theorem ofSL_rel (R:Rn):∀ (l:List Value),VRelL R (l.map ofS) l
 | []=>rfl
 | v::vs=>⟨v,vs,ofS_rel R v,ofSL_rel R vs,rfl⟩
theorem ofV_rel (R:Rn) (v:Value):VRel R (ofV v) v:=by
 unfold ofV
 split
 ·exact ⟨_,ofSL_rel R _,by simp⟩
 ·exact ⟨_,ofSL_rel R _,by simp⟩
 ·exact ofS_rel R _
def TRel (R:Rn) (t:Slots) (a:Act):Prop:=∀ d,VRel R (look t d) (a.tmps.getD d undef)
theorem TRel.mono {R R':Rn} (h:R.le R') {t:Slots} {a:Act} (ht:TRel R t a):TRel R' t a:=fun d=>VRel.mono h _ _ (ht d)
theorem beq_t {m n:Nat} (h:m=n):Nat.beq m n=true:=by subst h; exact Nat.beq_refl m
theorem beq_f {m n:Nat} (h:m ≠ n):Nat.beq m n=false:=by rw [Bool.eq_false_iff]; intro hh; exact h (Nat.eq_of_beq_eq_true hh)
theorem look_cons (d:Nat) (v:VV) (t:Slots) (d':Nat):look ((d,v)::t) d'=if d=d' then v else look t d':=by
 show (bif Nat.beq d d' then v else look t d')=_
 by_cases h:d=d'
 ·rw [beq_t h,if_pos h]; rfl
 ·rw [beq_f h,if_neg h]; rfl
theorem TRel.same {R:Rn} {t:Slots} {a:Act} (ht:TRel R t a) {d:Nat} {v:VV} (hv:look t d=v):TRel R ((d,v)::t) a:=by
 intro d'
 rw [look_cons]
 by_cases h:d=d'
 ·subst h; rw [if_pos rfl,<- hv]; exact ht d
 ·rw [if_neg h]; exact ht d'
theorem evO_rel {R:Rn} {t:Slots} {a:Act} (ht:TRel R t a) (x:Operand):VRel R (evO t x) (a.eval x):=by
 cases x with
 | tmp d=>exact ht d
 | const v=>exact ofV_rel R v
 | global g=>exact rfl
 | func f=>exact ⟨[],[],rfl,rfl,rfl⟩
theorem evL_rel {R:Rn} {t:Slots} {a:Act} (ht:TRel R t a):∀ (l:List Operand),VRelL R (l.map (evO t)) (l.map a.eval)
 | []=>rfl
 | x::xs=>⟨_,_,evO_rel ht x,evL_rel ht xs,rfl⟩
section
variable {P:Program} {w:World}
theorem run_und {t:TypeId} {d:TypeDesc} (h:P.underlying t=some d):(underlying t).run P w=.ok d w:=by
 simp [underlying,h]
theorem run_tyi {t:TypeId} {i:TypeInfo} (h:P.info? t=some i):(typeInfo t).run P w=.ok i w:=by
 simp [typeInfo,h]
theorem tyI_spec {t:TypeId} {agg:Bool} {s:Nat} (h:tyI P t=some (agg,s)):(isAgg t).run P w=.ok agg w/\(sizeOf t).run P w=.ok s w:=by
 unfold tyI at h
 split at h <;> simp at h
 ·rename_i i fs h1 h2
  obtain ⟨rfl,rfl⟩:=h
  simp [isAgg,sizeOf,run_und h2,run_tyi h1]
 ·rename_i i n e h1 h2
  obtain ⟨rfl,rfl⟩:=h
  simp [isAgg,sizeOf,run_und h2,run_tyi h1]
 ·rename_i i d h3 h4 h1 h2
  obtain ⟨rfl,rfl⟩:=h
  refine ⟨?_,by simp [sizeOf,run_tyi h1]⟩
  simp only [isAgg,Sem.run_bind,run_und h2,Result.andThen_ok]
  cases d <;> first | rfl | exact (h3 _ rfl).elim | exact (h4 _ _ rfl).elim
theorem tyZ_spec {t:TypeId} {z:List VV} (h:tyZ P t=some z):∃ zv:Value,(zeroValue t).run P w=.ok zv w/\z=zv.cells.toList.map ofS:=by
 unfold tyZ at h
 split at h
 ·rename_i i h1
  cases hz:i.zero with
  | none=>rw [hz] at h; cases h
  | some zv=>
   rw [hz] at h
   simp at h
   exact ⟨zv,by simp [zeroValue,run_tyi h1,hz],h.symm⟩
 ·cases h
end
theorem cs_rel {R:Rn} {v:VV} {x:Value} (h:VRel R v x) {cs:List VV} (hc:v.cs? = some cs):VRelL R cs x.cells.toList:=by
 cases v <;> simp only [VV.cs?] at hc
 case agg l=>obtain ⟨xs,h1,rfl⟩:=h; simp at hc; subst hc; simpa [Value.cells] using h1
 case tup=>cases hc
 case any=>cases hc
 case opq u=>
  simp only [VRel] at h
  subst h
  cases ho:x.oneCell' with
  | false=>rw [ho] at hc; cases hc
  | true=>
   rw [ho] at hc
   simp at hc
   subst hc
   refine ⟨x,[],rfl,rfl,?_⟩
   cases x <;> simp_all [Value.cells,Value.oneCell']
 all_goals
  simp at hc
  subst hc
  refine ⟨x,[],h,rfl,?_⟩
  simp only [VRel] at h
  first
   | (subst h; rfl)
   | (obtain ⟨_,_,rfl⟩:=h; rfl)
   | (obtain ⟨_,_,_,rfl⟩:=h; rfl)
   | (obtain ⟨_,_,_,rfl,_⟩:=h; rfl)
   | (obtain ⟨_,_,rfl,_⟩:=h; rfl)
   | (obtain ⟨_,_,_,_,rfl⟩:=h; rfl)
   | (obtain ⟨_,_,_,_,rfl,_⟩:=h; rfl)
   | (obtain ⟨_,_,_,_,_,rfl⟩:=h; rfl)
   | (obtain ⟨_,_,rfl⟩:=h; rfl)
theorem one_rel {R:Rn} {v:VV} {x:Value} (h:VRel R v x) (ho:v.one=true):x.oneCell'=true:=by
 cases v <;> simp only [VV.one] at ho <;> simp only [VRel] at h
 case agg=>cases ho
 case tup=>cases ho
 case any=>cases ho
 case opq=>subst h; exact ho
 all_goals
  first
   | (subst h; rfl)
   | (obtain ⟨_,_,rfl⟩:=h; rfl)
   | (obtain ⟨_,_,_,rfl⟩:=h; rfl)
   | (obtain ⟨_,_,_,rfl,_⟩:=h; rfl)
   | (obtain ⟨_,_,rfl,_⟩:=h; rfl)
   | (obtain ⟨_,_,_,_,rfl⟩:=h; rfl)
   | (obtain ⟨_,_,_,_,rfl,_⟩:=h; rfl)
   | (obtain ⟨_,_,_,_,_,rfl⟩:=h; rfl)
theorem add_add (a:Addr) (x y:Nat):(a.add x).add y=a.add (x+y):=by
 unfold Addr.add
 by_cases hx:x=0 <;> by_cases hy:y=0 <;> simp [hx,hy,Nat.add_assoc]
theorem ARel.add {R:Rn} {a:VA} {p:Addr} (h:ARel R a p) (k:Nat):ARel R (a.add k) (p.add k):=by
 cases a with
 | own n off=>
  obtain ⟨b,hb,rfl⟩:=h
  refine ⟨b,hb,?_⟩
  unfold Addr.add
  split
  ·rename_i hk; subst hk; rfl
  ·rfl
 | el n ix i off=>
  simp only [ARel,VA.add] at h ⊢
  rw [h,add_add,Nat.add_assoc]
 | ve n L s i off=>
  obtain ⟨h0,v,b,h1,h2,rfl⟩:=h
  refine ⟨h0,v,b,h1,h2,?_⟩
  unfold Addr.add
  split
  ·rename_i hk; subst hk; rfl
  ·simp [Nat.add_assoc]
 | fa n p0 o=>
  obtain ⟨b,hb,rfl⟩:=h
  refine ⟨b,hb,?_⟩
  unfold Addr.add
  split
  ·rename_i hk; subst hk; rfl
  ·simp [Nat.add_assoc]
 | rw n j o=>
  obtain ⟨v,b,h1,h2,rfl⟩:=h
  refine ⟨v,b,h1,h2,?_⟩
  unfold Addr.add
  split
  ·rename_i hk; subst hk; rfl
  ·rfl
 | hb t j o=>
  obtain ⟨xs,v,b,h1,h2,h3,rfl⟩:=h
  refine ⟨xs,v,b,h1,h2,h3,?_⟩
  unfold Addr.add
  split
  ·rename_i hk; subst hk; rfl
  ·rfl
theorem addE_eq (a:VA) (k:Nat) (K:VA->Prop):addE a k K=K (a.add k):=by
 cases a <;> simp only [addE,foN_eq,VA.add]
section
variable {P:Program}
theorem load_own {B:Nat} {R:Rn} {η:Nat->VB} {w:World} (e:Emb B R η w) {n off:Nat} {cs:List VV} {t:TypeId} (hn:(η n).cs? = some (cs,t)) {b:Nat} (hb:R.blk n=some b) {size:Nat} (hs:off+size<=cs.length) :
  ∃ xs:List Value,VRelL R ((cs.drop off).take size) xs/\(loadCells ⟨b,off,none⟩ size).run P w=.ok xs.toArray w:=by
 obtain ⟨b',xs,h1,_,h3,h4⟩:=e.ownC n cs t hn
 rw [hb] at h1; cases h1
 have hl:=h3.length
 refine ⟨(xs.drop off).take size,(h3.drop off).take size,?_⟩
 have:=run_loadCells_list (P:=P) w ⟨b,off,none⟩ ((xs.drop off).take size) (fun j v hj=>by
  have hj':(xs.drop off)[j]? = some v/\j<size:=by
   rw [List.getElem?_take] at hj
   split at hj
   ·exact ⟨hj,by assumption⟩
   ·cases hj
  have hj2:=hj'.1
  rw [List.getElem?_drop] at hj2
  have:(Addr.add ⟨b,off,none⟩ j)=⟨b,off+j,none⟩:=by
   unfold Addr.add
   split
   ·rename_i h0; subst h0; rfl
   ·rfl
  rw [this]
  simp [World.cell?,h4,hj2])
 have hlen:((xs.drop off).take size).length=size:=by simp; omega
 rwa [hlen] at this
theorem load_el {B:Nat} {R:Rn} {η:Nat->VB} {w:World} (e:Emb B R η w) {n:Nat} {ix:List Int} {i:Int} {off s:Nat} {ok:List Int->Int->Prop} {g:List Int->Int->List VV} (hn:η n=.arr s ok g) (hok:ok ix i) {size:Nat} (hs:off+size<=s) :
  ∃ xs:List Value,VRelL R (((g ix i).drop off).take size) xs/\(loadCells ((R.arr n ix).add (i.toNat*R.str n+off)) size).run P w=.ok xs.toArray w:=by
 obtain ⟨hst,h2⟩:=e.arr n s ok g hn
 obtain ⟨_,_,_,xs,h5,h6,h7⟩:=h2 ix i hok
 refine ⟨(xs.drop off).take size,((h5.mono R.no_le).drop off).take size,?_⟩
 have:=run_loadCells_list (P:=P) w ((R.arr n ix).add (i.toNat*R.str n+off)) ((xs.drop off).take size) (fun j v hj=>by
  have hj':(xs.drop off)[j]? = some v/\j<size:=by
   rw [List.getElem?_take] at hj
   split at hj
   ·exact ⟨hj,by assumption⟩
   ·cases hj
  have hj2:=hj'.1
  rw [List.getElem?_drop] at hj2
  rw [add_add,hst,Nat.add_assoc]
  exact h7 _ _ hj2)
 have hlen:((xs.drop off).take size).length=size:=by simp; omega
 rwa [hlen] at this
theorem load_own1 {B:Nat} {R:Rn} {η:Nat->VB} {w:World} (e:Emb B R η w) {n off:Nat} {cs:List VV} {t:TypeId} (hn:(η n).cs? = some (cs,t)) {b:Nat} (hb:R.blk n=some b) {v:VV} (hv:cs[off]? = some v) :
  ∃ x:Value,VRel R v x/\(load ⟨b,off,none⟩).run P w=.ok x w:=by
 obtain ⟨b',xs,h1,_,h3,h4⟩:=e.ownC n cs t hn
 rw [hb] at h1; cases h1
 obtain ⟨x,hx,hr⟩:=h3.get off v hv
 exact ⟨x,hr,by simp [World.cell?,h4,hx]⟩
theorem famL_length (L:Nat) (g:Nat->Int):(famL L g).length=L:=by simp [famL]
theorem famL_get {L:Nat} {g:Nat->Int} {o:Nat} (h:o<L):(famL L g)[o]? = some (.int .i64 (g o)):=by
 simp [famL,List.getElem?_range h]
theorem famL_part {L:Nat} {g:Nat->Int} {o size:Nat} (h:o+size<=L):((famL L g).drop o).take size=famR g o size:=by
 apply List.ext_getElem?
 intro k
 rw [List.getElem?_take]
 by_cases hk:k<size
 ·rw [if_pos hk,List.getElem?_drop,famL_get (by omega)]
  simp [famR,List.getElem?_range hk]
 ·rw [if_neg hk]
  simp [famR,hk]
theorem famR_all (L:Nat) (g:Nat->Int):famR g 0 L=famL L g:=by simp [famR,famL]
theorem load_el1 {B:Nat} {R:Rn} {η:Nat->VB} {w:World} (e:Emb B R η w) {n:Nat} {ix:List Int} {i:Int} {off s:Nat} {ok:List Int->Int->Prop} {g:List Int->Int->List VV} (hn:η n=.arr s ok g) (hok:ok ix i) {v:VV} (hv:(g ix i)[off]? = some v) :
  ∃ x:Value,VRel R v x/\(load ((R.arr n ix).add (i.toNat*R.str n+off))).run P w=.ok x w:=by
 obtain ⟨hst,h2⟩:=e.arr n s ok g hn
 obtain ⟨_,_,_,xs,h5,h6,h7⟩:=h2 ix i hok
 obtain ⟨x,hx,hr⟩:=(h5.mono R.no_le).get off v hv
 refine ⟨x,hr,?_⟩
 have:=h7 off x hx
 rw [hst]
 simp [this]
theorem VecOk.elem {B:Nat} {R:Rn} {w:World} {n L:Nat} {g:Nat->List VV} {s:Nat} {t:TypeId} (h:VecOk B R n w L g s t) {v:Value} (h1:R.vec n L=some v) {b:Nat} (h2:v.ownBlock=some b) {i:Nat} (hi:i<L) :
  ∃ ys:List Value,VRelL R.no (g i) ys/\ys.length=s/\(g i).all VV.one=true/\∀ k x,ys[k]? = some x->w.cell? ⟨b,i*s+k,none⟩=some x:=by
 obtain ⟨v',xs,g1,g2,g3⟩:=h.row
 rw [h1] at g1; cases g1
 obtain ⟨g3,g4⟩:=g3 i hi
 have hlen:=g2.1
 have hle:i*s+s<=xs.length:=by
  rw [hlen,<- Nat.succ_mul]
  exact Nat.mul_le_mul_right _ hi
 refine ⟨_,g3,by simp; omega,g4,fun k x hx=>?_⟩
 rw [List.getElem?_take] at hx
 split at hx
 ·rw [List.getElem?_drop] at hx
  have:=g2.cells h2 (i*s+k) x hx
  rw [show (Addr.add ⟨b,0,none⟩ (i*s+k))=⟨b,i*s+k,none⟩ from by unfold Addr.add; split <;> simp_all] at this
  exact this
 ·cases hx
theorem add_lit (b off j:Nat):(Addr.add ⟨b,off,none⟩ j)=⟨b,off+j,none⟩:=by
 unfold Addr.add
 split
 ·rename_i h0; subst h0; rfl
 ·rfl
theorem load_ve {B:Nat} {R:Rn} {η:Nat->VB} {w:World} (e:Emb B R η w) {n L s:Nat} {g:Nat->List VV} {t:TypeId} (hn:η n=.vec L g s t) {v:Value} (h1:R.vec n L=some v) {b:Nat} (h2:v.ownBlock=some b) {i off size:Nat} (hi:i<L) (hs:off+size<=s) :
  ∃ xs:List Value,VRelL R (((g i).drop off).take size) xs/\(loadCells ⟨b,i*s+off,none⟩ size).run P w=.ok xs.toArray w:=by
 obtain ⟨ys,g1,g2,_,g3⟩:=(e.vec n L g s t hn).elem h1 h2 hi
 refine ⟨(ys.drop off).take size,((g1.mono R.no_le).drop off).take size,?_⟩
 have:=run_loadCells_list (P:=P) w ⟨b,i*s+off,none⟩ ((ys.drop off).take size) (fun j x hj=>by
  rw [List.getElem?_take] at hj
  split at hj
  ·rw [List.getElem?_drop] at hj
   rw [add_lit,Nat.add_assoc]
   exact g3 _ _ hj
  ·cases hj)
 have hlen:((ys.drop off).take size).length=size:=by simp; omega
 rwa [hlen] at this
theorem load_ve1 {B:Nat} {R:Rn} {η:Nat->VB} {w:World} (e:Emb B R η w) {n L s:Nat} {g:Nat->List VV} {t:TypeId} (hn:η n=.vec L g s t) {v:Value} (h1:R.vec n L=some v) {b:Nat} (h2:v.ownBlock=some b) {i off:Nat} (hi:i<L) {u:VV} (hu:(g i)[off]? = some u) :
  ∃ x:Value,VRel R u x/\(load ⟨b,i*s+off,none⟩).run P w=.ok x w:=by
 obtain ⟨ys,g1,g2,_,g3⟩:=(e.vec n L g s t hn).elem h1 h2 hi
 obtain ⟨x,hx,hr⟩:=(g1.mono R.no_le).get off u hu
 exact ⟨x,hr,by simp [g3 off x hx]⟩
theorem selE_sound {k:IntKind}:∀ {r:List VV} {K:List Int->Prop},selE k r K ->
  ∃ l:List Int,(∀ o,o<l.length->r[o]? = some (.int k (l.getD o 0)))/\K l
 | [],K,h2=>⟨[],fun _ h=>absurd h (Nat.not_lt_zero _),h2⟩
 | v::r,K,h2=>by
  cases v with
  | int k' n=>
   simp only [selE] at h2
   cases hk:decide (k'=k) with
   | true=>
    rw [hk] at h2
    simp only [cond_true] at h2
    obtain ⟨l,hl,hK⟩:=selE_sound h2
    refine ⟨n::l,fun o ho=>?_,hK⟩
    have hk':k'=k:=of_decide_eq_true hk
    subst hk'
    cases o with
    | zero=>rfl
    | succ o=>simpa using hl o (by simpa using ho)
   | false=>
    rw [hk] at h2
    exact ⟨[],fun _ h=>absurd h (Nat.not_lt_zero _),h2⟩
  | _=>exact ⟨[],fun _ h=>absurd h (Nat.not_lt_zero _),h2⟩
theorem loadE_sound {agg:Bool} {size:Nat} {a:VA} {h:VH} {K:VV->Prop} (hK:loadE agg size a h K) :
  ∃ v,K v/\∀ (ty:TypeId),tyI P ty=some (agg,size)->∀ (B:Nat) (R:Rn) (w:World) (p:Addr),Emb B R h.at w->ARel R a p->∃ x,(loadVar ty p).run P w=.ok x w/\VRel R v x:=by
 unfold loadE at hK
 cases a with
 | own n off=>
  simp only at hK
  split at hK
  ·rename_i cs t hn
   cases agg with
   | true=>
    obtain ⟨h1,h2⟩:=cond_f hK
    rw [foL_eq] at h2
    refine ⟨_,h2,fun ty hty B R w p e hp=>?_⟩
    obtain ⟨b,hb,rfl⟩:=hp
    obtain ⟨xs,hx,hr⟩:=load_own (P:=P) e (by rw [hn]; rfl) hb (Nat.le_of_ble_eq_true h1)
    obtain ⟨t1,t2⟩:=tyI_spec (w:=w) hty
    exact ⟨.agg xs.toArray,by simp [loadVar,t1,t2,hr],xs,hx,rfl⟩
   | false=>
    simp only [cond_false] at hK
    split at hK
    ·rename_i v hv
     rw [fo_eq] at hK
     refine ⟨v,hK,fun ty hty B R w p e hp=>?_⟩
     obtain ⟨b,hb,rfl⟩:=hp
     obtain ⟨x,hx,hr⟩:=load_own1 (P:=P) e (by rw [hn]; rfl) hb hv
     obtain ⟨t1,t2⟩:=tyI_spec (w:=w) hty
     refine ⟨x,?_,hx⟩
     simp only [loadVar,Sem.run_bind,t1,Result.andThen_ok]
     exact hr
    ·exact hK.elim
  ·rename_i pre L g t hn
   have key:∀ (ty:TypeId),tyI P ty=some (agg,size)->∀ (B:Nat) (R:Rn) (w:World) (p:Addr),Emb B R h.at w->ARel R (.own n off) p ->
     (agg=true->off+size<=(pre ++ famL L g).length->∃ x,(loadVar ty p).run P w=.ok x w/\VRel R (.agg (((pre ++ famL L g).drop off).take size)) x) /\
     (agg=false->∀ v,(pre ++ famL L g)[off]? = some v->∃ x,(loadVar ty p).run P w=.ok x w/\VRel R v x):=by
    intro ty hty B R w p e hp
    obtain ⟨b,hb,rfl⟩:=hp
    obtain ⟨t1,t2⟩:=tyI_spec (w:=w) hty
    refine ⟨fun ha hle=>?_,fun ha v hv=>?_⟩
    ·subst ha
     obtain ⟨xs,hx,hr⟩:=load_own (P:=P) e (cs:=pre ++ famL L g) (t:=t) (by rw [hn]; rfl) hb hle
     exact ⟨.agg xs.toArray,by simp [loadVar,t1,t2,hr],xs,hx,rfl⟩
    ·subst ha
     obtain ⟨x,hx,hr⟩:=load_own1 (P:=P) e (cs:=pre ++ famL L g) (t:=t) (by rw [hn]; rfl) hb hv
     refine ⟨x,?_,hx⟩
     simp only [loadVar,Sem.run_bind,t1,Result.andThen_ok]
     exact hr
   cases agg with
   | true=>
    simp only [cond_true] at hK
    cases hb:Nat.ble pre.length off with
    | true=>
     rw [hb] at hK
     simp only [cond_true] at hK
     obtain ⟨h1,h2⟩:=cond_f hK
     simp only [foN_eq,foL_eq] at h2
     have h1:=Nat.le_of_ble_eq_true h1
     have hb:=Nat.le_of_ble_eq_true hb
     refine ⟨_,h2,fun ty hty B R w p e hp=>?_⟩
     have:=(key ty hty B R w p e hp).1 rfl (by rw [List.length_append,famL_length]; exact h1)
     rwa [List.drop_append,List.drop_eq_nil_of_le hb,List.nil_append,famL_part (by omega)] at this
    | false=>
     rw [hb] at hK
     simp only [cond_false] at hK
     obtain ⟨h1,h2⟩:=cond_f hK
     simp only [Bool.and_eq_true] at h1
     simp only [foL_eq,famR_all] at h2
     refine ⟨_,h2,fun ty hty B R w p e hp=>?_⟩
     exact (key ty hty B R w p e hp).1 rfl (by rw [List.length_append,famL_length]; exact Nat.le_of_ble_eq_true h1.2)
   | false=>
    simp only [cond_false] at hK
    cases hb:Nat.ble pre.length off with
    | true=>
     rw [hb] at hK
     simp only [cond_true] at hK
     obtain ⟨h1,h2⟩:=cond_f hK
     simp only [foN_eq] at h2
     have h1:off<pre.length+L:=by rw [Nat.blt_eq] at h1; exact h1
     have hb:=Nat.le_of_ble_eq_true hb
     refine ⟨_,h2,fun ty hty B R w p e hp=>?_⟩
     exact (key ty hty B R w p e hp).2 rfl _ (by rw [List.getElem?_append_right hb,famL_get (by omega)])
    | false=>
     rw [hb] at hK
     simp only [cond_false] at hK
     split at hK
     ·rename_i v hv
      rw [fo_eq] at hK
      refine ⟨_,hK,fun ty hty B R w p e hp=>?_⟩
      refine (key ty hty B R w p e hp).2 rfl _ ?_
      rw [List.getElem?_append_left (List.getElem?_eq_some_iff.1 hv).1]
      exact hv
     ·exact hK.elim
  ·exact hK.elim
 | fa n p0 o=>
  simp only at hK
  split at hK
  ·rename_i pre L g t hn
   obtain ⟨h0,h2⟩:=cond_f hK
   have h0:pre.length=p0:=Nat.eq_of_beq_eq_true h0
   subst h0
   cases agg with
   | true=>
    simp only [cond_true] at h2
    obtain ⟨h1,h2⟩:=cond_f h2
    have h1:o+size<=L:=by simpa using h1
    rw [foL_eq] at h2
    refine ⟨_,h2,fun ty hty B R w p e hp=>?_⟩
    obtain ⟨b,hb,rfl⟩:=hp
    obtain ⟨t1,t2⟩:=tyI_spec (w:=w) hty
    obtain ⟨xs,hx,hr⟩:=load_own (P:=P) e (cs:=pre ++ famL L g) (t:=t) (by rw [hn]; rfl) hb (off:=pre.length+o) (size:=size) (by rw [List.length_append,famL_length]; omega)
    refine ⟨.agg xs.toArray,by simp [loadVar,t1,t2,hr],xs,?_,rfl⟩
    rwa [List.drop_append,List.drop_eq_nil_of_le (by omega),List.nil_append,Nat.add_sub_cancel_left,famL_part h1] at hx
   | false=>
    simp only [cond_false] at h2
    obtain ⟨h1,h2⟩:=cond_f h2
    have h1:o<L:=by simpa using h1
    refine ⟨_,h2,fun ty hty B R w p e hp=>?_⟩
    obtain ⟨b,hb,rfl⟩:=hp
    obtain ⟨t1,t2⟩:=tyI_spec (w:=w) hty
    obtain ⟨x,hx,hr⟩:=load_own1 (P:=P) e (cs:=pre ++ famL L g) (t:=t) (by rw [hn]; rfl) hb (off:=pre.length+o) (v:=.int .i64 (g o)) (by rw [List.getElem?_append_right (by omega),Nat.add_sub_cancel_left,famL_get h1])
    refine ⟨x,?_,hx⟩
    simp only [loadVar,Sem.run_bind,t1,Result.andThen_ok]
    exact hr
  ·rename_i cs t hn
   split at hK
   ·rename_i k m r hd
    obtain ⟨ha,h2⟩:=cond_ff hK
    subst ha
    obtain ⟨l,hl,h2⟩:=selE_sound h2
    obtain ⟨h1,h2⟩:=cond_f h2
    have h1:o<(m::l).length:=by simpa using h1
    refine ⟨_,h2,fun ty hty B R w p e hp=>?_⟩
    obtain ⟨b,hb,rfl⟩:=hp
    obtain ⟨t1,t2⟩:=tyI_spec (w:=w) hty
    obtain ⟨x,hx,hr⟩:=load_own1 (P:=P) e (cs:=cs) (t:=t) (by rw [hn]; rfl) hb (off:=p0+o) (v:=.int k ((m::l).getD o 0)) (by
     rw [<- List.getElem?_drop,hd]
     cases o with
     | zero=>rfl
     | succ o=>simpa using hl o (by simpa using h1))
    refine ⟨x,?_,hx⟩
    simp only [loadVar,Sem.run_bind,t1,Result.andThen_ok]
    exact hr
   ·exact hK.elim
  ·exact hK.elim
 | rw n j o=>
  simp only at hK
  split at hK
  ·rename_i Kr r C g t te hn
   obtain ⟨ha,hK⟩:=cond_ff hK
   subst ha
   cases hj:Nat.beq j 0 with
   | true=>
    rw [hj] at hK
    obtain rfl:j=0:=Nat.eq_of_beq_eq_true hj
    obtain ⟨h1,hK⟩:=cond_f hK
    have h1:o<r:=by simpa using h1
    refine ⟨_,hK,fun ty hty B R w p e hp=>?_⟩
    obtain ⟨v,b,hv,hb,rfl⟩:=hp
    obtain ⟨m0,⟨b0,xs,m1,m2,m3,m4,m5,m6⟩,m7,_,_⟩:=e.mat n _ _ _ _ _ _ hn
    rw [m1] at hv
    cases hv
    cases hb
    obtain ⟨t1,t2⟩:=tyI_spec (w:=w) hty
    obtain ⟨u,g1,g2⟩:=m5 o h1
    obtain ⟨c,ys,y1,_⟩:=m7 o h1
    rw [y1] at g1
    cases g1
    refine ⟨_,?_,Nat.le_refl _,some ⟨c,0,none⟩,.inr ⟨_,rfl,_,c,y1,rfl,rfl⟩,rfl⟩
    simp only [loadVar,Sem.run_bind,t1,Result.andThen_ok]
    show (load ⟨b0,o,none⟩).run P w=_
    simp [World.cell?,m3,g2]
   | false=>
    rw [hj] at hK
    obtain ⟨i,rfl⟩:∃ i,j=i+1:=⟨j - 1,by
     have:j ≠ 0:=fun h=>by rw [h] at hj; cases hj
     omega⟩
    simp only [cond_false,Nat.add_sub_cancel] at hK
    obtain ⟨h1,hK⟩:=cond_f hK
    have h1:i<r/\o<C:=by simpa using h1
    refine ⟨_,hK,fun ty hty B R w p e hp=>?_⟩
    obtain ⟨v,b,hv,hb,rfl⟩:=hp
    obtain ⟨_,_,m7,_,_⟩:=e.mat n _ _ _ _ _ _ hn
    obtain ⟨c,ys,y1,y2,y3,y4,y5⟩:=m7 i h1.1
    rw [y1] at hv
    cases hv
    cases hb
    obtain ⟨t1,t2⟩:=tyI_spec (w:=w) hty
    refine ⟨_,?_,rfl⟩
    simp only [loadVar,Sem.run_bind,t1,Result.andThen_ok]
    show (load ⟨c,o,none⟩).run P w=_
    simp [World.cell?,y3,y5 o h1.2]
  ·exact hK.elim
 | hb t j o=>exact hK.elim
 | el n ix i off=>
  simp only at hK
  split at hK
  ·rename_i s ok g hn
   obtain ⟨h1,hok,h2⟩:=cond_f hK
   cases agg with
   | true=>
    simp only [cond_true,foL_eq] at h2
    refine ⟨_,h2,fun ty hty B R w p e hp=>?_⟩
    simp only [ARel] at hp
    subst hp
    obtain ⟨xs,hx,hr⟩:=load_el (P:=P) e hn hok (Nat.le_of_ble_eq_true h1)
    obtain ⟨t1,t2⟩:=tyI_spec (w:=w) hty
    exact ⟨.agg xs.toArray,by simp [loadVar,t1,t2,hr],xs,hx,rfl⟩
   | false=>
    simp only [cond_false] at h2
    split at h2
    ·rename_i v hv
     rw [fo_eq] at h2
     refine ⟨v,h2,fun ty hty B R w p e hp=>?_⟩
     simp only [ARel] at hp
     subst hp
     obtain ⟨x,hx,hr⟩:=load_el1 (P:=P) e hn hok hv
     obtain ⟨t1,t2⟩:=tyI_spec (w:=w) hty
     refine ⟨x,?_,hx⟩
     simp only [loadVar,Sem.run_bind,t1,Result.andThen_ok]
     exact hr
    ·exact h2.elim
  ·exact hK.elim
 | ve n L s i off=>
  simp only at hK
  split at hK
  ·rename_i L' g s' t hn
   obtain ⟨h1,h2⟩:=cond_f hK
   simp only [Bool.and_eq_true] at h1
   obtain ⟨⟨h1,hs⟩,hL⟩:=h1
   have hs':s'=s:=Nat.eq_of_beq_eq_true hs
   have hL':L'=L:=Nat.eq_of_beq_eq_true hL
   subst hs'; subst hL'
   cases agg with
   | true=>
    simp only [cond_true,foL_eq] at h2
    refine ⟨_,h2,fun ty hty B R w p e hp=>?_⟩
    obtain ⟨h0,v,b,g1,g2,rfl⟩:=hp
    obtain ⟨xs,hx,hr⟩:=load_ve (P:=P) e hn g1 g2 h0 (Nat.le_of_ble_eq_true h1)
    obtain ⟨t1,t2⟩:=tyI_spec (w:=w) hty
    exact ⟨.agg xs.toArray,by simp [loadVar,t1,t2,hr],xs,hx,rfl⟩
   | false=>
    simp only [cond_false] at h2
    split at h2
    ·rename_i u hu
     rw [fo_eq] at h2
     refine ⟨u,h2,fun ty hty B R w p e hp=>?_⟩
     obtain ⟨h0,v,b,g1,g2,rfl⟩:=hp
     obtain ⟨x,hx,hr⟩:=load_ve1 (P:=P) e hn g1 g2 h0 hu
     obtain ⟨t1,t2⟩:=tyI_spec (w:=w) hty
     refine ⟨x,?_,hx⟩
     simp only [loadVar,Sem.run_bind,t1,Result.andThen_ok]
     exact hr
    ·exact h2.elim
  ·exact hK.elim
theorem setL_length:∀ (vs:List VV) (cs:List VV) (off:Nat),(setL cs off vs).length=cs.length
 | [],_,_=>rfl
 | v::vs,cs,off=>by simp [setL,setL_length vs]
theorem storeCells_sound {n b:Nat} {t:TypeId}:∀ (vs:List VV) (xs:List Value) (cs:List VV) (off j:Nat) (B:Nat) (R:Rn) (η:Nat->VB) (w:World),
  Emb B R η w->η n=.cells cs t->R.blk n=some b->VRelL R vs xs->vs.all VV.one=true->off+j+vs.length<=cs.length ->
  ∃ w',(storeCells ⟨b,off,none⟩ xs j).run P w=.ok () w'/\Emb B R (upd η n (.cells (setL cs (off+j) vs) t)) w'/\Nxt η R w (upd η n (.cells (setL cs (off+j) vs) t)) R w':=by
 intro vs
 induction vs with
 | nil=>
  intro xs cs off j B R η w e hn hb hx _ _
  simp only [VRelL] at hx
  subst hx
  have:upd η n (.cells (setL cs (off+j) []) t)=η:=by
   funext m
   unfold upd
   split
   ·rename_i h; subst h; simpa [setL] using hn.symm
   ·rfl
  rw [this]
  exact ⟨w,by simp [storeCells],e,Nxt.refl _ _ _ e.fresh⟩
 | cons v vs ih=>
  intro xs cs off j B R η w e hn hb hx hone hlen
  obtain ⟨y,ys,h1,h2,rfl⟩:=hx
  simp only [List.all_cons,Bool.and_eq_true] at hone
  simp only [List.length_cons] at hlen
  have hlt:off+j<cs.length:=by omega
  obtain ⟨x0,hc,_,hfz⟩:=e.cell hn (List.getElem?_eq_getElem hlt) hb
  obtain ⟨e1,n1⟩:=e.store hn (off:=off+j) h1 hb
  have hadd:(Addr.add ⟨b,off,none⟩ j)=⟨b,off+j,none⟩:=by
   unfold Addr.add
   split
   ·rename_i h0; subst h0; rfl
   ·rfl
  have hst:(store (Addr.add ⟨b,off,none⟩ j) y).run P w=.ok () (w.setCell ⟨b,off+j,none⟩ y):=by
   rw [hadd,run_store P w _ _ _ (one_rel h1 hone.1)]
   simp [hc,hfz]
  have hup:upd η n (.cells (cs.set (off+j) v) t) n=.cells (cs.set (off+j) v) t:=by simp [upd]
  obtain ⟨w',hr,e2,n2⟩:=ih ys (cs.set (off+j) v) off (j+1) B R _ _ e1 hup hb h2 hone.2 (by simp; omega)
  have huu:upd (upd η n (.cells (cs.set (off+j) v) t)) n (.cells (setL (cs.set (off+j) v) (off+(j+1)) vs) t)=upd η n (.cells (setL cs (off+j) (v::vs)) t):=by
   funext m
   unfold upd
   split
   ·simp [setL,Nat.add_assoc]
   ·simp [*]
  rw [huu] at e2 n2
  exact ⟨w',by simp [storeCells,hst,hr],e2,n1.trans n2⟩
theorem numsE_sound:∀ {vs:List VV} {K:List Int->Prop},numsE vs K->∃ ns,K ns/\vs=ns.map (VV.int .i64)
 | [],K,h=>⟨[],h,rfl⟩
 | v::r,K,h=>by
  have key:∃ n,v=.int .i64 n/\numsE r fun l=>K (n::l):=by
   unfold numsE at h
   split at h
   ·rename_i he; cases he
   ·rename_i n r' he
    cases he
    exact ⟨n,rfl,h⟩
   ·exact False.elim h
  obtain ⟨n,rfl,h0⟩:=key
  obtain ⟨ns,h1,h2⟩:=numsE_sound h0
  exact ⟨n::ns,h1,by rw [h2]; rfl⟩
theorem setL_get:∀ (vs:List VV) (cs:List VV) (off k:Nat),off+vs.length<=cs.length->(setL cs off vs)[k]? = if off<=k/\k<off+vs.length then vs[k - off]? else cs[k]?
 | [],cs,off,k,_=>by simp [setL]; omega
 | v::vs,cs,off,k,h=>by
  simp only [List.length_cons] at h
  rw [setL,setL_get vs _ (off+1) k (by simp; omega),List.length_cons]
  by_cases h1:off+1<=k/\k<off+1+vs.length
  ·rw [if_pos h1,if_pos (by omega),show k - off=(k - (off+1))+1 by omega]
   rfl
  ·rw [if_neg h1,List.getElem?_set]
   by_cases h2:off=k
   ·subst h2
    rw [if_pos rfl,if_pos (by omega),if_pos (by omega)]
    simp
   ·rw [if_neg h2,if_neg (by omega)]
theorem setF_eq (g:Nat->Int) (o:Nat) (ns:List Int) (k:Nat):setF g o ns k=if o<=k/\k<o+ns.length then ns.getD (k - o) 0 else g k:=by
 have gen:(bif (Nat.ble o k && Nat.blt k (o+ns.length)) then ns.getD (k - o) 0 else g k)=if o<=k/\k<o+ns.length then ns.getD (k - o) 0 else g k:=by
  by_cases h:o<=k/\k<o+ns.length
  ·rw [if_pos h,show Nat.ble o k=true by rw [Nat.ble_eq]; exact h.1,blt_t h.2]; rfl
  ·rw [if_neg h]
   cases h1:Nat.ble o k with
   | false=>rfl
   | true=>
    have:=Nat.le_of_ble_eq_true h1
    rw [blt_f (by omega)]; rfl
 unfold setF
 split
 ·rename_i x
  by_cases h:k=o
  ·subst h; rw [beq_t rfl,if_pos (by simp)]; simp
  ·rw [beq_f h,if_neg (by simp; omega)]; rfl
 ·exact gen
theorem famL_set {pre:List VV} {L o:Nat} {g:Nat->Int} {ns:List Int} (h:o+ns.length<=L):setL (pre ++ famL L g) (pre.length+o) (ns.map (VV.int .i64))=pre ++ famL L (setF g o ns):=by
 apply List.ext_getElem?
 intro k
 rw [setL_get _ _ _ _ (by simp [famL_length]; omega),List.length_map]
 by_cases hk:k<pre.length
 ·rw [if_neg (by omega),List.getElem?_append_left hk,List.getElem?_append_left hk]
 ·rw [List.getElem?_append_right (by omega),List.getElem?_append_right (by omega)]
  by_cases hL:k - pre.length<L
  ·rw [famL_get hL,famL_get hL,setF_eq]
   by_cases h2:o<=k - pre.length/\k - pre.length<o+ns.length
   ·rw [if_pos h2,if_pos (by omega),List.getElem?_map,show k - (pre.length+o)=k - pre.length - o by omega,List.getElem?_eq_getElem (show k - pre.length - o<ns.length by omega),List.getD_eq_getElem?_getD,List.getElem?_eq_getElem (show k - pre.length - o<ns.length by omega)]
    rfl
   ·rw [if_neg h2,if_neg (by omega)]
  ·have e1:(famL L g)[k - pre.length]? = none:=by rw [List.getElem?_eq_none]; rw [famL_length]; omega
   have e2:(famL L (setF g o ns))[k - pre.length]? = none:=by rw [List.getElem?_eq_none]; rw [famL_length]; omega
   rw [e1,e2,if_neg (by omega)]
theorem setL_pre {vs pre fam:List VV} {off:Nat} (h:off+vs.length<=pre.length):setL (pre ++ fam) off vs=setL pre off vs ++ fam:=by
 apply List.ext_getElem?
 intro k
 rw [setL_get _ _ _ _ (by simp; omega)]
 by_cases hk:k<pre.length
 ·have h1:(setL pre off vs ++ fam)[k]? = (setL pre off vs)[k]?:=List.getElem?_append_left (by rw [setL_length]; exact hk)
  have h2:(pre ++ fam)[k]? = pre[k]?:=List.getElem?_append_left hk
  rw [h1,setL_get _ _ _ _ h,h2]
 ·have h1:(setL pre off vs ++ fam)[k]? = fam[k - (setL pre off vs).length]?:=List.getElem?_append_right (by rw [setL_length]; omega)
  have h2:(pre ++ fam)[k]? = fam[k - pre.length]?:=List.getElem?_append_right (by omega)
  rw [h1,setL_length,if_neg (by omega),h2]
theorem all_ints (ns:List Int):(ns.map (VV.int .i64)).all VV.one=true:=by simp [VV.one]
theorem storeC_sound {B:Nat} {R:Rn} {η:Nat->VB} {w:World} (e:Emb B R η w) {n b:Nat} {cs vs:List VV} {xs:List Value} {t:TypeId} (hn:(η n).cs? = some (cs,t)) (hb:R.blk n=some b) (hx:VRelL R vs xs) (hone:vs.all VV.one=true) {off:Nat} (hlen:off+vs.length<=cs.length) {y:VB} (hy:y.cs? = some (setL cs off vs,t)) :
  ∃ w',(storeCells ⟨b,off,none⟩ xs 0).run P w=.ok () w'/\Emb B R (upd η n y) w'/\Nxt η R w (upd η n y) R w':=by
 obtain ⟨e1,n1⟩:=e.swap (x:=.cells cs t) hn rfl
 obtain ⟨w',hr,e2,n2⟩:=storeCells_sound (P:=P) (t:=t) vs xs cs off 0 B R _ w e1 (by simp [upd]) hb hx hone (by omega)
 obtain ⟨e3,n3⟩:=e2.swap (n:=n) (x:=y) (cs:=setL cs off vs) (t:=t) (by simp [upd]) hy
 have huu:∀ z:VB,upd (upd (upd η n (.cells cs t)) n z) n y=upd η n y:=fun z=>by
  funext m
  unfold upd
  split <;> simp [*]
 rw [huu] at e3 n3
 exact ⟨w',hr,e3,(n1.trans n2).trans n3⟩
theorem all_one {R:Rn}:∀ {l:List VV} {xs:List Value},VRelL R l xs->l.all VV.one=true->∀ x ∈ xs,x.oneCell'=true
 | [],_,h,_=>by simp only [VRelL] at h; subst h; simp
 | v::vs,_,h,ho=>by
  obtain ⟨y,ys,h1,h2,rfl⟩:=h
  simp only [List.all_cons,Bool.and_eq_true] at ho
  intro x hx
  rcases List.mem_cons.1 hx with rfl | hx
  ·exact one_rel h1 ho.1
  ·exact all_one h2 ho.2 x hx
theorem bel0_no_A {R:Rn}:∀ (a:VA) (p:Addr),a.bel 0=true->ARel R a p->ARel R.no a p
 | .own _ _,_,h,_=>(by simp [VA.bel,Nat.blt] at h)
 | .el _ _ _ _,_,_,hx=>hx
 | .ve _ _ _ _ _,_,h,_=>(by simp [VA.bel,Nat.blt] at h)
 | .hb _ _ _,_,_,hx=>hx
mutual
theorem bel0_no {R:Rn}:∀ (v:VV) (x:Value),v.bel 0=true->VRel R v x->VRel R.no v x
 | .bool _,_,_,hx=>hx
 | .int _ _,_,_,hx=>hx
 | .nilp,_,_,hx=>hx
 | .ptr a,_,hb,⟨p,hp,hx⟩=>⟨p,bel0_no_A a p hb hp,hx⟩
 | .nils,_,_,hx=>hx
 | .slice a _ _,_,hb,⟨hl,p,hp,hx⟩=>⟨hl,p,hp.imp id (fun ⟨q,h1,h2⟩=>⟨q,h1,bel0_no_A a q hb h2⟩),hx⟩
 | .func _ a b,_,hb,⟨xs,ys,h1,h2,hx⟩=>by
  simp only [VV.bel,Bool.and_eq_true] at hb
  exact ⟨xs,ys,bel0_noL a xs hb.1 h1,bel0_noL b ys hb.2 h2,hx⟩
 | .nilf,_,_,hx=>hx
 | .iface _ v,_,hb,⟨y,hy,hx⟩=>⟨y,bel0_no v y hb hy,hx⟩
 | .niff,_,_,hx=>hx
 | .agg cs,_,hb,⟨xs,h1,hx⟩=>⟨xs,bel0_noL cs xs hb h1,hx⟩
 | .tup vs,_,hb,⟨xs,h1,hx⟩=>⟨xs,bel0_noL vs xs hb h1,hx⟩
 | .opq _,_,_,hx=>hx
 | .any,_,_,hx=>hx
 | .yld n,_,hb,_=>(by simp [VV.bel,Nat.blt] at hb)
 | .sl n _,_,hb,_=>(by simp [VV.bel,Nat.blt] at hb)
 | .sub n _ _ _ _,_,hb,_=>(by simp [VV.bel,Nat.blt] at hb)
 | .mp n,_,hb,_=>(by simp [VV.bel,Nat.blt] at hb)
 | .tl _ _ _,_,_,hx=>hx
 | .tp _,_,_,hx=>hx
 | .hs _ _ _,_,_,hx=>hx
theorem bel0_noL {R:Rn}:∀ (cs:List VV) (xs:List Value),belL 0 cs=true->VRelL R cs xs->VRelL R.no cs xs
 | [],_,_,hx=>hx
 | c::cs,_,hb,⟨y,ys,h1,h2,hx⟩=>by
  simp only [belL,Bool.and_eq_true] at hb
  exact ⟨y,ys,bel0_no c y hb.1 h1,bel0_noL cs ys hb.2 h2,hx⟩
end
def wrX:List Value->Nat->List Value->List Value
 | cs,_,[]=>cs
 | cs,o,v::vs=>wrX (cs.set o v) (o+1) vs
theorem wrX_length:∀ (vs cs:List Value) (o:Nat),(wrX cs o vs).length=cs.length
 | [],_,_=>rfl
 | v::vs,cs,o=>by rw [wrX,wrX_length vs]; simp
theorem wrX_get:∀ (vs cs:List Value) (o k:Nat),o+vs.length<=cs.length->(wrX cs o vs)[k]? = if o<=k/\k<o+vs.length then vs[k - o]? else cs[k]?
 | [],cs,o,k,_=>by simp [wrX]; omega
 | v::vs,cs,o,k,h=>by
  simp only [List.length_cons] at h
  rw [wrX,wrX_get vs _ (o+1) k (by simp; omega),List.length_cons]
  by_cases h1:o+1<=k/\k<o+1+vs.length
  ·rw [if_pos h1,if_pos (by omega),show k - o=(k - (o+1))+1 by omega]
   rfl
  ·rw [if_neg h1,List.getElem?_set]
   by_cases h2:o=k
   ·subst h2
    rw [if_pos rfl,if_pos (by omega),if_pos (by omega)]
    simp
   ·rw [if_neg h2,if_neg (by omega)]
theorem wrX_rel {R:Rn}:∀ (vs:List VV) (ys:List Value) (cs:List VV) (xs:List Value) (o:Nat),VRelL R vs ys->VRelL R cs xs->VRelL R (setL cs o vs) (wrX xs o ys)
 | [],_,cs,xs,o,h,hc=>by simp only [VRelL] at h; subst h; exact hc
 | v::vs,_,cs,xs,o,h,hc=>by
  obtain ⟨y,ys,h1,h2,rfl⟩:=h
  exact wrX_rel vs ys _ _ _ h2 (hc.set o v y h1)
theorem setL_one:∀ (vs cs:List VV) (o:Nat),vs.all VV.one=true->cs.all VV.one=true->(setL cs o vs).all VV.one=true
 | [],_,_,_,h=>h
 | v::vs,cs,o,hv,h=>by
  simp only [List.all_cons,Bool.and_eq_true] at hv
  refine setL_one vs _ _ hv.2 ?_
  rw [List.all_eq_true] at h ⊢
  intro x hx
  rcases List.mem_or_eq_of_mem_set hx with hx | hx
  ·exact h x hx
  ·rw [hx]; exact hv.1
theorem wrX_out {vs cur:List Value} {o a s:Nat} (hl:o+vs.length<=cur.length) (h:a+s<=o ∨ o+vs.length<=a):((wrX cur o vs).drop a).take s=(cur.drop a).take s:=by
 apply List.ext_getElem?
 intro k
 rw [List.getElem?_take,List.getElem?_take]
 by_cases hk:k<s
 ·rw [if_pos hk,if_pos hk,List.getElem?_drop,List.getElem?_drop,wrX_get _ _ _ _ hl,if_neg (by omega)]
 ·rw [if_neg hk,if_neg hk]
theorem wrX_in {vs cur:List Value} {o a s:Nat} (hl:o+vs.length<=cur.length) (h1:a<=o) (h2:o+vs.length<=a+s):((wrX cur o vs).drop a).take s=wrX ((cur.drop a).take s) (o - a) vs:=by
 apply List.ext_getElem?
 intro k
 rw [List.getElem?_take,wrX_get _ _ _ _ (by rw [List.length_take,List.length_drop]; omega),List.getElem?_take]
 by_cases hk:k<s
 ·rw [if_pos hk,List.getElem?_drop,wrX_get _ _ _ _ hl,if_pos hk,List.getElem?_drop]
  by_cases hh:o<=a+k/\a+k<o+vs.length
  ·rw [if_pos hh,if_pos (by omega),show k - (o - a)=a+k - o by omega]
  ·rw [if_neg hh,if_neg (by omega)]
 ·rw [if_neg hk,if_neg hk,if_neg (by omega)]
theorem wrX_all {vs cur:List Value} {o a s:Nat} (hl:o+vs.length<=cur.length) (h1:o<=a) (h2:a+s<=o+vs.length):((wrX cur o vs).drop a).take s=(vs.drop (a - o)).take s:=by
 apply List.ext_getElem?
 intro k
 rw [List.getElem?_take,List.getElem?_take]
 by_cases hk:k<s
 ·rw [if_pos hk,if_pos hk,List.getElem?_drop,List.getElem?_drop,wrX_get _ _ _ _ hl,if_pos (by omega),show a+k - o=a - o+k by omega]
 ·rw [if_neg hk,if_neg hk]
theorem setCells_heap {b:Nat} {t:TypeId} {fz:Nat × Nat}:∀ (vs:List Value) (o:Nat) (w:World) (cur:List Value),w.heap[b]? = some (.cells cur.toArray t fz) ->
  (w.setCells b o vs).heap[b]? = some (.cells (wrX cur o vs).toArray t fz)/\(w.setCells b o vs).heap.size=w.heap.size/\(∀ b',b' ≠ b->(w.setCells b o vs).heap[b']? = w.heap[b']?)/\(w.setCells b o vs).os=w.os/\(w.setCells b o vs).tape=w.tape/\(w.setCells b o vs).output=w.output
 | [],_,_,_,h=>⟨h,rfl,fun _ _=>rfl,rfl,rfl,rfl⟩
 | v::vs,o,w,cur,h=>by
  have h1:(w.setCell ⟨b,o,none⟩ v).heap[b]? = some (.cells (cur.set o v).toArray t fz):=by
   simp [World.setCell,Array.getElem?_modify,h]
  obtain ⟨g1,g2,g3,g4,g5,g6⟩:=setCells_heap vs (o+1) _ _ h1
  refine ⟨g1,by rw [World.setCells,g2]; simp [World.setCell],fun b' hb'=>?_,g4,g5,g6⟩
  rw [World.setCells,g3 b' hb']
  simp [World.setCell,Array.getElem?_modify,Ne.symm hb']
theorem vec_own {B:Nat} {R:Rn} {η:Nat->VB} {w:World} (e:Emb B R η w) {n L s:Nat} {g:Nat->List VV} {t:TypeId} (hn:η n=.vec L g s t) {v:Value} (hv:R.vec n L=some v) {b:Nat} (hb:v.ownBlock=some b) :
  ∃ (cur:List Value) (cap:Nat),v=.slice (some ⟨b,0,none⟩) L cap/\B<=b/\w.heap[b]? = some (.cells cur.toArray t (0,0))/\L<=cap/\cap<=maxLen/\cur.length=cap*s/\∀ i,i<L->VRelL R.no (g i) ((cur.drop (i*s)).take s)/\(g i).all VV.one=true:=by
 obtain ⟨v0,xs,h1,h2,h3⟩:=(e.vec n L g s t hn).row
 rw [hv] at h1
 cases h1
 rcases h2.2 with ⟨rfl,_⟩ | ⟨gb,cap,cur,rfl,k1,k2,k3,k4,k5,k6⟩
 ·cases hb
 ·cases hb
  refine ⟨cur.toList,cap,rfl,k1,by simpa using k2,k3,k4,by simpa using k5,fun i hi=>?_⟩
  obtain ⟨q1,q2⟩:=h3 i hi
  refine ⟨?_,q2⟩
  have hle:i*s+s<=L*s:=by rw [<- Nat.succ_mul]; exact Nat.mul_le_mul_right _ hi
  rw [<- k6,List.drop_take,List.take_take,Nat.min_eq_left (by omega)] at q1
  exact q1
theorem vec_put {B:Nat} {R:Rn} {η:Nat->VB} {w:World} (e:Emb B R η w) {n L s:Nat} {g:Nat->List VV} {t:TypeId} (hn:η n=.vec L g s t) {b cap:Nat} {cur:List Value} (hv:R.vec n L=some (.slice (some ⟨b,0,none⟩) L cap))
  (hB:B<=b) (hw:w.heap[b]? = some (.cells cur.toArray t (0,0))) (hcap:L<=cap) (hm:cap<=maxLen) (hl:cur.length=cap*s) {o:Nat} {vs:List Value} {g':Nat->List VV}
  (hg:∀ i,i<L->VRelL R.no (g' i) (((wrX cur o vs).drop (i*s)).take s)/\(g' i).all VV.one=true) :
  Emb B R (upd η n (.vec L g' s t)) (w.setCells b o vs)/\Nxt η R w (upd η n (.vec L g' s t)) R (w.setCells b o vs):=by
 obtain ⟨q1,q2,q3,q4,q5,q6⟩:=setCells_heap vs o w cur hw
 have hle:R.le R:=⟨fun _ _ h=>h,rfl,rfl,fun _ _ _ h=>h,fun _ _ h=>h⟩
 have how0:R.ow n (η n) b:=by
  rw [hn]
  show (R.vec n L).bind Value.ownBlock=some b
  rw [hv]; rfl
 have how1:R.ow n (.vec L g' s t) b:=by
  show (R.vec n L).bind Value.ownBlock=some b
  rw [hv]; rfl
 have hsame:∀ b',b'<w.heap.size->¬ R.ow n (η n) b'->(w.setCells b o vs).heap[b']? = w.heap[b']?:=fun b' _ hne=>q3 b' (fun h=>hne (by rw [h]; exact how0))
 have how:∀ b',R.ow n (.vec L g' s t) b'->R.ow n (η n) b' ∨ w.heap.size<=b':=fun b' hb'=>.inl (by rw [hn]; exact hb')
 have hvec:VecOk B R n (w.setCells b o vs) L g' s t:=by
  have hLs:L*s<=cap*s:=Nat.mul_le_mul_right _ hcap
  refine ⟨⟨_,(wrX cur o vs).take (L*s),hv,⟨by rw [List.length_take,wrX_length]; omega,.inr ⟨b,cap,(wrX cur o vs).toArray,rfl,hB,q1,hcap,hm,by simp [wrX_length,hl],by simp⟩⟩,fun i hi=>?_⟩,(e.vec n L g s t hn).last⟩
  obtain ⟨r1,r2⟩:=hg i hi
  refine ⟨?_,r2⟩
  have hle:i*s+s<=L*s:=by rw [<- Nat.succ_mul]; exact Nat.mul_le_mul_right _ hi
  rw [List.drop_take,List.take_take,Nat.min_eq_left (by omega)]
  exact r1
 exact ⟨e.step (by rw [q2]; exact Nat.le_refl _) hle (fun _ _=>rfl) (fun _ _=>rfl) hsame how (by simp) (by simp) (by simp) (by simp) (fun _ _ _ _ h=>by cases h; exact hvec),
  Nxt.step (by rw [q2]; exact Nat.le_refl _) hle (fun _ _=>rfl) (fun _ _=>rfl) hsame how (by simp) (fun L' v' h1 h2=>by rw [h1] at h2; cases h2) (fun L' h=>.inr ⟨L,by rw [hn]; rfl,by cases h; exact Nat.le_refl _⟩) q4 q5 q6⟩
theorem mat_set {B:Nat} {R:Rn} {η:Nat->VB} {w:World} (e:Emb B R η w) {n K r C:Nat} {g:Nat->Nat->Int} {t te:TypeId} (hn:η n=.mat K r C g t te) {i o:Nat} (hi:i<r) (ho:o<C) {b:Nat} (hv:R.vec n (i+1)=some (.slice (some ⟨b,0,none⟩) C C)) (x:Int) :
  Emb B R (upd η n (.mat K r C (setM g i o x) t te)) (w.setCells b o [.int .i64 x])/\Nxt η R w (upd η n (.mat K r C (setM g i o x) t te)) R (w.setCells b o [.int .i64 x]):=by
 obtain ⟨m0,⟨b0,xs0,m1,m2,m3,m4,m5,m6⟩,m7,m8,m9⟩:=e.mat n K r C g t te hn
 obtain ⟨b',cur,k1,k2,k3,k4,k5⟩:=m7 i hi
 rw [hv] at k1
 cases k1
 obtain ⟨q1,q2,q3,q4,q5,q6⟩:=setCells_heap [.int .i64 x] o w cur k3
 have hle:R.le R:=⟨fun _ _ h=>h,rfl,rfl,fun _ _ _ h=>h,fun _ _ h=>h⟩
 have how0:R.ow n (η n) b:=by rw [hn]; exact ⟨i+1,_,hi,hv,rfl⟩
 have hsame:∀ b',b'<w.heap.size->¬ R.ow n (η n) b'->(w.setCells b o [.int .i64 x]).heap[b']? = w.heap[b']?:=fun b' _ hne=>q3 b' (fun h=>hne (by rw [h]; exact how0))
 have how:∀ b',R.ow n (.mat K r C (setM g i o x) t te) b'->R.ow n (η n) b' ∨ w.heap.size<=b':=fun b' hb'=>.inl (by rw [hn]; exact hb')
 have hne:∀ j u c,j<=r->j ≠ i+1->R.vec n j=some u->u.ownBlock=some c->c ≠ b:=fun j u c hj hji hu hc hcb=>hji (m8 j (i+1) u _ b hj hi hu hv (by rw [<- hcb]; exact hc) rfl)
 have hmat:MatOk B R n (w.setCells b o [.int .i64 x]) K r C (setM g i o x) t te:=by
  refine ⟨m0,⟨b0,xs0,m1,m2,by rw [q3 b0 (hne 0 _ _ (Nat.zero_le _) (by omega) m1 rfl)]; exact m3,m4,m5,m6⟩,fun j hj=>?_,m8,m9⟩
  by_cases hji:j=i
  ·subst hji
   refine ⟨b,_,hv,k2,q1,by rw [wrX_length]; exact k4,fun k hk=>?_⟩
   rw [wrX_get _ _ _ _ (by simp only [List.length_singleton]; omega)]
   unfold setM
   by_cases hko:k=o
   ·subst hko
    rw [if_pos (by simp only [List.length_singleton]; omega),Nat.sub_self,Nat.beq_refl,Nat.beq_refl]
    rfl
   ·rw [if_neg (by simp only [List.length_singleton]; omega),beq_f hko,Bool.and_false,cond_false]
    exact k5 k hk
  ·obtain ⟨c,ys,g1,g2,g3,g4,g5⟩:=m7 j hj
   refine ⟨c,ys,g1,g2,by rw [q3 c (hne (j+1) _ _ hj (by omega) g1 rfl)]; exact g3,g4,fun k hk=>?_⟩
   unfold setM
   rw [beq_f hji,Bool.false_and,cond_false]
   exact g5 k hk
 exact ⟨e.step (by rw [q2]; exact Nat.le_refl _) hle (fun _ _=>rfl) (fun _ _=>rfl) hsame how (by simp) (by simp) (by simp) (by simp) (by simp) (by simp) rfl (fun _ _ _ _ _ _ h=>by cases h; exact hmat),
  Nxt.step (by rw [q2]; exact Nat.le_refl _) hle (fun _ _=>rfl) (fun _ _=>rfl) hsame how (by simp) (fun L' v' h1 h2=>by rw [h1] at h2; cases h2) (fun L' h=>.inr ⟨r,by rw [hn]; rfl,by cases h; exact Nat.le_refl _⟩) q4 q5 q6⟩
theorem mat_row {B:Nat} {R:Rn} {η:Nat->VB} {w:World} (e:Emb B R η w) {n q K r C L:Nat} {g:Nat->Nat->Int} {f:Nat->Int} {t te:TypeId} (hn:η n=.mat K r C g t te) (hq:η q=.fam [] L f te) (hqn:q ≠ n) (hr:r<K) (hC:r=0 ∨ L=C) {b0 bq:Nat} (hv:R.vec n 0=some (.slice (some ⟨b0,0,none⟩) K K)) (hbq:R.blk q=some bq) :
  ∃ R',Emb B R' (upd (upd η q .gone) n (.mat K (r+1) L (rowM g r f) t te)) (w.setCells b0 r [.slice (some ⟨bq,0,none⟩) L L])/\Nxt η R w (upd (upd η q .gone) n (.mat K (r+1) L (rowM g r f) t te)) R' (w.setCells b0 r [.slice (some ⟨bq,0,none⟩) L L]):=by
 obtain ⟨m0,⟨b1,cur,m1,m2,m3,m4,m5,m6⟩,m7,m8,m9⟩:=e.mat n K r C g t te hn
 rw [hv] at m1
 cases m1
 obtain ⟨bq',ys,y1,y2,y3,y4⟩:=e.ownF hq
 rw [hbq] at y1
 cases y1
 obtain ⟨q1,q2,q3,q4,q5,q6⟩:=setCells_heap [.slice (some ⟨bq,0,none⟩) L L] r w cur m3
 have hown0:R.ow n (η n) b0:=by rw [hn]; exact ⟨0,_,Nat.zero_le _,hv,rfl⟩
 have hownq:R.ow q (η q) bq:=by rw [hq]; exact hbq
 have hbne:bq ≠ b0:=fun h=>hqn (e.inj q n bq hownq (by rw [h]; exact hown0))
 let R':Rn:=⟨R.blk,R.arr,R.str,fun m j=>if m=n/\j=r+1 then some (.slice (some ⟨bq,0,none⟩) L L) else R.vec m j,R.frz⟩
 have hvn:∀ m,m ≠ n->R'.vec m=R.vec m:=fun m hm=>by
  funext j
  exact if_neg (fun h=>hm h.1)
 have hvo:∀ j,j ≠ r+1->R'.vec n j=R.vec n j:=fun j hj=>if_neg (fun h=>hj h.2)
 have hvr:R'.vec n (r+1)=some (.slice (some ⟨bq,0,none⟩) L L):=if_pos ⟨rfl,rfl⟩
 have hlast:R.vec n (r+1)=none:=m9 _ (Nat.lt_succ_self _)
 have hle:R.le R':=⟨fun _ _ h=>h,rfl,rfl,fun m j v h=>by
  by_cases hc:m=n/\j=r+1
  ·obtain ⟨rfl,rfl⟩:=hc
   rw [hlast] at h
   cases h
  ·exact (if_neg hc).trans h,fun _ _ h=>h⟩
 have hηo:∀ m,m ≠ n->m ≠ q->upd (upd η q .gone) n (.mat K (r+1) L (rowM g r f) t te) m=η m:=fun m h1 h2=>by
  unfold upd
  rw [if_neg h1,if_neg h2]
 have hηq:upd (upd η q .gone) n (.mat K (r+1) L (rowM g r f) t te) q=.gone:=by
  unfold upd
  rw [if_neg hqn,if_pos rfl]
 have hηn:upd (upd η q .gone) n (.mat K (r+1) L (rowM g r f) t te) n=.mat K (r+1) L (rowM g r f) t te:=if_pos rfl
 generalize upd (upd η q .gone) n (.mat K (r+1) L (rowM g r f) t te)=η2 at hηo hηq hηn ⊢
 have how':∀ m,m ≠ n->∀ x:VB,R'.ow m x=R.ow m x:=fun m hm x=>by
  have h1:=hvn m hm
  cases x <;> first | rfl | simp only [Rn.ow,h1]
 have hown:∀ m c,R'.ow m (η2 m) c->(m=n/\(R.ow n (η n) c ∨ c=bq)) ∨ (m ≠ n/\m ≠ q/\R.ow m (η m) c):=fun m c hc=>by
  by_cases h1:m=n
  ·subst h1
   rw [hηn] at hc
   obtain ⟨j,v,hj,hv1,hv2⟩:=hc
   refine .inl ⟨rfl,?_⟩
   by_cases h2:j=r+1
   ·subst h2
    rw [hvr] at hv1
    cases hv1
    cases hv2
    exact .inr rfl
   ·rw [hvo j h2] at hv1
    left
    rw [hn]
    exact ⟨j,v,by omega,hv1,hv2⟩
  ·by_cases h2:m=q
   ·subst h2
    rw [hηq] at hc
    exact hc.elim
   ·rw [hηo m h1 h2,how' m h1] at hc
    exact .inr ⟨h1,h2,hc⟩
 have hold:∀ m c,R'.ow m (η2 m) c->∃ m',R.ow m' (η m') c:=fun m c hc=>by
  rcases hown m c hc with ⟨rfl,h | rfl⟩ | ⟨_,_,h⟩
  ·exact ⟨m,h⟩
  ·exact ⟨q,hownq⟩
  ·exact ⟨m,h⟩
 have hother:∀ m c,m ≠ n->R.ow m (η m) c->(w.setCells b0 r [.slice (some ⟨bq,0,none⟩) L L]).heap[c]? = w.heap[c]?:=fun m c hm hc=>q3 c (fun h=>hm (e.inj m n c hc (by rw [h]; exact hown0)))
 refine ⟨R',⟨by rw [q2]; exact e.base,fun m cs t' hm=>?_,fun m m' c h1 h2=>?_,fun m s ok g' hm=>?_,fun m hm=>?_,fun m st pd t' k ps as bd hm=>?_,fun m L' g' s t' hm=>?_,fun m hm L'=>?_,fun m ks vk es hm=>?_,fun m K' r' C' g' t' te' hm=>?_,e.bunF (fun m _ _ _ _ _ hm=>by
   have hmn:m ≠ n:=fun h=>by rw [h,hηn] at hm; cases hm
   have hmq:m ≠ q:=fun h=>by rw [h,hηq] at hm; cases hm
   rw [hηo m hmn hmq] at hm; exact hm) (fun _ _=>rfl) (fun m _ _ _ _ _ hm b hb=>hother m b (fun h=>by rw [h,hηn] at hm; cases hm) hb),fun c xs hc=>?_⟩,
  ⟨fun m hm=>?_,fun m _=>rfl,rfl,rfl,hle.vec,fun m L' v h1 h2=>?_,fun m L' hm=>?_,fun m c hc=>.inl (hold m c hc),by rw [q2]; exact Nat.le_refl _,fun c _ hc=>q3 c (fun h=>hc n (by rw [h]; exact hown0)),q4,q5,q6,fun _ _ h=>h,fun _ _ h=>.inl h,RegN.same (fun _ _=>rfl) (fun m _ _ _ _ _ hm=>by
   have hmn:m ≠ n:=fun h=>by rw [h,hηn] at hm; cases hm
   have hmq:m ≠ q:=fun h=>by rw [h,hηq] at hm; cases hm
   rw [hηo m hmn hmq] at hm; exact hm)⟩⟩
 ·have hmn:m ≠ n:=fun h=>by rw [h,hηn] at hm; cases hm
  have hmq:m ≠ q:=fun h=>by rw [h,hηq] at hm; cases hm
  rw [hηo m hmn hmq] at hm
  obtain ⟨b,xs,g1,g2,g3,g4⟩:=e.ownC m cs t' hm
  exact ⟨b,xs,g1,g2,VRelL.mono hle _ _ g3,by rw [hother m b hmn (by rw [ow_cs hm]; exact g1)]; exact g4⟩
 ·rcases hown m c h1 with ⟨rfl,h1 | rfl⟩ | ⟨a1,a2,h1⟩ <;> rcases hown m' c h2 with ⟨rfl,h2 | h2⟩ | ⟨c1,c2,h2⟩
  ·rfl
  ·rfl
  ·exact e.inj _ _ _ h1 h2
  ·rfl
  ·rfl
  ·exact (c2 (e.inj _ _ _ h2 hownq)).elim
  ·exact e.inj m _ c (by assumption) h2
  ·subst h2
   exact (a2 (e.inj m q _ (by assumption) hownq)).elim
  ·exact e.inj m m' c (by assumption) h2
 ·have hmn:m ≠ n:=fun h=>by rw [h,hηn] at hm; cases hm
  have hmq:m ≠ q:=fun h=>by rw [h,hηq] at hm; cases hm
  rw [hηo m hmn hmq] at hm
  obtain ⟨h1,h2⟩:=e.arr m s ok g' hm
  refine ⟨h1,fun ix i hi=>?_⟩
  obtain ⟨h3,h4,h5,xs,h6,h7,h8⟩:=h2 ix i hi
  refine ⟨h3,h4,h5,xs,h6.mono hle.no,h7,fun k y hk=>?_⟩
  have h9:=h8 k y hk
  have hblk2:((R.arr m ix).add (i.toNat*s+k)).block=(R.arr m ix).block:=by unfold Addr.add; split <;> rfl
  show (w.setCells b0 r _).cell? ((R.arr m ix).add (i.toNat*s+k))=some y
  unfold World.cell? at h9 ⊢
  rw [hblk2] at h9 ⊢
  rw [q3 _ (fun h=>by rw [h] at h4; omega)]
  exact h9
 ·have hmn:m ≠ n:=fun h=>by rw [h,hηn] at hm; cases hm
  have hmq:m ≠ q:=fun h=>by rw [h,hηq] at hm; cases hm
  rw [hηo m hmn hmq] at hm
  exact e.fresh m hm
 ·have hmn:m ≠ n:=fun h=>by rw [h,hηn] at hm; cases hm
  have hmq:m ≠ q:=fun h=>by rw [h,hηq] at hm; cases hm
  rw [hηo m hmn hmq] at hm
  obtain ⟨b,ro,g1,g2,g3,g4⟩:=e.lp m st pd t' k ps as bd hm
  exact ⟨b,ro,g1,g2,by rw [hother m b hmn (by rw [hm]; exact g1)]; exact g3,g4.mono hle⟩
 ·have hmn:m ≠ n:=fun h=>by rw [h,hηn] at hm; cases hm
  have hmq:m ≠ q:=fun h=>by rw [h,hηq] at hm; cases hm
  rw [hηo m hmn hmq] at hm
  exact (e.vec m L' g' s t' hm).frame (hvn m hmn) hle.no (fun b hb=>hother m b hmn (by rw [hm]; exact hb))
 ·have hmn:m ≠ n:=fun h=>by rw [h,hηn] at hm; cases hm
  have hmq:m ≠ q:=fun h=>by rw [h,hηq] at hm; cases hm
  rw [hηo m hmn hmq] at hm
  rw [hvn m hmn]
  exact e.fvec m hm L'
 ·have hmn:m ≠ n:=fun h=>by rw [h,hηn] at hm; cases hm
  have hmq:m ≠ q:=fun h=>by rw [h,hηq] at hm; cases hm
  rw [hηo m hmn hmq] at hm
  exact (e.map m ks vk es hm).frame rfl (fun b hb=>hother m b hmn (by rw [hm]; exact hb))
 ·by_cases hmn:m=n
  ·subst hmn
   rw [hηn] at hm
   cases hm
   have hrow:∀ j,j<r->j+1 ≠ r+1:=fun j hj=>by omega
   refine ⟨hr,⟨b0,_,by rw [hvo 0 (by omega)]; exact hv,m2,q1,by rw [wrX_length]; exact m4,fun i hi=>?_,fun i h1 h2=>?_⟩,fun i hi=>?_,fun i j u v c hi hj hu hv' ho1 ho2=>?_,fun L' hL=>?_⟩
   ·by_cases hir:i=r
    ·subst hir
     refine ⟨_,hvr,?_⟩
     rw [wrX_get _ _ _ _ (by simp only [List.length_singleton]; omega),if_pos (by simp only [List.length_singleton]; omega),Nat.sub_self]
     rfl
    ·obtain ⟨v,g1,g2⟩:=m5 i (by omega)
     refine ⟨v,by rw [hvo _ (by omega)]; exact g1,?_⟩
     rw [wrX_get _ _ _ _ (by simp only [List.length_singleton]; omega),if_neg (by simp only [List.length_singleton]; omega)]
     exact g2
   ·rw [wrX_get _ _ _ _ (by simp only [List.length_singleton]; omega),if_neg (by simp only [List.length_singleton]; omega)]
    exact m6 i (by omega) h2
   ·by_cases hir:i=r
    ·subst hir
     refine ⟨bq,ys,hvr,y2,by rw [q3 bq hbne]; exact y4,by rw [<- y3.length]; simp only [List.nil_append]; exact famL_length _ _,fun k hk=>?_⟩
     obtain ⟨x,x1,x2⟩:=y3.get k _ (by rw [List.nil_append]; exact famL_get hk)
     rw [x1]
     unfold rowM
     rw [Nat.beq_refl]
     exact congrArg some x2
    ·have hLC:L=C:=hC.resolve_left (by omega)
     subst hLC
     obtain ⟨c,zs,g1,g2,g3,g4,g5⟩:=m7 i (by omega)
     refine ⟨c,zs,by rw [hvo _ (by omega)]; exact g1,g2,?_,g4,fun k hk=>?_⟩
     ·rw [q3 c (fun h=>by
       have:=m8 (i+1) 0 _ _ c (by omega) (Nat.zero_le _) g1 hv rfl (by rw [h]; rfl)
       omega)]
      exact g3
     ·unfold rowM
      rw [beq_f hir]
      exact g5 k hk
   ·have key:∀ j u,j<=r->R.vec m j=some u->u.ownBlock=some bq->False:=fun j u h1 h2 h3=>hqn (e.inj q m bq hownq (by rw [hn]; exact ⟨j,u,h1,h2,h3⟩))
    by_cases h1:i=r+1
    ·by_cases h2:j=r+1
     ·omega
     ·subst h1
      rw [hvr] at hu
      cases hu
      cases ho1
      rw [hvo j h2] at hv'
      exact (key j v (by omega) hv' ho2).elim
    ·rw [hvo i h1] at hu
     by_cases h2:j=r+1
     ·subst h2
      rw [hvr] at hv'
      cases hv'
      cases ho2
      exact (key i u (by omega) hu ho1).elim
     ·rw [hvo j h2] at hv'
      exact m8 i j u v c (by omega) (by omega) hu hv' ho1 ho2
   ·rw [hvo L' (by omega)]
    exact m9 L' (by omega)
  ·have hmq:m ≠ q:=fun h=>by rw [h,hηq] at hm; cases hm
   rw [hηo m hmn hmq] at hm
   exact (e.mat m K' r' C' g' t' te' hm).frame (hvn m hmn) (fun b hb=>hother m b hmn (by rw [hm]; exact hb))
 ·obtain ⟨h1,h2,h3⟩:=e.frz c xs hc
  refine ⟨by rw [q2]; exact h1,fun m hm=>?_,fun k y hk=>?_⟩
  ·obtain ⟨m',hm'⟩:=hold m c hm
   exact h2 m' hm'
  ·have h4:=h3 k y hk
   unfold World.cell? at h4 ⊢
   rw [show (w.setCells b0 r [.slice (some ⟨bq,0,none⟩) L L]).heap[(⟨c,k,none⟩:Addr).block]? = w.heap[(⟨c,k,none⟩:Addr).block]? from q3 c (fun h=>h2 n (by rw [h]; exact hown0))]
   exact h4
 ·by_cases hmn:m=n
  ·rw [hmn,hηn]; simp
  ·by_cases hmq:m=q
   ·rw [hmq,hηq]; simp
   ·rw [hηo m hmn hmq]; exact hm
 ·by_cases hmn:m=n
  ·subst hmn
   by_cases hj:L'=r+1
   ·exact .inr ⟨r,by rw [hn]; rfl,by omega⟩
   ·rw [hvo L' hj,h1] at h2
    cases h2
  ·rw [hvn m hmn,h1] at h2
   cases h2
 ·by_cases hmn:m=n
  ·subst hmn
   rw [hηn] at hm
   cases hm
   exact .inr ⟨r,by rw [hn]; rfl,by omega⟩
  ·by_cases hmq:m=q
   ·rw [hmq,hηq] at hm; cases hm
   ·rw [hηo m hmn hmq] at hm
    exact .inr ⟨L',hm,Nat.le_refl _⟩
theorem bun_set {B:Nat} {R:Rn} {η:Nat->VB} {w:World} (e:Emb B R η w) {n t r C:Nat} {g:Nat->Nat->Int} {te:TypeId} (hn:η n=.bun t r C g te) {i o:Nat} (hi:i<r) (ho:o<C) {ys:List Value} {v:Value} {b:Nat} (hv:R.frz (.reg t i)=some ys) (hy:ys[0]? = some v) (hb:v.ownBlock=some b) (x:Int) :
  ∃ cur:List Value,w.heap[b]? = some (.cells cur.toArray te (0,0))/\o<cur.length/\Emb B R (upd η n (.bun t r C (setM g i o x) te)) (w.setCells b o [.int .i64 x])/\Nxt η R w (upd η n (.bun t r C (setM g i o x) te)) R (w.setCells b o [.int .i64 x]):=by
 obtain ⟨⟨k1,k2,k3⟩,_⟩:=e.bun n _ _ _ _ _ hn
 obtain ⟨ys',v',xs,g1,g2,g3,g4⟩:=k1 i hi
 rw [hv] at g1; cases g1
 rw [hy] at g2; cases g2
 have g30:=g3
 rcases g3.2 with ⟨rfl,_⟩ | ⟨gb,cap,cur,rfl,p1,p2,p3,p4,p5,p6⟩
 ·cases hb
 obtain rfl:gb=b:=by
  have hb:some gb=some b:=hb
  exact Option.some.inj hb
 have p2:w.heap[gb]? = some (.cells cur.toList.toArray te (0,0)):=by simpa using p2
 have p5:cur.toList.length=cap*1:=by simpa using p5
 have p6:cur.toList.take (C*1)=xs:=by simpa using p6
 rw [Nat.mul_one] at p5 p6
 obtain ⟨q1,q2,q3,q4,q5,q6⟩:=setCells_heap [.int .i64 x] o w cur.toList p2
 have hle:R.le R:=⟨fun _ _ h=>h,rfl,rfl,fun _ _ _ h=>h,fun _ _ h=>h⟩
 have how0:R.ow n (η n) gb:=by rw [hn]; exact ⟨i,ys,_,hi,hv,hy,rfl⟩
 have hsame:∀ b',b'<w.heap.size->¬ R.ow n (η n) b'->(w.setCells gb o [.int .i64 x]).heap[b']? = w.heap[b']?:=fun b' _ hne=>q3 b' (fun h=>hne (by rw [h]; exact how0))
 have how:∀ b',R.ow n (.bun t r C (setM g i o x) te) b'->R.ow n (η n) b' ∨ w.heap.size<=b':=fun b' hb'=>.inl (by rw [hn]; exact hb')
 have hbun:BunOk B R (w.setCells gb o [.int .i64 x]) t r C (setM g i o x) te:=by
  refine ⟨fun j hj=>?_,k2,k3⟩
  by_cases hji:j=i
  ·subst hji
   refine ⟨ys,_,(wrX cur.toList o [.int .i64 x]).take (C*1),hv,hy,⟨by rw [List.length_take,wrX_length]; omega,.inr ⟨gb,cap,(wrX cur.toList o [.int .i64 x]).toArray,rfl,p1,q1,p3,p4,by simp [wrX_length,p5],by simp⟩⟩,fun k hk=>?_⟩
   rw [List.getElem?_take,if_pos (by omega),wrX_get _ _ _ _ (by simp only [List.length_singleton]; omega)]
   unfold setM
   by_cases hko:k=o
   ·subst hko
    rw [if_pos (by simp only [List.length_singleton]; omega),Nat.sub_self,Nat.beq_refl,Nat.beq_refl]
    rfl
   ·rw [if_neg (by simp only [List.length_singleton]; omega),beq_f hko,Bool.and_false,cond_false]
    have:=g4 k hk
    rw [<- p6,List.getElem?_take,if_pos (by omega)] at this
    exact this
  ·obtain ⟨zs,u,us,a1,a2,a3,a4⟩:=k1 j hj
   refine ⟨zs,u,us,a1,a2,ownsRow_frame a3 (fun c hc=>q3 c (fun h=>hji (k2 j i zs ys u _ gb hj hi a1 hv a2 hy (by rw [<- h]; exact hc) rfl))),fun k hk=>?_⟩
   unfold setM
   rw [beq_f hji,Bool.false_and,cond_false]
   exact a4 k hk
 exact ⟨cur.toList,p2,by omega,e.step (by rw [q2]; exact Nat.le_refl _) hle (fun _ _=>rfl) (fun _ _=>rfl) hsame how (by simp) (by simp) (by simp) (by simp) (by simp) (by simp) rfl (by simp) (fun _ _ _ _ _ h=>by cases h; exact ⟨hbun,_,_,_,_,hn⟩),
  Nxt.step (by rw [q2]; exact Nat.le_refl _) hle (fun _ _=>rfl) (fun _ _=>rfl) hsame how (by simp) (fun L' v' h1 h2=>by rw [h1] at h2; cases h2) (by simp) q4 q5 q6 rfl (fun _ _ _ _ _ h=>by cases h; exact ⟨_,_,_,_,hn⟩)⟩
theorem cells_ok {w:World} {b k:Nat} {cur:List Value} {t:TypeId} (hw:w.heap[b]? = some (.cells cur.toArray t (0,0))) (hk:k<cur.length):(w.cell? ⟨b,k,none⟩).isSome=true/\w.frozen? ⟨b,k,none⟩=false:=by
 simp [World.cell?,World.frozen?,hw,hk]
theorem storeE_sound {lock size:Nat} {a:VA} {v:VV} {h:VH} {K:VH->Prop} (hK:storeE lock size a v h K) :
  ∃ h',K h'/\(∀ n,n<lock->h'.at n=h.at n)/\∀ (ty:TypeId) (agg:Bool),tyI P ty=some (agg,size)->∀ (B:Nat) (R:Rn) (w:World) (p:Addr) (x:Value),Emb B R h.at w->ARel R a p->VRel R v x ->
   ∃ w' R',(storeVar ty p x).run P w=.ok () w'/\Emb B R' h'.at w'/\Nxt h.at R w h'.at R' w':=by
 unfold storeE at hK
 split at hK
 ·rename_i n off vs hvs
  split at hK
  ·rename_i cs t hn
   obtain ⟨h1,h2⟩:=cond_f hK
   simp only [Bool.and_eq_true] at h1
   obtain ⟨⟨⟨hlock,hsz⟩,hle⟩,hone⟩:=h1
   rw [foL_eq] at h2
   have hput:∀ m,(h.put n (.cells (setL cs off vs) t)).at m=upd h.at n (.cells (setL cs off vs) t) m:=fun m=>by
    rw [VH.at_put h n _ (by rw [hn]; simp)]
   refine ⟨h.put n (.cells (setL cs off vs) t),h2,fun m hm=>?_,fun ty agg hty B R w p x e hp hx=>?_⟩
   ·rw [hput]
    have:=Nat.le_of_ble_eq_true hlock
    simp [upd,show m ≠ n by omega]
   ·obtain ⟨b,hb,rfl⟩:=hp
    have hcs:=cs_rel hx hvs
    have hl:=hcs.length
    have hsz':vs.length=size:=Nat.eq_of_beq_eq_true hsz
    have hle':=Nat.le_of_ble_eq_true hle
    obtain ⟨w',hr,e1,n1⟩:=storeCells_sound (P:=P) vs x.cells.toList cs off 0 B R h.at w e hn hb hcs hone (by omega)
    rw [VH.at_put h n _ (by rw [hn]; simp)]
    refine ⟨w',R,?_,e1,n1⟩
    obtain ⟨t1,t2⟩:=tyI_spec (w:=w) hty
    have:x.cells.size=size:=by rw [<- hsz',hl]; simp
    simp [storeVar,t2,this,hr]
  ·rename_i pre L g t hn
   obtain ⟨h1,h2⟩:=cond_f hK
   simp only [Bool.and_eq_true] at h1
   obtain ⟨⟨hlock,hsz⟩,hle⟩:=h1
   have hsz':vs.length=size:=Nat.eq_of_beq_eq_true hsz
   have hle':=Nat.le_of_ble_eq_true hle
   have fin:∀ (y:VB),y.cs? = some (setL (pre ++ famL L g) off vs,t)->vs.all VV.one=true->K (h.put n y)->∃ h',K h'/\(∀ n,n<lock->h'.at n=h.at n)/\∀ (ty:TypeId) (agg:Bool),tyI P ty=some (agg,size)->∀ (B:Nat) (R:Rn) (w:World) (p:Addr) (x:Value),Emb B R h.at w->ARel R (.own n off) p->VRel R v x ->
     ∃ w' R',(storeVar ty p x).run P w=.ok () w'/\Emb B R' h'.at w'/\Nxt h.at R w h'.at R' w':=by
    intro y hy hone hKy
    have hat:=VH.at_put h n y (by rw [hn]; simp)
    refine ⟨_,hKy,fun m hm=>?_,fun ty agg hty B R w p x e hp hx=>?_⟩
    ·rw [hat]
     have:=Nat.le_of_ble_eq_true hlock
     simp [upd,show m ≠ n by omega]
    ·obtain ⟨b,hb,rfl⟩:=hp
     have hcs:=cs_rel hx hvs
     have hl:=hcs.length
     rw [hat]
     obtain ⟨w',hr,e1,n1⟩:=storeC_sound (P:=P) e (cs:=pre ++ famL L g) (t:=t) (by rw [hn]; rfl) hb hcs hone (off:=off) (by rw [List.length_append,famL_length]; omega) hy
     refine ⟨w',R,?_,e1,n1⟩
     obtain ⟨t1,t2⟩:=tyI_spec (w:=w) hty
     have:x.cells.size=size:=by rw [<- hsz',hl]; simp
     simp [storeVar,t2,this,hr]
   cases hb:Nat.ble pre.length off with
   | true=>
    rw [hb] at h2
    simp only [cond_true,foN_eq] at h2
    have hb:=Nat.le_of_ble_eq_true hb
    obtain ⟨ns,h3,h4⟩:=numsE_sound h2
    subst h4
    rw [List.length_map] at hsz'
    exact fin (.fam pre L (setF g (off - pre.length) ns) t) (by
     have:=famL_set (pre:=pre) (L:=L) (o:=off - pre.length) (g:=g) (ns:=ns) (by omega)
     rw [show pre.length+(off - pre.length)=off by omega] at this
     simp [this]) (all_ints ns) h3
   | false=>
    rw [hb] at h2
    simp only [cond_false] at h2
    obtain ⟨h1,h3⟩:=cond_f h2
    simp only [Bool.and_eq_true] at h1
    rw [foL_eq] at h3
    exact fin (.fam (setL pre off vs) L g t) (by
     have:=Nat.le_of_ble_eq_true h1.1
     simp [setL_pre (fam:=famL L g) (show off+vs.length<=pre.length by omega)]) h1.2 h3
  ·exact hK.elim
 ·rename_i n p0 o vs hvs
  split at hK
  ·rename_i pre L g t hn
   obtain ⟨h1,h2⟩:=cond_f hK
   simp only [Bool.and_eq_true] at h1
   obtain ⟨⟨⟨hlock,hsz⟩,hp0⟩,hle⟩:=h1
   have hsz':vs.length=size:=Nat.eq_of_beq_eq_true hsz
   have hp0:pre.length=p0:=Nat.eq_of_beq_eq_true hp0
   subst hp0
   have hle:o+size<=L:=by simpa using hle
   obtain ⟨ns,h3,h4⟩:=numsE_sound h2
   subst h4
   rw [List.length_map] at hsz'
   have hat:=VH.at_put h n (.fam pre L (setF g o ns) t) (by rw [hn]; simp)
   refine ⟨_,h3,fun m hm=>?_,fun ty agg hty B R w p x e hp hx=>?_⟩
   ·show (h.put n _).at m=_
    rw [hat]
    have:=Nat.le_of_ble_eq_true hlock
    simp [upd,show m ≠ n by omega]
   ·obtain ⟨b,hb,rfl⟩:=hp
    have hcs:=cs_rel hx hvs
    have hl:=hcs.length
    rw [List.length_map] at hl
    show ∃ w' R',(storeVar ty ⟨b,pre.length+o,none⟩ x).run P w=.ok () w'/\Emb B R' (h.put n _).at w'/\Nxt h.at R w (h.put n _).at R' w'
    rw [hat]
    obtain ⟨w',hr,e1,n1⟩:=storeC_sound (P:=P) e (cs:=pre ++ famL L g) (t:=t) (by rw [hn]; rfl) hb hcs (all_ints ns) (off:=pre.length+o) (by rw [List.length_append,famL_length,List.length_map]; omega) (y:=.fam pre L (setF g o ns) t) (by simp [famL_set (show o+ns.length<=L by omega)])
    refine ⟨w',R,?_,e1,n1⟩
    obtain ⟨t1,t2⟩:=tyI_spec (w:=w) hty
    have:x.cells.size=size:=by rw [<- hsz',hl]; simp
    simp [storeVar,t2,this,hr]
  ·exact hK.elim
 ·rename_i n j o vs hvs
  split at hK
  ·rename_i Kr r C g t te hn
   obtain ⟨h1,hK⟩:=cond_f hK
   simp only [Bool.and_eq_true] at h1
   obtain ⟨hlock,hsz⟩:=h1
   have hlock:=Nat.le_of_ble_eq_true hlock
   have hsz':vs.length=size:=Nat.eq_of_beq_eq_true hsz
   cases hj:Nat.beq j 0 with
   | true=>
    rw [hj] at hK
    obtain rfl:j=0:=Nat.eq_of_beq_eq_true hj
    simp only [cond_true] at hK
    split at hK
    ·rename_i q L L' _
     split at hK
     ·rename_i Lq f te' hq
      obtain ⟨h1,h2⟩:=cond_f hK
      simp only [Bool.and_eq_true,Bool.or_eq_true,decide_eq_true_eq,Bool.not_eq_true'] at h1
      obtain ⟨⟨⟨⟨⟨⟨⟨⟨k1,k2⟩,k3⟩,k4⟩,k5⟩,k6⟩,k7⟩,k8⟩,k9⟩:=h1
      have k1:=Nat.le_of_ble_eq_true k1
      obtain rfl:Lq=L:=Nat.eq_of_beq_eq_true k2
      obtain rfl:L'=Lq:=Nat.eq_of_beq_eq_true k3
      obtain rfl:te'=te:=Nat.eq_of_beq_eq_true k4
      obtain rfl:o=r:=Nat.eq_of_beq_eq_true k5
      have k7:o=0 ∨ L'=C:=k7.imp Nat.eq_of_beq_eq_true Nat.eq_of_beq_eq_true
      have k8:0<L':=k8
      have k9:q ≠ n:=fun h=>by rw [h,Nat.beq_refl] at k9; cases k9
      have hat:(VH.mk h.nx ((n,.mat Kr (o+1) L' (rowM g o f) t te')::(q,.gone)::h.bs)).at=upd (upd h.at q .gone) n (.mat Kr (o+1) L' (rowM g o f) t te'):=by
       have g1:=VH.at_put h q .gone (by rw [hq]; simp)
       have g2:=VH.at_put (h.put q .gone) n (.mat Kr (o+1) L' (rowM g o f) t te') (by rw [g1]; unfold upd; rw [if_neg (Ne.symm k9),hn]; simp)
       rw [g1] at g2
       exact g2
      refine ⟨_,h2,fun m hm=>?_,fun ty agg hty B R w p x e hp hx=>?_⟩
      ·rw [hat]
       unfold upd
       rw [if_neg (by omega),if_neg (by omega)]
      ·obtain ⟨v0,b0,hv,hb,rfl⟩:=hp
       have hcs:=cs_rel hx hvs
       have hl:=hcs.length
       have hcs0:=hcs
       obtain ⟨y,ys,hy,hys,hxs⟩:=hcs
       have hys:ys=[]:=hys
       subst hys
       obtain ⟨_,p0,hp0,rfl⟩:=hy
       obtain ⟨_,rfl,bq,hbq,rfl⟩:=hp0.resolve_left (by omega)
       obtain ⟨_,⟨b1,cur,m1,m2,m3,m4,_,_⟩,_,_,_⟩:=e.mat n _ _ _ _ _ _ hn
       rw [m1] at hv
       cases hv
       cases hb
       obtain ⟨R',e1,n1⟩:=mat_row e hn hq k9 k6 k7 m1 hbq
       rw [<- hat] at e1 n1
       have hx1:x.cells.toList.length=1:=by rw [hxs]; rfl
       have hrun:=run_storeCells_cells (P:=P) b1 o x.cells.toList 0 w (fun j hj=>(cells_ok m3 (by omega)).1) (fun j hj=>(cells_ok m3 (by omega)).2) (all_one hcs0 rfl)
       rw [Nat.add_zero] at hrun
       refine ⟨_,R',?_,e1,n1⟩
       obtain ⟨t1,t2⟩:=tyI_spec (w:=w) hty
       have:x.cells.size=size:=by rw [<- hsz',hl]; simp
       rw [hxs] at hrun
       have hxs':x.cells = #[.slice (some ⟨bq,0,none⟩) L' L']:=by
        apply Array.toList_inj.1
        rw [hxs]
       obtain rfl:1=size:=hsz'
       simp [storeVar,t2,hxs',hrun]
     ·exact hK.elim
    ·exact hK.elim
   | false=>
    rw [hj] at hK
    obtain ⟨i,rfl⟩:∃ i,j=i+1:=⟨j - 1,by
     have:j ≠ 0:=fun h=>by rw [h] at hj; cases hj
     omega⟩
    simp only [cond_false,Nat.add_sub_cancel] at hK
    split at hK
    ·rename_i z _
     obtain ⟨h1,h2⟩:=cond_f hK
     have h1:i<r/\o<C:=by simpa using h1
     have hat:=VH.at_put h n (.mat Kr r C (setM g i o z) t te) (by rw [hn]; simp)
     refine ⟨_,h2,fun m hm=>?_,fun ty agg hty B R w p x e hp hx=>?_⟩
     ·show (h.put n _).at m=_
      rw [hat]
      simp [upd,show m ≠ n by omega]
     ·obtain ⟨v0,b0,hv,hb,rfl⟩:=hp
      have hcs:=cs_rel hx hvs
      have hl:=hcs.length
      have hcs0:=hcs
      obtain ⟨y,ys,hy,hys,hxs⟩:=hcs
      have hys:ys=[]:=hys
      subst hys
      have hy:y=.int .i64 z:=hy
      subst hy
      obtain ⟨_,_,m7,_,_⟩:=e.mat n _ _ _ _ _ _ hn
      obtain ⟨c,cur,y1,y2,y3,y4,y5⟩:=m7 i h1.1
      rw [y1] at hv
      cases hv
      cases hb
      obtain ⟨e1,n1⟩:=mat_set e hn h1.1 h1.2 y1 z
      rw [<- hat] at e1 n1
      have hx1:x.cells.toList.length=1:=by rw [hxs]; rfl
      have hrun:=run_storeCells_cells (P:=P) c o x.cells.toList 0 w (fun j hj=>(cells_ok y3 (by omega)).1) (fun j hj=>(cells_ok y3 (by omega)).2) (all_one hcs0 rfl)
      rw [Nat.add_zero] at hrun
      refine ⟨_,R,?_,e1,n1⟩
      obtain ⟨t1,t2⟩:=tyI_spec (w:=w) hty
      have:x.cells.size=size:=by rw [<- hsz',hl]; simp
      rw [hxs] at hrun
      have hxs':x.cells = #[.int .i64 z]:=by
       apply Array.toList_inj.1
       rw [hxs]
      obtain rfl:1=size:=hsz'
      simp [storeVar,t2,hxs',hrun]
    ·exact hK.elim
  ·exact hK.elim
 ·rename_i t j o vs hvs
  split at hK
  ·rename_i m _
   split at hK
   ·rename_i t' r C g te z hn
    obtain ⟨h1,h2⟩:=cond_f hK
    simp only [Bool.and_eq_true,decide_eq_true_eq] at h1
    obtain ⟨⟨⟨hlock,ht⟩,hsz⟩,h1⟩:=h1
    have hlock:=Nat.le_of_ble_eq_true hlock
    obtain rfl:t'=t:=Nat.eq_of_beq_eq_true ht
    obtain rfl:size=1:=Nat.eq_of_beq_eq_true hsz
    have hat:=VH.at_put h m (.bun t' r C (setM g j o z) te) (by rw [hn]; simp)
    refine ⟨_,h2,fun k hk=>?_,fun ty agg hty B R w p x e hp hx=>?_⟩
    ·show (h.put m _).at k=_
     rw [hat]
     simp [upd,show k ≠ m by omega]
    ·obtain ⟨ys,v0,b0,hv,hy,hb,rfl⟩:=hp
     have hcs:=cs_rel hx hvs
     have hl:=hcs.length
     have hcs0:=hcs
     obtain ⟨y,zs,hyy,hys,hxs⟩:=hcs
     have hys:zs=[]:=hys
     subst hys
     have hyy:y=.int .i64 z:=hyy
     subst hyy
     obtain ⟨cur,y3,y4,e1,n1⟩:=bun_set e hn h1.1 h1.2 hv hy hb z
     rw [<- hat] at e1 n1
     have hx1:x.cells.toList.length=1:=by rw [hxs]; rfl
     have hrun:=run_storeCells_cells (P:=P) b0 o x.cells.toList 0 w (fun j hj=>(cells_ok y3 (by omega)).1) (fun j hj=>(cells_ok y3 (by omega)).2) (all_one hcs0 rfl)
     rw [Nat.add_zero] at hrun
     refine ⟨_,R,?_,e1,n1⟩
     obtain ⟨t1,t2⟩:=tyI_spec (w:=w) hty
     rw [hxs] at hrun
     have hxs':x.cells = #[.int .i64 z]:=by
      apply Array.toList_inj.1
      rw [hxs]
     simp [storeVar,t2,hxs',hrun]
   ·exact hK.elim
  ·exact hK.elim
 ·rename_i n L s i off vs hvs
  split at hK
  ·rename_i L' g s' t hn
   rw [foL_eq] at hK
   obtain ⟨h1,h2⟩:=cond_f hK
   simp only [Bool.and_eq_true] at h1
   obtain ⟨⟨⟨⟨⟨⟨hlock,hsz⟩,hle⟩,hs⟩,hL⟩,hone⟩,hbel⟩:=h1
   have hsz':vs.length=size:=Nat.eq_of_beq_eq_true hsz
   have hle:=Nat.le_of_ble_eq_true hle
   have hs:s'=s:=Nat.eq_of_beq_eq_true hs
   have hL:L'=L:=Nat.eq_of_beq_eq_true hL
   have hlock:=Nat.le_of_ble_eq_true hlock
   subst hs; subst hL
   have fin:∀ e':List VV,(∀ (R:Rn) (xs ys:List Value),ys.length=s'->VRelL R (g i) ys->(g i).all VV.one=true->VRelL R vs xs->VRelL R e' (wrX ys off xs)/\e'.all VV.one=true)->K (h.put n (.vec L' (atG i g e') s' t)) ->
     ∃ h',K h'/\(∀ n,n<lock->h'.at n=h.at n)/\∀ (ty:TypeId) (agg:Bool),tyI P ty=some (agg,size)->∀ (B:Nat) (R:Rn) (w:World) (p:Addr) (x:Value),Emb B R h.at w->ARel R (.ve n L' s' i off) p->VRel R v x ->
     ∃ w' R',(storeVar ty p x).run P w=.ok () w'/\Emb B R' h'.at w'/\Nxt h.at R w h'.at R' w':=by
    intro e' he hKe
    have hat:=VH.at_put h n (.vec L' (atG i g e') s' t) (by rw [hn]; simp)
    refine ⟨_,hKe,fun m hm=>?_,fun ty agg hty B R w p x e hp hx=>?_⟩
    ·rw [hat]
     simp [upd,show m ≠ n by omega]
    ·obtain ⟨hi,v',b,hv,hb,rfl⟩:=hp
     obtain ⟨cur,cap,rfl,k1,k2,k3,k4,k5,k6⟩:=vec_own e hn hv hb
     have hcs:=cs_rel hx hvs
     have hl:=hcs.length
     rw [hat]
     have hin:i*s'+s'<=cap*s':=by rw [<- Nat.succ_mul]; exact Nat.mul_le_mul_right _ (by omega)
     have hfit:i*s'+off+x.cells.toList.length<=cur.length:=by omega
     have hrun:=run_storeCells_cells (P:=P) b (i*s'+off) x.cells.toList 0 w (fun j hj=>(cells_ok k2 (by omega)).1) (fun j hj=>(cells_ok k2 (by omega)).2) (all_one hcs hone)
     rw [Nat.add_zero] at hrun
     obtain ⟨e1,n1⟩:=vec_put e hn hv k1 k2 k3 k4 k5 (o:=i*s'+off) (vs:=x.cells.toList) (g':=atG i g e') (fun j hj=>by
      unfold atG
      by_cases hji:j=i
      ·subst hji
       rw [beq_t rfl,cond_true,wrX_in hfit (by omega) (by omega),Nat.add_sub_cancel_left]
       obtain ⟨q1,q2⟩:=k6 j hj
       exact he R.no x.cells.toList _ (by rw [List.length_take,List.length_drop]; omega) q1 q2 (bel0_noL vs _ hbel hcs)
      ·rw [beq_f hji,cond_false,wrX_out hfit (by
        rcases Nat.lt_or_gt_of_ne hji with h1 | h1
        ·left
         have:j*s'+s'<=i*s':=by rw [<- Nat.succ_mul]; exact Nat.mul_le_mul_right _ h1
         omega
        ·right
         have:i*s'+s'<=j*s':=by rw [<- Nat.succ_mul]; exact Nat.mul_le_mul_right _ h1
         omega)]
       exact k6 j hj)
     refine ⟨_,R,?_,e1,n1⟩
     obtain ⟨t1,t2⟩:=tyI_spec (w:=w) hty
     have:x.cells.size=size:=by rw [<- hsz',hl]; simp
     simp [storeVar,t2,this,hrun]
   cases hb:Nat.beq size s' with
   | true=>
    rw [hb] at h2
    have hss:size=s':=Nat.eq_of_beq_eq_true hb
    refine fin vs (fun R xs ys hy _ _ hx=>⟨?_,hone⟩) h2
    have hxl:=hx.length
    have:wrX ys off xs=xs:=by
     apply List.ext_getElem?
     intro k
     rw [wrX_get _ _ _ _ (by omega)]
     by_cases hk:off<=k/\k<off+xs.length
     ·rw [if_pos hk,show k - off=k by omega]
     ·rw [if_neg hk,List.getElem?_eq_none (by omega),List.getElem?_eq_none (by omega)]
    rw [this]
    exact hx
   | false=>
    rw [hb] at h2
    exact fin (setL (g i) off vs) (fun R xs ys _ hy ho hx=>⟨wrX_rel vs xs (g i) ys off hx hy,setL_one _ _ _ hone ho⟩) h2
  ·exact hK.elim
 ·exact hK.elim
theorem zerosB_spec:∀ {cs:List VV} {L:Nat},zerosB cs L=true->cs=famL L (fun _=>0):=by
 have key:∀ (cs:List VV) (L:Nat),zerosB cs L=true->cs=List.replicate L (VV.int .i64 0):=by
  intro cs
  induction cs with
  | nil=>intro L h; cases L <;> simp_all [zerosB]
  | cons v r ih=>
   intro L h
   cases L with
   | zero=>cases v <;> simp [zerosB] at h
   | succ L=>
    unfold zerosB at h
    split at h
    ·rename_i he; cases he
    ·rename_i n r' k he he2
     cases he
     cases he2
     cases hd:decide (n=0) with
     | false=>rw [hd] at h; cases h
     | true=>
      rw [hd] at h
      have:n=0:=by simpa using hd
      subst this
      rw [ih L h,List.replicate_succ]
    ·cases h
 intro cs L h
 rw [key cs L h]
 simp [famL,List.map_const']
theorem famL_nums (ns:List Int):famL ns.length (fun k=>ns.getD k 0)=ns.map (VV.int .i64):=by
 apply List.ext_getElem?
 intro k
 by_cases hk:k<ns.length
 ·rw [famL_get hk,List.getElem?_map,List.getD_eq_getElem?_getD,List.getElem?_eq_getElem hk]; rfl
 ·rw [List.getElem?_eq_none (by rw [famL_length]; omega),List.getElem?_eq_none (by simp; omega)]
theorem newZ_sound {h:VH} {cs:List VV} {t:TypeId} {K:Nat->VH->Prop} (hK:newZ P h cs t K):∃ y:VB,y.cs? = some (cs,t)/\K h.nx (h.new y):=by
 unfold newZ at hK
 split at hK
 ·rename_i p L _
  obtain ⟨h1,h2⟩:=cond_f hK
  simp only [Bool.and_eq_true] at h1
  obtain ⟨nx,bs⟩:=h
  simp only [foN_eq,foL_eq] at h2
  refine ⟨_,?_,h2⟩
  simp only [VB.cs?]
  rw [<- zerosB_spec h1.1,List.take_append_drop]
 ·cases h
  simp only [newE,foN_eq,foL_eq] at hK
  exact ⟨_,rfl,hK⟩
theorem newN_sound {h:VH} {cs:List VV} {t:TypeId} {K:Nat->VH->Prop} (hK:newN P h cs t K):∃ y:VB,y.cs? = some (cs,t)/\K h.nx (h.new y):=by
 unfold newN at hK
 split at hK
 ·rename_i p L _
  cases hz:(Nat.blt 12 L && zerosB (cs.drop p) L) with
  | true=>
   rw [hz] at hK
   have hz:=(Bool.and_eq_true _ _ ▸ hz:Nat.blt 12 L=true/\zerosB (cs.drop p) L=true).2
   obtain ⟨nx,bs⟩:=h
   simp only [cond_true,foN_eq,foL_eq] at hK
   refine ⟨_,?_,hK⟩
   simp only [VB.cs?]
   rw [<- zerosB_spec hz,List.take_append_drop]
  | false=>
   rw [hz] at hK
   simp only [cond_false] at hK
   obtain ⟨ns,h1,h2⟩:=numsE_sound hK
   obtain ⟨h3,h4⟩:=cond_f h1
   have h3:ns.length=L:=Nat.eq_of_beq_eq_true h3
   subst h3
   obtain ⟨nx,bs⟩:=h
   simp only [foN_eq,foL_eq] at h4
   refine ⟨_,?_,h4⟩
   simp only [VB.cs?]
   rw [famL_nums,<- h2,List.take_append_drop]
 ·cases h
  simp only [newE,foN_eq,foL_eq] at hK
  exact ⟨_,rfl,hK⟩
theorem newE_eq (h:VH) (cs:List VV) (t:TypeId) (K:Nat->VH->Prop):newE h cs t K=K h.nx (h.new (.cells cs t)):=by
 cases h
 simp only [newE,foN_eq,foL_eq,VH.new]
end
end Go.Sx
