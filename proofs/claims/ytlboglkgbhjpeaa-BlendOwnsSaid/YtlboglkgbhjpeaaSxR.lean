/- The row: from the reading of the arguments to named arrays, and back. -/
import Derived.Test.YtlboglkgbhjpeaaSxG
import Derived.ProofKit
import Derived.Deep.Slices
namespace Go.Sx
open Go Go.RowKit
section
variable {H:Type} {enc:TypeId × Value->H} {P:Program}
theorem calls_row {f:FuncId} {vs:List VV} {xs:List Value} {W:World} {R:Rn} {h h':VH} (hc:CallsV P f vs h (.ret (.bool true)) h') (em:Emb W.heap.size R h.at W) (hx:VRelL R vs xs) (hnl:∀ n b,¬ R.ow n (h.at n) b) :
  Calls P f xs.toArray W fun e W'=>e=.returned (.bool true)/\Below W.heap.size W W':=by
 refine (hc _ _ _ _ em hx).mono ?_
 rintro e w' ⟨R',n1,_,x,hv,rfl⟩
 simp only [VRel] at hv
 subst hv
 exact ⟨rfl,⟨n1.os,n1.tape,n1.output,n1.size,fun k hk=>n1.frame k hk (fun n hl=>hnl n k hl)⟩⟩
theorem trodAll_stays (hl:laidOutB P=true) {W W':World} (hB:Below W.heap.size W W'):∀ {ts:List TypeId} {vs:List Value} {ds:List (DataW H)} {ps:List MemPlace},
  (ts.all fun t=>P.readableRec t && decide (t<P.types.size))=true->DataW.TrodAll enc P W 0 (fun _=>true) true ts vs ds ps->(∀ x ∈ ps,x.block<W.heap.size) ->
  DataW.TrodAll enc P W' 0 (fun b=>decide (b<W.heap.size)) true ts vs ds ps
 | [],[],[],_,_,h,_=>h
 | t::ts,v::vs,d::ds,_,hr,⟨p,q,h1,h2,rfl⟩,hlt=>by
  simp only [List.all_cons,Bool.and_eq_true,decide_eq_true_eq] at hr
  exact ⟨p,q,Below.trod hl hr.1.1 hr.1.2 h1 hB (fun x hx=>hlt x (List.mem_append_left _ hx)),trodAll_stays hl hB hr.2 h2 (fun x hx=>hlt x (List.mem_append_right _ hx)),rfl⟩
 | [],_::_,_,_,_,h,_=>h.elim
 | [],[],_::_,_,_,h,_=>h.elim
 | _::_,[],_,_,_,h,_=>h.elim
 | _::_,_::_,[],_,_,h,_=>h.elim
theorem post_true {fn:Func} {s:ChangeSpec} {W W':World} {args:Array Value} {ds gs:List (DataW H)} {before:List MemPlace} {tb:TypeId} (hl:laidOutB P=true)
  (hr:(fn.params.toList.all fun t=>P.readableRec t && decide (t<P.types.size))=true) (hrt:fn.resultTypes = #[tb]) (hb:P.underlying tb=some .bool) (hv:s.vars=[])
  (hW:DataW.Whole enc P fn.params.toList s.vars false W args.toList ds gs before) (hs:s.fn H (ds ++ gs)={ results:=[.lit (.bool true)],args:=ds }) (hB:Below W.heap.size W W') :
  s.post enc P fn false true false false W args (.bool true) W':=by
 have hW':=hW
 obtain ⟨p,q,h1,h2,rfl,hz,hn⟩:=hW
 rw [hv] at h2
 cases gs with
 | cons _ _=>exact h2.elim
 | nil=>
  simp only [DataW.TrodVars] at h2
  subst h2
  refine ⟨ds,[],p ++ [],[],p,[],hW',?_,?_,?_,hB.frame _,fun h=>by cases h⟩
  ·rw [hs,hrt]
   exact ⟨[],[],⟨1,by simp [DataW.trod,Value.cells,hb]⟩,rfl,rfl⟩
  ·rw [hs]
   exact trodAll_stays hl hB hr h1 (fun x hx=>hW'.lt x (List.mem_append_left _ hx))
  ·rw [hs,hv]; rfl
def leavesF (P:Program) (rec:TypeId->Option (List TypeId)):List Field->Nat->Option (List TypeId)
 | [],_=>some []
 | f::fs,off=>
  if f.offset=off then
   match rec f.type with
   | some us=>if P.cellsOf f.type=us.length then (match leavesF P rec fs (off+us.length) with
     | some vs=>some (us ++ vs)
     | none=>none) else none
   | none=>none
  else none
def leavesT (P:Program):Nat->TypeId->Option (List TypeId)
 | 0,_=>none
 | d+1,t=>
  match P.underlying t with
  | some (.struct fs)=>
   match leavesF P (leavesT P d) fs.toList 0 with
   | some us=>if us.length=P.cellsOf t then some us else none
   | none=>none
  | some (.array _ _)=>none
  | some _=>some [t]
  | none=>none
variable {w:World} {base:Nat} {spare:Nat->Bool} {held:Bool}
theorem leavesF_trod {rec:TypeId->Option (List TypeId)}
  (hrec:∀ t us,rec t=some us->∀ (fuel:Nat) (cs:List Value) (x:DataW H × List MemPlace),DataW.trod enc P w base spare held fuel t cs=some x->cs.length=us.length/\∀ (i:Nat) u,us[i]? = some u->∃ m v y,cs[i]? = some v/\DataW.trod enc P w base spare held m u [v]=some y)
  {cs:List Value}:∀ (fs:List Field) (off:Nat) (us:List TypeId),leavesF P rec fs off=some us ->
  (∀ f ∈ fs,∃ n y,DataW.trod enc P w base spare held n f.type ((cs.drop f.offset).take (P.cellsOf f.type))=some y) ->
  ∀ (i:Nat) u,us[i]? = some u->∃ m v y,cs[off+i]? = some v/\DataW.trod enc P w base spare held m u [v]=some y
 | [],off,us,h,_=>by
  intro i u hu
  simp only [leavesF,Option.some.injEq] at h
  subst h
  simp at hu
 | f::fs,off,us,h,hf=>by
  simp only [leavesF] at h
  split at h
  ·rename_i ho
   split at h
   ·rename_i us0 hus0
    split at h
    ·rename_i hc
     split at h
     ·rename_i vs hvs
      simp only [Option.some.injEq] at h
      subst h
      obtain ⟨n,y,hy⟩:=hf f (by simp)
      obtain ⟨hl,hg⟩:=hrec _ _ hus0 _ _ _ hy
      intro i u hu
      by_cases hi:i<us0.length
      ·rw [List.getElem?_append_left hi] at hu
       obtain ⟨m,v,y',h1,h2⟩:=hg i u hu
       refine ⟨m,v,y',?_,h2⟩
       rw [List.getElem?_take,if_pos (by omega),List.getElem?_drop,ho] at h1
       exact h1
      ·rw [List.getElem?_append_right (by omega)] at hu
       obtain ⟨m,v,y',h1,h2⟩:=leavesF_trod hrec fs _ _ hvs (fun g hg=>hf g (by simp [hg])) _ _ hu
       refine ⟨m,v,y',?_,h2⟩
       rw [<- h1]
       congr 1
       omega
     ·cases h
    ·cases h
   ·cases h
  ·cases h
theorem leaves_trod:∀ (d:Nat) (t:TypeId) (us:List TypeId),leavesT P d t=some us->∀ (fuel:Nat) (cs:List Value) (x:DataW H × List MemPlace),DataW.trod enc P w base spare held fuel t cs=some x ->
  cs.length=us.length/\∀ (i:Nat) u,us[i]? = some u->∃ m v y,cs[i]? = some v/\DataW.trod enc P w base spare held m u [v]=some y
 | 0,_,_,h=>by simp [leavesT] at h
 | d+1,t,us,h=>by
  intro fuel cs x hx
  simp only [leavesT] at h
  split at h
  ·rename_i fs ht
   split at h
   ·rename_i us' hus
    split at h
    ·rename_i hlen
     simp only [Option.some.injEq] at h
     subst h
     obtain ⟨xs,n,_,_,hl,hxl,hf⟩:=DataW.trod_struct ht hx
     refine ⟨by omega,fun i u hu=>?_⟩
     have:=leavesF_trod (cs:=cs) (fun t us h=>leaves_trod d t us h) fs.toList 0 us' hus (fun f hf'=>?_) i u hu
     ·simpa using this
     ·obtain ⟨j,hj⟩:=List.mem_iff_getElem?.1 hf'
      have hj':fs[j]? = some f:=by simpa using hj
      have hjl:j<fs.size:=(Array.getElem?_eq_some_iff.1 hj').1
      have h2:=hf j f hj'
      rw [List.getElem?_eq_getElem (by omega)] at h2
      exact ⟨n,_,h2⟩
    ·cases h
   ·cases h
  ·cases h
  ·rename_i hns hna hsome
   rename_i td
   simp only [Option.some.injEq] at h
   subst h
   cases fuel with
   | zero=>simp [DataW.trod] at hx
   | succ m=>
    have hx':=hx
    unfold DataW.trod at hx
    rw [hsome] at hx
    have hone:∃ v,cs=[v]:=by
     split at hx <;> first | exact ⟨_,rfl⟩ | simp_all
    obtain ⟨v,rfl⟩:=hone
    refine ⟨rfl,fun i u hu=>?_⟩
    cases i with
    | zero=>simp at hu; subst hu; exact ⟨m+1,v,x,rfl,hx'⟩
    | succ i=>simp at hu
  ·cases h
theorem leaf_int {fuel:Nat} {u:TypeId} {k:IntKind} {v:Value} {y:DataW H × List MemPlace} (hu:P.underlying u=some (.int k)) (h:DataW.trod enc P w base spare held fuel u [v]=some y) :
  ∃ n,v=.int k n/\(Lit.int k n).wf=true:=by
 obtain ⟨n,h1,_,h2⟩:=DataW.trod_int hu h
 simp at h1
 exact ⟨n,h1,h2⟩
theorem leaf_slice {fuel d:Nat} {t e:TypeId} {us:List TypeId} {v:Value} {y:DataW H × List MemPlace} (ht:P.underlying t=some (.slice e)) (hus:leavesT P d e=some us) (hsz:P.cellsOf e=us.length) (h:DataW.trod enc P w base spare held fuel t [v]=some y) :
  v=.slice none 0 0 ∨ ∃ a len cap,v=.slice (some a) len cap/\len<=cap/\cap<=maxLen/\∀ i,i<len->∀ (k:Nat) u,us[k]? = some u->∃ m v y,w.cell? (a.add (i*us.length+k))=some v/\DataW.trod enc P w base spare held m u [v]=some y:=by
 rcases Deep.open_slice ht h with ⟨h1,_⟩ | ⟨a,len,cap,m,n,D,Pl,h1,_,h2,h3,hm,_,h4⟩
 ·left; simpa using h1
 ·right
  simp at h1
  refine ⟨a,len,cap,h1,h2,h3,fun i hi k u hu=>?_⟩
  obtain ⟨cs,hc,ht2⟩:=h4 i (by rw [hm]; split <;> omega)
  obtain ⟨_,hl,hg⟩:=World.cells?_some hc
  obtain ⟨hl2,hg2⟩:=leaves_trod _ _ _ hus _ _ _ ht2
  obtain ⟨m',v',y',h5,h6⟩:=hg2 k u hu
  refine ⟨m',v',y',?_,h6⟩
  have hk:k<cs.length:=(List.getElem?_eq_some_iff.1 h5).1
  have:=hg k (by omega)
  rw [add_add,hsz] at this
  rw [this,h5]
theorem cell_block {a:Addr} {v:Value} (h:w.cell? a=some v):a.block<w.heap.size:=by
 unfold World.cell? at h
 split at h
 ·rename_i hh
  exact (Array.getElem?_eq_some_iff.1 hh).1
 ·cases h
theorem cell_spot {a:Addr} {v:Value} (h:w.cell? a=some v):a.spot=none:=by
 unfold World.cell? at h
 split at h
 ·cases hs:a.spot with
  | none=>rfl
  | some _=>rw [hs] at h; simp at h
 ·cases h
theorem add_block (a:Addr) (n:Nat):(a.add n).block=a.block:=by unfold Addr.add; split <;> rfl
def Wfr (w:World) (b:Nat):Option (List Value):=match w.heap[b]? with
 | some (.cells xs _ _)=>some xs.toList
 | _=>none
theorem wfr_ok {w:World} {b:Nat} {xs:List Value} (h:Wfr w b=some xs):b<w.heap.size/\∀ k x,xs[k]? = some x->w.cell? ⟨b,k,none⟩=some x:=by
 unfold Wfr at h
 split at h
 ·rename_i ys t z hb
  cases h
  exact ⟨(Array.getElem?_eq_some_iff.1 hb).1,fun k x hx=>by simp [World.cell?,hb,<- Array.getElem?_toList,hx]⟩
 ·cases h
theorem emb_args {W:World} {R:Rn} {η:Nat->VB} (hblk:∀ n,R.blk n=none) (hvec:∀ n L,R.vec n L=none) (hnl:∀ n,(∃ s ok g,η n=.arr s ok g) ∨ η n=.gone ∨ η n=.free)
  (harr:∀ n s ok g,η n=.arr s ok g->R.str n=s/\∀ ix i,ok ix i->0<=i/\(R.arr n ix).block<W.heap.size/\(R.arr n ix).spot=none /\
   ∃ xs,VRelL R.no (g ix i) xs/\xs.length=s/\∀ k x,xs[k]? = some x->W.cell? ((R.arr n ix).add (i.toNat*s+k))=some x) (hfz:∀ (b:Nat) xs,R.frz (.blk b)=some xs->b<W.heap.size/\∀ (k:Nat) (x:Value),xs[k]? = some x->W.cell? ⟨b,k,none⟩=some x:=by intro _ _ h; cases h):Emb W.heap.size R η W:=by
 have how:∀ n b,¬ R.ow n (η n) b:=fun n b h=>by
  rcases hnl n with ⟨s,ok,g,h1⟩ | h1 | h1 <;> rw [h1] at h <;> cases h
 have hno:∀ n b,η n=b->(∀ s ok g,b ≠ .arr s ok g)->b ≠ .gone->b ≠ .free->False:=fun n b h h1 h2 h3=>by
  rcases hnl n with ⟨s,ok,g,h4⟩ | h4 | h4
  ·exact h1 _ _ _ (h.symm.trans h4)
  ·exact h2 (h.symm.trans h4)
  ·exact h3 (h.symm.trans h4)
 exact ⟨Nat.le_refl _,fun n cs t h=>(hno n _ rfl (by intro s ok g e; rw [e] at h; simp at h) (by intro e; rw [e] at h; simp at h) (by intro e; rw [e] at h; simp at h)).elim,fun n m b h _=>(how n b h).elim,harr,fun n _=>hblk n,fun n st pd t m ps as bd h=>(hno n _ h (by simp) (by simp) (by simp)).elim,fun n L g s t h=>(hno n _ h (by simp) (by simp) (by simp)).elim,fun n _ L=>hvec n L,fun n ks vk es h=>(hno n _ h (by simp) (by simp) (by simp)).elim,fun n K r C g t te h=>(hno n _ h (by simp) (by simp) (by simp)).elim,fun n t r C g te h=>(hno n _ h (by simp) (by simp) (by simp)).elim,fun b xs h=>⟨(hfz b xs h).1,fun n=>how n b,(hfz b xs h).2⟩⟩
end
end Go.Sx
