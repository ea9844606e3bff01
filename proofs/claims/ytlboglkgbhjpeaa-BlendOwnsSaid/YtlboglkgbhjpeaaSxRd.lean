/- Nested lists at a row's arguments, as data. -/
import Derived.Test.YtlboglkgbhjpeaaSxJ
namespace Go.Sx
open Go Go.ChangeShapes Go.WideShapes Go.RowKit
section
variable {P:Program} {H:Type} {enc:TypeId × Value->H} {w:World} {base:Nat} {spare:Nat->Bool} {held:Bool}
theorem cells_of {us:List TypeId} {W:World} {a:Addr} {o:Nat} (h:∀ (k:Nat) u,us[k]? = some u->∃ v,W.cell? (a.add (o+k))=some v):∃ xs:List Value,xs.length=us.length/\∀ (k:Nat) x,xs[k]? = some x->W.cell? (a.add (o+k))=some x:=by
 refine ⟨(List.range us.length).map fun k=>(W.cell? (a.add (o+k))).getD undef,by simp,fun k x hk=>?_⟩
 rw [List.getElem?_map] at hk
 cases hr:(List.range us.length)[k]? with
 | none=>rw [hr] at hk; cases hk
 | some q=>
  rw [hr] at hk
  have hlt:=(List.getElem?_eq_some_iff.1 hr).1
  simp only [List.length_range] at hlt
  rw [List.getElem?_range hlt] at hr
  cases hr
  obtain ⟨v,hv⟩:=h k us[k] (List.getElem?_eq_getElem hlt)
  simp only [Option.map_some,Option.some.injEq] at hk
  rw [hv] at hk
  rw [hv,<- hk]
  rfl
theorem read_list {α:Type} {f:α->List VV} {d0:α} {t e:TypeId} {us:List TypeId} {dp fuel:Nat} {v:Value} {y:DataW H × List MemPlace} (ht:P.underlying t=some (.slice e)) (hus:leavesT P dp e=some us) (hsz:P.cellsOf e=us.length) (hpos:0<us.length) (hone:∀ x,(f x).all VV.one=true)
  (hel:∀ xs:List Value,xs.length=us.length->(∀ (k:Nat) u,us[k]? = some u->∃ m v y,xs[k]? = some v/\DataW.trod enc P w base spare held m u [v]=some y)->∃ x:α,VRelL (dataR w) (f x) xs)
  (h:DataW.trod enc P w base spare held fuel t [v]=some y):∃ l:List α,VRel (dataR w) (.tl l.length us.length (fun j=>f (l.getD j d0))) v:=by
 rcases leaf_slice ht hus hsz h with rfl | ⟨a,len,cap,rfl,h1,h2,h3⟩
 ·exact ⟨[],none,0,rfl,⟨Nat.le_refl _,fun _=>rfl⟩,fun i hi=>absurd hi (Nat.not_lt_zero i)⟩
 ·have key:∀ j:Nat,∃ x:α,j<len->a.block<w.heap.size/\a.spot=none/\∃ xs,VRelL (dataR w) (f x) xs/\xs.length=us.length/\∀ (k:Nat) y,xs[k]? = some y->w.cell? (a.add (j*us.length+k))=some y:=by
   intro j
   by_cases hj:j<len
   ·obtain ⟨xs,x1,x2⟩:=cells_of (us:=us) (W:=w) (a:=a) (o:=j*us.length) (fun k u hu=>by
     obtain ⟨_,v,_,g,_⟩:=h3 j hj k u hu
     exact ⟨v,g⟩)
    obtain ⟨x,hx⟩:=hel xs x1 (fun k u hu=>by
     obtain ⟨m,v,y,g1,g2⟩:=h3 j hj k u hu
     have hk:k<xs.length:=by rw [x1]; exact (List.getElem?_eq_some_iff.1 hu).1
     have:=x2 k xs[k] (List.getElem?_eq_getElem hk)
     rw [g1] at this
     cases this
     exact ⟨m,_,y,List.getElem?_eq_getElem hk,g2⟩)
    obtain ⟨_,v0,_,g0,_⟩:=h3 j hj 0 us[0] (List.getElem?_eq_getElem hpos)
    obtain ⟨_,vz,_,gz,_⟩:=h3 0 (by omega) 0 us[0] (List.getElem?_eq_getElem hpos)
    refine ⟨x,fun _=>⟨?_,?_,xs,hx,x1,x2⟩⟩
    ·have:=cell_block g0
     rwa [add_block] at this
    ·have:=cell_spot gz
     simpa [Addr.add] using this
   ·exact ⟨d0,fun h=>absurd h hj⟩
  obtain ⟨F,hF⟩:=Classical.axiomOfChoice key
  refine ⟨(List.range len).map F,?_⟩
  have hln:((List.range len).map F).length=len:=by simp
  have hget:∀ j,j<len->((List.range len).map F).getD j d0=F j:=fun j hj=>by simp [List.getD_eq_getElem?_getD,hj]
  rw [hln]
  refine tl_congr (g:=fun j=>f (F j)) (fun j hj=>by rw [hget j hj]) ?_
  have hR:∀ j,j<len->a.block<w.heap.size/\a.spot=none/\∃ xs,VRelL (dataR w) (f (F j)) xs/\xs.length=us.length/\∀ (k:Nat) y,xs[k]? = some y->w.cell? (a.add (j*us.length+k))=some y:=fun j hj=>hF j hj
  obtain ⟨b,o,sp⟩:=a
  refine ⟨some ⟨b,o,sp⟩,cap,rfl,⟨h1,fun h=>by cases h⟩,fun j hj=>?_⟩
  obtain ⟨k1,k2,xs,k3,k4,k5⟩:=hR j hj
  have k2:sp=none:=k2
  subst k2
  have hc:∀ k (hk:k<xs.length),w.cell? ⟨b,o+(j*us.length+k),none⟩=some xs[k]:=fun k hk=>by
   have:=k5 k xs[k] (List.getElem?_eq_getElem hk)
   rwa [add_lit] at this
  have h0:=hc 0 (by omega)
  unfold World.cell? at h0
  split at h0
  ·rename_i ys t z hb
   have hl:∀ k (hk:k<xs.length),ys.toList[o+(j*us.length+k)]? = some xs[k]:=fun k hk=>by
    have:=hc k hk
    have hb':w.heap[b]? = some (.cells ys t z):=hb
    unfold World.cell? at this
    simp only [hb'] at this
    simpa using this
   have hlast:=(List.getElem?_eq_some_iff.1 (hl (us.length - 1) (by omega))).1
   refine ⟨b,o,ys.toList,rfl,?_,by omega,hone _,?_⟩
   ·show Wfr w b=some ys.toList
    unfold Wfr
    rw [hb]
   ·have e1:((ys.toList.drop (o+j*us.length)).take us.length)=xs:=by
     apply List.ext_getElem?
     intro k
     rw [List.getElem?_take]
     split
     ·rename_i hk
      rw [List.getElem?_drop,List.getElem?_eq_getElem (show k<xs.length by omega),<- hl k (by omega)]
      congr 1
      omega
     ·rw [List.getElem?_eq_none (by omega)]
    rw [e1]
    exact k3
  ·cases h0
theorem open_agg {r:Go.Reach} {b0:Nat} {t:TypeId} {v:Value} {d:DataW H} {ps:List MemPlace} {us:List TypeId} {k:Nat} (hst:isStrB P t=true) (hus:leavesT P k t=some us)
  (hval:Value.okWide P w r b0 t v) (hd:DataW.Trod enc P w base spare held t v d ps):∃ xs:List Value,v=.agg xs.toArray/\xs.length=us.length/\∀ (k:Nat) u,us[k]? = some u->∃ m v y,xs[k]? = some v/\DataW.trod enc P w base spare held m u [v]=some y:=by
 obtain ⟨fs,ht⟩:=isStr_of hst
 obtain ⟨cs,rfl⟩:=okWide_agg ht hval
 obtain ⟨fuel,hf⟩:=hd
 obtain ⟨hl,hg⟩:=leaves_trod _ _ _ hus _ _ _ hf
 have e:(Value.agg cs).cells.toList=cs.toList:=by simp [Value.cells]
 rw [e] at hl hg
 exact ⟨cs.toList,by simp,hl,hg⟩
theorem open_list {r:Go.Reach} {b0:Nat} {t e:TypeId} {v:Value} {d:DataW H} {ps:List MemPlace} (ht:P.underlying t=some (.slice e)) (hval:Value.okWide P w r b0 t v) (hd:DataW.Trod enc P w base spare held t v d ps):∃ fuel y,DataW.trod enc P w base spare held fuel t [v]=some y:=by
 obtain ⟨a0,l0,c0,rfl⟩:=Go.WideShapes.okWide_slice ht hval
 obtain ⟨fuel,hf⟩:=hd
 exact ⟨fuel,_,by simpa [Value.cells] using hf⟩
end
end Go.Sx
