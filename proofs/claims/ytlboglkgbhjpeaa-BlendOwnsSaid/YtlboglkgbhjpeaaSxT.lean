/- Data that nobody changes: loops, results, arguments. -/
import Derived.Test.YtlboglkgbhjpeaaSxL
import Derived.Test.YtlboglkgbhjpeaaSxV
namespace Go.Sx
open Go
theorem exRel_mono {R R':Rn} (h:R.le R') {e:VEx} {ex:Exit} (hx:ExRel R e ex):ExRel R' e ex:=by
 cases e with
 | panic v=>obtain ⟨x,h1,h2⟩:=hx; exact ⟨x,h1.mono h,h2⟩
 | _=>exact hx
section
variable {P:Program}
theorem calls_tell {f:FuncId} {args:List VV} {h h':VH} {v v2:VV} {m L s:Nat} {g:Nat->List VV} {t:TypeId} (hs:CallsV P f args h (.ret v) h') (hm:h'.at m=.vec L g s t)
  (hv:∀ (R R':Rn) (x:Value),R.le R'->(∀ y,VRel R (.sl m L) y->VRel R' (.tl L s g) y)->VRel R v x->VRel R' v2 x):CallsV P f args h (.ret v2) ⟨h'.nx,(m,.gone)::h'.bs⟩:=by
 intro B R w xs em hx
 refine (hs B R w xs em hx).mono ?_
 rintro e w' ⟨R',n1,e1,x,hx1,he⟩
 obtain ⟨R2,hle,e2,n2,hy⟩:=emb_frzV e1 hm
 have hat:(VH.mk h'.nx ((m,.gone)::h'.bs)).at=upd h'.at m .gone:=VH.at_put h' m .gone (by rw [hm]; simp)
 exact ⟨R2,by rw [hat]; exact n1.trans n2,by rw [hat]; exact e2,x,hv R' R2 x hle hy hx1,he⟩
def Ext (R R':Rn):Prop:=R'.arr=R.arr/\R'.str=R.str/\∀ b xs,R.frz b=some xs->∃ ys,R'.frz b=some ys/\∀ (k:Nat) (x:Value),xs[k]? = some x->ys[k]? = some x
theorem take_ext {xs ys:List Value} {o s:Nat} (h:∀ (k:Nat) (x:Value),xs[k]? = some x->ys[k]? = some x) (hl:o+s<=xs.length):(ys.drop o).take s=(xs.drop o).take s:=by
 apply List.ext_getElem?
 intro j
 rw [List.getElem?_take,List.getElem?_take]
 split
 ·rename_i hj
  rw [List.getElem?_drop,List.getElem?_drop]
  have h1:xs[o+j]? = some xs[o+j]:=List.getElem?_eq_getElem (by omega)
  rw [h1,h _ _ h1]
 ·rfl
theorem ext_len {xs ys:List Value} (h:∀ (k:Nat) (x:Value),xs[k]? = some x->ys[k]? = some x):xs.length<=ys.length:=by
 rcases Nat.eq_zero_or_pos xs.length with h0 | h0
 ·omega
 ·have h1:xs[xs.length - 1]? = some xs[xs.length - 1]:=List.getElem?_eq_getElem (by omega)
  have:=(List.getElem?_eq_some_iff.1 (h _ _ h1)).1
  omega
mutual
theorem ext_V:∀ {R R':Rn} (_:Ext R.no R'.no) (v:VV) (x:Value),VRel R.no v x->VRel R'.no v x
 | _,_,_,.bool _,_,hx=>hx
 | _,_,_,.int _ _,_,hx=>hx
 | _,_,_,.nilp,_,hx=>hx
 | _,_,h,.ptr a,_,⟨p,hp,hx⟩=>⟨p,ext_A h a p hp,hx⟩
 | _,_,_,.nils,_,hx=>hx
 | _,_,h,.slice a _ _,_,⟨hl,p,hp,hx⟩=>⟨hl,p,hp.imp id (fun ⟨q,h1,h2⟩=>⟨q,h1,ext_A h a q h2⟩),hx⟩
 | _,_,h,.func _ first cap,_,⟨xs,ys,h1,h2,hx⟩=>⟨xs,ys,ext_L h first xs h1,ext_L h cap ys h2,hx⟩
 | _,_,_,.nilf,_,hx=>hx
 | _,_,h,.iface _ v,_,⟨y,hy,hx⟩=>⟨y,ext_V h v y hy,hx⟩
 | _,_,_,.niff,_,hx=>hx
 | _,_,h,.agg cs,_,⟨xs,h1,hx⟩=>⟨xs,ext_L h cs xs h1,hx⟩
 | _,_,h,.tup vs,_,⟨xs,h1,hx⟩=>⟨xs,ext_L h vs xs h1,hx⟩
 | _,_,_,.opq _,_,hx=>hx
 | _,_,_,.any,_,hx=>hx
 | _,_,_,.yld _,_,⟨b,hb,_⟩=>by cases hb
 | _,_,_,.sl _ _,_,⟨hx,_⟩=>by cases hx
 | _,_,_,.sub _ _ _ _ _,_,⟨v,a,c,hx,_⟩=>by cases hx
 | _,_,_,.mp _,_,⟨b,hb,_⟩=>by cases hb
 | _,_,h,.tl _ _ g,_,⟨p,cap,h1,h2,h3⟩=>⟨p,cap,h1,h2,fun i hi=>by
   obtain ⟨b,o,xs,g1,g2,g3,g5,g4⟩:=h3 i hi
   obtain ⟨ys,k1,k2⟩:=h.2.2 b xs g2
   exact ⟨b,o,ys,g1,k1,Nat.le_trans g3 (ext_len k2),g5,by rw [take_ext k2 g3]; exact ext_L h (g i) _ g4⟩⟩
 | _,_,h,.tp cs,_,⟨b,o,xs,h1,h2,h3⟩=>by
   obtain ⟨ys,k1,k2⟩:=h.2.2 b xs h2
   have hl:=h3.length
   rw [List.length_take,List.length_drop] at hl
   rcases Nat.eq_zero_or_pos cs.length with h0 | h0
   ·refine ⟨b,o,ys,h1,k1,?_⟩
    have e1:=ext_L h cs _ h3
    rw [h0,List.take_zero] at e1 ⊢
    exact e1
   ·exact ⟨b,o,ys,h1,k1,by rw [take_ext k2 (by omega)]; exact ext_L h cs _ h3⟩
 | _,_,h,.hs t j _,_,⟨xs,h1,h2,h3⟩=>by
   obtain ⟨ys,k1,k2⟩:=h.2.2 (.reg t j) xs h1
   exact ⟨ys,k1,k2 _ _ h2,h3⟩
theorem ext_L:∀ {R R':Rn} (_:Ext R.no R'.no) (cs:List VV) (xs:List Value),VRelL R.no cs xs->VRelL R'.no cs xs
 | _,_,_,[],_,hx=>hx
 | _,_,h,c::cs,_,⟨y,ys,h1,h2,hx⟩=>⟨y,ys,ext_V h c y h1,ext_L h cs ys h2,hx⟩
theorem ext_A:∀ {R R':Rn} (_:Ext R.no R'.no) (a:VA) (p:Addr),ARel R.no a p->ARel R'.no a p
 | _,_,_,.own _ _,_,⟨b,hb,_⟩=>by cases hb
 | R,R',h,.el n ix i off,_,hx=>by
  simp only [ARel] at hx ⊢
  have h1:R'.no.arr=R.no.arr:=h.1
  have h2:R'.no.str=R.no.str:=h.2.1
  rw [h1,h2]; exact hx
 | _,_,_,.ve _ _ _ _ _,_,⟨_,v,b,hb,_⟩=>by cases hb
 | _,_,_,.fa _ _ _,_,⟨b,hb,_⟩=>by cases hb
 | _,_,h,.hb t j _,_,⟨xs,v,b,h1,h2,h3⟩=>by
   obtain ⟨ys,k1,k2⟩:=h.2.2 (.reg t j) xs h1
   exact ⟨ys,v,b,k1,k2 _ _ h2,h3⟩
end
end
end Go.Sx
