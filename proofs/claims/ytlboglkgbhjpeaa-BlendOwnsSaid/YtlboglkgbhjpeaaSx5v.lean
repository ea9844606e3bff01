/- 'append' is sound. -/
import Derived.Test.YtlboglkgbhjpeaaSx5
import Derived.ArgAppend
namespace Go.Sx
open Go
def Rn.putV (R:Rn) (n L:Nat) (v:Value):Rn:={ R with vec:=fun m M=>if m=n/\M=L then some v else R.vec m M }
theorem le_putV {R:Rn} {n L:Nat} {v:Value} (h:R.vec n L=none ∨ R.vec n L=some v):R.le (R.putV n L v):=⟨fun _ _ h=>h,rfl,rfl,fun m M u hu=>by
 simp only [Rn.putV]
 split
 ·rename_i he
  obtain ⟨rfl,rfl⟩:=he
  rcases h with h | h
  ·rw [h] at hu; cases hu
  ·rw [h] at hu; cases hu; rfl
 ·exact hu,fun _ _ h=>h⟩
theorem putV_ne {R:Rn} {n L m:Nat} {v:Value} (h:m ≠ n):(R.putV n L v).vec m=R.vec m:=by
 funext M
 simp [Rn.putV,h]
theorem putV_same {R:Rn} {n L:Nat} {v:Value}:(R.putV n L v).vec n L=some v:=by simp [Rn.putV]
theorem ownsRow_slice {w:World} {B:Nat} {t:TypeId} {s:Nat} {v:Value} {L:Nat} {xs:List Value} (h:w.ownsRow B t s v L xs):∃ a c,v=.slice a L c:=by
 rcases h.2 with ⟨rfl,rfl⟩ | ⟨g,cap,cur,rfl,_⟩
 ·exact ⟨_,_,rfl⟩
 ·exact ⟨_,_,rfl⟩
theorem ownsRow_sub {w:World} {B:Nat} {t:TypeId} {s:Nat} {v:Value} {L:Nat} {xs:List Value} (h:w.ownsRow B t s v L xs):∃ a c,v=.slice a L c/\L<=c/\(c=0 ∨ ∃ b,v.ownBlock=some b/\a=some ⟨b,0*s,none⟩):=by
 rcases h.2 with ⟨rfl,rfl⟩ | ⟨g,cap,cur,rfl,_,_,h2,_⟩
 ·exact ⟨_,_,rfl,Nat.le_refl _,.inl rfl⟩
 ·exact ⟨_,_,rfl,h2,.inr ⟨g,rfl,by rw [Nat.zero_mul]⟩⟩
section
variable {P:Program}
def NewsV (_:Nat) (R:Rn) (w:World) (s k:Nat) (f:Nat->List VV) (x:Value):Prop:=
 ∃ (a:Option Addr) (c:Nat) (news:List Value),x=.slice a k c/\news.length=k*s/\(∀ b,a=some b->∀ j u,news[j]? = some u->w.cell? (b.add j)=some u)/\(a=none->k=0)/\(∀ u ∈ news,u.oneCell'=true) /\
  ∀ i,i<k->VRelL R.no (f i) ((news.drop (i*s)).take s)/\(f i).all VV.one=true
theorem chunk_all {l:List VV} {a b:Nat} (h:l.all VV.one=true):((l.drop a).take b).all VV.one=true:=by
 simp only [List.all_eq_true] at h ⊢
 exact fun x hx=>h x (List.mem_of_mem_drop (List.mem_of_mem_take hx))
theorem chunks_of {F:Nat->List Value} {s:Nat}:∀ {k:Nat},(∀ j,j<k->(F j).length=s)->((List.range k).map F).flatten.length=k*s/\(∀ j,j<k->((((List.range k).map F).flatten.drop (j*s)).take s)=F j) /\
  ∀ j u,((List.range k).map F).flatten[j]? = some u->∃ a c,a<k/\j=a*s+c/\(F a)[c]? = some u
 | 0,_=>⟨by simp,fun j hj=>by omega,fun j u h=>by simp at h⟩
 | k+1,h=>by
  obtain ⟨c1,c2,c3⟩:=chunks_of (F:=F) (s:=s) (k:=k) (fun j hj=>h j (by omega))
  have he:((List.range (k+1)).map F).flatten=((List.range k).map F).flatten ++ F k:=by rw [List.range_succ]; simp
  have hk:=h k (by omega)
  rw [he]
  refine ⟨by rw [List.length_append,c1,hk,Nat.succ_mul],fun j hj=>?_,fun j u hj=>?_⟩
  ·by_cases hjk:j<k
   ·have hle:j*s+s<=k*s:=by
     have:=Nat.mul_le_mul_right s (show j+1<=k by omega)
     rwa [Nat.succ_mul] at this
    rw [List.drop_append_of_le_length (by rw [c1]; omega),List.take_append_of_le_length (by rw [List.length_drop,c1]; omega)]
    exact c2 j hjk
   ·obtain rfl:j=k:=by omega
    rw [List.drop_append,c1,Nat.sub_self,List.drop_eq_nil_of_le (by rw [c1]; exact Nat.le_refl _),List.nil_append,List.drop_zero,<- hk,List.take_length]
  ·rw [List.getElem?_append] at hj
   split at hj
   ·obtain ⟨a,c,g1,g2,g3⟩:=c3 j u hj
    exact ⟨a,c,by omega,g2,g3⟩
   ·rename_i hge
    rw [c1] at hge hj
    exact ⟨k,j - k*s,by omega,by omega,hj⟩
theorem newsE_sound {s:Nat} {x:VV} {h:VH} {K:Nat->(Nat->List VV)->Prop} (hK:newsE s x h K):∃ k f,K k f/\∀ (B:Nat) (R:Rn) (w:World) (xv:Value),Emb B R h.at w->VRel R x xv->NewsV B R w s k f xv:=by
 unfold newsE at hK
 split at hK
 ·refine ⟨_,_,hK,fun B R w xv e hx=>?_⟩
  simp only [VRel] at hx
  subst hx
  exact ⟨none,0,[],rfl,by simp,by simp,by simp,by simp,fun i hi=>by omega⟩
 ·rename_i m off k cap
  split at hK
  ·rename_i cs ty hn
   obtain ⟨h1,hK⟩:=cond_f hK
   simp only [Bool.and_eq_true] at h1
   obtain ⟨⟨h1,h2⟩,h3⟩:=h1
   have h1:=Nat.le_of_ble_eq_true h1
   refine ⟨_,_,hK,fun B R w xv e hx=>?_⟩
   obtain ⟨hlc,p,hp,rfl⟩:=hx
   obtain ⟨b0,xs,g1,g2,g3,g4⟩:=e.own m cs ty hn
   have hl:=g3.length
   refine ⟨p,cap,if k=0 then [] else (xs.drop off).take (k*s),rfl,?_,?_,fun hp0=>?_,?_,?_⟩
   ·by_cases hk:k=0
    ·simp [hk]
    ·rw [if_neg hk]; simp; omega
   ·intro b hb j u hj
    by_cases hk:k=0
    ·simp [hk] at hj
    ·rw [if_neg hk] at hj
     obtain ⟨q,hq,b1,hb1,rfl⟩:=hp.resolve_left (by omega)
     rw [hb] at hq; cases hq
     rw [g1] at hb1; cases hb1
     rw [List.getElem?_take] at hj
     split at hj
     ·rw [List.getElem?_drop] at hj
      rw [add_lit]
      simp [World.cell?,g4,hj]
     ·cases hj
   ·rcases hp with h5 | ⟨q,h5,_⟩
    ·omega
    ·rw [hp0] at h5; cases h5
   ·intro u hu
    by_cases hk:k=0
    ·simp [hk] at hu
    ·rw [if_neg hk] at hu
     exact all_one ((g3.drop off).take (k*s)) h3 u hu
   ·intro i hi
    rw [if_neg (by omega)]
    exact ⟨((bel0_noL _ _ h2 ((g3.drop off).take (k*s))).drop (i*s)).take s,chunk_all h3⟩
  ·exact hK.elim
 ·rename_i m L
  split at hK
  ·rename_i L' g s' ty hn
   obtain ⟨h1,hK2⟩:=cond_f hK
   clear hK
   simp only [Bool.and_eq_true] at h1
   have e1:s'=s:=Nat.eq_of_beq_eq_true h1.1
   have e2:L'=L:=Nat.eq_of_beq_eq_true h1.2
   subst e1; subst e2
   refine ⟨_,_,hK2,fun B R w xv e hx=>?_⟩
   obtain ⟨hv,a,c,rfl⟩:=hx
   obtain ⟨v',xs,g1,g2,g3⟩:=(e.vec m L' g s' ty hn).row
   rw [hv] at g1; cases g1
   refine ⟨a,c,xs,rfl,g2.1,?_,?_,?_,g3⟩
   ·intro b hb j u hj
    subst hb
    rcases g2.2 with ⟨h4,_⟩ | ⟨g',cap,cur,h4,_⟩
    ·cases h4
    ·have:=g2.cells (g:=g') (by rw [h4]; rfl) j u hj
     simp only [Value.slice.injEq,Option.some.injEq] at h4
     rw [h4.1]; exact this
   ·intro hb
    subst hb
    rcases g2.2 with ⟨_,h4⟩ | ⟨g',cap,cur,h4,_⟩
    ·exact h4
    ·simp at h4
   ·intro u hu
    obtain ⟨j,hj⟩:=List.mem_iff_getElem?.1 hu
    have hjl:j<xs.length:=(List.getElem?_eq_some_iff.1 hj).1
    rw [g2.1] at hjl
    by_cases hs:s'=0
    ·simp [hs] at hjl
    ·have hi:j / s'<L':=(Nat.div_lt_iff_lt_mul (by omega)).2 hjl
     obtain ⟨q1,q2⟩:=g3 (j / s') hi
     refine all_one q1 q2 u (List.mem_iff_getElem?.2 ⟨j % s',?_⟩)
     rw [List.getElem?_take,if_pos (Nat.mod_lt _ (by omega)),List.getElem?_drop,Nat.mul_comm,Nat.div_add_mod]
     exact hj
  ·exact hK.elim
 ·rename_i m L s0 i k
  split at hK
  ·rename_i L' g s' ty hn
   obtain ⟨h1,hK2⟩:=cond_f hK
   clear hK
   simp only [Bool.and_eq_true] at h1
   have e1:s'=s:=Nat.eq_of_beq_eq_true h1.1.1
   have e0:s0=s:=Nat.eq_of_beq_eq_true h1.1.2
   have e2:L'=L:=Nat.eq_of_beq_eq_true h1.2
   subst e1; subst e2; subst e0
   refine ⟨_,_,hK2,fun B R w xv e hx=>?_⟩
   obtain ⟨v,a,c,hv,rfl,hik,hkc,hlc,ha,_⟩:=hx
   obtain ⟨v',xs,g1,g2,g3⟩:=(e.vec m L' g s0 ty hn).row
   rw [hv] at g1; cases g1
   have hlen:xs.length=L'*s0:=g2.1
   by_cases hk:k=0
   ·subst hk
    exact ⟨a,c,[],rfl,by simp,by simp,by simp,by simp,fun i hi=>by omega⟩
   ·obtain ⟨b,hb,rfl⟩:=ha.resolve_left (fun h=>by omega)
    have hle:i*s0+k*s0<=L'*s0:=by rw [<- Nat.add_mul]; exact Nat.mul_le_mul_right _ hik
    refine ⟨_,c,(xs.drop (i*s0)).take (k*s0),rfl,by simp; omega,?_,by simp,?_,fun j hj=>?_⟩
    ·intro p hp j u hj
     cases hp
     rw [List.getElem?_take] at hj
     split at hj
     ·rw [List.getElem?_drop] at hj
      rcases g2.2 with ⟨_,h4⟩ | ⟨g',cap,cur,h4,_⟩
      ·omega
      ·have h5:=g2.cells (g:=g') (by rw [h4]; rfl) _ u hj
       rw [h4] at hb
       simp only [Value.ownBlock,Option.some.injEq] at hb
       rw [add_lit]
       rw [add_lit] at h5
       rw [<- hb]
       simpa using h5
     ·cases hj
    ·intro u hu
     have hu':u ∈ xs:=List.mem_of_mem_drop (List.mem_of_mem_take hu)
     obtain ⟨j,hj⟩:=List.mem_iff_getElem?.1 hu'
     have hjl:j<xs.length:=(List.getElem?_eq_some_iff.1 hj).1
     rw [hlen] at hjl
     by_cases hs:s0=0
     ·simp [hs] at hjl
     ·have hi:j / s0<L':=(Nat.div_lt_iff_lt_mul (by omega)).2 hjl
      obtain ⟨q1,q2⟩:=g3 (j / s0) hi
      refine all_one q1 q2 u (List.mem_iff_getElem?.2 ⟨j % s0,?_⟩)
      rw [List.getElem?_take,if_pos (Nat.mod_lt _ (by omega)),List.getElem?_drop,Nat.mul_comm,Nat.div_add_mod]
      exact hj
    ·obtain ⟨q1,q2⟩:=g3 (i+j) (by omega)
     refine ⟨?_,q2⟩
     have:(((xs.drop (i*s0)).take (k*s0)).drop (j*s0)).take s0=(xs.drop ((i+j)*s0)).take s0:=by
      rw [List.drop_take,List.drop_drop,List.take_take,<- Nat.add_mul]
      congr 1
      have:j*s0+s0<=k*s0:=by rw [<- Nat.succ_mul]; exact Nat.mul_le_mul_right _ hj
      omega
     rw [this]; exact q1
  ·exact hK.elim
 ·rename_i L s0 g
  obtain ⟨h1,hK2⟩:=cond_f hK
  have h1:=Nat.eq_of_beq_eq_true h1
  subst h1
  refine ⟨_,_,hK2,fun B R w xv e hx=>?_⟩
  obtain ⟨p,cap,rfl,hc,hg⟩:=hx
  rcases Nat.eq_zero_or_pos L with hL | hL
  ·subst hL
   exact ⟨p,cap,[],rfl,by simp,by simp,fun _=>rfl,by simp,fun i hi=>by omega⟩
  ·obtain ⟨b,o,xs,rfl,hf,hl,_,_⟩:=hg 0 hL
   have hall:∀ i,i<L->o+i*s0+s0<=xs.length/\(g i).all VV.one=true/\VRelL R.no (g i) ((xs.drop (o+i*s0)).take s0):=fun i hi=>by
    obtain ⟨b',o',xs',q1,q2,q3,q4,q5⟩:=hg i hi
    cases q1
    rw [hf] at q2; cases q2
    exact ⟨q3,q4,q5⟩
   have hlen:o+L*s0<=xs.length:=by
    have:=(hall (L - 1) (by omega)).1
    have e1:(L - 1)*s0+s0=L*s0:=by rw [<- Nat.succ_mul]; congr 1; omega
    omega
   have hpart:∀ i,i<L->((((xs.drop o).take (L*s0)).drop (i*s0)).take s0)=(xs.drop (o+i*s0)).take s0:=fun i hi=>by
    have:i*s0+s0<=L*s0:=by rw [<- Nat.succ_mul]; exact Nat.mul_le_mul_right _ hi
    rw [List.drop_take,List.drop_drop,List.take_take]
    congr 1
    omega
   refine ⟨some ⟨b,o,none⟩,cap,(xs.drop o).take (L*s0),rfl,by rw [List.length_take,List.length_drop]; omega,fun b' hb j u hj=>?_,(fun h=>by cases h),fun u hu=>?_,fun i hi=>by rw [hpart i hi]; exact ⟨(hall i hi).2.2,(hall i hi).2.1⟩⟩
   ·cases hb
    rw [List.getElem?_take] at hj
    split at hj
    ·rw [List.getElem?_drop] at hj
     have:=(e.frz b xs hf).2.2 (o+j) u hj
     rw [add_lit]
     exact this
    ·cases hj
   ·obtain ⟨j,hj⟩:=List.mem_iff_getElem?.1 hu
    rw [List.getElem?_take] at hj
    split at hj
    ·rename_i hjl
     have hs:0<s0:=by
      rcases Nat.eq_zero_or_pos s0 with h0 | h0
      ·subst h0; simp at hjl
      ·exact h0
     have hi:j / s0<L:=Nat.div_lt_of_lt_mul (by rw [Nat.mul_comm]; exact hjl)
     obtain ⟨q3,q4,q5⟩:=hall (j / s0) hi
     refine all_one q5 q4 u (List.mem_iff_getElem?.2 ⟨j % s0,?_⟩)
     have hm:=Nat.mod_lt j hs
     rw [List.getElem?_take,if_pos hm,List.getElem?_drop]
     rw [List.getElem?_drop] at hj
     rw [<- hj]
     congr 1
     have:=Nat.div_add_mod j s0
     rw [Nat.mul_comm] at this
     omega
    ·cases hj
 ·rename_i t j C
  split at hK
  ·rename_i m _
   split at hK
   ·rename_i t' r C' g te hn
    obtain ⟨h1,hK2⟩:=cond_f hK
    clear hK
    simp only [Bool.and_eq_true,decide_eq_true_eq] at h1
    obtain ⟨⟨⟨h1,h2⟩,h3⟩,h4⟩:=h1
    obtain rfl:s=1:=Nat.eq_of_beq_eq_true h1
    obtain rfl:t'=t:=Nat.eq_of_beq_eq_true h2
    obtain rfl:C'=C:=Nat.eq_of_beq_eq_true h3
    refine ⟨_,_,hK2,fun B R w xv e hx=>?_⟩
    obtain ⟨ys,hv,hy,a,c,rfl⟩:=hx
    obtain ⟨ys',v',xs,g1,g2',g2,g3⟩:=(e.bun m _ _ _ _ _ hn).1.rows j h4
    rw [hv] at g1; cases g1
    rw [hy] at g2'; cases g2'
    have hlen:xs.length=C':=by rw [g2.1,Nat.mul_one]
    refine ⟨a,c,xs,rfl,g2.1,?_,?_,?_,fun i hi=>⟨?_,rfl⟩⟩
    ·intro b hb k u hk
     subst hb
     rcases g2.2 with ⟨h4,_⟩ | ⟨g',cap,cur,h4,_⟩
     ·cases h4
     ·have:=g2.cells (g:=g') (by rw [h4]; rfl) k u hk
      simp only [Value.slice.injEq,Option.some.injEq] at h4
      rw [h4.1]; exact this
    ·intro hb
     subst hb
     rcases g2.2 with ⟨_,h4⟩ | ⟨g',cap,cur,h4,_⟩
     ·exact h4
     ·simp at h4
    ·intro u hu
     obtain ⟨k,hk⟩:=List.mem_iff_getElem?.1 hu
     have hkl:=(List.getElem?_eq_some_iff.1 hk).1
     rw [g3 k (by omega)] at hk
     cases hk
     rfl
    ·have h5:=g3 i hi
     have h6:(xs.drop (i*1)).take 1=[.int .i64 (g j i)]:=by
      apply List.ext_getElem?
      intro q
      rw [List.getElem?_take,Nat.mul_one,List.getElem?_drop]
      by_cases hq:q<1
      ·obtain rfl:q=0:=by omega
       rw [if_pos hq,Nat.add_zero,h5]
       rfl
      ·rw [if_neg hq]
       exact (List.getElem?_eq_none (by simp; omega)).symm
     rw [h6]
     exact ⟨_,_,rfl,rfl,rfl⟩
   ·exact hK.elim
  ·exact hK.elim
 ·rename_i m p0 o k cap
  split at hK
  ·rename_i pre L g ty hn
   obtain ⟨h1,hK2⟩:=cond_f hK
   clear hK
   simp only [Bool.and_eq_true] at h1
   obtain ⟨⟨h0,h1⟩,h2⟩:=h1
   have h0:s=1:=Nat.eq_of_beq_eq_true h0
   have h1:pre.length=p0:=Nat.eq_of_beq_eq_true h1
   have h2:o+k<=L:=by simpa using h2
   subst h0; subst h1
   refine ⟨_,_,hK2,fun B R w xv e hx=>?_⟩
   obtain ⟨hlc,p,hp,rfl⟩:=hx
   obtain ⟨b0,xs,g1,g2,g3,g4⟩:=e.ownF hn
   have hcell:∀ j,j<k->xs[pre.length+(o+j)]? = some (.int .i64 (g (o+j))):=fun j hj=>by
    obtain ⟨x,hx,hr⟩:=g3.get (pre.length+(o+j)) (.int .i64 (g (o+j))) (by rw [List.getElem?_append_right (by omega),Nat.add_sub_cancel_left,famL_get (by omega)])
    rw [hx,show x=.int .i64 (g (o+j)) from hr]
   refine ⟨p,cap,(List.range k).map (fun j=>Value.int .i64 (g (o+j))),rfl,by simp,?_,fun hp0=>?_,?_,?_⟩
   ·intro b hb j u hj
    have hjk:j<k:=by
     have:=(List.getElem?_eq_some_iff.1 hj).1
     simpa using this
    obtain ⟨q,hq,b1,hb1,rfl⟩:=hp.resolve_left (by omega)
    rw [hb] at hq; cases hq
    rw [g1] at hb1; cases hb1
    rw [List.getElem?_map,List.getElem?_range hjk] at hj
    simp only [Option.map_some,Option.some.injEq] at hj
    subst hj
    rw [add_lit]
    simp [World.cell?,g4,Nat.add_assoc,hcell j hjk]
   ·rcases hp with h5 | ⟨q,h5,_⟩
    ·omega
    ·rw [hp0] at h5; cases h5
   ·intro u hu
    obtain ⟨j,_,rfl⟩:=List.mem_map.1 hu
    rfl
   ·intro i hi
    refine ⟨⟨.int .i64 (g (o+i)),[],rfl,rfl,?_⟩,by simp [VV.one]⟩
    rw [Nat.mul_one]
    apply List.ext_getElem?
    intro c
    rw [List.getElem?_take,List.getElem?_drop,List.getElem?_map]
    cases c with
    | zero=>simp [List.getElem?_range hi]
    | succ c=>simp
  ·exact hK.elim
 ·rename_i m ix i off k cap
  split at hK
  ·rename_i s' ok g hn
   obtain ⟨h1,hrow,hK2⟩:=cond_f hK
   clear hK
   simp only [Bool.and_eq_true] at h1
   have e1:s'=s:=Nat.eq_of_beq_eq_true h1.1
   have e2:off=0:=Nat.eq_of_beq_eq_true h1.2
   subst e1; subst e2
   refine ⟨_,_,hK2,fun B R w xv e hx=>?_⟩
   obtain ⟨hlc,p,hp,rfl⟩:=hx
   obtain ⟨r1,r2⟩:=e.arr m s' ok g hn
   by_cases hk:k=0
   ·subst hk
    exact ⟨p,cap,[],rfl,by simp,by simp,by simp,by simp,fun i hi=>by omega⟩
   ·obtain ⟨q,rfl,hq⟩:=hp.resolve_left (by omega)
    have hi0:0<=i:=by
     by_cases hs:(r2 ix (i+((0:Nat):Int)) (hrow 0 (by omega)).1).1=(r2 ix (i+((0:Nat):Int)) (hrow 0 (by omega)).1).1
     ·have:=(r2 ix (i+((0:Nat):Int)) (hrow 0 (by omega)).1).1
      omega
     ·exact (hs rfl).elim
    have hrows:∀ j,j<k->∃ xs,VRelL R.no (g ix (i+(j:Int))) xs/\xs.length=s'/\∀ c x,xs[c]? = some x->w.cell? (q.add (j*s'+c))=some x:=by
     intro j hj
     obtain ⟨_,_,_,xs,q1,q2,q3⟩:=r2 ix (i+(j:Int)) (hrow j hj).1
     refine ⟨xs,q1,q2,fun c x hc=>?_⟩
     have hq:q=(R.arr m ix).add (i.toNat*R.str m+0):=hq
     rw [hq,add_add,r1,<- q3 c x hc]
     congr 2
     rw [show (i+(j:Int)).toNat=i.toNat+j by omega,Nat.add_mul]
     omega
    obtain ⟨F,hF⟩:∃ F:Nat->List Value,∀ j,j<k->VRelL R.no (g ix (i+(j:Int))) (F j)/\(F j).length=s'/\∀ c x,(F j)[c]? = some x->w.cell? (q.add (j*s'+c))=some x:=by
     have:∀ j,∃ xs:List Value,j<k->VRelL R.no (g ix (i+(j:Int))) xs/\xs.length=s'/\∀ c x,xs[c]? = some x->w.cell? (q.add (j*s'+c))=some x:=fun j=>by
      by_cases hj:j<k
      ·obtain ⟨xs,h⟩:=hrows j hj
       exact ⟨xs,fun _=>h⟩
      ·exact ⟨[],fun h=>absurd h hj⟩
     exact Classical.axiomOfChoice this
    have hcat:=chunks_of (F:=F) (k:=k) (s:=s') (fun j hj=>(hF j hj).2.1)
    obtain ⟨c1,c2,c3⟩:=hcat
    refine ⟨_,cap,((List.range k).map F).flatten,rfl,c1,?_,by simp,?_,fun j hj=>?_⟩
    ·intro b hb j u hj
     cases hb
     obtain ⟨a,c,ha,rfl,hc⟩:=c3 j u hj
     exact (hF a ha).2.2 c u hc
    ·intro u hu
     obtain ⟨j,hj⟩:=List.mem_iff_getElem?.1 hu
     obtain ⟨a,c,ha,rfl,hc⟩:=c3 j u hj
     exact all_one (hF a ha).1 (hrow a ha).2 u (List.mem_of_getElem? hc)
    ·rw [c2 j hj]
     exact ⟨(hF j hj).1,(hrow j hj).2⟩
  ·exact hK.elim
 ·exact hK.elim
theorem run_append_zero {w:World} (t ty e:TypeId) (i:TypeInfo) (ht:P.underlying t=some (.slice e)) (hi:P.info? e=some i) (a b:Option Addr) (n cap c:Nat) (hn:n<=cap) :
  (Builtin.append_ #[t,t] ty #[.slice a n cap,.slice b 0 c]).run P w=.ok (.slice a n cap) w:=by
 cases a <;> cases b <;> simp [Builtin.append_,run_underlying ht,sizeOf,typeInfo,hi,Builtin.lenOf,Builtin.firstCells,loadCells,loadCellsFrom,hn,storeCells]
theorem app_run {B:Nat} {R:Rn} {w:World} {t e ty:TypeId} {i:TypeInfo} {z:Value} {s k n:Nat} {f:Nat->List VV} {x v:Value} {xs:List Value} (ht:P.underlying t=some (.slice e)) (hi:P.info? e=some i) (hz:i.zero=some z) (hsi:i.size=s) (hzs:z.cells.size=s) (hs:0<s)
  (hB:B<=w.heap.size) (hown:w.ownsRow B e s v n xs) (hx:NewsV B R w s k f x) (h63:n+k<=281474976710656) (hb:(n+k)*i.bytes<=140737488355328) :
  ∃ v' w' news,(Builtin.append_ #[t,t] ty #[v,x]).run P w=.ok v' w'/\w'.ownsRow B e s v' (n+k) (xs ++ news)/\w.grownBy w' v.ownBlock/\(v'.ownBlock=v.ownBlock ∨ v'.ownBlock=some w.heap.size)/\(k=0->v'=v) /\
   ∀ i,i<k->VRelL R.no (f i) ((news.drop (i*s)).take s)/\(f i).all VV.one=true:=by
 obtain ⟨a,c,news,rfl,hl,hc,ha,hone,hf⟩:=hx
 by_cases hk:k=0
 ·subst hk
  have hn0:news=[]:=List.eq_nil_of_length_eq_zero (by simpa using hl)
  subst hn0
  obtain ⟨va,vc,rfl⟩:=ownsRow_slice hown
  have hle:n<=vc:=by
   rcases hown.2 with ⟨h1,h2⟩ | ⟨g,cap,cur,h1,_,_,h2,_⟩
   ·omega
   ·cases h1; exact h2
  exact ⟨_,w,[],run_append_zero t ty e i ht hi va a n vc c hle,by simpa using hown,⟨rfl,rfl,rfl,Nat.le_refl _,fun _ _ _=>rfl⟩,.inl rfl,fun _=>rfl,fun i hi=>by omega⟩
 ·cases a with
  | none=>exact (hk (ha rfl)).elim
  | some b=>
   obtain ⟨v',w',h1,h2,h3,_,h5⟩:=run_append_own_at (P:=P) w B t ty e i z s i.bytes ht hi hz hsi rfl hzs hs v n xs hown b k c news hl (hc b rfl) hone (by simp only [maxLen]; omega) hb hB
   exact ⟨v',w',news,h1,h2,h3,h5,fun h=>(hk h).elim,hf⟩
theorem catG_row {R:Rn} {L k s:Nat} {g f:Nat->List VV} {xs news:List Value} (hl:xs.length=L*s) (hg:∀ i,i<L->VRelL R (g i) ((xs.drop (i*s)).take s)/\(g i).all VV.one=true) (hf:∀ i,i<k->VRelL R (f i) ((news.drop (i*s)).take s)/\(f i).all VV.one=true) :
  ∀ i,i<L+k->VRelL R (catG L g f i) (((xs ++ news).drop (i*s)).take s)/\(catG L g f i).all VV.one=true:=by
 intro i hi
 unfold catG
 by_cases h:i<L
 ·rw [blt_t h,cond_true]
  obtain ⟨h1,h2⟩:=hg i h
  refine ⟨?_,h2⟩
  have hle:i*s+s<=xs.length:=by
   rw [hl,<- Nat.succ_mul]
   exact Nat.mul_le_mul_right _ h
  rw [List.drop_append_of_le_length (by omega),List.take_append_of_le_length (by simp; omega)]
  exact h1
 ·rw [blt_f h,cond_false]
  obtain ⟨h1,h2⟩:=hf (i - L) (by omega)
  refine ⟨?_,h2⟩
  have:(xs ++ news).drop (i*s)=news.drop ((i - L)*s):=by
   rw [Nat.sub_mul,<- hl]
   have hle:xs.length<=i*s:=by rw [hl]; exact Nat.mul_le_mul_right _ (by omega)
   rw [List.drop_append,List.drop_eq_nil_of_le hle]
   simp
  rw [this]; exact h1
theorem run_appop {c:Call} {t:Slots} {h:VH} {vv:VV} {h':VH} (hc:c.callee=.builtin .append) (H:∀ (B:Nat) (R:Rn) (a:Act) (w:World) (ty:TypeId),Emb B R h.at w->TRel R t a->∃ x R' w',(Builtin.append_ c.argTypes ty (c.args.map a.eval)).run P w=.ok x w'/\Nxt h.at R w h'.at R' w'/\Emb B R' h'.at w'/\VRel R' vv x):RunV P (.call c) t h vv h':=by
 intro o hop B R a w e ht
 obtain ⟨x,R',w',h1,h2,h3,h4⟩:=H B R a w o.type e ht
 refine ⟨x,R',w',.inl ?_,h2,h3,h4⟩
 unfold execOp
 rw [hop]
 simp only [resolve,hc,Sem.run_bind,Sem.run_pure,Result.andThen_ok,invoke,builtin,h1]
def dstN:VV->Option Nat
 | .sl m _=>some m
 | .sub m _ _ _ _=>some m
 | _=>none
theorem ov_row {R:Rn} {L o k s:Nat} {g f:Nat->List VV} {cur news:List Value} (hl:L*s<=cur.length) (hn:news.length=k*s) (hok:o+k<=L) (hg:∀ i,i<L->VRelL R (g i) ((cur.drop (i*s)).take s)/\(g i).all VV.one=true) (hf:∀ i,i<k->VRelL R (f i) ((news.drop (i*s)).take s)/\(f i).all VV.one=true) :
  ∀ i,i<L->VRelL R (ovG o k g f i) (((wrX cur (o*s) news).drop (i*s)).take s)/\(ovG o k g f i).all VV.one=true:=by
 intro i hi
 have e1:o*s+k*s=(o+k)*s:=(Nat.add_mul ..).symm
 have hfit:o*s+news.length<=cur.length:=by
  rw [hn,e1]
  exact Nat.le_trans (Nat.mul_le_mul_right _ hok) hl
 unfold ovG
 by_cases h:o<=i/\i<o+k
 ·rw [show Nat.ble o i=true by rw [Nat.ble_eq]; exact h.1,blt_t h.2,Bool.true_and,cond_true]
  have h1:o*s<=i*s:=Nat.mul_le_mul_right _ h.1
  have h2:i*s+s<=(o+k)*s:=by rw [<- Nat.succ_mul]; exact Nat.mul_le_mul_right _ h.2
  rw [wrX_all hfit h1 (by omega),show i*s - o*s=(i - o)*s from (Nat.sub_mul ..).symm]
  exact hf (i - o) (by omega)
 ·have hb:(Nat.ble o i && Nat.blt i (o+k))=false:=by
   cases h1:Nat.ble o i with
   | false=>rfl
   | true=>
    have:=Nat.le_of_ble_eq_true h1
    rw [blt_f (by omega)]; rfl
  rw [hb,cond_false,wrX_out hfit (by
   by_cases h1:i<o
   ·left
    rw [<- Nat.succ_mul]
    exact Nat.mul_le_mul_right _ h1
   ·right
    rw [hn,e1]
    exact Nat.mul_le_mul_right _ (by omega))]
  exact hg i hi
theorem appE_sound {c:Call} {lock:Nat} {t:Slots} {h:VH} {K:VV->VH->Prop} (hc:c.callee=.builtin .append) (hK:appE P lock c.argTypes.toList (c.args.toList.map (evO t)) h K):∃ v h',K v h'/\LockP lock h h'/\RunV P (.call c) t h v h'/\∀ m a x,c.args.toList.map (evO t)=[a,x]->dstN a=some m->∀ q,q ≠ m->h'.at q=h.at q:=by
 unfold appE at hK
 split at hK
 ·rename_i ty ty' av xv htys hargs
  obtain ⟨h0,hK⟩:=cond_f hK
  have h0':ty'=ty:=Nat.eq_of_beq_eq_true h0
  subst h0'
  split at hK
  ·rename_i e hu
   split at hK
   ·rename_i i agg s z hi hs hz
    simp only [foN_eq] at hK
    obtain ⟨h1,hK'⟩:=cond_f hK
    clear hK
    simp only [Bool.and_eq_true] at h1
    have hs1:=Nat.le_of_ble_eq_true h1.1
    have hzl:z.length=s:=Nat.eq_of_beq_eq_true h1.2
    obtain ⟨zv,hzi,hzv⟩:∃ zv,i.zero=some zv/\zv.cells.size=s:=by
     unfold tyZ at hz
     simp only [hi] at hz
     cases hzz:i.zero with
     | none=>rw [hzz] at hz; cases hz
     | some zv=>
      rw [hzz] at hz
      simp at hz
      subst hz
      exact ⟨zv,rfl,by simpa using hzl⟩
    have hsi:i.size=s:=by
     have:=(tyI_spec (P:=P) (w:=default) hs).2
     simp [sizeOf,run_tyi hi] at this
     exact this
    obtain ⟨k,f,hK,hnews⟩:=newsE_sound hK'
    have e2:c.argTypes = #[ty',ty']:=by apply Array.ext'; simpa using htys
    have hargsR:∀ (R:Rn) (a:Act),TRel R t a->∃ y1 y2,VRel R av y1/\VRel R xv y2/\c.args.map a.eval = #[y1,y2]:=by
     intro R a ht
     have hr:=evL_rel (R:=R) ht c.args.toList
     rw [hargs] at hr
     obtain ⟨y,ys,g1,⟨y2,ys2,g2,g3,rfl⟩,g4⟩:=hr
     simp only [VRelL] at g3
     subst g3
     exact ⟨y,y2,g1,g2,by apply Array.ext'; simpa using g4⟩
    split at hK
    ·rename_i nx bs _
     obtain ⟨hroom,hK⟩:=cond_f hK
     simp only [roomB,Bool.and_eq_true] at hroom
     have r1:=Nat.le_of_ble_eq_true hroom.1
     have r2:=Nat.le_of_ble_eq_true hroom.2
     refine ⟨_,(VH.mk nx bs).new (.vec k f s e),hK,lockP_new _ _ _,run_appop hc (fun B R a w tyo em ht=>?_),fun m a x hh hd=>(by rw [hargs] at hh; cases hh; cases hd)⟩
     obtain ⟨y1,y2,g1,g2,g3⟩:=hargsR R a ht
     simp only [VRel] at g1
     subst g1
     obtain ⟨v',w',news,q1,q2,q3,q4,_,q6⟩:=app_run (P:=P) (ty:=tyo) hu hi hzi hsi hzv (by omega) em.base (World.ownsRow_nil w B e s) (hnews B R w y2 em g2) (by omega) (by rw [Nat.zero_add]; exact r2)
     rw [Nat.zero_add,List.nil_append] at q2
     have hfree:=VH.at_nx (VH.mk nx bs)
     have hvn:∀ L,R.vec nx L=none:=em.fvec nx hfree
     have hle:R.le (R.putV nx k v'):=le_putV (.inl (hvn k))
     have hsame:∀ b,b<w.heap.size->¬ R.ow nx ((VH.mk nx bs).at nx) b->w'.heap[b]? = w.heap[b]?:=fun b hb _=>q3.block b hb (by simp [Value.ownBlock])
     have how:∀ b,(R.putV nx k v').ow nx (.vec k f s e) b->R.ow nx ((VH.mk nx bs).at nx) b ∨ w.heap.size<=b:=fun b hb=>by
      have hb:((R.putV nx k v').vec nx k).bind Value.ownBlock=some b:=hb
      rw [putV_same] at hb
      have hb:v'.ownBlock=some b:=hb
      rw [hb] at q4
      rcases q4 with q4 | q4
      ·simp [Value.ownBlock] at q4
      ·simp at q4; omega
     have hvec:VecOk B (R.putV nx k v') nx w' k f s e:=by
      refine ⟨⟨v',news,putV_same,q2,q6⟩,fun L' hL=>?_⟩
      simp only [Rn.putV]
      rw [if_neg (by omega)]
      exact hvn L'
     refine ⟨v',R.putV nx k v',w',by rw [e2,g3]; exact q1,?_,?_,putV_same,ownsRow_slice q2⟩
     ·rw [VH.at_new]
      exact Nxt.step q3.size hle (fun _ _=>rfl) (fun m hm=>putV_ne hm) hsame how (by simp) (fun L v _ _=>.inl hfree) (fun L _=>.inl hfree) q3.os q3.tape q3.output
     ·rw [VH.at_new]
      exact em.step q3.size hle (fun _ _=>rfl) (fun m hm=>putV_ne hm) hsame how (by simp) (by simp) (by simp) (by simp) (fun L g s t hh=>by cases hh; exact hvec)
    ·rename_i n L nx bs _
     split at hK
     ·rename_i L' g s' e' hn
      obtain ⟨h3,hK2⟩:=cond_f hK
      clear hK
      simp only [Bool.and_eq_true] at h3
      obtain ⟨⟨⟨a10,a20⟩,a30⟩,a40⟩:=h3
      have a1:=Nat.le_of_ble_eq_true a10
      have a2:s'=s:=Nat.eq_of_beq_eq_true a20
      have a3:e'=e:=Nat.eq_of_beq_eq_true a30
      have a4:L'=L:=Nat.eq_of_beq_eq_true a40
      clear a10 a20 a30 a40
      subst a2; subst a3; subst a4
      obtain ⟨hroom,hK⟩:=cond_f hK2
      simp only [roomB,Bool.and_eq_true] at hroom
      have r1:=Nat.le_of_ble_eq_true hroom.1
      have r2:=Nat.le_of_ble_eq_true hroom.2
      have hnf:(VH.mk nx bs).at n ≠ .free:=by rw [hn]; simp
      have hput:(VH.put ⟨nx,bs⟩ n (.vec (L'+k) (catG L' g f) s' e')).at=upd (VH.mk nx bs).at n (.vec (L'+k) (catG L' g f) s' e'):=VH.at_put _ _ _ hnf
      refine ⟨_,VH.put ⟨nx,bs⟩ n (.vec (L'+k) (catG L' g f) s' e'),hK,fun m hm _=>(by rw [hput]; simp [upd,show m ≠ n by omega]),run_appop hc (fun B R a w tyo em ht=>?_),fun m a x hh hd q hq=>(by rw [hargs] at hh; cases hh; cases hd; rw [hput]; simp [upd,hq])⟩
      obtain ⟨y1,y2,g1,g2,g3⟩:=hargsR R a ht
      obtain ⟨hv,va,vc,rfl⟩:=g1
      have hvo:=em.vec n L' g s' e' hn
      obtain ⟨v0,xs,w1,w2,w3⟩:=hvo.row
      rw [hv] at w1; cases w1
      obtain ⟨v',w',news,q1,q2,q3,q4,q5,q6⟩:=app_run (P:=P) (ty:=tyo) hu hi hzi hsi hzv (by omega) em.base w2 (hnews B R w y2 em g2) r1 r2
      have hle:R.le (R.putV n (L'+k) v'):=by
       refine le_putV ?_
       by_cases hk:k=0
       ·right; rw [q5 hk]; subst hk; exact hv
       ·left; exact hvo.last _ (by omega)
      have how0:R.ow n ((VH.mk nx bs).at n)=fun b=>(Value.slice va L' vc).ownBlock=some b:=by
       rw [hn]
       funext b
       show ((R.vec n L').bind Value.ownBlock=some b)=_
       rw [hv]; rfl
      have hsame:∀ b,b<w.heap.size->¬ R.ow n ((VH.mk nx bs).at n) b->w'.heap[b]? = w.heap[b]?:=fun b hb hne=>q3.block b hb (fun h=>hne (by rw [how0]; first | exact h | exact h.symm))
      have how:∀ b,(R.putV n (L'+k) v').ow n (.vec (L'+k) (catG L' g f) s' e') b->R.ow n ((VH.mk nx bs).at n) b ∨ w.heap.size<=b:=fun b hb=>by
       have hb:((R.putV n (L'+k) v').vec n (L'+k)).bind Value.ownBlock=some b:=hb
       rw [putV_same] at hb
       have hb:v'.ownBlock=some b:=hb
       rw [hb] at q4
       rcases q4 with q4 | q4
       ·left; rw [how0]; first | exact q4 | exact q4.symm
       ·simp at q4; omega
      have hvec:VecOk B (R.putV n (L'+k) v') n w' (L'+k) (catG L' g f) s' e':=by
       refine ⟨⟨v',xs ++ news,putV_same,q2,catG_row w2.1 w3 q6⟩,fun M hL=>?_⟩
       simp only [Rn.putV]
       rw [if_neg (by omega)]
       exact hvo.last M (by omega)
      refine ⟨v',R.putV n (L'+k) v',w',by rw [e2,g3]; exact q1,?_,?_,putV_same,ownsRow_slice q2⟩
      ·rw [hput]
       refine Nxt.step q3.size hle (fun _ _=>rfl) (fun m hm=>putV_ne hm) hsame how (by simp) (fun L v hL hL'=>.inr ⟨L',by rw [hn]; rfl,?_⟩) (fun L hh=>?_) q3.os q3.tape q3.output
       ·simp only [Rn.putV] at hL'
        split at hL'
        ·rename_i he
         rcases Nat.eq_zero_or_pos k with hk | hk
         ·exfalso; subst hk; rw [he.2,Nat.add_zero,hv] at hL; cases hL
         ·omega
        ·rw [hL] at hL'; cases hL'
       ·cases hh
        exact .inr ⟨L',by rw [hn]; rfl,by omega⟩
      ·rw [hput]
       exact em.step q3.size hle (fun _ _=>rfl) (fun m hm=>putV_ne hm) hsame how (by simp) (by simp) (by simp) (by simp) (fun L g s t hh=>by cases hh; exact hvec)
     ·exact hK.elim
    ·rename_i n L s0 j m nx bs _
     split at hK
     ·rename_i L' g s' e' hn
      obtain ⟨h3,hK⟩:=cond_f hK
      simp only [Bool.and_eq_true] at h3
      obtain ⟨⟨⟨⟨a10,a20⟩,a50⟩,a30⟩,a40⟩:=h3
      have a1:=Nat.le_of_ble_eq_true a10
      have a2:s'=s:=Nat.eq_of_beq_eq_true a20
      have a3:e'=e:=Nat.eq_of_beq_eq_true a30
      have a4:L'=L:=Nat.eq_of_beq_eq_true a40
      have a5:s0=s:=Nat.eq_of_beq_eq_true a50
      clear a10 a20 a30 a40 a50
      subst a2; subst a3; subst a4; subst a5
      have hnf:(VH.mk nx bs).at n ≠ .free:=by rw [hn]; simp
      by_cases a6:j+m+k<=L'
      ·rw [decide_eq_true a6,cond_true] at hK
       have hput:(VH.put ⟨nx,bs⟩ n (.vec L' (ovG (j+m) k g f) s0 e')).at=upd (VH.mk nx bs).at n (.vec L' (ovG (j+m) k g f) s0 e'):=VH.at_put _ _ _ hnf
       refine ⟨_,VH.put ⟨nx,bs⟩ n (.vec L' (ovG (j+m) k g f) s0 e'),hK,fun q hq _=>(by rw [hput]; simp [upd,show q ≠ n by omega]),run_appop hc (fun B R a w tyo em ht=>?_),fun m' a x hh hd q hq=>(by rw [hargs] at hh; cases hh; cases hd; rw [hput]; simp [upd,hq])⟩
       obtain ⟨y1,y2,g1,g2,g3⟩:=hargsR R a ht
       obtain ⟨v,va,vc,hv,rfl,hik,hkc,hlc,ha,hex⟩:=g1
       obtain ⟨xa,xc,news,rfl,w1,w2,w3,w4,w5⟩:=hnews B R w y2 em g2
       rw [hput]
       by_cases hk:k=0
       ·subst hk
        have hz:=run_append_zero (P:=P) (w:=w) ty' tyo e' i hu hi va xa m vc xc hkc
        obtain ⟨v0,xs,p1,p2,p3⟩:=(em.vec n L' g s0 e' hn).row
        have hsame:∀ q,ovG (j+m) 0 g f q=g q:=fun q=>by
         unfold ovG
         cases h1:Nat.ble (j+m) q with
         | false=>rfl
         | true=>
          have:=Nat.le_of_ble_eq_true h1
          rw [blt_f (by omega)]; rfl
        have hg':ovG (j+m) 0 g f=g:=funext hsame
        have hself:upd (VH.mk nx bs).at n (.vec L' (ovG (j+m) 0 g f) s0 e')=(VH.mk nx bs).at:=by
         funext q
         unfold upd
         split
         ·rename_i hq; subst hq; rw [hg',hn]
         ·rfl
        refine ⟨_,R,w,by rw [e2,g3]; exact hz,?_,?_,v,va,vc,hv,rfl,by omega,hkc,hlc,ha,hex⟩
        ·rw [hself]; exact Nxt.refl _ _ _ em.fresh
        ·rw [hself]; exact em
       ·obtain ⟨b,hb,rfl⟩:=ha.resolve_left (fun h=>by omega)
        obtain ⟨cur,cap,rfl,k1,k2,k3,k4,k5,k6⟩:=vec_own em hn hv hb
        cases xa with
        | none=>exact absurd (w3 rfl) hk
        | some xa=>
         have hLs:L'*s0<=cap*s0:=Nat.mul_le_mul_right _ k3
         have hfit:(j+m)*s0+k*s0<=L'*s0:=by rw [<- Nat.add_mul]; exact Nat.mul_le_mul_right _ a6
         have ejm:j*s0+m*s0=(j+m)*s0:=(Nat.add_mul ..).symm
         have hrun:=run_append_room_cells (P:=P) w ty' tyo e' i hu hi b (j*s0) m vc xa k xc news (by rw [hsi]; exact w1) (fun q u hq=>w2 xa rfl q u hq) w4 (by omega)
          (fun q hq=>(cells_ok k2 (by rw [hsi]; omega)).1) (fun q hq=>(cells_ok k2 (by rw [hsi]; omega)).2)
         rw [hsi,ejm] at hrun
         obtain ⟨e1,n1⟩:=vec_put em hn hv k1 k2 k3 k4 k5 (o:=(j+m)*s0) (vs:=news) (g':=ovG (j+m) k g f) (ov_row (by omega) w1 a6 k6 w5)
         refine ⟨_,R,_,by rw [e2,g3]; exact hrun,n1,e1,_,_,vc,hv,rfl,by omega,by omega,hlc,.inr ⟨b,rfl,rfl⟩,hex⟩
      ·rw [decide_eq_false a6,cond_false] at hK
       obtain ⟨h4,hK3⟩:=cond_f hK
       clear hK
       simp only [roomB,Bool.and_eq_true] at h4
       obtain ⟨⟨b1,b2⟩,b3,b4⟩:=h4
       obtain rfl:j=0:=Nat.eq_of_beq_eq_true b1
       obtain rfl:m=L':=Nat.eq_of_beq_eq_true b2
       have r1:=Nat.le_of_ble_eq_true b3
       have r2:=Nat.le_of_ble_eq_true b4
       have hput:(VH.put ⟨nx,bs⟩ n (.vec (m+k) (catG m g f) s0 e')).at=upd (VH.mk nx bs).at n (.vec (m+k) (catG m g f) s0 e'):=VH.at_put _ _ _ hnf
       refine ⟨_,VH.put ⟨nx,bs⟩ n (.vec (m+k) (catG m g f) s0 e'),hK3,fun q hq _=>(by rw [hput]; simp [upd,show q ≠ n by omega]),run_appop hc (fun B R a w tyo em ht=>?_),fun m' a x hh hd q hq=>(by rw [hargs] at hh; cases hh; cases hd; rw [hput]; simp [upd,hq])⟩
       obtain ⟨y1,y2,g1,g2,g3⟩:=hargsR R a ht
       obtain ⟨v0',va,vc,hv,hy1,_,_,_,_,a0,hex,he0⟩:=g1
       rw [<- he0 rfl,Nat.zero_add] at hex
       subst hex
       subst hy1
       have hvo:=em.vec n m g s0 e' hn
       obtain ⟨v0,xs,w1,w2,w3⟩:=hvo.row
       rw [hv] at w1; cases w1
       obtain ⟨v',w',news,q1,q2,q3,q4,q5,q6⟩:=app_run (P:=P) (ty:=tyo) hu hi hzi hsi hzv (by omega) em.base w2 (hnews B R w y2 em g2) r1 r2
       obtain ⟨sa,sc,hsv,hsc,hsb⟩:=ownsRow_sub q2
       have hle:R.le (R.putV n (m+k) v'):=by
        refine le_putV ?_
        by_cases hk:k=0
        ·right; rw [q5 hk]; subst hk; exact hv
        ·left; exact hvo.last _ (by omega)
       have how0:R.ow n ((VH.mk nx bs).at n)=fun b=>(Value.slice va m vc).ownBlock=some b:=by
        rw [hn]
        funext b
        show ((R.vec n m).bind Value.ownBlock=some b)=_
        rw [hv]; rfl
       have hsame:∀ b,b<w.heap.size->¬ R.ow n ((VH.mk nx bs).at n) b->w'.heap[b]? = w.heap[b]?:=fun b hb hne=>q3.block b hb (fun h=>hne (by rw [how0]; first | exact h | exact h.symm))
       have how:∀ b,(R.putV n (m+k) v').ow n (.vec (m+k) (catG m g f) s0 e') b->R.ow n ((VH.mk nx bs).at n) b ∨ w.heap.size<=b:=fun b hb=>by
        have hb:((R.putV n (m+k) v').vec n (m+k)).bind Value.ownBlock=some b:=hb
        rw [putV_same] at hb
        have hb:v'.ownBlock=some b:=hb
        rw [hb] at q4
        rcases q4 with q4 | q4
        ·left; rw [how0]; first | exact q4 | exact q4.symm
        ·simp at q4; omega
       have hvec:VecOk B (R.putV n (m+k) v') n w' (m+k) (catG m g f) s0 e':=by
        refine ⟨⟨v',xs ++ news,putV_same,q2,catG_row w2.1 w3 q6⟩,fun M hL=>?_⟩
        simp only [Rn.putV]
        rw [if_neg (by omega)]
        exact hvo.last M (by omega)
       refine ⟨v',R.putV n (m+k) v',w',by rw [e2,g3]; exact q1,?_,?_,v',sa,sc,putV_same,hsv,by omega,by omega,by omega,hsb,sa,by rw [hsv,Nat.zero_add],fun _=>rfl⟩
       ·rw [hput]
        refine Nxt.step q3.size hle (fun _ _=>rfl) (fun m hm=>putV_ne hm) hsame how (by simp) (fun L v hL hm=>.inr ⟨m,by rw [hn]; rfl,?_⟩) (fun L hh=>?_) q3.os q3.tape q3.output
        ·simp only [Rn.putV] at hm
         split at hm
         ·rename_i he
          rcases Nat.eq_zero_or_pos k with hk | hk
          ·exfalso; subst hk; rw [he.2,Nat.add_zero,hv] at hL; cases hL
          ·omega
         ·rw [hL] at hm; cases hm
        ·cases hh
         exact .inr ⟨m,by rw [hn]; rfl,by omega⟩
       ·rw [hput]
        exact em.step q3.size hle (fun _ _=>rfl) (fun m hm=>putV_ne hm) hsame how (by simp) (by simp) (by simp) (by simp) (fun L g s t hh=>by cases hh; exact hvec)
     ·exact hK.elim
    ·exact hK.elim
   ·exact hK.elim
  ·exact hK.elim
 ·exact hK.elim
theorem zeroCells_chunk {z:Array Value} {k:Nat}:(Builtin.zeroCells z k).toList.length=k*z.size/\∀ i,i<k->(((Builtin.zeroCells z k).toList.drop (i*z.size)).take z.size)=z.toList:=by
 have hl:(Builtin.zeroCells z k).toList.length=k*z.size:=by simp [Builtin.zeroCells]
 refine ⟨hl,fun i hi=>?_⟩
 apply List.ext_getElem?
 intro c
 have hle:i*z.size+z.size<=k*z.size:=by rw [<- Nat.succ_mul]; exact Nat.mul_le_mul_right _ hi
 rw [List.getElem?_take]
 by_cases hc:c<z.size
 ·rw [if_pos hc,List.getElem?_drop]
  have hlt:i*z.size+c<k*z.size:=by omega
  have hm:(i*z.size+c) % z.size=c:=by rw [Nat.add_comm,Nat.add_mul_mod_self_right,Nat.mod_eq_of_lt hc]
  simp [Builtin.zeroCells,hlt,hm,hc]
 ·rw [if_neg hc,List.getElem?_eq_none (by simpa using hc)]
theorem clrE_sound {c:Call} {lock:Nat} {t:Slots} {h:VH} {K:VV->VH->Prop} (hc:c.callee=.builtin .clear) (hK:clrE P lock c.argTypes.toList (c.args.toList.map (evO t)) h K):∃ v h',K v h'/\LockP lock h h'/\RunV P (.call c) t h v h':=by
 unfold clrE at hK
 split at hK
 ·rename_i ty n L s0 j k htys hargs
  split at hK
  ·rename_i e hu
   split at hK
   ·rename_i agg s z hs hz
    simp only [foN_eq,foL_eq] at hK
    split at hK
    ·rename_i L' g s' e' nx bs hn
     obtain ⟨h3,hK⟩:=cond_f hK
     simp only [Bool.and_eq_true] at h3
     obtain ⟨⟨⟨⟨⟨⟨⟨a1,a2⟩,a3⟩,a4⟩,a5⟩,a6⟩,a7⟩,a8⟩:=h3
     have a1:=Nat.le_of_ble_eq_true a1
     have a2:=Nat.le_of_ble_eq_true a2
     have a3:s'=s:=Nat.eq_of_beq_eq_true a3
     have a4:s0=s:=Nat.eq_of_beq_eq_true a4
     have a5:L'=L:=Nat.eq_of_beq_eq_true a5
     have a6:z.length=s:=Nat.eq_of_beq_eq_true a6
     subst a3; subst a4; subst a5
     have hnf:(VH.mk nx bs).at n ≠ .free:=by rw [hn]; simp
     have hput:(VH.put ⟨nx,bs⟩ n (.vec L' (ovG j k g fun _=>z) s0 e')).at=upd (VH.mk nx bs).at n (.vec L' (ovG j k g fun _=>z) s0 e'):=VH.at_put _ _ _ hnf
     have e2:c.argTypes = #[ty]:=by apply Array.ext'; simpa using htys
     refine ⟨_,VH.put ⟨nx,bs⟩ n (.vec L' (ovG j k g fun _=>z) s0 e'),hK,fun q hq _=>(by rw [hput]; simp [upd,show q ≠ n by omega]),?_⟩
     intro o hop B R a w em ht
     have hr:=evL_rel (R:=R) ht c.args.toList
     rw [hargs] at hr
     obtain ⟨y,ys,r1,r3,r4⟩:=hr
     simp only [VRelL] at r3
     subst r3
     have e3:c.args.map a.eval = #[y]:=by apply Array.ext'; simpa using r4
     obtain ⟨v,va,vc,hv,rfl,hik,hkc,hlc,ha,_⟩:=r1
     rw [hput]
     have fin:∀ w',(Builtin.clear_ #[ty] o.type #[.slice va k vc]).run P w=.ok (.tuple #[]) w'->Nxt (VH.mk nx bs).at R w (upd (VH.mk nx bs).at n (.vec L' (ovG j k g fun _=>z) s0 e')) R w'->Emb B R (upd (VH.mk nx bs).at n (.vec L' (ovG j k g fun _=>z) s0 e')) w' ->
       ∃ x R' w',((execOp a.eval o).run P w=.ok (.value x) w' ∨ ((execOp a.eval o).run P w=.ok .skip w'/\x=undef))/\Nxt (VH.mk nx bs).at R w (upd (VH.mk nx bs).at n (.vec L' (ovG j k g fun _=>z) s0 e')) R' w'/\Emb B R' (upd (VH.mk nx bs).at n (.vec L' (ovG j k g fun _=>z) s0 e')) w'/\VRel R' (.tup []) x:=fun w' hrun nx' em'=>by
      refine ⟨.tuple #[],R,w',.inl ?_,nx',em',[],rfl,rfl⟩
      unfold execOp
      rw [hop]
      simp only [resolve,hc,Sem.run_bind,Sem.run_pure,Result.andThen_ok,invoke,builtin,e2,e3,hrun]
     by_cases hk:k=0
     ·subst hk
      have hg':ovG j 0 g (fun _=>z)=g:=funext fun q=>by
       unfold ovG
       cases h1:Nat.ble j q with
       | false=>rfl
       | true=>
        have:=Nat.le_of_ble_eq_true h1
        rw [blt_f (by omega)]; rfl
      have hself:upd (VH.mk nx bs).at n (.vec L' (ovG j 0 g fun _=>z) s0 e')=(VH.mk nx bs).at:=by
       funext q
       unfold upd
       split
       ·rename_i hq; subst hq; rw [hg',hn]
       ·rfl
      refine fin w (by cases va <;> simp [Builtin.clear_,run_und hu]) ?_ ?_
      ·rw [hself]; exact Nxt.refl _ _ _ em.fresh
      ·rw [hself]; exact em
     ·obtain ⟨b,hb,rfl⟩:=ha.resolve_left (fun h=>by omega)
      obtain ⟨cur,cap,rfl,k1,k2,k3,k4,k5,k6⟩:=vec_own em hn hv hb
      obtain ⟨zv,hzr,hze⟩:=tyZ_spec (P:=P) (w:=w) hz
      have hzs:zv.cells.size=s0:=by rw [<- a6,hze]; simp
      have hzrel:VRelL R z zv.cells.toList:=by rw [hze]; exact ofSL_rel R _
      obtain ⟨c1,c2⟩:=zeroCells_chunk (z:=zv.cells) (k:=k)
      rw [hzs] at c1 c2
      have hone:∀ u ∈ (Builtin.zeroCells zv.cells k).toList,u.oneCell'=true:=fun u hu=>by
       obtain ⟨q,hq⟩:=List.mem_iff_getElem?.1 hu
       have hql:q<k*s0:=by rw [<- c1]; exact (List.getElem?_eq_some_iff.1 hq).1
       have h1:=c2 (q / s0) ((Nat.div_lt_iff_lt_mul (by omega)).2 hql)
       have h2:u ∈ zv.cells.toList:=by
        rw [<- h1]
        refine List.mem_iff_getElem?.2 ⟨q % s0,?_⟩
        rw [List.getElem?_take,if_pos (Nat.mod_lt _ (by omega)),List.getElem?_drop,Nat.mul_comm,Nat.div_add_mod]
        exact hq
       exact all_one hzrel a7 u h2
      have hLs:L'*s0<=cap*s0:=Nat.mul_le_mul_right _ k3
      have hfit:j*s0+k*s0<=L'*s0:=by rw [<- Nat.add_mul]; exact Nat.mul_le_mul_right _ hik
      have hst:=run_storeCells_cells (P:=P) b (j*s0) (Builtin.zeroCells zv.cells k).toList 0 w (fun q hq=>(cells_ok k2 (by omega)).1) (fun q hq=>(cells_ok k2 (by omega)).2) hone
      rw [Nat.add_zero] at hst
      obtain ⟨e1,n1⟩:=vec_put em hn hv k1 k2 k3 k4 k5 (o:=j*s0) (vs:=(Builtin.zeroCells zv.cells k).toList) (g':=ovG j k g fun _=>z) (ov_row (by omega) c1 hik k6 (fun i hi=>by
       rw [c2 i hi]
       exact ⟨bel0_noL z _ a8 hzrel,a7⟩))
      obtain ⟨m,rfl⟩:∃ m,k=m+1:=⟨k - 1,by omega⟩
      refine fin _ ?_ n1 e1
      simp [Builtin.clear_,run_und hu,hzr,hst]
    ·exact hK.elim
   ·exact hK.elim
  ·exact hK.elim
 ·exact hK.elim
theorem flatF_rel {R:Rn} {f:Nat->List VV} {news:List Value} {k:Nat} (hl:news.length=k*1) (hf:∀ i,i<k->VRelL R (f i) ((news.drop (i*1)).take 1)/\(f i).all VV.one=true):∀ m,m<=k->VRelL R (flatF f m) (news.take m)
 | 0,_=>by simp [flatF,VRelL]
 | m+1,h=>by
  have h1:=flatF_rel hl hf m (by omega)
  have h2:=(hf m (by omega)).1
  have:news.take (m+1)=news.take m ++ (news.drop (m*1)).take 1:=by
   rw [Nat.mul_one,List.take_add]
  rw [this]
  exact h1.append h2
theorem copyE_sound {c:Call} {lock:Nat} {t:Slots} {h:VH} {K:VV->VH->Prop} (hc:c.callee=.builtin .copy) (hK:copyE P lock c.argTypes.toList (c.args.toList.map (evO t)) h K):∃ v h',K v h'/\LockP lock h h'/\RunV P (.call c) t h v h':=by
 unfold copyE at hK
 split at hK
 ·rename_i ty ty' n off dl dc xv htys hargs
  obtain ⟨h0,hK⟩:=cond_f hK
  simp only [Bool.and_eq_true] at h0
  have h0':ty'=ty:=Nat.eq_of_beq_eq_true h0.1
  have hdl:=Nat.le_of_ble_eq_true h0.2
  subst h0'
  split at hK
  ·rename_i e hu
   split at hK
   ·rename_i agg s hs
    obtain ⟨h1,hK1⟩:=cond_f hK
    clear hK
    have hs1:s=1:=Nat.eq_of_beq_eq_true h1
    subst hs1
    obtain ⟨k,f,hK,hnews⟩:=newsE_sound hK1
    obtain ⟨hk1,hK⟩:=cond_f hK
    have hk1:=Nat.le_of_ble_eq_true hk1
    obtain ⟨nx,bs⟩:=h
    simp only [foN_eq,foL_eq] at hK
    split at hK
    ·rename_i cs tyb hn
     obtain ⟨h2,hK⟩:=cond_f hK
     simp only [Bool.and_eq_true] at h2
     obtain ⟨⟨⟨g1,g2⟩,g3⟩,g4⟩:=h2
     have g1:=Nat.le_of_ble_eq_true g1
     have g2:=Nat.le_of_ble_eq_true g2
     have g4:(flatF f (min k dl)).length=min k dl:=Nat.eq_of_beq_eq_true g4
     have hnf:(VH.mk nx bs).at n ≠ .free:=by rw [hn]; simp
     have hput:(VH.put ⟨nx,bs⟩ n (.cells (setL cs off (flatF f (min k dl))) tyb)).at=upd (VH.mk nx bs).at n (.cells (setL cs off (flatF f (min k dl))) tyb):=VH.at_put _ _ _ hnf
     have e2:c.argTypes = #[ty',ty']:=by apply Array.ext'; simpa using htys
     refine ⟨_,VH.put ⟨nx,bs⟩ n (.cells (setL cs off (flatF f (min k dl))) tyb),hK,fun m hm _=>(by rw [hput]; simp [upd,show m ≠ n by omega]),?_⟩
     intro o hop B R a w em ht
     have hr:=evL_rel (R:=R) ht c.args.toList
     rw [hargs] at hr
     obtain ⟨y,ys,r1,⟨y2,ys2,r2,r3,rfl⟩,r4⟩:=hr
     simp only [VRelL] at r3
     subst r3
     have e3:c.args.map a.eval = #[y,y2]:=by apply Array.ext'; simpa using r4
     obtain ⟨hlc,p,hp,rfl⟩:=r1
     obtain ⟨q,rfl,b,hb,rfl⟩:=hp.resolve_left (by omega)
     obtain ⟨a2,c2,news,rfl,w1,w2,w3,w4,w5⟩:=hnews B R w y2 em r2
     cases a2 with
     | none=>have:=w3 rfl; omega
     | some a2=>
      have hrel:=(flatF_rel w1 w5 (min k dl) (by omega)).mono R.no_le
      have hlen:(news.take (min k dl)).length=min k dl:=by rw [List.length_take,w1]; omega
      have hld:=run_loadCells_list (P:=P) w a2 (news.take (min k dl)) (fun j v hj=>w2 a2 rfl j v (by
       rw [List.getElem?_take] at hj
       split at hj
       ·exact hj
       ·cases hj))
      rw [hlen] at hld
      obtain ⟨w',hst,e1,n1⟩:=storeCells_sound (P:=P) (flatF f (min k dl)) (news.take (min k dl)) cs off 0 B R (VH.mk nx bs).at w em hn hb hrel g3 (by omega)
      rw [Nat.add_zero,<- hput] at e1 n1
      refine ⟨.int .i64 (min k dl:Nat),R,w',.inl ?_,n1,e1,rfl⟩
      unfold execOp
      rw [hop]
      simp only [resolve,hc,Sem.run_bind,Sem.run_pure,Result.andThen_ok,invoke,builtin,e2,e3]
      have hmin:Nat.min k dl=min k dl:=rfl
      simp [Builtin.copy_,run_und hu,Builtin.lenOf,Builtin.firstCells,(tyI_spec (w:=w) hs).2,hmin,hld,hst,goInt]
    ·exact hK.elim
   ·exact hK.elim
  ·exact hK.elim
 ·rename_i ty ty' n p0 off dl dc xv htys hargs
  obtain ⟨h0,hK⟩:=cond_f hK
  simp only [Bool.and_eq_true] at h0
  have h0':ty'=ty:=Nat.eq_of_beq_eq_true h0.1
  have hdl:=Nat.le_of_ble_eq_true h0.2
  subst h0'
  split at hK
  ·rename_i e hu
   split at hK
   ·rename_i agg s hs
    obtain ⟨h1,hK1⟩:=cond_f hK
    clear hK
    have hs1:s=1:=Nat.eq_of_beq_eq_true h1
    subst hs1
    obtain ⟨k,f,hK,hnews⟩:=newsE_sound hK1
    obtain ⟨nx,bs⟩:=h
    dsimp only at hK
    split at hK
    ·rename_i pre L g tyb hn
     have hK:(bif (Nat.ble lock n && Nat.beq pre.length p0 && decide (off+dl<=L)) then ((∀ j,j<min k dl->f j=[.int .i64 (intV (f j))])/\K (.int .i64 (min k dl:Nat)) ⟨nx,(n,.fam pre L (setF g off (intsL f (min k dl))) tyb)::bs⟩) else False):=hK
     obtain ⟨h2,hK2⟩:=cond_f hK
     clear hK
     simp only [Bool.and_eq_true] at h2
     obtain ⟨⟨g1,g2⟩,g3⟩:=h2
     have g1:=Nat.le_of_ble_eq_true g1
     have g2:pre.length=p0:=Nat.eq_of_beq_eq_true g2
     subst g2
     have g3:off+dl<=L:=by simpa using g3
     obtain ⟨hint,hK3⟩:=hK2
     have hput:(VH.put ⟨nx,bs⟩ n (.fam pre L (setF g off (intsL f (min k dl))) tyb)).at=upd (VH.mk nx bs).at n (.fam pre L (setF g off (intsL f (min k dl))) tyb):=VH.at_put _ _ _ (by rw [hn]; simp)
     have e2:c.argTypes = #[ty',ty']:=by apply Array.ext'; simpa using htys
     have hil:∀ m,(intsL f m).length=m:=fun m=>by simp [intsL]
     have hflat:∀ m,m<=min k dl->flatF f m=(intsL f m).map (VV.int .i64):=by
      intro m
      induction m with
      | zero=>intro _; rfl
      | succ m ih=>
       intro hm
       have e:intsL f (m+1)=intsL f m ++ [intV (f m)]:=by simp [intsL,List.range_succ]
       have hfl:flatF f (m+1)=flatF f m ++ f m:=rfl
       rw [hfl,ih (by omega),e,List.map_append,hint m (by omega)]
       rfl
     refine ⟨_,VH.put ⟨nx,bs⟩ n (.fam pre L (setF g off (intsL f (min k dl))) tyb),hK3,fun m hm _=>(by rw [hput]; simp [upd,show m ≠ n by omega]),?_⟩
     intro o hop B R a w em ht
     have hr:=evL_rel (R:=R) ht c.args.toList
     rw [hargs] at hr
     obtain ⟨y,ys,r1,⟨y2,ys2,r2,r3,rfl⟩,r4⟩:=hr
     simp only [VRelL] at r3
     subst r3
     have e3:c.args.map a.eval = #[y,y2]:=by apply Array.ext'; simpa using r4
     obtain ⟨hlc,p,hp,rfl⟩:=r1
     obtain ⟨q,rfl,b,hb,rfl⟩:=hp.resolve_left (by omega)
     obtain ⟨a2,c2,news,rfl,w1,w2,w3,w4,w5⟩:=hnews B R w y2 em r2
     have hrel:=(flatF_rel w1 w5 (min k dl) (by omega)).mono R.no_le
     rw [hflat _ (Nat.le_refl _)] at hrel
     obtain ⟨w',hst,e1,n1⟩:=storeC_sound (P:=P) em (cs:=pre ++ famL L g) (t:=tyb) (by rw [hn]; rfl) hb hrel (all_ints _) (off:=pre.length+off) (by rw [List.length_append,famL_length,List.length_map,hil]; omega) (y:=.fam pre L (setF g off (intsL f (min k dl))) tyb) (by simp [famL_set (show off+(intsL f (min k dl)).length<=L by rw [hil]; omega)])
     have hlen:(news.take (min k dl)).length=min k dl:=by rw [List.length_take,w1]; omega
     have hfc:(Builtin.firstCells 1 (min k dl) (.slice a2 k c2)).run P w=.ok (news.take (min k dl)).toArray w:=by
      cases a2 with
      | none=>
       have hk0:k=0:=w3 rfl
       subst hk0
       have:news=[]:=List.eq_nil_of_length_eq_zero (by omega)
       subst this
       simp [Builtin.firstCells]
      | some a2=>
       have hld:=run_loadCells_list (P:=P) w a2 (news.take (min k dl)) (fun j v hj=>w2 a2 rfl j v (by
        rw [List.getElem?_take] at hj
        split at hj
        ·exact hj
        ·cases hj))
       rw [hlen] at hld
       simp [Builtin.firstCells,hld]
     rw [<- hput] at e1 n1
     refine ⟨.int .i64 (min k dl:Nat),R,w',.inl ?_,n1,e1,rfl⟩
     unfold execOp
     rw [hop]
     simp only [resolve,hc,Sem.run_bind,Sem.run_pure,Result.andThen_ok,invoke,builtin,e2,e3]
     have hmin:Nat.min k dl=min k dl:=rfl
     simp [Builtin.copy_,run_und hu,Builtin.lenOf,(tyI_spec (w:=w) hs).2,hmin,hfc,hst,goInt]
    ·exact hK.elim
   ·exact hK.elim
  ·exact hK.elim
 ·exact hK.elim
theorem run_buildSliceV {ty e:TypeId} {len s:Nat} {agg:Bool} {z cs:List VV} {parts:Array (Nat × Operand)} {t:Slots} (hu:P.underlying ty=some (.slice e)) (hs:tyI P e=some (agg,s)) (hz:tyZ P e=some z)
  (h1:len*s<=16777216) (h3:1<=s) (h4:z.length=s) (hp:belL 0 cs=true) (ho:cs.all VV.one=true) (hl:cs.length=len*s)
  (hb:fillL (fun i=>some (i*s,s)) (repL z len) (parts.toList.map fun (i,x)=>(i,evO t x))=some cs) (h:VH) :
  RunV P (.buildSlice ty len parts) t h (.sl h.nx len) (h.new (.vec len (fun j=>(cs.drop (j*s)).take s) s e)):=by
 intro o hop B R a w em ht
 obtain ⟨xs,f2,hrun⟩:=buildSlice_core hu hs hz h1 h3 h4 hb o hop R a w ht
 have hfree:=VH.at_nx h
 have hvn:∀ L,R.vec h.nx L=none:=em.fvec h.nx hfree
 have hxl:xs.length=len*s:=by rw [<- f2.length]; exact hl
 have hle:R.le (R.putV h.nx len (.slice (some ⟨w.heap.size,0,none⟩) len len)):=le_putV (.inl (hvn len))
 have hsame:∀ c,c<w.heap.size->¬ R.ow h.nx (h.at h.nx) c->(w.alloc (.cells xs.toArray e)).heap[c]? = w.heap[c]?:=fun c hc _=>heap_alloc_old w _ hc
 have how:∀ c,(R.putV h.nx len (.slice (some ⟨w.heap.size,0,none⟩) len len)).ow h.nx (.vec len (fun j=>(cs.drop (j*s)).take s) s e) c->R.ow h.nx (h.at h.nx) c ∨ w.heap.size<=c:=fun c hc=>by
  have hc:((R.putV h.nx len (.slice (some ⟨w.heap.size,0,none⟩) len len)).vec h.nx len).bind Value.ownBlock=some c:=hc
  rw [putV_same] at hc
  simp [Value.ownBlock] at hc
  omega
 have hvec:VecOk B (R.putV h.nx len (.slice (some ⟨w.heap.size,0,none⟩) len len)) h.nx (w.alloc (.cells xs.toArray e)) len (fun j=>(cs.drop (j*s)).take s) s e:=by
  refine ⟨⟨_,xs,putV_same,⟨hxl,.inr ⟨w.heap.size,len,xs.toArray,rfl,em.base,heap_alloc_new w _,Nat.le_refl _,?_,by simpa using hxl,by rw [<- hxl]; simp⟩⟩,fun i _=>⟨((bel0_noL _ _ hp f2).drop (i*s)).take s,chunk_all ho⟩⟩,fun L' hL=>?_⟩
  ·have:len<=len*s:=Nat.le_mul_of_pos_right _ h3
   simp only [maxLen]; omega
  ·simp only [Rn.putV]
   rw [if_neg (by omega)]
   exact hvn L'
 refine ⟨_,R.putV h.nx len (.slice (some ⟨w.heap.size,0,none⟩) len len),_,.inl hrun,?_,?_,putV_same,_,_,rfl⟩
 ·rw [VH.at_new]
  exact Nxt.step (by simp) hle (fun _ _=>rfl) (fun m hm=>putV_ne hm) hsame how (by simp) (fun L v _ _=>.inl hfree) (fun L _=>.inl hfree) rfl rfl rfl
 ·rw [VH.at_new]
  exact em.step (by simp) hle (fun _ _=>rfl) (fun m hm=>putV_ne hm) hsame how (by simp) (by simp) (by simp) (by simp) (fun L g s t hh=>by cases hh; exact hvec)
end
end Go.Sx
