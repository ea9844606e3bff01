/- Data that a caller lends to a contract over data. -/
import Derived.Test.YtnfkbbcbehnnkaaSxT
import Derived.Test.YtnfkbbcbehnnkaaSxX
namespace Go.Sx
open Go
def FrzIn (w:World) (F:Nat->Option (List Value)):Prop:=∀ b xs,F b=some xs->b<w.heap.size/\∀ (k:Nat) (x:Value),xs[k]? = some x->w.cell? ⟨b,k,none⟩=some x
section
variable {P:Program}
def lentF (w:World) (R:Rn) (b:Nat):Option (List Value):=match R.frz b with
 | some xs=>some xs
 | none=>Wfr w b
def lentR (w:World) (R:Rn):Rn:=⟨fun _=>none,R.arr,R.str,fun _ _=>none,lentF w R⟩
theorem lent_in {B:Nat} {R:Rn} {η:Nat->VB} {w:World} (e:Emb B R η w):FrzIn w (lentF w R):=by
 intro b xs h
 unfold lentF at h
 split at h
 ·rename_i ys hy
  cases h
  exact ⟨(e.frz b _ hy).1,(e.frz b _ hy).2.2⟩
 ·exact wfr_ok h
theorem lent_ext (w:World) (R:Rn):Ext R.no (lentR w R).no:=
 ⟨rfl,rfl,fun b xs h=>⟨xs,by
  have h:R.frz b=some xs:=h
  show lentF w R b=some xs
  unfold lentF
  rw [h],fun _ _ h=>h⟩⟩
def isT1 (h:VH):VV->VV->Prop
 | .sl m L,.tl L' s g=>L'=L/\1<=s/\∃ g' t,h.at m=.vec L g' s t/\∀ j,j<L->g' j=g j
 | .sub m L s i k,.tl L' s' g=>L'=k/\s'=s/\1<=s/\∃ g' t,h.at m=.vec L g' s t/\∀ j,j<k->g' (i+j)=g j
 | .nils,.tl L' _ _=>L'=0
 | .tl L s g,.tl L' s' g'=>L'=L/\s'=s/\∀ j,j<L->g j=g' j
 | .tp cs,v'=>v'=.tp cs
 | v,v'=>v'=v/\v.pure=true
theorem tl_to {R:Rn} {w:World} {L s:Nat} {g g':Nat->List VV} (hg:∀ j,j<L->g j=g' j) {x:Value} (hx:VRel R (.tl L s g) x):VRel (lentR w R) (.tl L s g') x:=by
 have h1:VRel (lentR w R).no (.tl L s g) x:=ext_V (lent_ext w R) _ _ hx
 obtain ⟨p,cap,a1,a2,a3⟩:=h1
 refine ⟨p,cap,a1,a2,fun i hi=>?_⟩
 obtain ⟨b,o,xs,b1,b2,b3,b4,b5⟩:=a3 i hi
 exact ⟨b,o,xs,b1,b2,b3,by rw [<- hg i hi]; exact b4,by rw [<- hg i hi]; exact b5⟩
theorem sub_to {B:Nat} {R:Rn} {w:World} {h:VH} (e:Emb B R h.at w) {m L s i k:Nat} {g g':Nat->List VV} {t:TypeId} (hm:h.at m=.vec L g s t) (hg:∀ j,j<k->g (i+j)=g' j) {v:Value} (hv:R.vec m L=some v) {x:Value} {a:Option Addr} {c:Nat} (hx:x=.slice a k c) (hik:i+k<=L) (hkc:k<=c) (hac:a=none->c=0)
  (ha:k=0 ∨ ∃ b,v.ownBlock=some b/\a=some ⟨b,i*s,none⟩):VRel (lentR w R) (.tl k s g') x:=by
 refine ⟨a,c,hx,⟨hkc,hac⟩,fun j hj=>?_⟩
 obtain ⟨b,hb,ha2⟩:=ha.resolve_left (by omega)
 obtain ⟨cur,cap,rfl,_,h4,h5,_,h6,h7⟩:=vec_own e hm hv hb
 have ho:R.ow m (h.at m) b:=by
  rw [hm]
  show (R.vec m L).bind Value.ownBlock=some b
  rw [hv]; exact hb
 have hnf:R.frz b=none:=by
  cases hf:R.frz b with
  | none=>rfl
  | some ys=>exact absurd ho ((e.frz b ys hf).2.1 m)
 obtain ⟨q1,q2⟩:=h7 (i+j) (by omega)
 refine ⟨b,i*s,cur,ha2,?_,?_,?_,?_⟩
 ·show lentF w R b=some cur
  unfold lentF Wfr
  rw [hnf]
  simp [h4]
 ·have:(i+j)*s+s<=cap*s:=by rw [<- Nat.succ_mul]; exact Nat.mul_le_mul_right _ (by omega)
  rw [Nat.add_mul] at this
  omega
 ·rw [<- hg j hj]; exact q2
 ·rw [<- hg j hj,<- Nat.add_mul]
  exact ext_L (lent_ext w R) _ _ q1
theorem isT1_at {B:Nat} {R:Rn} {w:World} {h:VH} (e:Emb B R h.at w) {v v':VV} (hv:isT1 h v v') {x:Value} (hx:VRel R v x):VRel (lentR w R) v' x:=by
 unfold isT1 at hv
 split at hv
 ·rename_i m L L' s g
  obtain ⟨rfl,hs,g',t,hm,hg⟩:=hv
  obtain ⟨hv,a,c,rfl⟩:=hx
  obtain ⟨v0,xs,h1,h2,h3⟩:=(e.vec m _ g' s t hm).row
  rw [hv] at h1; cases h1
  rcases h2.2 with ⟨q1,q2⟩ | ⟨b,cap,cur,q1,_,_,q4⟩
  ·cases q1
   exact sub_to e (i:=0) (g:=g') hm (fun j hj=>by rw [Nat.zero_add]; exact hg j hj) hv rfl (by omega) (by omega) (fun _=>rfl) (.inl (by omega))
  ·cases q1
   obtain ⟨cur2,cap2,h4,_,_,h5,_⟩:=vec_own e hm hv rfl
   cases h4
   exact sub_to e (i:=0) (g:=g') hm (fun j hj=>by rw [Nat.zero_add]; exact hg j hj) hv rfl (by omega) h5 (fun h=>by cases h) (.inr ⟨b,rfl,by rw [Nat.zero_mul]⟩)
 ·rename_i m L s i k L' s' g
  obtain ⟨rfl,rfl,hs,g',t,hm,hg⟩:=hv
  obtain ⟨v,a,c,hv,rfl,hik,hkc,hlc,ha,_⟩:=hx
  rcases ha with hc | ⟨b,hb,rfl⟩
  ·exact sub_to e hm hg hv rfl hik hkc (fun _=>hc) (.inl (by omega))
  ·exact sub_to e hm hg hv rfl hik hkc (fun h=>by cases h) (.inr ⟨b,hb,rfl⟩)
 ·rename_i L' s g
  subst hv
  simp only [VRel] at hx
  subst hx
  exact ⟨none,0,rfl,⟨Nat.le_refl _,fun _=>rfl⟩,fun i hi=>by omega⟩
 ·rename_i L s g L' s' g'
  obtain ⟨rfl,rfl,hg⟩:=hv
  exact tl_to hg hx
 ·subst hv
  exact ext_V (R:=R) (R':=lentR w R) (lent_ext w R) _ _ hx
 ·obtain ⟨rfl,hp⟩:=hv
  exact pure_V _ _ hp hx
theorem onlyArr0:onlyArr (VH.mk 0 []):=fun n=>.inr (.inr (at_ge (by omega)))
theorem calls_viewF {f:FuncId} {args args':List VV} {hm hm' h:VH} {r:VRes} (hs:CallsV P f args hm r hm') (ho:onlyArr hm) (hr:r.pure=true)
  (view:∀ (B:Nat) (R:Rn) (w:World) (xs:List Value),Emb B R h.at w->VRelL R args' xs->∃ ra st F,FrzIn w F/\View w hm ra st/\VRelL ⟨fun _=>none,ra,st,fun _ _=>none,F⟩ args xs):CallsV P f args' h r h:=by
 intro B R w xs em hx
 obtain ⟨ra,st,F,hF,hv,ha⟩:=view B R w xs em hx
 have e0:Emb w.heap.size ⟨fun _=>none,ra,st,fun _ _=>none,F⟩ hm.at w:=emb_args (fun _=>rfl) (fun _ _=>rfl) ho (fun n s ok g hn=>by
  obtain ⟨a1,a2⟩:=hv.arr n s ok g hn
  refine ⟨a1,fun ix i hi=>?_⟩
  obtain ⟨b1,b2,b3,ys,b4,b5,b6⟩:=a2 ix i hi
  exact ⟨b1,b2,b3,ys,VRelL.mono (R:=⟨fun _=>none,ra,st,fun _ _=>none,fun _=>none⟩) (R':=(⟨fun _=>none,ra,st,fun _ _=>none,F⟩:Rn).no) ⟨fun _ _ h=>h,rfl,rfl,fun _ _ _ h=>h,fun _ _ h=>(by cases h)⟩ _ _ b4,b5,b6⟩) hF
 refine (hs w.heap.size _ w xs e0 ha).mono ?_
 rintro e w' ⟨R1,n1,e1,x⟩
 have how:∀ n b,¬ (⟨fun _=>none,ra,st,fun _ _=>none,F⟩:Rn).ow n (hm.at n) b:=fun n b hb=>by
  rcases ho n with ⟨s,ok,g,h1⟩ | h1 | h1 <;> rw [h1] at hb <;> cases hb
 have hsame:∀ b,b<w.heap.size->w'.heap[b]? = w.heap[b]?:=fun b hb=>n1.frame b hb (fun n=>how n b)
 exact ⟨R,⟨fun _ h=>h,fun _ _=>rfl,rfl,rfl,fun _ _ _ h=>h,fun n L v h1 h2=>(by rw [h1] at h2; cases h2),fun n L hn=>.inr ⟨L,hn,Nat.le_refl _⟩,fun n _ h=>.inl ⟨n,h⟩,n1.size,fun b hb _=>hsame b hb,n1.os,n1.tape,n1.output,fun _ _ h=>h,fun _ _ h=>.inl h⟩,
  emb_same em n1.size hsame,pure_res hr x⟩
end
end Go.Sx
