/- Data that a caller lends: nested. -/
import Derived.Test.YtlboglkgbhjpeaaSxS
namespace Go.Sx
open Go
def isDLw (f:VV->VV->Prop):List VV->List VV->Prop
 | [],[]=>True
 | v::r,v'::r'=>f v v'/\isDLw f r r'
 | _,_=>False
def isDs (h:VH) (f:VV->VV->Prop):VV->VV->Prop
 | .sl m L,.tl L' s g=>L'=L/\1<=s/\∃ g' t,h.at m=.vec L g' s t/\∀ j,j<L->g' j=g j
 | .sub m L s i k,.tl L' s' g=>L'=k/\s'=s/\1<=s/\∃ g' t,h.at m=.vec L g' s t/\∀ j,j<k->g' (i+j)=g j
 | .nils,.tl L' _ _=>L'=0
 | .tl L s g,.tl L' s' g'=>L'=L/\s'=s/\∀ j,j<L->g j=g' j
 | .tp cs,v'=>v'=.tp cs
 | .slice (.own m 0) k _,.tl L' s g=>L'=k/\1<=s/\∃ cs t,h.at m=.cells cs t/\k*s<=cs.length/\∀ j,j<k->isDLw f ((cs.drop (j*s)).take s) (g j)/\(g j).all VV.one=true
 | .ptr (.own m 0),.tp cs'=>∃ cs t,(h.at m).cs? = some (cs,t)/\isDLw f cs cs'
 | .agg cs,.agg cs'=>isDLw f cs cs'
 | .func g a b,.func g' a' b'=>g'=g/\isDLw f a a'/\isDLw f b b'
 | v,v'=>v'=v/\v.pure=true
def isD (h:VH):Nat->VV->VV->Prop
 | 0=>fun v v'=>v'=v/\v.pure=true
 | n+1=>isDs h (isD h n)
abbrev isDL (h:VH) (n:Nat):List VV->List VV->Prop:=isDLw (isD h n)
theorem isDL_len {f:VV->VV->Prop}:∀ {l l':List VV},isDLw f l l'->l.length=l'.length
 | [],[],_=>rfl
 | [],_::_,h=>by exact h.elim
 | _::_,[],h=>by exact h.elim
 | _::r,_::r',h=>by
  simp [isDL_len h.2]
theorem vrelL_drop {R:Rn}:∀ (k:Nat) {cs:List VV} {xs:List Value},VRelL R cs xs->VRelL R (cs.drop k) (xs.drop k)
 | 0,_,_,h=>h
 | _+1,[],_,h=>by
  have h:_=[]:=h
  subst h
  exact rfl
 | k+1,_::cs,_,⟨y,ys,_,h2,rfl⟩=>vrelL_drop k h2
theorem vrelL_take {R:Rn}:∀ (k:Nat) {cs:List VV} {xs:List Value},VRelL R cs xs->VRelL R (cs.take k) (xs.take k)
 | 0,_,_,_=>by simp only [List.take_zero]; exact rfl
 | _+1,[],_,h=>by
  have h:_=[]:=h
  subst h
  exact rfl
 | k+1,_::cs,_,⟨y,ys,h1,h2,rfl⟩=>⟨y,_,h1,vrelL_take k h2,rfl⟩
theorem vrelL_len {R:Rn}:∀ {cs:List VV} {xs:List Value},VRelL R cs xs->xs.length=cs.length
 | [],_,h=>by
  have h:_=[]:=h
  subst h
  rfl
 | _::_,_,⟨_,_,_,h2,rfl⟩=>by simp [vrelL_len h2]
section
variable {B:Nat} {R:Rn} {w:World} {h:VH}
theorem lent_own (e:Emb B R h.at w) {m b:Nat} {cs:List VV} {t:TypeId} (hm:(h.at m).cs? = some (cs,t)) (hb:R.blk m=some b) {xs:List Value} (hw:w.heap[b]? = some (.cells xs.toArray t (0,0))):lentF w R b=some xs:=by
 have ho:R.ow m (h.at m) b:=by rw [ow_cs hm]; exact hb
 have hnf:R.frz b=none:=by
  cases hf:R.frz b with
  | none=>rfl
  | some ys=>exact absurd ho ((e.frz b ys hf).2.1 m)
 unfold lentF wfrK Wfr
 rw [hnf]
 simp [hw]
theorem isDL_of {R2:Rn} {f:VV->VV->Prop} (hf:∀ v v' x,f v v'->VRel R v x->VRel R2 v' x):∀ (vs vs':List VV) (xs:List Value),isDLw f vs vs'->VRelL R vs xs->VRelL R2 vs' xs
 | [],[],_,_,hx=>hx
 | v::r,v'::r',_,hv,⟨y,ys,k1,k2,rfl⟩=>⟨y,ys,hf v v' y hv.1 k1,isDL_of hf r r' ys hv.2 k2,rfl⟩
 | [],_::_,_,hv,_=>hv.elim
 | _::_,[],_,hv,_=>hv.elim
theorem isDs_at (e:Emb B R h.at w) {f:VV->VV->Prop} (hf:∀ v v' x,f v v'->VRel R v x->VRel (lentR w R).no v' x) (v v':VV) (x:Value) (hv:isDs h f v v') (hx:VRel R v x):VRel (lentR w R).no v' x:=by
  unfold isDs at hv
  split at hv
  ·rename_i m L L' s g
   exact isT1_at (v:=.sl m L) (v':=.tl L' s g) e hv hx
  ·rename_i m L s i k L' s' g
   exact isT1_at (v:=.sub m L s i k) (v':=.tl L' s' g) e hv hx
  ·rename_i L' s g
   exact isT1_at (v:=.nils) (v':=.tl L' s g) e hv hx
  ·rename_i L s g L' s' g'
   exact isT1_at (v:=.tl L s g) (v':=.tl L' s' g') e hv hx
  ·rename_i cs
   subst hv
   exact isT1_at (v:=.tp cs) (v':=.tp cs) e rfl hx
  ·rename_i m k c L' s g
   obtain ⟨rfl,hs,cs,t,hm,hlen,hg⟩:=hv
   obtain ⟨hkc,p,hp,rfl⟩:=hx
   refine ⟨p,c,rfl,⟨hkc,fun hpn=>?_⟩,fun j hj=>?_⟩
   ·rcases hp with hp | ⟨q,hq,_⟩
    ·exact hp
    ·rw [hpn] at hq; cases hq
   ·obtain ⟨b,xs,g1,g2,g3,g4⟩:=e.ownC m cs t (by rw [hm]; rfl)
    rcases hp with hp | ⟨q,rfl,b',hb',rfl⟩
    ·omega
    rw [g1] at hb'; cases hb'
    have hxl:=vrelL_len g3
    have hb:(j+1)*s<=L'*s:=Nat.mul_le_mul_right _ hj
    rw [Nat.succ_mul] at hb
    obtain ⟨h1,h2⟩:=hg j hj
    refine ⟨b,0,xs,rfl,lent_own e (by rw [hm]; rfl) g1 g4,by omega,h2,?_⟩
    rw [Nat.zero_add]
    exact isDL_of hf _ _ _ h1 (vrelL_take s (vrelL_drop (j*s) g3))
  ·rename_i m cs'
   obtain ⟨cs,t,hm,hd⟩:=hv
   obtain ⟨p,⟨b,hb,rfl⟩,rfl⟩:=hx
   obtain ⟨b',xs,g1,g2,g3,g4⟩:=e.ownC m cs t hm
   rw [g1] at hb; cases hb
   have hxl:=vrelL_len g3
   have hcl:=isDL_len hd
   refine ⟨_,0,xs,rfl,lent_own e hm g1 g4,?_⟩
   rw [List.drop_zero,List.take_of_length_le (by omega)]
   exact isDL_of hf _ _ _ hd g3
  ·obtain ⟨xs,h1,rfl⟩:=hx
   exact ⟨xs,isDL_of hf _ _ _ hv h1,rfl⟩
  ·obtain ⟨rfl,ha,hb⟩:=hv
   obtain ⟨xs,ys,h1,h2,rfl⟩:=hx
   exact ⟨xs,ys,isDL_of hf _ _ _ ha h1,isDL_of hf _ _ _ hb h2,rfl⟩
  ·obtain ⟨rfl,hp⟩:=hv
   exact pure_V _ _ hp hx
theorem isD_at (e:Emb B R h.at w):∀ (n:Nat) (v v':VV) (x:Value),isD h n v v'->VRel R v x->VRel (lentR w R).no v' x
 | 0,_,_,_,⟨h1,hp⟩,hx=>by subst h1; exact pure_V _ _ hp hx
 | n+1,v,v',x,hv,hx=>isDs_at e (isD_at e n) v v' x hv hx
theorem isDL_at (e:Emb B R h.at w) (n:Nat) (vs vs':List VV) (xs:List Value) (hv:isDL h n vs vs') (hx:VRelL R vs xs):VRelL (lentR w R) vs' xs:=
 VRelL.mono (Rn.no_le _) _ _ (isDL_of (isD_at e n) _ _ _ hv hx)
end
section
variable {P:Program}
theorem calls_lendD {f:FuncId} {args args':List VV} {h hm':VH} {r:VRes} {bl:List VB} (n o:Nat) (hs:CallsV P f args ⟨0,[]⟩ r hm') (hat:∀ i,hm'.at (o+i)=(bl[i]?).getD .free) (hr:r.flat o=true) (hbl:∀ c ∈ bl,c.flat) (ha:isDL h n args' args) :
  CallsV P f args' h (r.sh o h.nx) (pushL h bl):=
 calls_view_offF o (hm:=⟨0,[]⟩) onlyArr0 hr hbl fun B R w xs em hx=>⟨R.arr,R.str,lentF w R,args,hm',lent_in em,hs,hat,⟨fun n s ok g hn=>by rw [at_ge (by omega)] at hn; cases hn⟩,isDL_at em n _ _ _ ha hx⟩
theorem calls_lendDP {f:FuncId} {args args':List VV} {h hm':VH} {r:VRes} (n:Nat) (hs:CallsV P f args ⟨0,[]⟩ r hm') (hr:r.pure=true) (ha:isDL h n args' args):CallsV P f args' h r h:=
 calls_viewF hs onlyArr0 hr fun B R w xs em hx=>⟨R.arr,R.str,lentF w R,lent_in em,⟨fun n s ok g hn=>by rw [at_ge (by omega)] at hn; cases hn⟩,isDL_at em n _ _ _ ha hx⟩
end
end Go.Sx
