/- stream: Nf3 Pa1 Pa2 Pa3 Oe1 Oe2 Of1 Of2 Og1 Og2 Og3 Oh1 Oh2 Ne4 Ng1 Nh1 Nh2 Nh3 Nh4 Nh5 Nh6 Ni1 Ni2 Nj1 Nj2 Nk1 Nk2 Nk3, in one text. -/
import Derived.Test.YtnfkbbcbehnnkaaWW1
import Derived.Test.YtnfkbbcbehnnkaaSxM
namespace Go.Sx.Nos
open Go Go.Sx Go.Proofs
structure LI (s:St) (L:List Lk):Prop where
 nod:s.1.Nodup
 mem:∀ l ∈ L,l.1 ∈ s.1/\l.2.1 ∈ s.1
 from_:∀ x ∈ s.1,x=zeroN ∨ ∃ l ∈ L,x=l.1 ∨ x=l.2.1
 zero:zeroN ∈ s.1
 cell:∀ k,s.2 k=dIni k ∨ ∃ l ∈ L,k=ixN s.1 l.1*65+ixN s.1 l.2.1/\s.2 k=l.2.2
 le:∀ l ∈ L,s.2 (ixN s.1 l.1*65+ixN s.1 l.2.1)<=l.2.2
 le0:∀ k,s.2 k<=dIni k
theorem nod_add {N:List Nd} (h:N.Nodup) (x:Nd):(addN N x).Nodup:=by
 unfold addN
 split
 ·exact h
 ·rename_i hn
  refine List.nodup_append.2 ⟨h,by simp,fun a ha b hb e=>?_⟩
  simp only [List.mem_singleton] at hb
  subst hb; subst e
  exact hn ha
theorem of_addN {N:List Nd} {x y:Nd} (h:y ∈ addN N x):y ∈ N ∨ y=x:=by
 unfold addN at h
 split at h
 ·exact .inl h
 ·rcases List.mem_append.1 h with h | h
  ·exact .inl h
  ·exact .inr (by simpa using h)
theorem ixN_lim {N:List Nd} {a b y:Nd} (h:y ∈ N):ixN (limN N a b) y=ixN N y:=by
 unfold limN
 rw [ixN_add (sub_addN h),ixN_add h]
theorem cel_eq (N:List Nd) (a b:Nd):cel N a b=ixN (limN N a b) a*65+ixN (limN N a b) b:=by
 unfold cel limN
 rw [ixN_new (addN N a) b,ixN_add (mem_addN N a),ixN_new]
theorem LI.step {s:St} {L:List Lk} (h:LI s L) (l:Lk):LI (stepL s l) (L ++ [l]):=by
 obtain ⟨N,d⟩:=s
 obtain ⟨a,b,n⟩:=l
 have ha:a ∈ limN N a b:=sub_addN (mem_addN N a)
 have hb:b ∈ limN N a b:=mem_addN (addN N a) b
 have hs:∀ {y},y ∈ N->y ∈ limN N a b:=fun hy=>sub_addN (sub_addN hy)
 have hl:=h.le
 have hm:=h.mem
 have ho:=h.le0
 dsimp only at hl hm ho
 refine ⟨nod_add (nod_add h.nod _) _,fun l' hl'=>?_,fun x hx=>?_,hs h.zero,fun k=>?_,fun l' hl'=>?_,fun k=>?_⟩
 ·rcases List.mem_append.1 hl' with h1 | h1
  ·exact ⟨hs (h.mem l' h1).1,hs (h.mem l' h1).2⟩
  ·simp only [List.mem_singleton] at h1
   subst h1
   exact ⟨ha,hb⟩
 ·have:x=b ∨ x=a ∨ x ∈ N:=by
   rcases of_addN hx with h1 | h1
   ·rcases of_addN h1 with h2 | h2
    ·exact .inr (.inr h2)
    ·exact .inr (.inl h2)
   ·exact .inl h1
  rcases this with rfl | rfl | h1
  ·exact .inr ⟨_,List.mem_append.2 (.inr (List.mem_singleton.2 rfl)),.inr rfl⟩
  ·exact .inr ⟨_,List.mem_append.2 (.inr (List.mem_singleton.2 rfl)),.inl rfl⟩
  ·rcases h.from_ x h1 with h2 | ⟨l',h2,h3⟩
   ·exact .inl h2
   ·exact .inr ⟨l',List.mem_append.2 (.inl h2),h3⟩
 ·show limD N d a b n k=_ ∨ ∃ l ∈ L ++ [(a,b,n)],k=ixN (limN N a b) l.1*65+ixN (limN N a b) l.2.1/\limD N d a b n k=_
  have old:∀ k,(d k=dIni k ∨ ∃ l ∈ L ++ [(a,b,n)],k=ixN (limN N a b) l.1*65+ixN (limN N a b) l.2.1/\d k=l.2.2):=fun k=>by
   rcases h.cell k with h1 | ⟨l',h1,h2,h3⟩
   ·exact .inl h1
   ·exact .inr ⟨l',List.mem_append.2 (.inl h1),by rw [ixN_lim (h.mem l' h1).1,ixN_lim (h.mem l' h1).2]; exact h2,h3⟩
  by_cases hk:k=cel N a b
  ·have e1:limD N d a b n k=min (d k) n:=by unfold limD; rw [if_pos hk,hk]
   rw [e1]
   by_cases hmin:d k<=n
   ·rw [Int.min_eq_left hmin]; exact old k
   ·rw [Int.min_eq_right (by omega)]
    exact .inr ⟨_,List.mem_append.2 (.inr (List.mem_singleton.2 rfl)),by rw [hk,cel_eq],rfl⟩
  ·have e1:limD N d a b n k=d k:=by unfold limD; rw [if_neg hk]
   rw [e1]; exact old k
 ·show limD N d a b n (ixN (limN N a b) l'.1*65+ixN (limN N a b) l'.2.1)<=_
  have hle:∀ k,limD N d a b n k<=d k:=fun k=>by
   unfold limD
   split
   ·rename_i hk; rw [hk]; omega
   ·omega
  rcases List.mem_append.1 hl' with h1 | h1
  ·rw [ixN_lim (hm l' h1).1,ixN_lim (hm l' h1).2]
   exact Int.le_trans (hle _) (hl l' h1)
  ·simp only [List.mem_singleton] at h1
   subst h1
   dsimp only
   rw [<- cel_eq]
   unfold limD
   rw [if_pos rfl]
   omega
 ·show limD N d a b n k<=_
  have:=ho k
  unfold limD
  split
  ·rename_i hk; rw [<- hk]; omega
  ·exact this
theorem LI.fold {s:St} {L:List Lk} (h:LI s L):∀ (l:List Lk),LI (stp l s) (L ++ l):=by
 intro l
 induction l generalizing s L with
 | nil=>rw [List.append_nil]; exact h
 | cons x r ih=>
  have:=ih (h.step x)
  rw [List.append_assoc] at this
  exact this
theorem LI.ini:LI sIni []:=by
 refine ⟨by simp [sIni],by simp,fun x hx=>.inl (by simpa [sIni] using hx),by simp [sIni],fun k=>.inl rfl,by simp,fun k=>Int.le_refl _⟩
section
variable {p:Pn}
theorem li_all (p:Pn):LI (sAll p) (links p):=by
 have:=LI.ini.fold (links p)
 rwa [List.nil_append] at this
abbrev noP (p:Pn):List Nd:=(sAll p).1
theorem no_le (hp:PnOk p):(sAll p).1.length<=65:=(gd_all hp).le hp.t
theorem lk_ok (hp:PnOk p):∀ l ∈ links p,l.1 ≠ l.2.1/\(-CC<=l.2.2/\l.2.2<=CC)/\∃ m,(l.2.1,l.1,m) ∈ links p/\0<=l.2.2+m:=by
 have hC:=eCC
 intro l hl
 rcases List.mem_append.1 hl with hx | hx
 ·obtain ⟨t,ht,hx⟩:=List.mem_flatMap.1 hx
  have tt:∀ {x},x ∈ lkT p t->x ∈ links p:=fun h=>List.mem_append.2 (.inl (List.mem_flatMap.2 ⟨t,ht,h⟩))
  obtain ⟨_,_,_,⟨s0,s1⟩,o0,o1⟩:=hp.ts t ht
  rcases List.mem_append.1 hx with hx | hx
  ·rcases List.mem_cons.1 hx with rfl | hx
   ·exact ⟨by simp [ndB],by dsimp only; omega,t.o - t.c,tt (List.mem_append.2 (.inl (by simp [lkH]))),by dsimp only; omega⟩
   ·simp only [List.mem_singleton] at hx
    subst hx
    exact ⟨by simp [ndB],by dsimp only; omega,t.c+t.o,tt (List.mem_append.2 (.inl (by simp [lkH]))),by dsimp only; omega⟩
  ·obtain ⟨u,hu,hx⟩:=List.mem_flatMap.1 hx
   have hx0:=hx
   unfold lkI at hx
   split at hx
   ·rename_i hc
    have hd:=dr_in hp ht hu hc.2
    have uu:∀ {x},x ∈ lkI p t u->x ∈ links p:=fun h=>tt (List.mem_append.2 (.inr (List.mem_flatMap.2 ⟨u,hu,h⟩)))
    have e:lkI p t u=[(cN t.j t.p,cN u.j u.p,dr p t u),(cN u.j u.p,cN t.j t.p,dr p t u)]:=by unfold lkI; rw [if_pos hc]
    rcases List.mem_cons.1 hx with rfl | hx
    ·refine ⟨?_,by dsimp only; omega,dr p t u,uu (by rw [e]; simp),by dsimp only; omega⟩
     simp only [ndB,ne_eq,List.cons.injEq,true_and,and_true,not_and]
     intros; omega
    ·simp only [List.mem_singleton] at hx
     subst hx
     refine ⟨?_,by dsimp only; omega,dr p t u,uu (by rw [e]; simp),by dsimp only; omega⟩
     simp only [ndB,ne_eq,List.cons.injEq,true_and,and_true,not_and]
     intros; omega
   ·cases hx
 ·obtain ⟨s,hs,hx⟩:=List.mem_flatMap.1 hx
  have ss:∀ {x},x ∈ lkS s->x ∈ links p:=fun h=>List.mem_append.2 (.inr (List.mem_flatMap.2 ⟨s,hs,h⟩))
  obtain ⟨⟨a0,a1⟩,l0,l1,l2⟩:=hp.sd s hs
  rcases List.mem_cons.1 hx with rfl | hx
  ·refine ⟨?_,by dsimp only; omega,0 - s.lo,ss (by simp [lkS]),by dsimp only; omega⟩
   simp only [ndB,zeroN,ne_eq,List.cons.injEq,cond_false,true_and,and_true]
   omega
  ·simp only [List.mem_singleton] at hx
   subst hx
   refine ⟨?_,by dsimp only; omega,s.hi,ss (by simp [lkS]),by dsimp only; omega⟩
   simp only [ndB,zeroN,ne_eq,List.cons.injEq,cond_false,true_and,and_true]
   omega
def thP (p:Pn) (x:Nd):Prop:=x=zeroN ∨ ∃ l ∈ links p,l.1=x
theorem mem_no (hp:PnOk p) (x:Nd):x ∈ (sAll p).1 ↔ thP p x:=by
 refine ⟨fun h=>?_,fun h=>?_⟩
 ·rcases (li_all p).from_ x h with h1 | ⟨l,h1,h2 | h2⟩
  ·exact .inl h1
  ·exact .inr ⟨l,h1,h2.symm⟩
  ·obtain ⟨_,_,m,h3,_⟩:=lk_ok hp l h1
   exact .inr ⟨_,h3,h2.symm⟩
 ·rcases h with h | ⟨l,h1,h2⟩
  ·rw [h]; exact (li_all p).zero
  ·rw [<- h2]; exact ((li_all p).mem l h1).1
theorem ix_inj {N:List Nd} {a b:Nd} (ha:a ∈ N) (hb:b ∈ N) (h:ixN N a=ixN N b):a=b:=by
 have h1:=ixN_get ha
 have h2:=ixN_get hb
 rw [h,h2] at h1
 exact (Option.some.inj h1).symm
def Sol (p:Pn) (x:Nd->Int):Prop:=∀ l ∈ links p,x l.1 - x l.2.1<=l.2.2
theorem wg_all (hp:PnOk p):Wg (sAll p).1.length (rd (sAll p).2):=by
 have hn:=no_le hp
 have hW:=eWW
 have hC:=eCC
 refine ⟨fun i hi=>?_,fun i k hi hk=>?_⟩
 ·unfold rd
  rcases (li_all p).cell (i*65+i) with h1 | ⟨l,h1,h2,h3⟩
  ·rw [h1]; unfold dIni; rw [if_pos (by omega)]
  ·exfalso
   obtain ⟨m1,m2⟩:=(li_all p).mem l h1
   have b1:=ixN_lt m1
   have b2:=ixN_lt m2
   exact (lk_ok hp l h1).1 (ix_inj m1 m2 (by omega))
 ·unfold rd
  rcases (li_all p).cell (i*65+k) with h1 | ⟨l,h1,h2,h3⟩
  ·rw [h1]; unfold dIni
   split
   ·right; omega
   ·left; rfl
  ·right; rw [h3]; exact (lk_ok hp l h1).2.1
theorem safe_all (hp:PnOk p):SafeP p:=fw_safe (wg_all hp) (no_le hp)
theorem sol_to (hp:PnOk p) {x:Nd->Int} (h:Sol p x):solW (sAll p).1.length (rd (sAll p).2) fun i=>x ((sAll p).1.getD i zeroN):=by
 have hn:=no_le hp
 intro i k hi hk hlt
 unfold rd at hlt ⊢
 rcases (li_all p).cell (i*65+k) with h1 | ⟨l,h1,h2,h3⟩
 ·rw [h1] at hlt ⊢
  unfold dIni at hlt ⊢
  split at hlt
  ·rename_i he
   have:i=k:=by omega
   subst this
   rw [if_pos he]; omega
  ·exact absurd hlt (Int.lt_irrefl _)
 ·rw [h3]
  obtain ⟨m1,m2⟩:=(li_all p).mem l h1
  have b1:=ixN_lt m1
  have b2:=ixN_lt m2
  have e1:i=ixN (sAll p).1 l.1:=by omega
  have e2:k=ixN (sAll p).1 l.2.1:=by omega
  have g1:(sAll p).1.getD i zeroN=l.1:=by rw [e1,List.getD_eq_getElem?_getD,ixN_get m1]; rfl
  have g2:(sAll p).1.getD k zeroN=l.2.1:=by rw [e2,List.getD_eq_getElem?_getD,ixN_get m2]; rfl
  dsimp only
  rw [g1,g2]
  exact h l h1
theorem sol_of (hp:PnOk p) {y:Nat->Int} (h:solW (sAll p).1.length (rd (sAll p).2) y):Sol p fun a=>y (ixN (sAll p).1 a):=by
 intro l hl
 obtain ⟨m1,m2⟩:=(li_all p).mem l hl
 have h1:=(li_all p).le l hl
 have hb:=(lk_ok hp l hl).2.1
 have hW:=eWW
 have hC:=eCC
 exact Int.le_trans (h _ _ (ixN_lt m1) (ixN_lt m2) (by unfold rd; omega)) h1
theorem fit_iff (hp:PnOk p):fitF p ↔ ∃ x,Sol p x:=by
 refine ⟨fun h=>?_,fun ⟨x,hx⟩=>fw_no (wg_all hp) (no_le hp) (sol_to hp hx)⟩
 obtain ⟨h1,h2⟩:=fw_yes (wg_all hp) (no_le hp) h
 obtain ⟨y,h3,_⟩:=h1.pot (wg_all hp) (no_le hp) h2 (b:=ixN (sAll p).1 zeroN) (ixN_lt (li_all p).zero) (K:=200000000) (by omega)
 exact ⟨_,sol_of hp h3⟩
def farAB (p:Pn) (a b:Nd):Int:=farF p (ixN (sAll p).1 a*65+ixN (sAll p).1 b)
def Mx (p:Pn) (a b:Nd) (m:Int):Prop:=(∀ x,Sol p x->x a - x b<=m)/\∃ x,Sol p x/\x a - x b=m
def Un (p:Pn) (a b:Nd):Prop:=∀ K:Int,∃ x,Sol p x/\K<=x a - x b
theorem Mx.uniq {a b:Nd} {m m':Int} (h:Mx p a b m) (h':Mx p a b m'):m=m':=by
 obtain ⟨h1,x,h2,h3⟩:=h
 obtain ⟨g1,y,g2,g3⟩:=h'
 have:=h1 y g2
 have:=g1 x h2
 omega
theorem Mx.not_un {a b:Nd} {m:Int} (h:Mx p a b m):¬ Un p a b:=fun hu=>by
 obtain ⟨x,h1,h2⟩:=hu (m+1)
 have:=h.1 x h1
 omega
theorem far_mx (hp:PnOk p) (hf:fitF p) {a b:Nd} (ha:a ∈ (sAll p).1) (hb:b ∈ (sAll p).1) (h:farAB p a b ≠ WW):Mx p a b (farAB p a b)/\-66000000<=farAB p a b/\farAB p a b<=66000000:=by
 obtain ⟨h1,h2⟩:=fw_yes (wg_all hp) (no_le hp) hf
 have ia:=ixN_lt ha
 have ib:=ixN_lt hb
 refine ⟨⟨fun x hx=>?_,?_⟩,(h1.bd (wg_all hp) (no_le hp) (Nat.le_refl _) ia ib).resolve_left h⟩
 ·have:=h1.sol (Nat.le_refl _) (sol_to hp hx) ia ib h
  rw [List.getD_eq_getElem?_getD,ixN_get ha,List.getD_eq_getElem?_getD,ixN_get hb] at this
  exact this
 ·obtain ⟨y,h3,h4,h5⟩:=h1.pot (wg_all hp) (no_le hp) h2 ib (K:=200000000) (by omega)
  refine ⟨_,sol_of hp h3,?_⟩
  rw [h4,(h5 _ ia).1 h,Int.sub_zero]
  rfl
theorem far_un (hp:PnOk p) (hf:fitF p) {a b:Nd} (ha:a ∈ (sAll p).1) (hb:b ∈ (sAll p).1) (h:farAB p a b=WW):Un p a b:=by
 intro K
 obtain ⟨h1,h2⟩:=fw_yes (wg_all hp) (no_le hp) hf
 have ia:=ixN_lt ha
 have ib:=ixN_lt hb
 obtain ⟨y,h3,h4,h5⟩:=h1.pot (wg_all hp) (no_le hp) h2 ib (K:=max 200000000 (K+66000000)) (by omega)
 refine ⟨_,sol_of hp h3,?_⟩
 have:=(h5 _ ia).2 h
 rw [h4]
 omega
theorem far_iff (hp:PnOk p) (hf:fitF p) {a b:Nd} (ha:a ∈ (sAll p).1) (hb:b ∈ (sAll p).1) (m:Int) (hm:m ≠ WW):farAB p a b=m ↔ Mx p a b m:=by
 refine ⟨fun h=>?_,fun h=>?_⟩
 ·rw [<- h] at hm ⊢; exact (far_mx hp hf ha hb hm).1
 ·by_cases hw:farAB p a b=WW
  ·exact (h.not_un (far_un hp hf ha hb hw)).elim
  ·exact (far_mx hp hf ha hb hw).1.uniq h
end
end Go.Sx.Nos
namespace Go.Sx.Nos
open Go Go.Sx Go.Proofs
def flat (g:Nat->Nat->Int):Nat->Int:=fun x=>g (x / 65) (x % 65)
theorem rd_flat {g:Nat->Nat->Int} {i k:Nat} (hk:k<65):rd (flat g) i k=g i k:=by
 unfold rd flat
 rw [show (i*65+k) / 65=i by omega,show (i*65+k) % 65=k by omega]
structure DM (p:Pn) (N:List Nd) (g:Nat->Nat->Int):Prop where
 nod:N.Nodup
 mem:∀ x,x ∈ N ↔ thP p x
 len:N.length<=65
 cell:∀ i k,i<N.length->k<N.length->g i k=(if i=k then 0 else WW) ∨ ∃ e ∈ links p,i=ixN N e.1/\k=ixN N e.2.1/\g i k=e.2.2
 le:∀ e ∈ links p,g (ixN N e.1) (ixN N e.2.1)<=e.2.2
 le0:∀ i,i<N.length->g i i<=0
section
variable {p:Pn} {N:List Nd} {g:Nat->Nat->Int}
theorem DM.ends (h:DM p N g) (hp:PnOk p) {e:Lk} (he:e ∈ links p):e.1 ∈ N/\e.2.1 ∈ N:=by
 obtain ⟨_,_,m,h1,_⟩:=lk_ok hp e he
 exact ⟨(h.mem _).2 (.inr ⟨e,he,rfl⟩),(h.mem _).2 (.inr ⟨_,h1,rfl⟩)⟩
theorem DM.wg (h:DM p N g) (hp:PnOk p):Wg N.length (rd (flat g)):=by
 have hn:=h.len
 have hW:=eWW
 have hC:=eCC
 refine ⟨fun i hi=>?_,fun i k hi hk=>?_⟩
 ·rw [rd_flat (by omega)]
  rcases h.cell i i hi hi with h1 | ⟨e,h1,h2,h3,_⟩
  ·rw [h1,if_pos rfl]
  ·exfalso
   obtain ⟨m1,m2⟩:=h.ends hp h1
   exact (lk_ok hp e h1).1 (ix_inj m1 m2 (by omega))
 ·rw [rd_flat (by omega)]
  rcases h.cell i k hi hk with h1 | ⟨e,h1,h2,h3,h4⟩
  ·rw [h1]
   split
   ·right; omega
   ·left; rfl
  ·right; rw [h4]; exact (lk_ok hp e h1).2.1
theorem DM.sol_to (h:DM p N g) (hp:PnOk p) {x:Nd->Int} (hx:Sol p x):solW N.length (rd (flat g)) fun i=>x (N.getD i zeroN):=by
 have hn:=h.len
 intro i k hi hk hlt
 rw [rd_flat (by omega)] at hlt ⊢
 rcases h.cell i k hi hk with h1 | ⟨e,h1,h2,h3,h4⟩
 ·rw [h1] at hlt ⊢
  split at hlt
  ·rename_i he
   subst he
   rw [if_pos rfl]
   omega
  ·exact absurd hlt (Int.lt_irrefl _)
 ·rw [h4]
  obtain ⟨m1,m2⟩:=h.ends hp h1
  have g1:N.getD i zeroN=e.1:=by rw [h2,List.getD_eq_getElem?_getD,ixN_get m1]; rfl
  have g2:N.getD k zeroN=e.2.1:=by rw [h3,List.getD_eq_getElem?_getD,ixN_get m2]; rfl
  dsimp only
  rw [g1,g2]
  exact hx e h1
theorem DM.sol_of (h:DM p N g) (hp:PnOk p) {y:Nat->Int} (hy:solW N.length (rd (flat g)) y):Sol p fun a=>y (ixN N a):=by
 intro e he
 obtain ⟨m1,m2⟩:=h.ends hp he
 have h1:=h.le e he
 have hb:=(lk_ok hp e he).2.1
 have hW:=eWW
 have hC:=eCC
 have hn:=h.len
 have i1:=ixN_lt m1
 have i2:=ixN_lt m2
 have:=hy _ _ i1 i2 (by rw [rd_flat (by omega)]; omega)
 rw [rd_flat (by omega)] at this
 exact Int.le_trans this h1
theorem DM.zero (h:DM p N g):zeroN ∈ N:=(h.mem _).2 (.inl rfl)
theorem DM.fit (h:DM p N g) (hp:PnOk p):goodF N.length (flat g) ↔ fitF p:=by
 rw [fit_iff hp]
 refine ⟨fun hg=>?_,fun ⟨x,hx⟩=>fw_no (h.wg hp) h.len (h.sol_to hp hx)⟩
 obtain ⟨h1,h2⟩:=fw_yes (h.wg hp) h.len hg
 obtain ⟨y,h3,_⟩:=h1.pot (h.wg hp) h.len h2 (b:=ixN N zeroN) (ixN_lt h.zero) (K:=200000000) (by omega)
 exact ⟨_,h.sol_of hp h3⟩
theorem DM.far (h:DM p N g) (hp:PnOk p) (hf:fitF p) {a b:Nd} (ha:a ∈ N) (hb:b ∈ N):rd (fwN N.length N.length (flat g)) (ixN N a) (ixN N b)=farAB p a b:=by
 have hg:=(h.fit hp).2 hf
 obtain ⟨h1,h2⟩:=fw_yes (h.wg hp) h.len hg
 have ia:=ixN_lt ha
 have ib:=ixN_lt hb
 have ha':a ∈ (sAll p).1:=(mem_no hp a).2 ((h.mem a).1 ha)
 have hb':b ∈ (sAll p).1:=(mem_no hp b).2 ((h.mem b).1 hb)
 by_cases hw:rd (fwN N.length N.length (flat g)) (ixN N a) (ixN N b)=WW
 ·rw [hw]
  by_cases hw2:farAB p a b=WW
  ·exact hw2.symm
  ·refine absurd (fun K=>?_) (far_mx hp hf ha' hb' hw2).1.not_un
   obtain ⟨y,h3,h4,h5⟩:=h1.pot (h.wg hp) h.len h2 ib (K:=max 200000000 (K+66000000)) (by omega)
   refine ⟨_,h.sol_of hp h3,?_⟩
   have:=(h5 _ ia).2 hw
   rw [h4]
   omega
 ·have hm:Mx p a b (rd (fwN N.length N.length (flat g)) (ixN N a) (ixN N b)):=by
   refine ⟨fun x hx=>?_,?_⟩
   ·have:=h1.sol (Nat.le_refl _) (h.sol_to hp hx) ia ib hw
    rw [List.getD_eq_getElem?_getD,ixN_get ha,List.getD_eq_getElem?_getD,ixN_get hb] at this
    exact this
   ·obtain ⟨y,h3,h4,h5⟩:=h1.pot (h.wg hp) h.len h2 ib (K:=200000000) (by omega)
    refine ⟨_,h.sol_of hp h3,?_⟩
    rw [h4,(h5 _ ia).1 hw,Int.sub_zero]
  exact ((far_iff hp hf ha' hb' _ hw).2 hm).symm
end
end Go.Sx.Nos
namespace Go.Sx.Nod
open Go Go.Sx Go.Proofs
open Go.Sx.Nos (Nd ixN zeroN vN cN thP PnOk links ixN_get ixN_lt t0 s0)
def toN (x:Nod):Nd:=if x.k=0 then zeroN else if x.k=1 then vN x.n else cN x.n x.a
def okN (x:Nod):Prop:=x=n0 ∨ (x.k=1/\x.a=0) ∨ x.k=2
def vX (s:Int):Nod:=⟨1,s,0⟩
def cX (j t:Int):Nod:=⟨2,j,t⟩
theorem ok0:okN n0:=.inl rfl
theorem okV (s:Int):okN (vX s):=.inr (.inl ⟨rfl,rfl⟩)
theorem okC (j t:Int):okN (cX j t):=.inr (.inr rfl)
theorem ok_cases {x:Nod} (h:okN x):x=n0 ∨ (∃ s,x=vX s) ∨ ∃ j t,x=cX j t:=by
 obtain ⟨k,n,a⟩:=x
 rcases h with h | ⟨h1,h2⟩ | h
 ·exact .inl h
 ·dsimp only at h1 h2
  subst h1; subst h2
  exact .inr (.inl ⟨n,rfl⟩)
 ·dsimp only at h
  subst h
  exact .inr (.inr ⟨n,a,rfl⟩)
theorem vN_inj {s t:Int}:vN s=vN t ↔ s=t:=by
 simp only [Nos.ndB,List.cons.injEq,and_true,true_and]
 omega
theorem cN_inj {s t u v:Int}:cN s t=cN u v ↔ s=u/\t=v:=by
 simp only [Nos.ndB,List.cons.injEq,and_true,true_and]
theorem vN_cN {s t u:Int}:vN s ≠ cN t u:=by
 simp [Nos.ndB]
theorem zN_cN {t u:Int}:zeroN ≠ cN t u:=by
 simp [Nos.ndB,zeroN]
theorem zN_vN {s:Int} (h:0<=s):zeroN ≠ vN s:=by
 simp only [Nos.ndB,zeroN,ne_eq,List.cons.injEq,and_true,cond_false,true_and]
 omega
theorem findI_lt {l:List Nod} {x:Nod} (h:x ∈ l):∃ i,i<l.length/\l.getD i n0=x/\ixF l x=(i:Int):=by
 cases hf:l.findIdx? (fun y=>decide (y=x)) with
 | none=>
  rw [List.findIdx?_eq_none_iff] at hf
  have:=hf x h
  simp at this
 | some i=>
  have h2:=hf
  rw [List.findIdx?_eq_some_iff_getElem] at hf
  obtain ⟨h1,h3,_⟩:=hf
  refine ⟨i,h1,?_,?_⟩
  ·rw [getD_lt h1]
   exact of_decide_eq_true h3
  ·unfold ixF
   rw [h2]
theorem ixF_no {l:List Nod} {x:Nod} (h:x ∉ l):ixF l x = -1:=ixF_none fun j hj he=>h (by
 rw [<- he,getD_lt hj]
 exact List.getElem_mem hj)
theorem ixF_neg {l:List Nod} {x:Nod}:ixF l x<0 ↔ x ∉ l:=by
 refine ⟨fun h hx=>?_,fun h=>by rw [ixF_no h]; decide⟩
 obtain ⟨i,_,_,h3⟩:=findI_lt hx
 omega
theorem mem_add {l:List Nod} {x y:Nod}:y ∈ addF l x ↔ y ∈ l ∨ y=x:=by
 unfold addF
 split
 ·simp
 ·rename_i h
  rw [ixF_neg] at h
  exact ⟨.inl,fun h2=>h2.elim id fun h3=>by rw [h3]; exact Classical.not_not.1 h⟩
theorem nod_addF {l:List Nod} {x:Nod} (h:l.Nodup):(addF l x).Nodup:=by
 unfold addF
 split
 ·rename_i h2
  rw [ixF_neg] at h2
  refine List.nodup_append.2 ⟨h,by simp,fun a ha b hb e=>?_⟩
  simp only [List.mem_singleton] at hb
  subst hb; subst e
  exact h2 ha
 ·exact h
section
variable {p:Nos.Pn}
theorem ndT_nod:∀ i,(ndT p i).Nodup
 | 0=>by simp [ndT]
 | i+1=>nod_addF (nod_addF (ndT_nod i))
theorem ndS_nod {L:List Nod} (h:L.Nodup):∀ i,(ndS p L i).Nodup
 | 0=>h
 | i+1=>nod_addF (ndS_nod h i)
theorem ndF_nod (p:Nos.Pn):(ndF p).Nodup:=ndS_nod (ndT_nod _) _
theorem mem_ndT {x:Nod}:∀ i,x ∈ ndT p i ↔ x=n0 ∨ ∃ j,j<i/\(x=vX (p.T.getD j t0).s ∨ x=cX (p.T.getD j t0).j (p.T.getD j t0).p)
 | 0=>by simp [ndT]
 | i+1=>by
  unfold ndT
  rw [mem_add,mem_add,mem_ndT i]
  constructor
  ·rintro ((h | ⟨j,h1,h2⟩) | h)
   ·exact h.elim .inl fun ⟨j,h1,h2⟩=>.inr ⟨j,by omega,h2⟩
   ·exact .inr ⟨i,by omega,.inl rfl⟩
   ·exact .inr ⟨i,by omega,.inr h⟩
  ·rintro (h | ⟨j,h1,h2⟩)
   ·exact .inl (.inl (.inl h))
   ·by_cases hj:j=i
    ·subst hj
     exact h2.elim (fun h=>.inl (.inr h)) .inr
    ·exact .inl (.inl (.inr ⟨j,by omega,h2⟩))
theorem mem_ndS {L:List Nod} {x:Nod}:∀ i,x ∈ ndS p L i ↔ x ∈ L ∨ ∃ j,j<i/\x=vX (p.S.getD j s0).s
 | 0=>by simp [ndS]
 | i+1=>by
  unfold ndS
  rw [mem_add,mem_ndS i]
  constructor
  ·rintro ((h | ⟨j,h1,h2⟩) | h)
   ·exact .inl h
   ·exact .inr ⟨j,by omega,h2⟩
   ·exact .inr ⟨i,by omega,h⟩
  ·rintro (h | ⟨j,h1,h2⟩)
   ·exact .inl (.inl h)
   ·by_cases hj:j=i
    ·subst hj
     exact .inr h2
    ·exact .inl (.inr ⟨j,by omega,h2⟩)
theorem getD_ex {α:Type} {l:List α} {d:α} {P:α->Prop}:(∃ j,j<l.length/\P (l.getD j d)) ↔ ∃ x ∈ l,P x:=by
 constructor
 ·rintro ⟨j,h1,h2⟩
  rw [List.getD_eq_getElem?_getD,List.getElem?_eq_getElem h1] at h2
  exact ⟨_,List.getElem_mem h1,h2⟩
 ·rintro ⟨x,h1,h2⟩
  obtain ⟨j,hj,rfl⟩:=List.mem_iff_getElem.1 h1
  exact ⟨j,hj,by rw [List.getD_eq_getElem?_getD,List.getElem?_eq_getElem hj]; exact h2⟩
theorem mem_ndF {x:Nod}:x ∈ ndF p ↔ x=n0 ∨ (∃ t ∈ p.T,x=vX t.s ∨ x=cX t.j t.p) ∨ ∃ s ∈ p.S,x=vX s.s:=by
 unfold ndF
 rw [mem_ndS,mem_ndT,or_assoc]
 exact or_congr Iff.rfl (or_congr (getD_ex (P:=fun t:Nos.Ts=>x=vX t.s ∨ x=cX t.j t.p)) (getD_ex (P:=fun s:Nos.Sd=>x=vX s.s)))
theorem ok_ndF {x:Nod} (h:x ∈ ndF p):okN x:=by
 rcases mem_ndF.1 h with rfl | ⟨t,_,rfl | rfl⟩ | ⟨s,_,rfl⟩
 ·exact ok0
 ·exact okV _
 ·exact okC _ _
 ·exact okV _
theorem lk_T {t:Nos.Ts} (ht:t ∈ p.T):∀ {e},e ∈ Nos.lkT p t->e ∈ links p:=fun h=>List.mem_append.2 (.inl (List.mem_flatMap.2 ⟨t,ht,h⟩))
theorem lk_H {t:Nos.Ts} (ht:t ∈ p.T):(vN t.s,cN t.j t.p,t.c+t.o) ∈ links p/\(cN t.j t.p,vN t.s,t.o - t.c) ∈ links p:=
 ⟨lk_T ht (List.mem_append.2 (.inl (by simp [Nos.lkH]))),lk_T ht (List.mem_append.2 (.inl (by simp [Nos.lkH])))⟩
theorem lk_I {t u:Nos.Ts} (ht:t ∈ p.T) (hu:u ∈ p.T) (h:u.j=t.j/\t.p<u.p):(cN t.j t.p,cN u.j u.p,Nos.dr p t u) ∈ links p/\(cN u.j u.p,cN t.j t.p,Nos.dr p t u) ∈ links p:=by
 have e:Nos.lkI p t u=[(cN t.j t.p,cN u.j u.p,Nos.dr p t u),(cN u.j u.p,cN t.j t.p,Nos.dr p t u)]:=by unfold Nos.lkI; rw [if_pos h]
 exact ⟨lk_T ht (List.mem_append.2 (.inr (List.mem_flatMap.2 ⟨u,hu,by rw [e]; simp⟩))),lk_T ht (List.mem_append.2 (.inr (List.mem_flatMap.2 ⟨u,hu,by rw [e]; simp⟩)))⟩
theorem lk_S {s:Nos.Sd} (hs:s ∈ p.S):(vN s.s,zeroN,s.hi) ∈ links p/\(zeroN,vN s.s,0 - s.lo) ∈ links p:=
 ⟨List.mem_append.2 (.inr (List.mem_flatMap.2 ⟨s,hs,by simp [Nos.lkS]⟩)),List.mem_append.2 (.inr (List.mem_flatMap.2 ⟨s,hs,by simp [Nos.lkS]⟩))⟩
theorem lk_cases {e:Nos.Lk} (h:e ∈ links p):(∃ t ∈ p.T,e=(vN t.s,cN t.j t.p,t.c+t.o) ∨ e=(cN t.j t.p,vN t.s,t.o - t.c)) ∨
  (∃ t ∈ p.T,∃ u ∈ p.T,(u.j=t.j/\t.p<u.p)/\(e=(cN t.j t.p,cN u.j u.p,Nos.dr p t u) ∨ e=(cN u.j u.p,cN t.j t.p,Nos.dr p t u))) ∨
  ∃ s ∈ p.S,e=(vN s.s,zeroN,s.hi) ∨ e=(zeroN,vN s.s,0 - s.lo):=by
 rcases List.mem_append.1 h with hx | hx
 ·obtain ⟨t,ht,hx⟩:=List.mem_flatMap.1 hx
  rcases List.mem_append.1 hx with hx | hx
  ·simp only [Nos.lkH,List.mem_cons,List.not_mem_nil,or_false] at hx
   exact .inl ⟨t,ht,hx⟩
  ·obtain ⟨u,hu,hx⟩:=List.mem_flatMap.1 hx
   unfold Nos.lkI at hx
   split at hx
   ·rename_i hc
    simp only [List.mem_cons,List.not_mem_nil,or_false] at hx
    exact .inr (.inl ⟨t,ht,u,hu,hc,hx⟩)
   ·cases hx
 ·obtain ⟨s,hs,hx⟩:=List.mem_flatMap.1 hx
  simp only [Nos.lkS,List.mem_cons,List.not_mem_nil,or_false] at hx
  exact .inr (.inr ⟨s,hs,hx⟩)
theorem th_0:thP p zeroN:=.inl rfl
theorem th_v {s:Int} (h:0<=s):thP p (vN s) ↔ (∃ t ∈ p.T,t.s=s) ∨ ∃ x ∈ p.S,x.s=s:=by
 constructor
 ·rintro (h1 | ⟨e,h1,h2⟩)
  ·exact absurd h1.symm (zN_vN h)
  ·rcases lk_cases h1 with ⟨t,ht,rfl | rfl⟩ | ⟨t,ht,u,hu,_,rfl | rfl⟩ | ⟨x,hx,rfl | rfl⟩
   ·exact .inl ⟨t,ht,vN_inj.1 h2⟩
   ·exact absurd h2.symm vN_cN
   ·exact absurd h2.symm vN_cN
   ·exact absurd h2.symm vN_cN
   ·exact .inr ⟨x,hx,vN_inj.1 h2⟩
   ·exact absurd h2 (zN_vN h)
 ·rintro (⟨t,ht,rfl⟩ | ⟨x,hx,rfl⟩)
  ·exact .inr ⟨_,(lk_H ht).1,rfl⟩
  ·exact .inr ⟨_,(lk_S hx).1,rfl⟩
theorem th_c {j t:Int}:thP p (cN j t) ↔ ∃ x ∈ p.T,x.j=j/\x.p=t:=by
 constructor
 ·rintro (h1 | ⟨e,h1,h2⟩)
  ·exact absurd h1.symm zN_cN
  ·rcases lk_cases h1 with ⟨t,ht,rfl | rfl⟩ | ⟨t,ht,u,hu,_,rfl | rfl⟩ | ⟨x,hx,rfl | rfl⟩
   ·exact absurd h2 vN_cN
   ·exact ⟨t,ht,cN_inj.1 h2⟩
   ·exact ⟨t,ht,cN_inj.1 h2⟩
   ·exact ⟨u,hu,cN_inj.1 h2⟩
   ·exact absurd h2 vN_cN
   ·exact absurd h2 zN_cN
 ·rintro ⟨x,hx,rfl,rfl⟩
  exact .inr ⟨_,(lk_H hx).2,rfl⟩
theorem n0_vX (s:Int):n0 ≠ vX s:=fun h=>by cases h
theorem n0_cX (s t:Int):n0 ≠ cX s t:=fun h=>by cases h
theorem vX_cX (r s t:Int):vX r ≠ cX s t:=fun h=>by cases h
theorem mem_v {s:Int}:vX s ∈ ndF p ↔ (∃ t ∈ p.T,t.s=s) ∨ ∃ x ∈ p.S,x.s=s:=by
 rw [mem_ndF]
 constructor
 ·rintro (h | ⟨t,ht,h | h⟩ | ⟨x,hx,h⟩)
  ·exact absurd h.symm (n0_vX s)
  ·injection h with _ h _; exact .inl ⟨t,ht,h.symm⟩
  ·exact absurd h (vX_cX _ _ _)
  ·injection h with _ h _; exact .inr ⟨x,hx,h.symm⟩
 ·rintro (⟨t,ht,rfl⟩ | ⟨x,hx,rfl⟩)
  ·exact .inr (.inl ⟨t,ht,.inl rfl⟩)
  ·exact .inr (.inr ⟨x,hx,rfl⟩)
theorem mem_c {j t:Int}:cX j t ∈ ndF p ↔ ∃ x ∈ p.T,x.j=j/\x.p=t:=by
 rw [mem_ndF]
 constructor
 ·rintro (h | ⟨x,hx,h | h⟩ | ⟨x,hx,h⟩)
  ·exact absurd h.symm (n0_cX _ _)
  ·exact absurd h.symm (vX_cX _ _ _)
  ·injection h with _ h h2; exact ⟨x,hx,h.symm,h2.symm⟩
  ·exact absurd h.symm (vX_cX _ _ _)
 ·rintro ⟨x,hx,rfl,rfl⟩
  exact .inr (.inl ⟨x,hx,.inr rfl⟩)
theorem mem_0:n0 ∈ ndF p:=mem_ndF.2 (.inl rfl)
theorem thV (_:PnOk p) {s:Int} (h:0<=s):thP p (vN s) ↔ vX s ∈ ndF p:=(th_v h).trans mem_v.symm
theorem thC {j t:Int}:thP p (cN j t) ↔ cX j t ∈ ndF p:=th_c.trans mem_c.symm
theorem s_nn (hp:PnOk p) {s:Int} (h:vX s ∈ ndF p):0<=s/\s<=15:=by
 rcases mem_v.1 h with ⟨t,ht,rfl⟩ | ⟨x,hx,rfl⟩
 ·exact (hp.ts t ht).2.1
 ·exact (hp.sd x hx).1
theorem toN_inj (hp:PnOk p) {x y:Nod} (hx:x ∈ ndF p) (hy:y ∈ ndF p) (h:toN x=toN y):x=y:=by
 rcases ok_cases (ok_ndF hx) with rfl | ⟨s,rfl⟩ | ⟨j,t,rfl⟩ <;> rcases ok_cases (ok_ndF hy) with rfl | ⟨s',rfl⟩ | ⟨j',t',rfl⟩
 ·rfl
 ·exact absurd h (zN_vN (s_nn hp hy).1)
 ·exact absurd h zN_cN
 ·exact absurd h.symm (zN_vN (s_nn hp hx).1)
 ·rw [(vN_inj (s:=s) (t:=s')).1 h]
 ·exact absurd h vN_cN
 ·exact absurd h.symm zN_cN
 ·exact absurd h.symm vN_cN
 ·obtain ⟨rfl,rfl⟩:=(cN_inj (s:=j) (t:=t) (u:=j') (v:=t')).1 h
  rfl
def unN (p:Nos.Pn):List Nd:=(ndF p).map toN
theorem unN_len:(unN p).length=(ndF p).length:=List.length_map ..
theorem nodup_map {α β:Type} {f:α->β}:∀ {l:List α},l.Nodup->(∀ x ∈ l,∀ y ∈ l,f x=f y->x=y)->(l.map f).Nodup
 | [],_,_=>List.nodup_nil
 | x::r,h,hf=>by
  obtain ⟨h1,h2⟩:=List.nodup_cons.1 h
  rw [List.map_cons]
  refine List.nodup_cons.2 ⟨fun hm=>?_,nodup_map h2 fun y hy z hz=>hf y (by simp [hy]) z (by simp [hz])⟩
  obtain ⟨y,hy,he⟩:=List.mem_map.1 hm
  have:=hf y (by simp [hy]) x (by simp) he
  subst this
  exact h1 hy
theorem unN_nod (hp:PnOk p):(unN p).Nodup:=nodup_map (ndF_nod p) fun _ hx _ hy h=>toN_inj hp hx hy h
theorem mem_unN (hp:PnOk p) (x:Nd):x ∈ unN p ↔ thP p x:=by
 unfold unN
 rw [List.mem_map]
 constructor
 ·rintro ⟨y,hy,rfl⟩
  rcases ok_cases (ok_ndF hy) with rfl | ⟨s,rfl⟩ | ⟨j,t,rfl⟩
  ·exact th_0
  ·exact (thV hp (s_nn hp hy).1).2 hy
  ·exact thC.2 hy
 ·rintro (rfl | ⟨e,h1,rfl⟩)
  ·exact ⟨n0,mem_0,rfl⟩
  ·rcases lk_cases h1 with ⟨t,ht,rfl | rfl⟩ | ⟨t,ht,u,hu,_,rfl | rfl⟩ | ⟨x,hx,rfl | rfl⟩
   ·exact ⟨vX t.s,mem_v.2 (.inl ⟨t,ht,rfl⟩),rfl⟩
   ·exact ⟨cX t.j t.p,mem_c.2 ⟨t,ht,rfl,rfl⟩,rfl⟩
   ·exact ⟨cX t.j t.p,mem_c.2 ⟨t,ht,rfl,rfl⟩,rfl⟩
   ·exact ⟨cX u.j u.p,mem_c.2 ⟨u,hu,rfl,rfl⟩,rfl⟩
   ·exact ⟨vX x.s,mem_v.2 (.inr ⟨x,hx,rfl⟩),rfl⟩
   ·exact ⟨n0,mem_0,rfl⟩
theorem unN_le (hp:PnOk p):(unN p).length<=65:=by
 refine Nos.Gd.le (p:=p) ⟨unN_nod hp,fun x hx=>?_⟩ hp.t
 exact (Nos.gd_all hp).sub x ((Nos.mem_no hp x).2 ((mem_unN hp x).1 hx))
theorem ndF_le (hp:PnOk p):(ndF p).length<=65:=by
 have:=unN_le hp
 rwa [unN_len] at this
theorem ixN_ex {N:List Nd} {i:Nat} (hN:N.Nodup) (hi:i<N.length):ixN N (N[i])=i:=by
 have h1:=ixN_get (List.getElem_mem hi)
 have h2:=ixN_lt (List.getElem_mem hi)
 rw [List.getElem?_eq_getElem h2,Option.some.injEq] at h1
 exact (List.getElem_inj hN).1 h1
theorem ix_un (hp:PnOk p) {x:Nod} (hx:x ∈ ndF p):ixF (ndF p) x=((ixN (unN p) (toN x):Nat):Int)/\ixN (unN p) (toN x)<(ndF p).length/\(ndF p).getD (ixN (unN p) (toN x)) n0=x:=by
 obtain ⟨i,h1,h2,h3⟩:=findI_lt hx
 have hu:i<(unN p).length:=by rw [unN_len]; exact h1
 have e:(unN p)[i]=toN x:=(List.getElem_map (l:=ndF p) toN).trans (by rw [<- getD_lt h1,h2])
 have:ixN (unN p) (toN x)=i:=by
  rw [<- e]
  exact ixN_ex (unN_nod hp) hu
 rw [this]
 exact ⟨h3,h1,h2⟩
theorem nd_mem {i:Nat} (h:i<(ndF p).length):(ndF p).getD i n0 ∈ ndF p:=by
 rw [getD_lt h]
 exact List.getElem_mem h
theorem ix_at (hp:PnOk p) {i:Nat} (h:i<(ndF p).length):ixN (unN p) (toN ((ndF p).getD i n0))=i:=by
 have hu:i<(unN p).length:=by rw [unN_len]; exact h
 have e:(unN p)[i]=toN ((ndF p).getD i n0):=(List.getElem_map (l:=ndF p) toN).trans (by rw [getD_lt h])
 rw [<- e]
 exact ixN_ex (unN_nod hp) hu
end
end Go.Sx.Nod
namespace Go.Sx.Nod
open Go Go.Sx Go.Proofs
open Go.Sx.Nos (Nd ixN zeroN vN cN thP PnOk links ixN_get ixN_lt t0 s0 WW DM)
theorem setM_eq (g:Nat->Nat->Int) (i o:Nat) (x:Int) (a b:Nat):setM g i o x a b=if a=i/\b=o then x else g a b:=by
 unfold setM
 by_cases h1:a=i
 ·by_cases h2:b=o
  ·rw [if_pos ⟨h1,h2⟩,beq_t h1,beq_t h2]
   rfl
  ·rw [if_neg (fun h=>h2 h.2),beq_f h2,Bool.and_false]
   rfl
 ·rw [if_neg (fun h=>h1 h.1),beq_f h1,Bool.false_and]
  rfl
structure MO (n:Nat) (P:Nat->Nat->Int->Prop) (g:Nat->Nat->Int):Prop where
 cell:∀ i k,i<n->k<n->g i k=(if i=k then 0 else WW) ∨ P i k (g i k)
 le:∀ i k v,i<n->k<n->P i k v->g i k<=v
 le0:∀ i k,i<n->k<n->g i k<=if i=k then 0 else WW
section
variable {n:Nat} {P Q:Nat->Nat->Int->Prop} {g:Nat->Nat->Int}
theorem MO.congr (h:MO n P g) (he:∀ a b v,a<n->b<n->(P a b v ↔ Q a b v)):MO n Q g:=
 ⟨fun i k hi hk=>(h.cell i k hi hk).imp id (he i k _ hi hk).1,fun i k v hi hk hq=>h.le i k v hi hk ((he i k v hi hk).2 hq),h.le0⟩
theorem MO.set (h:MO n P g) (x c:Nat) (w:Int):MO n (fun a b v=>P a b v ∨ (a=x/\b=c/\v=w)) (setM g x c (min (g x c) w)):=by
 refine ⟨fun i k hi hk=>?_,fun i k v hi hk hp=>?_,fun i k hi hk=>?_⟩
 ·rw [setM_eq]
  by_cases he:i=x/\k=c
  ·obtain ⟨rfl,rfl⟩:=he
   rw [if_pos ⟨rfl,rfl⟩]
   by_cases hm:g i k<=w
   ·rw [Int.min_eq_left hm]
    exact (h.cell i k hi hk).imp id .inl
   ·rw [Int.min_eq_right (by omega)]
    exact .inr (.inr ⟨rfl,rfl,rfl⟩)
  ·rw [if_neg he]
   exact (h.cell i k hi hk).imp id .inl
 ·rw [setM_eq]
  by_cases he:i=x/\k=c
  ·obtain ⟨rfl,rfl⟩:=he
   rw [if_pos ⟨rfl,rfl⟩]
   rcases hp with hp | ⟨_,_,rfl⟩
   ·exact Int.le_trans (Int.min_le_left ..) (h.le i k v hi hk hp)
   ·exact Int.min_le_right ..
  ·rw [if_neg he]
   rcases hp with hp | ⟨h1,h2,_⟩
   ·exact h.le i k v hi hk hp
   ·exact absurd ⟨h1,h2⟩ he
 ·rw [setM_eq]
  by_cases he:i=x/\k=c
  ·obtain ⟨rfl,rfl⟩:=he
   rw [if_pos ⟨rfl,rfl⟩]
   exact Int.le_trans (Int.min_le_left ..) (h.le0 i k hi hk)
  ·rw [if_neg he]
   exact h.le0 i k hi hk
end
section
variable {p:Nos.Pn}
def nx (p:Nos.Pn) (x:Nod):Nat:=ixN (unN p) (toN x)
def P0:Nat->Nat->Int->Prop:=fun _ _ _=>False
def PT1 (p:Nos.Pn) (t:Nos.Ts) (a b:Nat) (v:Int):Prop:=(a=nx p (vX t.s)/\b=nx p (cX t.j t.p)/\v=t.c+t.o) ∨ (a=nx p (cX t.j t.p)/\b=nx p (vX t.s)/\v=t.o - t.c)
def PT (p:Nos.Pn) (i:Nat) (a b:Nat) (v:Int):Prop:=∃ j,j<i/\PT1 p (p.T.getD j t0) a b v
def PS1 (p:Nos.Pn) (s:Nos.Sd) (a b:Nat) (v:Int):Prop:=(a=nx p (vX s.s)/\b=0/\v=s.hi) ∨ (a=0/\b=nx p (vX s.s)/\v=0 - s.lo)
def PS (p:Nos.Pn) (i:Nat) (a b:Nat) (v:Int):Prop:=PT p p.T.length a b v ∨ ∃ j,j<i/\PS1 p (p.S.getD j s0) a b v
abbrev nd (p:Nos.Pn) (i:Nat):Nod:=(ndF p).getD i n0
def dC (p:Nos.Pn) (a b:Nat):Prop:=(nd p a).k=2/\(nd p b).k=2/\(nd p a).n=(nd p b).n/\a ≠ b
def dV (p:Nos.Pn) (a b:Nat):Int:=p.D.getD (nd p a).n.toNat 0*max ((nd p a).a - (nd p b).a) ((nd p b).a - (nd p a).a)
def PD (p:Nos.Pn) (r c:Nat) (a b:Nat) (v:Int):Prop:=PS p p.S.length a b v ∨ ((a<r ∨ a=r/\b<c)/\dC p a b/\v=dV p a b)
theorem nd_add {L:List Nod} {x:Nod} (h:L.getD 0 n0=n0/\0<L.length):(addF L x).getD 0 n0=n0/\0<(addF L x).length:=by
 unfold addF
 split
 ·exact ⟨by rw [getD_snoc_lt h.2]; exact h.1,by rw [List.length_append]; omega⟩
 ·exact h
theorem nx_0 (hp:PnOk p):nx p n0=0:=by
 have h0:0<(ndF p).length:=List.length_pos_of_mem mem_0
 have h1:=ix_at hp h0
 have:(ndF p).getD 0 n0=n0:=by
  have hT:∀ i,(ndT p i).getD 0 n0=n0/\0<(ndT p i).length:=fun i=>by
   induction i with
   | zero=>exact ⟨rfl,Nat.zero_lt_one⟩
   | succ i ih=>exact nd_add (nd_add ih)
  have hS:∀ L:List Nod,(L.getD 0 n0=n0/\0<L.length)->∀ i,(ndS p L i).getD 0 n0=n0/\0<(ndS p L i).length:=fun L hL i=>by
   induction i with
   | zero=>exact hL
   | succ i ih=>exact nd_add ih
  exact (hS _ (hT _) _).1
 rw [this] at h1
 exact h1
theorem ixF_nx (hp:PnOk p) {x:Nod} (hx:x ∈ ndF p):ixF (ndF p) x=(nx p x:Int):=(ix_un hp hx).1
theorem nx_lt (hp:PnOk p) {x:Nod} (hx:x ∈ ndF p):nx p x<(ndF p).length:=(ix_un hp hx).2.1
theorem nd_nx (hp:PnOk p) {x:Nod} (hx:x ∈ ndF p):nd p (nx p x)=x:=(ix_un hp hx).2.2
theorem nx_nd (hp:PnOk p) {i:Nat} (hi:i<(ndF p).length):nx p (nd p i)=i:=ix_at hp hi
theorem vT_mem {t:Nos.Ts} (ht:t ∈ p.T):vX t.s ∈ ndF p:=mem_v.2 (.inl ⟨t,ht,rfl⟩)
theorem cT_mem {t:Nos.Ts} (ht:t ∈ p.T):cX t.j t.p ∈ ndF p:=mem_c.2 ⟨t,ht,rfl,rfl⟩
theorem vS_mem {s:Nos.Sd} (hs:s ∈ p.S):vX s.s ∈ ndF p:=mem_v.2 (.inr ⟨s,hs,rfl⟩)
theorem PS_iff {a b:Nat} {v:Int}:PS p p.S.length a b v ↔ (∃ t ∈ p.T,PT1 p t a b v) ∨ ∃ s ∈ p.S,PS1 p s a b v:=by
 unfold PS PT
 rw [getD_ex (P:=fun t=>PT1 p t a b v),getD_ex (P:=fun s=>PS1 p s a b v)]
theorem dr_v {t u:Nos.Ts} (h:u.j=t.j/\t.p<u.p) {a b:Nat} (ha:nd p a=cX t.j t.p) (hb:nd p b=cX u.j u.p):dV p a b=Nos.dr p t u/\dV p b a=Nos.dr p t u:=by
 unfold dV Nos.dr
 rw [ha,hb]
 simp only [cX,h.1]
 rw [Int.max_eq_right (by omega),Int.max_eq_left (by omega)]
 exact ⟨rfl,rfl⟩
theorem MO.dm (hp:PnOk p) {g:Nat->Nat->Int} (h:MO (ndF p).length (PD p (ndF p).length 0) g):DM p (unN p) g:=by
 have hl:=@unN_len p
 refine ⟨unN_nod hp,mem_unN hp,unN_le hp,fun i k hi hk=>?_,fun e he=>?_,fun i hi=>?_⟩
 ·rw [hl] at hi hk
  rcases h.cell i k hi hk with h1 | h1
  ·exact .inl h1
  ·right
   rcases h1 with h1 | ⟨_,⟨c1,c2,c3,c4⟩,h2⟩
   ·rcases PS_iff.1 h1 with ⟨t,ht,⟨h1,h2,h3⟩ | ⟨h1,h2,h3⟩⟩ | ⟨s,hs,⟨h1,h2,h3⟩ | ⟨h1,h2,h3⟩⟩
    ·exact ⟨_,(lk_H ht).1,h1,h2,h3⟩
    ·exact ⟨_,(lk_H ht).2,h1,h2,h3⟩
    ·exact ⟨_,(lk_S hs).1,h1,by rw [h2]; exact (nx_0 hp).symm,h3⟩
    ·exact ⟨_,(lk_S hs).2,by rw [h1]; exact (nx_0 hp).symm,h2,h3⟩
   ·have mi:=nd_mem hi
    have mk:=nd_mem hk
    have ei:=nx_nd hp hi
    have ek:=nx_nd hp hk
    rcases ok_cases (ok_ndF mi) with q | ⟨s,q⟩ | ⟨j,t,q⟩
    ·rw [show (nd p i)=n0 from q] at c1; cases c1
    ·rw [show (nd p i)=vX s from q] at c1; cases c1
    rcases ok_cases (ok_ndF mk) with q' | ⟨s,q'⟩ | ⟨j',t',q'⟩
    ·rw [show (nd p k)=n0 from q'] at c2; cases c2
    ·rw [show (nd p k)=vX s from q'] at c2; cases c2
    have q:nd p i=cX j t:=q
    have q':nd p k=cX j' t':=q'
    rw [q,q'] at c3
    have c3:j=j':=c3
    subst c3
    have hne:t ≠ t':=fun e=>c4 (by rw [<- ei,<- ek,q,q',e])
    have m1:cX j t ∈ ndF p:=by rw [<- q]; exact mi
    have m2:cX j t' ∈ ndF p:=by rw [<- q']; exact mk
    obtain ⟨x,hx,x1,x2⟩:=mem_c.1 m1
    obtain ⟨y,hy,y1,y2⟩:=mem_c.1 m2
    have qx:nd p i=cX x.j x.p:=by rw [x1,x2]; exact q
    have qy:nd p k=cX y.j y.p:=by rw [y1,y2]; exact q'
    have e1:i=ixN (unN p) (cN x.j x.p):=by rw [<- ei,qx]; rfl
    have e2:k=ixN (unN p) (cN y.j y.p):=by rw [<- ek,qy]; rfl
    by_cases hlt:x.p<y.p
    ·have hc:y.j=x.j/\x.p<y.p:=⟨by rw [x1,y1],hlt⟩
     exact ⟨_,(lk_I hx hy hc).1,e1,e2,by rw [h2,(dr_v hc qx qy).1]⟩
    ·have hc:x.j=y.j/\y.p<x.p:=⟨by rw [x1,y1],by omega⟩
     exact ⟨_,(lk_I hy hx hc).2,e1,e2,by rw [h2,(dr_v hc qy qx).2]⟩
 ·have put:∀ {a b:Nod} {v:Int},a ∈ ndF p->b ∈ ndF p->PD p (ndF p).length 0 (nx p a) (nx p b) v->g (ixN (unN p) (toN a)) (ixN (unN p) (toN b))<=v:=fun ha hb hh=>h.le _ _ _ (nx_lt hp ha) (nx_lt hp hb) hh
  rcases lk_cases he with ⟨t,ht,rfl | rfl⟩ | ⟨t,ht,u,hu,hc,rfl | rfl⟩ | ⟨x,hx,rfl | rfl⟩
  ·exact put (a:=vX t.s) (b:=cX t.j t.p) (vT_mem ht) (cT_mem ht) (.inl (PS_iff.2 (.inl ⟨t,ht,.inl ⟨rfl,rfl,rfl⟩⟩)))
  ·exact put (a:=cX t.j t.p) (b:=vX t.s) (cT_mem ht) (vT_mem ht) (.inl (PS_iff.2 (.inl ⟨t,ht,.inr ⟨rfl,rfl,rfl⟩⟩)))
  ·have d1:=nd_nx hp (cT_mem ht)
   have d2:=nd_nx hp (cT_mem hu)
   have hne:nx p (cX t.j t.p) ≠ nx p (cX u.j u.p):=fun e=>by
    rw [e,d2] at d1
    injection d1 with _ _ d1
    omega
   exact put (a:=cX t.j t.p) (b:=cX u.j u.p) (cT_mem ht) (cT_mem hu) (.inr ⟨.inl (nx_lt hp (cT_mem ht)),⟨by rw [d1]; rfl,by rw [d2]; rfl,by rw [d1,d2]; exact hc.1.symm,hne⟩,(dr_v hc d1 d2).1.symm⟩)
  ·have d1:=nd_nx hp (cT_mem ht)
   have d2:=nd_nx hp (cT_mem hu)
   have hne:nx p (cX u.j u.p) ≠ nx p (cX t.j t.p):=fun e=>by
    rw [e,d1] at d2
    injection d2 with _ _ d2
    omega
   exact put (a:=cX u.j u.p) (b:=cX t.j t.p) (cT_mem hu) (cT_mem ht) (.inr ⟨.inl (nx_lt hp (cT_mem hu)),⟨by rw [d2]; rfl,by rw [d1]; rfl,by rw [d1,d2]; exact hc.1,hne⟩,(dr_v hc d1 d2).2.symm⟩)
  ·exact put (a:=vX x.s) (b:=n0) (vS_mem hx) mem_0 (.inl (PS_iff.2 (.inr ⟨x,hx,.inl ⟨rfl,nx_0 hp,rfl⟩⟩)))
  ·exact put (a:=n0) (b:=vX x.s) mem_0 (vS_mem hx) (.inl (PS_iff.2 (.inr ⟨x,hx,.inr ⟨nx_0 hp,rfl,rfl⟩⟩)))
 ·rw [hl] at hi
  have:=h.le0 i i hi hi
  rwa [if_pos rfl] at this
end
end Go.Sx.Nod
namespace Go.Sx.Nod
open Go Go.Sx Go.Proofs
set_option maxRecDepth 1000000
def maB (p:Nos.Pn) (n r C:Nat) (g:Nat->Nat->Int):List VB:=[.cells (pnL p) 26,.mat n r C g 22 3]
def tM (l:List Nod):List VV:=[.slice (.rw 1 0 0) l.length l.length,I l.length,.bool false,.nils,.ptr (.own 0 0),noD l]
def dsF2:List Nat:=[9,8,7,6,5,4,2,1]
def dsF0:List Nat:=[8,7,6,5,4,2,1]
theorem f2_ev (p:Nos.Pn) (l:List Nod) (i k r C:Nat) (g:Nat->Nat->Int) (X:VEx->List VV->List VB->Prop):codeE Try.prog (callN Try.prog noSpec noL 10 20) (fun _=>none) true 10 (ntOf Try.prog 47) 0 (loopB 2 (bodyOf Try.prog 47)) (dsF2.zip (I k::I i::tM l)) ⟨3,[0,1].zip (maB p l.length r C g)⟩ (obs 3 dsF2 [0,1] X) =
 (bif decide ((↑k:Int)<(↑l.length:Int)) then
 bif decide ((0:Int)<=(↑i:Int)/\(↑i:Int)<(↑l.length:Int)) then
 bif decide (0+(↑i:Int).toNat<r) then
 bif decide ((0:Int)<=(↑k:Int)/\(↑k:Int)<(↑C:Int)) then
 bif decide (0+(↑i:Int).toNat+1 - 1<r/\0+(↑k:Int).toNat<C) then
 bif inK .i64 ((↑k:Int)+(1:Int)) then
 X .normal [I ((↑k:Int)+(1:Int)),I (↑i:Int),VV.slice (VA.rw 1 0 0) l.length l.length,I (↑l.length:Int),VV.bool false,VV.nils,VV.ptr (VA.own 0 0),noD l] [.cells (pnL p) 26,VB.mat l.length r C (setM g (0+(↑i:Int).toNat+1 - 1) (0+(↑k:Int).toNat) (1125899906842624:Int)) (22:TypeId) (3:TypeId)]
 else False
 else False
 else False
 else False
 else False
 else X (VEx.exit 2) [I (↑k:Int),I (↑i:Int),VV.slice (VA.rw 1 0 0) l.length l.length,I (↑l.length:Int),VV.bool false,VV.nils,VV.ptr (VA.own 0 0),noD l] [.cells (pnL p) 26,VB.mat l.length r C g (22:TypeId) (3:TypeId)]):=by kernel_rfl
def lF2 (p:Nos.Pn) (l:List Nod) (i r C:Nat) (g:Nat->Nat->Int):LT:=fun lock tt h K=>
 FitP lock h tt ⟨3,[0,1].zip (maB p l.length r C g)⟩ (dsF2.zip (I 0::I i::tM l))/\(l.length<=100/\i<r/\C=l.length/\r<=l.length) /\
  ∀ g':Nat->Nat->Int,(∀ a b,a<r->b<C->g' a b=if a=i then Nos.WW else g a b)->K .normal (dsF2.zip (I l.length::I i::tM l)) ⟨3,[0,1].zip (maB p l.length r C g')⟩
theorem f0_ev (p:Nos.Pn) (l:List Nod) (i C:Nat) (g:Nat->Nat->Int) (X:VEx->List VV->List VB->Prop):codeE Try.prog (callN Try.prog noSpec noL 10 20) (tabB [(2,lF2 p l i (i+1) l.length (rowM g i fun _=>0))]) true 10 (ntOf Try.prog 47) 0 (loopB 0 (bodyOf Try.prog 47)) (dsF0.zip (I i::tM l)) ⟨2,[0,1].zip (maB p l.length i C g)⟩ (obs 2 dsF0 [0,1] X) =
 (bif decide ((↑i:Int)<(↑l.length:Int)) then
 bif decide ((0:Int)<=(↑l.length:Int)/\(↑l.length:Int)=(↑l.length:Int)) then
 bif roomB (↑l.length:Int).toNat (8) then
 bif decide ((0:Int)<=(↑i:Int)/\(↑i:Int)<(↑l.length:Int)) then
 bif ((↑l.length:Int).toNat*(1)).beq (↑l.length:Int).toNat && (↑l.length:Int).toNat.beq (↑l.length:Int).toNat && Nat.beq 3 (3:TypeId) && (0+(↑i:Int).toNat).beq i && decide (i<l.length) && (i.beq 0 || (↑l.length:Int).toNat.beq C) && decide (0<(↑l.length:Int).toNat) && !(2).beq 1 then
 FitP 0 (VH.mk 3 ([0,1].zip (maB p l.length (i+1) l.length (rowM g i fun (_:Nat)=>(0:Int))))) (dsF2.zip (I 0::I (↑i:Int)::tM l)) (VH.mk 3 ([0,1].zip (maB p l.length (i+1) l.length (rowM g i fun (_:Nat)=>(0:Int))))) (dsF2.zip (I 0::I (↑i:Int)::tM l))/\(l.length<=100/\i<i+1/\l.length=l.length/\i+1<=l.length)/\∀ (g':Nat->Nat->Int),(∀ (a b:Nat),a<i+1->b<l.length->g' a b=if a=i then
 Nos.WW
 else rowM g i (fun (_:Nat)=>(0:Int)) a b)->bif decide ((0:Int)<=(↑i:Int)/\(↑i:Int)<(↑l.length:Int)) then
 bif decide (0+(↑i:Int).toNat<i+1) then
 bif decide ((0:Int)<=(↑i:Int)/\(↑i:Int)<(↑l.length:Int)) then
 bif decide (0+(↑i:Int).toNat+1 - 1<i+1/\0+(↑i:Int).toNat<l.length) then
 bif inK .i64 ((↑i:Int)+(1:Int)) then
 X .normal [I ((↑i:Int)+(1:Int)),VV.slice (VA.rw 1 0 0) l.length l.length,I (↑l.length:Int),VV.bool false,VV.nils,VV.ptr (VA.own 0 0),noD l] [.cells (pnL p) 26,VB.mat l.length (i+1) l.length (setM g' (0+(↑i:Int).toNat+1 - 1) (0+(↑i:Int).toNat) (0:Int)) (22:TypeId) (3:TypeId)]
 else False
 else False
 else False
 else False
 else False
 else False
 else False
 else False
 else False
 else X (VEx.exit 0) [I (↑i:Int),VV.slice (VA.rw 1 0 0) l.length l.length,I (↑l.length:Int),VV.bool false,VV.nils,VV.ptr (VA.own 0 0),noD l] [.cells (pnL p) 26,VB.mat l.length i C g (22:TypeId) (3:TypeId)]):=by kernel_rfl
def lF0 (p:Nos.Pn) (l:List Nod):LT:=fun lock tt h K=>
 ∃ (C:Nat) (g:Nat->Nat->Int),FitP lock h tt ⟨2,[0,1].zip (maB p l.length 0 C g)⟩ (dsF0.zip (I 0::tM l))/\(l.length<=100/\0<l.length) /\
  ∀ g':Nat->Nat->Int,(∀ a b,a<l.length->b<l.length->g' a b=if a=b then 0 else Nos.WW)->K .normal (dsF0.zip (I l.length::tM l)) ⟨2,[0,1].zip (maB p l.length l.length l.length g')⟩
end Go.Sx.Nod
namespace Go.Sx.Nod
open Go Go.Sx Go.Proofs
set_option maxRecDepth 1000000
theorem rowM_eq (g:Nat->Nat->Int) (i:Nat) (f:Nat->Int) (a b:Nat):rowM g i f a b=if a=i then f b else g a b:=by
 unfold rowM
 by_cases h:a=i
 ·rw [if_pos h,beq_t h]; rfl
 ·rw [if_neg h,beq_f h]; rfl
section
variable {p:Nos.Pn} {l:List Nod} {r C:Nat}
theorem lF2_ok {i:Nat} {g:Nat->Nat->Int}:LSound Try.prog true (.block 2 (.loop (loopB 2 (bodyOf Try.prog 47)))) (ntOf Try.prog 47) (lF2 p l i r C g):=by
 by_cases hh:l.length<=100/\i<r/\C=l.length/\r<=l.length
 ·obtain ⟨hn,hi,hC,hr⟩:=hh
  refine loop_row hmix good0 (un:=10) (ds:=dsF2) (ns:=[0,1]) (nx:=3) (fun s:Nat × (Nat->Nat->Int)=>I s.1::I i::tM l) (fun s=>maB p l.length r C s.2) (fun s=>s.1<=l.length/\∀ a b,a<r->b<C->s.2 a b=if a=i/\b<s.1 then Nos.WW else g a b) (fun s=>l.length - s.1)
   (fun _ e vs bs=>e=.exit 2/\vs=(I l.length::I i::tM l)/\∃ g':Nat->Nat->Int,(∀ a b,a<r->b<C->g' a b=if a=i then Nos.WW else g a b)/\bs=maB p l.length r C g') noL_ok ?_ ?_
  ·rintro ⟨k,g1⟩ ⟨hk,hg⟩
   dsimp only at hk hg
   refine cast (f2_ev p l i k r C g1 _).symm ?_
   refine cond_d (fun h=>cond_dk ⟨by omega,by omega⟩ (cond_dk (by omega) (cond_dk ⟨by omega,by omega⟩ (cond_dk ⟨by omega,by omega⟩ (cond_r (by omega) ?_))))) (fun h=>?_)
   ·refine ⟨(k+1,setM g1 (0+(i:Int).toNat+1 - 1) (0+(k:Int).toNat) 1125899906842624),⟨by omega,fun a b ha hb=>?_⟩,by dsimp only; omega,rfl,fitBs_refl _,fun _ _ _ h=>h⟩
    dsimp only
    rw [setM_eq,hg a b ha hb]
    by_cases h1:a=0+(i:Int).toNat+1 - 1/\b=0+(k:Int).toNat
    ·rw [if_pos h1,if_pos (by omega)]
    ·rw [if_neg h1]
     by_cases h2:a=i/\b<k
     ·rw [if_pos h2,if_pos (by omega)]
     ·rw [if_neg h2,if_neg (by omega)]
   ·obtain rfl:k=l.length:=by omega
    refine ⟨rfl,rfl,g1,fun a b ha hb=>?_,rfl⟩
    rw [hg a b ha hb]
    by_cases h2:a=i
    ·rw [if_pos h2,if_pos (by omega)]
    ·rw [if_neg h2,if_neg (by omega)]
  ·rintro lock tt h K ⟨hf,_,hK⟩
   refine ⟨(0,g),hf,⟨Nat.zero_le _,fun a b _ _=>by rw [if_neg (by omega)]⟩,?_⟩
   rintro e vs bs ⟨rfl,rfl,g',h1,rfl⟩
   exact hK g' h1
 ·rintro lock tt h K ⟨hf,hc,_⟩
  exact (hh hc).elim
theorem lsp_F {i:Nat} {g:Nat->Nat->Int}:∀ id T,tabB [(2,lF2 p l i r C g)] id=some T->∀ b' ∈ blocksOf id (loopB 0 (bodyOf Try.prog 47)),LSound Try.prog true (.block id b') (ntOf Try.prog 47) T:=
 lsp_one (by kernel_rfl) lF2_ok
theorem lF0_ok:LSound Try.prog true (.block 0 (.loop (loopB 0 (bodyOf Try.prog 47)))) (ntOf Try.prog 47) (lF0 p l):=by
 by_cases hh:l.length<=100/\0<l.length
 ·obtain ⟨hn,h0⟩:=hh
  refine loop_rowD hmix good0 (un:=10) (ds:=dsF0) (ns:=[0,1]) (nx:=2) (lsp:=fun s:Nat × Nat × (Nat->Nat->Int)=>tabB [(2,lF2 p l s.1 (s.1+1) l.length (rowM s.2.2 s.1 fun _=>0))]) (fun s=>I s.1::tM l) (fun s=>maB p l.length s.1 s.2.1 s.2.2) (fun s=>s.1<=l.length/\(s.1=0 ∨ s.2.1=l.length)/\∀ a b,a<s.1->b<l.length->s.2.2 a b=if a=b then 0 else Nos.WW) (fun s=>l.length - s.1)
   (fun _ e vs bs=>e=.exit 0/\vs=(I l.length::tM l)/\∃ g':Nat->Nat->Int,(∀ a b,a<l.length->b<l.length->g' a b=if a=b then 0 else Nos.WW)/\bs=maB p l.length l.length l.length g') (fun _ _=>lsp_F) ?_ ?_
  ·rintro ⟨i,C,g⟩ ⟨hi,hC,hg⟩
   dsimp only at hi hC hg
   refine cast (f0_ev p l i C g _).symm ?_
   refine cond_d (fun h=>cond_dk ⟨by omega,rfl⟩ (cond_k (room8 (by omega)) (cond_dk ⟨by omega,by omega⟩ (cond_k ?_ ⟨⟨⟨rfl,rfl,VB.fit_refl _,VB.fit_refl _,trivial⟩,rfl,rfl,rfl,rfl,rfl,rfl,rfl,rfl,trivial⟩,⟨hn,by omega,rfl,by omega⟩,fun g' h1=>cond_dk ⟨by omega,by omega⟩ (cond_dk (by omega) (cond_dk ⟨by omega,by omega⟩ (cond_dk ⟨by omega,by omega⟩ (cond_r (by omega) ?_))))⟩)))) (fun h=>?_)
   ·rw [Int.toNat_natCast,Int.toNat_natCast,Nat.mul_one,Nat.zero_add,Nat.beq_refl,Nat.beq_refl,decide_eq_true (show i<l.length by omega),decide_eq_true h0]
    rcases hC with rfl | rfl
    ·rfl
    ·rw [Nat.beq_refl,Nat.beq_refl]
     cases Nat.beq i 0 <;> rfl
   ·refine ⟨(i+1,l.length,setM g' (0+(i:Int).toNat+1 - 1) (0+(i:Int).toNat) 0),⟨by omega,.inr rfl,fun a b ha hb=>?_⟩,by dsimp only; omega,rfl,fitBs_refl _,fun _ _ _ h=>h⟩
    dsimp only at ha hb ⊢
    rw [setM_eq,h1 a b ha hb,rowM_eq]
    by_cases e1:a=i
    ·subst e1
     by_cases e2:a=b
     ·rw [if_pos (by omega),if_pos e2]
     ·rw [if_neg (by omega),if_pos rfl,if_neg e2]
    ·rw [if_neg (by omega),if_neg e1,if_neg e1]
     exact hg a b (by omega) hb
   ·obtain rfl:i=l.length:=by omega
    obtain rfl:C=l.length:=by omega
    exact ⟨rfl,rfl,g,hg,rfl⟩
  ·rintro lock tt h K ⟨C,g,hf,_,hK⟩
   exact ⟨(0,C,g),hf,⟨Nat.zero_le _,.inl rfl,fun a b ha _=>absurd ha (Nat.not_lt_zero _)⟩,by
    rintro e vs bs ⟨rfl,rfl,g',h1,rfl⟩
    exact hK g' h1⟩
 ·rintro lock tt h K ⟨C,g,hf,hc,_⟩
  exact (hh hc).elim
end
end Go.Sx.Nod
namespace Go.Sx.Nod
open Go Go.Sx Go.Proofs
set_option maxRecDepth 1000000
def ixL (p:Nos.Pn) (l:List Nod):FuncId × Spec1:=(51,fun _ args h K=>match args with
 | [y,.agg [.int .i64 a,.int .i64 b,.int .i64 c]]=>isD h 2 y (noD l)/\(l=ndF p/\Nos.PnOk p/\(⟨a,b,c⟩:Nod) ∈ ndF p)/\∀ q:Nat,q=nx p ⟨a,b,c⟩->K (.ret (I q)) h
 | _=>False)
def dsT4:List Nat:=[10,7,6,5,4,2,1]
theorem t4_ev (p:Nos.Pn) (l:List Nod) (i:Nat) (g:Nat->Nat->Int) (X:VEx->List VV->List VB->Prop):codeE Try.prog (callN Try.prog (tabS [ixL p l]) noL 10 20) (fun _=>none) true 10 (ntOf Try.prog 47) 0 (loopB 4 (bodyOf Try.prog 47)) (dsT4.zip (I i::tM l)) ⟨2,[0,1].zip (maB p l.length l.length l.length g)⟩ (obs 2 dsT4 [0,1] X) =
 (bif decide ((↑i:Int)<(↑p.T.length:Int)) then
 bif decide ((0:Int)<=(↑i:Int)/\(↑i:Int)<(↑p.T.length:Int)) then
 isD (maskH [0,1,2] (VH.mk (3) ((2,VB.cells [I (p.T.getD (↑i:Int).toNat Nos.t0).j,I (p.T.getD (↑i:Int).toNat Nos.t0).s,I (p.T.getD (↑i:Int).toNat Nos.t0).p,I (p.T.getD (↑i:Int).toNat Nos.t0).c,I (p.T.getD (↑i:Int).toNat Nos.t0).o] 32)::(2,VB.cells [I 0,I 0,I 0,I 0,I 0] 32)::[0,1].zip (maB p l.length l.length l.length g)))) 2 (noD l) (noD l)/\(l=ndF p/\Nos.PnOk p/\Nod.mk (1:Int) (p.T.getD (↑i:Int).toNat Nos.t0).s (0:Int) ∈ ndF p)/\∀ (q:Nat),q=nx p (Nod.mk (1:Int) (p.T.getD (↑i:Int).toNat Nos.t0).s (0:Int))->isD (VH.mk (3) ((2,VB.cells [I (p.T.getD (↑i:Int).toNat Nos.t0).j,I (p.T.getD (↑i:Int).toNat Nos.t0).s,I (p.T.getD (↑i:Int).toNat Nos.t0).p,I (p.T.getD (↑i:Int).toNat Nos.t0).c,I (p.T.getD (↑i:Int).toNat Nos.t0).o] 32)::(2,VB.cells [I 0,I 0,I 0,I 0,I 0] 32)::[0,1].zip (maB p l.length l.length l.length g))) 2 (noD l) (noD l)/\(l=ndF p/\Nos.PnOk p/\Nod.mk (2:Int) (p.T.getD (↑i:Int).toNat Nos.t0).j (p.T.getD (↑i:Int).toNat Nos.t0).p ∈ ndF p)/\∀ (q_1:Nat),q_1=nx p (Nod.mk (2:Int) (p.T.getD (↑i:Int).toNat Nos.t0).j (p.T.getD (↑i:Int).toNat Nos.t0).p)->bif decide ((0:Int)<=(↑q:Int)/\(↑q:Int)<(↑l.length:Int)) then
 bif decide (0+(↑q:Int).toNat<l.length) then
 bif decide ((0:Int)<=(↑q:Int)/\(↑q:Int)<(↑l.length:Int)) then
 bif decide (0+(↑q:Int).toNat<l.length) then
 bif decide ((0:Int)<=(↑q_1:Int)/\(↑q_1:Int)<(↑l.length:Int)) then
 bif decide (0+(↑q:Int).toNat+1 - 1<l.length/\0+(↑q_1:Int).toNat<l.length) then
 bif inK .i64 ((p.T.getD (↑i:Int).toNat Nos.t0).c+(p.T.getD (↑i:Int).toNat Nos.t0).o) then
 bif decide ((0:Int)<=(↑q_1:Int)/\(↑q_1:Int)<(↑l.length:Int)) then
 bif decide (0+(↑q:Int).toNat+1 - 1<l.length/\0+(↑q_1:Int).toNat<l.length) then
 bif decide ((0:Int)<=(↑q_1:Int)/\(↑q_1:Int)<(↑l.length:Int)) then
 bif decide (0+(↑q_1:Int).toNat<l.length) then
 bif decide ((0:Int)<=(↑q_1:Int)/\(↑q_1:Int)<(↑l.length:Int)) then
 bif decide (0+(↑q_1:Int).toNat<l.length) then
 bif decide ((0:Int)<=(↑q:Int)/\(↑q:Int)<(↑l.length:Int)) then
 bif decide (0+(↑q_1:Int).toNat+1 - 1<l.length/\0+(↑q:Int).toNat<l.length) then
 bif inK .i64 ((p.T.getD (↑i:Int).toNat Nos.t0).o - (p.T.getD (↑i:Int).toNat Nos.t0).c) then
 bif decide ((0:Int)<=(↑q:Int)/\(↑q:Int)<(↑l.length:Int)) then
 bif decide (0+(↑q_1:Int).toNat+1 - 1<l.length/\0+(↑q:Int).toNat<l.length) then
 bif inK .i64 ((↑i:Int)+(1:Int)) then
 X .normal [I ((↑i:Int)+(1:Int)),VV.slice (VA.rw 1 0 0) l.length l.length,I (↑l.length:Int),VV.bool false,VV.nils,VV.ptr (VA.own 0 0),noD l] [.cells (pnL p) 26,VB.mat l.length l.length l.length (setM (setM g (0+(↑q:Int).toNat+1 - 1) (0+(↑q_1:Int).toNat) (min (g (0+(↑q:Int).toNat+1 - 1) (0+(↑q_1:Int).toNat)) ((p.T.getD (↑i:Int).toNat Nos.t0).c+(p.T.getD (↑i:Int).toNat Nos.t0).o))) (0+(↑q_1:Int).toNat+1 - 1) (0+(↑q:Int).toNat) (min (setM g (0+(↑q:Int).toNat+1 - 1) (0+(↑q_1:Int).toNat) (min (g (0+(↑q:Int).toNat+1 - 1) (0+(↑q_1:Int).toNat)) ((p.T.getD (↑i:Int).toNat Nos.t0).c+(p.T.getD (↑i:Int).toNat Nos.t0).o)) (0+(↑q_1:Int).toNat+1 - 1) (0+(↑q:Int).toNat)) ((p.T.getD (↑i:Int).toNat Nos.t0).o - (p.T.getD (↑i:Int).toNat Nos.t0).c))) (22:TypeId) (3:TypeId)]
 else False
 else False
 else False
 else False
 else False
 else False
 else False
 else False
 else False
 else False
 else False
 else False
 else False
 else False
 else False
 else False
 else False
 else False
 else False
 else False
 else X (VEx.exit 4) [I (↑i:Int),VV.slice (VA.rw 1 0 0) l.length l.length,I (↑l.length:Int),VV.bool false,VV.nils,VV.ptr (VA.own 0 0),noD l] [.cells (pnL p) 26,VB.mat l.length l.length l.length g (22:TypeId) (3:TypeId)]):=by kernel_rfl
def dsS6:List Nat:=[14,7,6,5,4,2,1]
theorem s6_ev (p:Nos.Pn) (l:List Nod) (i:Nat) (g:Nat->Nat->Int) (X:VEx->List VV->List VB->Prop):codeE Try.prog (callN Try.prog (tabS [ixL p l]) noL 10 20) (fun _=>none) true 10 (ntOf Try.prog 47) 0 (loopB 6 (bodyOf Try.prog 47)) (dsS6.zip (I i::tM l)) ⟨2,[0,1].zip (maB p l.length l.length l.length g)⟩ (obs 2 dsS6 [0,1] X) =
 (bif decide ((↑i:Int)<(↑p.S.length:Int)) then
 bif decide ((0:Int)<=(↑i:Int)/\(↑i:Int)<(↑p.S.length:Int)) then
 isD (VH.mk 2 ([0,1].zip (maB p l.length l.length l.length g))) 2 (noD l) (noD l)/\(l=ndF p/\Nos.PnOk p/\Nod.mk (1:Int) (p.S.getD (↑i:Int).toNat Nos.s0).s (0:Int) ∈ ndF p)/\∀ (q:Nat),q=nx p (Nod.mk (1:Int) (p.S.getD (↑i:Int).toNat Nos.s0).s (0:Int))->bif decide ((0:Int)<=(↑q:Int)/\(↑q:Int)<(↑l.length:Int)) then
 bif decide (0+(↑q:Int).toNat<l.length) then
 bif decide ((0:Int)<=(↑q:Int)/\(↑q:Int)<(↑l.length:Int)) then
 bif decide (0+(↑q:Int).toNat<l.length) then
 bif decide ((0:Int)<=(0:Int)/\(0:Int)<(↑l.length:Int)) then
 bif decide (0+(↑q:Int).toNat+1 - 1<l.length/\0+Int.toNat (0:Int)<l.length) then
 bif decide ((0:Int)<=(↑i:Int)/\(↑i:Int)<(↑p.S.length:Int)) then
 bif decide ((0:Int)<=(0:Int)/\(0:Int)<(↑l.length:Int)) then
 bif decide (0+(↑q:Int).toNat+1 - 1<l.length/\0+Int.toNat (0:Int)<l.length) then
 bif decide ((0:Int)<=(0:Int)/\(0:Int)<(↑l.length:Int)) then
 bif decide (0+Int.toNat (0:Int)<l.length) then
 bif decide ((0:Int)<=(0:Int)/\(0:Int)<(↑l.length:Int)) then
 bif decide (0+Int.toNat (0:Int)<l.length) then
 bif decide ((0:Int)<=(↑q:Int)/\(↑q:Int)<(↑l.length:Int)) then
 bif decide (0+Int.toNat (0:Int)+1 - 1<l.length/\0+(↑q:Int).toNat<l.length) then
 bif decide ((0:Int)<=(↑i:Int)/\(↑i:Int)<(↑p.S.length:Int)) then
 bif inK .i64 ((0:Int) - (p.S.getD (↑i:Int).toNat Nos.s0).lo) then
 bif decide ((0:Int)<=(↑q:Int)/\(↑q:Int)<(↑l.length:Int)) then
 bif decide (0+Int.toNat (0:Int)+1 - 1<l.length/\0+(↑q:Int).toNat<l.length) then
 bif inK .i64 ((↑i:Int)+(1:Int)) then
 X .normal [I ((↑i:Int)+(1:Int)),VV.slice (VA.rw 1 0 0) l.length l.length,I (↑l.length:Int),VV.bool false,VV.nils,VV.ptr (VA.own 0 0),noD l] [.cells (pnL p) 26,VB.mat l.length l.length l.length (setM (setM g (0+(↑q:Int).toNat+1 - 1) (0+Int.toNat (0:Int)) (min (g (0+(↑q:Int).toNat+1 - 1) (0+Int.toNat (0:Int))) (p.S.getD (↑i:Int).toNat Nos.s0).hi)) (0+Int.toNat (0:Int)+1 - 1) (0+(↑q:Int).toNat) (min (setM g (0+(↑q:Int).toNat+1 - 1) (0+Int.toNat (0:Int)) (min (g (0+(↑q:Int).toNat+1 - 1) (0+Int.toNat (0:Int))) (p.S.getD (↑i:Int).toNat Nos.s0).hi) (0+Int.toNat (0:Int)+1 - 1) (0+(↑q:Int).toNat)) ((0:Int) - (p.S.getD (↑i:Int).toNat Nos.s0).lo))) (22:TypeId) (3:TypeId)]
 else False
 else False
 else False
 else False
 else False
 else False
 else False
 else False
 else False
 else False
 else False
 else False
 else False
 else False
 else False
 else False
 else False
 else False
 else False
 else False
 else False
 else X (VEx.exit 6) [I (↑i:Int),VV.slice (VA.rw 1 0 0) l.length l.length,I (↑l.length:Int),VV.bool false,VV.nils,VV.ptr (VA.own 0 0),noD l] [.cells (pnL p) 26,VB.mat l.length l.length l.length g (22:TypeId) (3:TypeId)]):=by kernel_rfl
def gFit (p:Nos.Pn) (l:List Nod) (ds:List Nat) (vs:List VV) (P0 P1:Nat->Nat->Int->Prop) (vs':List VV):LT:=fun lock tt h K=>
 ∃ g:Nat->Nat->Int,FitP lock h tt ⟨2,[0,1].zip (maB p l.length l.length l.length g)⟩ (ds.zip (vs ++ tM l))/\(l=ndF p/\Nos.PnOk p)/\MO l.length P0 g /\
  ∀ g':Nat->Nat->Int,MO l.length P1 g'->K .normal (ds.zip (vs' ++ tM l)) ⟨2,[0,1].zip (maB p l.length l.length l.length g')⟩
def lT4 (p:Nos.Pn) (l:List Nod):LT:=gFit p l dsT4 [I 0] P0 (PT p p.T.length) [I p.T.length]
def lS6 (p:Nos.Pn) (l:List Nod):LT:=gFit p l dsS6 [I 0] (PT p p.T.length) (PS p p.S.length) [I p.S.length]
def dsD10:List Nat:=[17,16,7,6,5,4,2,1]
theorem d10_ev (p:Nos.Pn) (l:List Nod) (i k:Nat) (g:Nat->Nat->Int) (X:VEx->List VV->List VB->Prop):codeE Try.prog (callN Try.prog noSpec noL 10 20) (fun _=>none) true 10 (ntOf Try.prog 47) 0 (loopB 10 (bodyOf Try.prog 47)) (dsD10.zip (I k::I i::tM l)) ⟨2,[0,1].zip (maB p l.length l.length l.length g)⟩ (obs 2 dsD10 [0,1] X) =
 (bif decide ((↑k:Int)<(↑l.length:Int)) then
 bif decide ((0:Int)<=(↑i:Int)/\(↑i:Int)<(↑l.length:Int)) then
 bif decide ((l.getD (↑i:Int).toNat n0).k=(2:Int)) then
 bif decide ((0:Int)<=(↑k:Int)/\(↑k:Int)<(↑l.length:Int)) then
 bif decide ((l.getD (↑k:Int).toNat n0).k=(2:Int)) then
 bif decide ((0:Int)<=(↑i:Int)/\(↑i:Int)<(↑l.length:Int)) then
 bif decide ((0:Int)<=(↑k:Int)/\(↑k:Int)<(↑l.length:Int)) then
 bif decide ((l.getD (↑i:Int).toNat n0).n=(l.getD (↑k:Int).toNat n0).n) then
 bif !decide ((↑i:Int)=(↑k:Int)) then
 bif decide ((0:Int)<=(↑i:Int)/\(↑i:Int)<(↑l.length:Int)) then
 bif decide (0+(↑i:Int).toNat<l.length) then
 bif decide ((0:Int)<=(↑i:Int)/\(↑i:Int)<(↑l.length:Int)) then
 bif decide (0+(↑i:Int).toNat<l.length) then
 bif decide ((0:Int)<=(↑k:Int)/\(↑k:Int)<(↑l.length:Int)) then
 bif decide (0+(↑i:Int).toNat+1 - 1<l.length/\0+(↑k:Int).toNat<l.length) then
 bif decide ((0:Int)<=(↑i:Int)/\(↑i:Int)<(↑l.length:Int)) then
 bif decide ((0:Int)<=(l.getD (↑i:Int).toNat n0).n/\(l.getD (↑i:Int).toNat n0).n<(↑p.D.length:Int)) then
 bif decide ((0:Int)<=(↑i:Int)/\(↑i:Int)<(↑l.length:Int)) then
 bif decide ((0:Int)<=(↑k:Int)/\(↑k:Int)<(↑l.length:Int)) then
 bif inK .i64 ((l.getD (↑i:Int).toNat n0).a - (l.getD (↑k:Int).toNat n0).a) then
 bif decide ((0:Int)<=(↑k:Int)/\(↑k:Int)<(↑l.length:Int)) then
 bif decide ((0:Int)<=(↑i:Int)/\(↑i:Int)<(↑l.length:Int)) then
 bif inK .i64 ((l.getD (↑k:Int).toNat n0).a - (l.getD (↑i:Int).toNat n0).a) then
 bif inK .i64 (p.D.getD (l.getD (↑i:Int).toNat n0).n.toNat (0:Int)*max ((l.getD (↑i:Int).toNat n0).a - (l.getD (↑k:Int).toNat n0).a) ((l.getD (↑k:Int).toNat n0).a - (l.getD (↑i:Int).toNat n0).a)) then
 bif decide ((0:Int)<=(↑k:Int)/\(↑k:Int)<(↑l.length:Int)) then
 bif decide (0+(↑i:Int).toNat+1 - 1<l.length/\0+(↑k:Int).toNat<l.length) then
 bif inK .i64 ((↑k:Int)+(1:Int)) then
 X .normal [I ((↑k:Int)+(1:Int)),I (↑i:Int),VV.slice (VA.rw 1 0 0) l.length l.length,I (↑l.length:Int),VV.bool false,VV.nils,VV.ptr (VA.own 0 0),noD l] [.cells (pnL p) 26,VB.mat l.length l.length l.length (setM g (0+(↑i:Int).toNat+1 - 1) (0+(↑k:Int).toNat) (min (g (0+(↑i:Int).toNat+1 - 1) (0+(↑k:Int).toNat)) (p.D.getD (l.getD (↑i:Int).toNat n0).n.toNat (0:Int)*max ((l.getD (↑i:Int).toNat n0).a - (l.getD (↑k:Int).toNat n0).a) ((l.getD (↑k:Int).toNat n0).a - (l.getD (↑i:Int).toNat n0).a)))) (22:TypeId) (3:TypeId)]
 else False
 else False
 else False
 else False
 else False
 else False
 else False
 else False
 else False
 else False
 else False
 else False
 else False
 else False
 else False
 else False
 else False
 else False
 else bif inK .i64 ((↑k:Int)+(1:Int)) then
 X .normal [I ((↑k:Int)+(1:Int)),I (↑i:Int),VV.slice (VA.rw 1 0 0) l.length l.length,I (↑l.length:Int),VV.bool false,VV.nils,VV.ptr (VA.own 0 0),noD l] [.cells (pnL p) 26,VB.mat l.length l.length l.length g (22:TypeId) (3:TypeId)]
 else False
 else bif inK .i64 ((↑k:Int)+(1:Int)) then
 X .normal [I ((↑k:Int)+(1:Int)),I (↑i:Int),VV.slice (VA.rw 1 0 0) l.length l.length,I (↑l.length:Int),VV.bool false,VV.nils,VV.ptr (VA.own 0 0),noD l] [.cells (pnL p) 26,VB.mat l.length l.length l.length g (22:TypeId) (3:TypeId)]
 else False
 else False
 else False
 else bif inK .i64 ((↑k:Int)+(1:Int)) then
 X .normal [I ((↑k:Int)+(1:Int)),I (↑i:Int),VV.slice (VA.rw 1 0 0) l.length l.length,I (↑l.length:Int),VV.bool false,VV.nils,VV.ptr (VA.own 0 0),noD l] [.cells (pnL p) 26,VB.mat l.length l.length l.length g (22:TypeId) (3:TypeId)]
 else False
 else False
 else bif inK .i64 ((↑k:Int)+(1:Int)) then
 X .normal [I ((↑k:Int)+(1:Int)),I (↑i:Int),VV.slice (VA.rw 1 0 0) l.length l.length,I (↑l.length:Int),VV.bool false,VV.nils,VV.ptr (VA.own 0 0),noD l] [.cells (pnL p) 26,VB.mat l.length l.length l.length g (22:TypeId) (3:TypeId)]
 else False
 else False
 else X (VEx.exit 10) [I (↑k:Int),I (↑i:Int),VV.slice (VA.rw 1 0 0) l.length l.length,I (↑l.length:Int),VV.bool false,VV.nils,VV.ptr (VA.own 0 0),noD l] [.cells (pnL p) 26,VB.mat l.length l.length l.length g (22:TypeId) (3:TypeId)]):=by kernel_rfl
def lD10 (p:Nos.Pn) (l:List Nod) (i:Nat):LT:=fun lock tt h K=>(i<l.length)/\gFit p l dsD10 [I 0,I i] (PD p i 0) (PD p i l.length) [I l.length,I i] lock tt h K
def dsD8:List Nat:=[16,7,6,5,4,2,1]
theorem d8_ev (p:Nos.Pn) (l:List Nod) (i:Nat) (g:Nat->Nat->Int) (X:VEx->List VV->List VB->Prop):codeE Try.prog (callN Try.prog noSpec noL 10 20) (tabB [(10,lD10 p l i)]) true 10 (ntOf Try.prog 47) 0 (loopB 8 (bodyOf Try.prog 47)) (dsD8.zip (I i::tM l)) ⟨2,[0,1].zip (maB p l.length l.length l.length g)⟩ (obs 2 dsD8 [0,1] X) =
 (bif decide ((↑i:Int)<(↑l.length:Int)) then
 i<l.length/\∃ (g_1:Nat->Nat->Int),FitP 0 (VH.mk 2 ([0,1].zip (maB p l.length l.length l.length g))) ((17,I 0)::(172,VV.bool true)::(172,VV.bool (decide ((↑i:Int)<(↑l.length:Int))))::(171,I (↑l.length:Int))::(170,I (↑i:Int))::dsD8.zip (I (↑i:Int)::tM l)) (VH.mk 2 ([0,1].zip (maB p l.length l.length l.length g_1))) (dsD10.zip ([I 0,I (↑i:Int)] ++ tM l))/\(l=ndF p/\Nos.PnOk p)/\MO l.length (PD p i 0) g_1/\∀ (g':Nat->Nat->Int),MO l.length (PD p i l.length) g'->bif inK .i64 ((↑i:Int)+(1:Int)) then
 X .normal [I ((↑i:Int)+(1:Int)),VV.slice (VA.rw 1 0 0) l.length l.length,I (↑l.length:Int),VV.bool false,VV.nils,VV.ptr (VA.own 0 0),noD l] [.cells (pnL p) 26,VB.mat l.length l.length l.length g' (22:TypeId) (3:TypeId)]
 else False
 else X (VEx.exit 8) [I (↑i:Int),VV.slice (VA.rw 1 0 0) l.length l.length,I (↑l.length:Int),VV.bool false,VV.nils,VV.ptr (VA.own 0 0),noD l] [.cells (pnL p) 26,VB.mat l.length l.length l.length g (22:TypeId) (3:TypeId)]):=by kernel_rfl
def lD8 (p:Nos.Pn) (l:List Nod):LT:=gFit p l dsD8 [I 0] (PS p p.S.length) (PD p l.length 0) [I l.length]
end Go.Sx.Nod
namespace Go.Sx.Nod
open Go Go.Sx Go.Proofs
open Go.Sx.Nos (PnOk t0 s0)
set_option maxRecDepth 1000000
theorem isD_no {h:VH} {l:List Nod} {k:Nat}:isD h (k+1) (noD l) (noD l):=⟨rfl,rfl,fun _ _=>rfl⟩
theorem z0 (q:Nat):0+(q:Int).toNat=q:=by omega
theorem z1 (q:Nat):0+(q:Int).toNat+1 - 1=q:=by omega
section
variable {p:Nos.Pn} {l:List Nod}
theorem ixL_ok:SpOk Try.prog (ixL p l).1 (ixL p l).2:=by
 intro lock args h K hK
 simp only [ixL] at hK
 split at hK
 ·rename_i y a b c
  obtain ⟨h1,⟨rfl,hp,hm⟩,hK⟩:=hK
  have hn:(ndF p).length<=100000:=Nat.le_trans (ndF_le hp) (by decide)
  obtain ⟨h',hc⟩:=index_v (x:=⟨a,b,c⟩) hn
  rw [ixF_nx hp hm] at hc
  exact ⟨_,h,hK _ rfl,lockP_refl _ _,calls_lendDP 2 hc rfl ⟨h1,⟨⟨rfl,rfl⟩,⟨rfl,rfl⟩,⟨rfl,rfl⟩,trivial⟩,trivial⟩⟩
 ·exact hK.elim
theorem PT_succ {i:Nat} (a b:Nat) (v:Int):(PT p i a b v ∨ (a=nx p (vX (p.T.getD i t0).s)/\b=nx p (cX (p.T.getD i t0).j (p.T.getD i t0).p)/\v=(p.T.getD i t0).c+(p.T.getD i t0).o)) ∨ (a=nx p (cX (p.T.getD i t0).j (p.T.getD i t0).p)/\b=nx p (vX (p.T.getD i t0).s)/\v=(p.T.getD i t0).o - (p.T.getD i t0).c) ↔ PT p (i+1) a b v:=by
 rw [or_assoc]
 constructor
 ·rintro (⟨j,h1,h2⟩ | h)
  ·exact ⟨j,by omega,h2⟩
  ·exact ⟨i,by omega,h⟩
 ·rintro ⟨j,h1,h2⟩
  by_cases hj:j=i
  ·subst hj; exact .inr h2
  ·exact .inl ⟨j,by omega,h2⟩
theorem PS_succ {i:Nat} (a b:Nat) (v:Int):(PS p i a b v ∨ (a=nx p (vX (p.S.getD i s0).s)/\b=0/\v=(p.S.getD i s0).hi)) ∨ (a=0/\b=nx p (vX (p.S.getD i s0).s)/\v=0 - (p.S.getD i s0).lo) ↔ PS p (i+1) a b v:=by
 rw [or_assoc]
 unfold PS
 rw [or_assoc]
 refine or_congr Iff.rfl ?_
 constructor
 ·rintro (⟨j,h1,h2⟩ | h)
  ·exact ⟨j,by omega,h2⟩
  ·exact ⟨i,by omega,h⟩
 ·rintro ⟨j,h1,h2⟩
  by_cases hj:j=i
  ·subst hj; exact .inr h2
  ·exact .inl ⟨j,by omega,h2⟩
theorem gFit_ok {lp:Nat} {sp:FuncId->Option Spec1} (hsp:∀ f T,sp f=some T->SpOk Try.prog f T) {ds:List Nat} (V:Nat->List VV) (N:Nat) (Q:Nat->Nat->Nat->Int->Prop) {P0 P1:Nat->Nat->Int->Prop} {vs0 vs1:List VV} (lsp:Nat->Nat->Option LT)
  (hls:∀ i id T,lsp i id=some T->∀ b' ∈ blocksOf id (loopB lp (bodyOf Try.prog 47)),LSound Try.prog true (.block id b') (ntOf Try.prog 47) T)
  (hr:l=ndF p->PnOk p->∀ i g (X:VEx->List VV->List VB->Prop),i<=N->MO l.length (Q i) g->(i<N->∀ g',MO l.length (Q (i+1)) g'->X .normal (V (i+1) ++ tM l) (maB p l.length l.length l.length g'))->(i=N->X (.exit lp) (V i ++ tM l) (maB p l.length l.length l.length g)) ->
   codeE Try.prog (callN Try.prog sp noL 10 20) (lsp i) true 10 (ntOf Try.prog 47) 0 (loopB lp (bodyOf Try.prog 47)) (ds.zip (V i ++ tM l)) ⟨2,[0,1].zip (maB p l.length l.length l.length g)⟩ (obs 2 ds [0,1] X))
  (hv0:V 0=vs0) (hv1:V N=vs1) (h0:∀ a b v,P0 a b v ↔ Q 0 a b v) (h1:∀ a b v,b<l.length->(Q N a b v ↔ P1 a b v)) :
  LSound Try.prog true (.block lp (.loop (loopB lp (bodyOf Try.prog 47)))) (ntOf Try.prog 47) (gFit p l ds vs0 P0 P1 vs1):=by
 subst hv0
 subst hv1
 by_cases hh:l=ndF p/\PnOk p
 ·obtain ⟨hl,hp⟩:=hh
  refine loop_rowD hmix (noL_good hsp) (un:=10) (ds:=ds) (ns:=[0,1]) (nx:=2) (lsp:=fun s:Nat × (Nat->Nat->Int)=>lsp s.1) (fun s=>V s.1 ++ tM l) (fun s=>maB p l.length l.length l.length s.2) (fun s=>s.1<=N/\MO l.length (Q s.1) s.2) (fun s=>N - s.1)
   (fun _ e vs bs=>e=.exit lp/\vs=V N ++ tM l/\∃ g',MO l.length (Q N) g'/\bs=maB p l.length l.length l.length g') (fun s _=>hls s.1) ?_ ?_
  ·rintro ⟨i,g⟩ ⟨hi,hg⟩
   dsimp only at hi hg
   refine hr hl hp i g _ hi hg (fun hiN g' hg'=>?_) (fun hiN=>?_)
   ·exact ⟨(i+1,g'),⟨by show i+1<=N; omega,hg'⟩,by show N - (i+1)<N - i; omega,rfl,fitBs_refl _,fun _ _ _ h=>h⟩
   ·subst hiN
    exact ⟨rfl,rfl,g,hg,rfl⟩
  ·rintro lock tt h K ⟨g,hf,_,hg,hK⟩
   refine ⟨(0,g),hf,⟨Nat.zero_le _,hg.congr fun a b v _ _=>h0 a b v⟩,?_⟩
   rintro e vs bs ⟨rfl,rfl,g',h2,rfl⟩
   have:=hK g' (h2.congr fun a b v _ hb=>h1 a b v hb)
   rw [show exitOf lp (.exit lp)=.normal by simp [exitOf]]
   exact this
 ·rintro lock tt h K ⟨g,hf,hc,_⟩
  exact (hh hc).elim
theorem lT4_ok:LSound Try.prog true (.block 4 (.loop (loopB 4 (bodyOf Try.prog 47)))) (ntOf Try.prog 47) (lT4 p l):=by
 refine gFit_ok (tab1 (ixL_ok (p:=p) (l:=l))) (fun i=>[I i]) p.T.length (PT p) (fun _ _=>none) (fun _=>noL_ok) (fun hl hp i g X hi hg k1 k2=>?_) rfl rfl (fun a b v=>⟨fun h=>h.elim,fun ⟨j,h,_⟩=>absurd h (Nat.not_lt_zero _)⟩) (fun _ _ _ _=>Iff.rfl)
 refine cast (t4_ev p l i g _).symm ?_
 refine cond_d (fun h=>cond_dk ⟨by omega,by omega⟩ ?_) (fun h=>k2 (by omega))
 have hi2:i<p.T.length:=by omega
 have hT:=hp.t
 have ht:p.T.getD (i:Int).toNat t0 ∈ p.T:=(Nos.getT hi2).1
 have hb:=hp.ts _ ht
 have m1:=vT_mem ht
 have m2:=cT_mem ht
 have l1:=nx_lt hp m1
 have l2:=nx_lt hp m2
 rw [<- hl] at l1 l2
 refine ⟨isD_no,⟨hl,hp,m1⟩,fun q hq=>⟨isD_no,⟨hl,hp,m2⟩,fun c hc=>?_⟩⟩
 have q1:q<l.length:=by rw [hq]; exact l1
 have q2:c<l.length:=by rw [hc]; exact l2
 repeat' first
  | refine cond_dk (by omega) ?_
  | refine cond_dk ⟨by omega,by omega⟩ ?_
  | refine cond_r (by omega) ?_
 simp only [z0]
 refine k1 hi2 _ (((hg.set q c _).set c q _).congr fun a b v _ _=>?_)
 rw [<- PT_succ,hq,hc]
 rfl
theorem lS6_ok:LSound Try.prog true (.block 6 (.loop (loopB 6 (bodyOf Try.prog 47)))) (ntOf Try.prog 47) (lS6 p l):=by
 refine gFit_ok (tab1 (ixL_ok (p:=p) (l:=l))) (fun i=>[I i]) p.S.length (PS p) (fun _ _=>none) (fun _=>noL_ok) (fun hl hp i g X hi hg k1 k2=>?_) rfl rfl (fun a b v=>⟨.inl,fun h=>h.elim id fun ⟨j,h,_⟩=>absurd h (Nat.not_lt_zero _)⟩) (fun _ _ _ _=>Iff.rfl)
 refine cast (s6_ev p l i g _).symm ?_
 refine cond_d (fun h=>cond_dk ⟨by omega,by omega⟩ ?_) (fun h=>k2 (by omega))
 have hi2:i<p.S.length:=by omega
 have hS:=hp.s
 have ht:p.S.getD (i:Int).toNat s0 ∈ p.S:=(Nos.getS hi2).1
 have hb:=hp.sd _ ht
 have m1:=vS_mem ht
 have l1:=nx_lt hp m1
 rw [<- hl] at l1
 refine ⟨isD_no,⟨hl,hp,m1⟩,fun q hq=>?_⟩
 have q1:q<l.length:=by rw [hq]; exact l1
 repeat' first
  | refine cond_dk (by omega) ?_
  | refine cond_dk ⟨by omega,by omega⟩ ?_
  | refine cond_r (by omega) ?_
 have e0:0+(0:Int).toNat=0:=rfl
 simp only [z0,e0]
 refine k1 hi2 _ (((hg.set q 0 _).set 0 q _).congr fun a b v _ _=>?_)
 rw [<- PS_succ,hq]
 rfl
theorem lD10_ok {i:Nat}:LSound Try.prog true (.block 10 (.loop (loopB 10 (bodyOf Try.prog 47)))) (ntOf Try.prog 47) (lD10 p l i):=by
 by_cases hil:i<l.length
 ·intro lock tt h K hK
  refine gFit_ok noSp (fun k=>[I k,I i]) l.length (PD p i) (fun _ _=>none) (fun _=>noL_ok) (fun hl hp k g X hk hg k1 k2=>?_) rfl rfl (fun _ _ _=>Iff.rfl) (fun _ _ _ _=>Iff.rfl) lock tt h K hK.2
  refine cast (d10_ev p l i k g _).symm ?_
  have hln:l.length<=65:=by rw [hl]; exact ndF_le hp
  have skip:k<l.length->¬ dC p i k->MO l.length (PD p i (k+1)) g:=fun hk2 hn=>hg.congr fun a b v _ _=>by
   unfold PD
   refine or_congr Iff.rfl ⟨fun ⟨h1,h2⟩=>⟨by omega,h2⟩,fun ⟨h1,h2⟩=>⟨?_,h2⟩⟩
   rcases h1 with h1 | ⟨rfl,h1⟩
   ·exact .inl h1
   ·by_cases hbk:b=k
    ·subst hbk; exact absurd h2.1 hn
    ·exact .inr ⟨rfl,by omega⟩
  refine cond_d (fun h=>?_) (fun h=>k2 (by omega))
  have hk2:k<l.length:=by omega
  have e1:nd p i=l.getD (i:Int).toNat n0:=by rw [hl,Int.toNat_natCast]
  have e2:nd p k=l.getD (k:Int).toNat n0:=by rw [hl,Int.toNat_natCast]
  have out:¬ dC p i k->X .normal [I ((k:Int)+1),I i,.slice (.rw 1 0 0) l.length l.length,I l.length,.bool false,.nils,.ptr (.own 0 0),noD l] [.cells (pnL p) 26,.mat l.length l.length l.length g 22 3]:=fun hn=>k1 hk2 g (skip hk2 hn)
  refine cond_dk ⟨by omega,by omega⟩ (cond_d (fun c1=>cond_dk ⟨by omega,by omega⟩ (cond_d (fun c2=>cond_dk ⟨by omega,by omega⟩ (cond_dk ⟨by omega,by omega⟩ (cond_d (fun c3=>?_) (fun c3=>?_)))) (fun c2=>?_))) (fun c1=>?_))
  ·refine cond_nd (fun c4=>?_) (fun c4=>cond_r (by omega) (out fun hd=>hd.2.2.2 (by omega)))
   have hd:dC p i k:=⟨by rw [e1]; exact c1,by rw [e2]; exact c2,by rw [e1,e2]; exact c3,by omega⟩
   have mi:nd p i ∈ ndF p:=nd_mem (by rw [<- hl]; exact hil)
   have mk:nd p k ∈ ndF p:=nd_mem (by rw [<- hl]; exact hk2)
   have hi2:∃ x ∈ p.T,(l.getD (i:Int).toNat n0).n=x.j/\(l.getD (i:Int).toNat n0).a=x.p:=by
    rw [<- e1]
    rcases ok_cases (ok_ndF mi) with q | ⟨s,q⟩ | ⟨j,t,q⟩
    ·have:=hd.1; rw [q] at this; cases this
    ·have:=hd.1; rw [q] at this; cases this
    ·rw [q] at mi ⊢
     obtain ⟨x,hx,rfl,rfl⟩:=mem_c.1 mi
     exact ⟨x,hx,rfl,rfl⟩
   have hk3:∃ x ∈ p.T,(l.getD (k:Int).toNat n0).n=x.j/\(l.getD (k:Int).toNat n0).a=x.p:=by
    rw [<- e2]
    rcases ok_cases (ok_ndF mk) with q | ⟨s,q⟩ | ⟨j,t,q⟩
    ·have:=hd.2.1; rw [q] at this; cases this
    ·have:=hd.2.1; rw [q] at this; cases this
    ·rw [q] at mk ⊢
     obtain ⟨x,hx,rfl,rfl⟩:=mem_c.1 mk
     exact ⟨x,hx,rfl,rfl⟩
   obtain ⟨x,hx,x1,x2⟩:=hi2
   obtain ⟨y,hy,y1,y2⟩:=hk3
   have bx:=hp.ts x hx
   have byy:=hp.ts y hy
   have hD:=p.D.length
   have hdr:0<=p.D.getD (l.getD (i:Int).toNat n0).n.toNat 0/\p.D.getD (l.getD (i:Int).toNat n0).n.toNat 0<=1000:=by
    have hj:(l.getD (i:Int).toNat n0).n.toNat<p.D.length:=by omega
    exact hp.dr _ (by rw [List.getD_eq_getElem?_getD,List.getElem?_eq_getElem hj]; exact List.getElem_mem hj)
   have hmx:0<=max ((l.getD (i:Int).toNat n0).a - (l.getD (k:Int).toNat n0).a) ((l.getD (k:Int).toNat n0).a - (l.getD (i:Int).toNat n0).a)/\max ((l.getD (i:Int).toNat n0).a - (l.getD (k:Int).toNat n0).a) ((l.getD (k:Int).toNat n0).a - (l.getD (i:Int).toNat n0).a)<=1000:=by omega
   have hpr:0<=p.D.getD (l.getD (i:Int).toNat n0).n.toNat 0*max ((l.getD (i:Int).toNat n0).a - (l.getD (k:Int).toNat n0).a) ((l.getD (k:Int).toNat n0).a - (l.getD (i:Int).toNat n0).a)/\p.D.getD (l.getD (i:Int).toNat n0).n.toNat 0*max ((l.getD (i:Int).toNat n0).a - (l.getD (k:Int).toNat n0).a) ((l.getD (k:Int).toNat n0).a - (l.getD (i:Int).toNat n0).a)<=1000000:=
    ⟨Int.mul_nonneg hdr.1 hmx.1,by
     have h1:=Int.mul_le_mul_of_nonneg_right hdr.2 hmx.1
     have h2:1000*max ((l.getD (i:Int).toNat n0).a - (l.getD (k:Int).toNat n0).a) ((l.getD (k:Int).toNat n0).a - (l.getD (i:Int).toNat n0).a)<=1000000:=by omega
     exact Int.le_trans h1 h2⟩
   repeat' first
    | refine cond_dk (by omega) ?_
    | refine cond_dk ⟨by omega,by omega⟩ ?_
    | refine cond_r (by omega) ?_
   simp only [z0]
   refine k1 hk2 _ ((hg.set i k _).congr fun a b v _ _=>?_)
   unfold PD
   rw [or_assoc]
   refine or_congr Iff.rfl ⟨?_,?_⟩
   ·rintro (⟨h1,h2⟩ | ⟨rfl,rfl,rfl⟩)
    ·exact ⟨by omega,h2⟩
    ·exact ⟨.inr ⟨rfl,by omega⟩,hd,by unfold dV; rw [e1,e2]⟩
   ·rintro ⟨h1,h2⟩
    by_cases hbk:a=i/\b=k
    ·obtain ⟨rfl,rfl⟩:=hbk
     exact .inr ⟨rfl,rfl,by rw [h2.2]; unfold dV; rw [e1,e2]⟩
    ·exact .inl ⟨by omega,h2⟩
  ·exact cond_r (by omega) (out fun hd=>c3 (by rw [<- e1,<- e2]; exact hd.2.2.1))
  ·exact cond_r (by omega) (out fun hd=>c2 (by rw [<- e2]; exact hd.2.1))
  ·exact cond_r (by omega) (out fun hd=>c1 (by rw [<- e1]; exact hd.1))
 ·rintro lock tt h K ⟨hc,_⟩
  exact (hil hc).elim
theorem lD8_ok:LSound Try.prog true (.block 8 (.loop (loopB 8 (bodyOf Try.prog 47)))) (ntOf Try.prog 47) (lD8 p l):=by
 refine gFit_ok noSp (fun i=>[I i]) l.length (fun i=>PD p i 0) (fun i=>tabB [(10,lD10 p l i)]) (fun i=>lsp_one (by kernel_rfl) lD10_ok) (fun hl hp i g X hi hg k1 k2=>?_) rfl rfl (fun a b v=>?_) (fun _ _ _ _=>Iff.rfl)
 ·refine cast (d8_ev p l i g _).symm ?_
  have hln:l.length<=65:=by rw [hl]; exact ndF_le hp
  refine cond_d (fun h=>⟨by omega,g,⟨⟨rfl,rfl,VB.fit_refl _,VB.fit_refl _,trivial⟩,rfl,rfl,rfl,rfl,rfl,rfl,rfl,rfl,trivial⟩,⟨hl,hp⟩,hg,fun g' hg'=>cond_r (by omega) (k1 (by omega) g' (hg'.congr fun a b v _ hb=>?_))⟩) (fun h=>k2 (by omega))
  unfold PD
  refine or_congr Iff.rfl ⟨fun ⟨h1,h2⟩=>⟨by omega,h2⟩,fun ⟨h1,h2⟩=>⟨by omega,h2⟩⟩
 ·unfold PD
  exact ⟨.inl,fun h=>h.elim id fun h=>absurd h.1 (by omega)⟩
end
end Go.Sx.Nod
namespace Go.Sx.Nod
open Go Go.Sx Go.Proofs
set_option maxRecDepth 1000000
structure RO (n m:Nat) (D:Nat->Nat->Int):Prop where
 hn:n<=65
 hm:m<n
 z:D m m=0
 s:∀ i k,i<n->k<n->D i m<Nos.WW->D m k<Nos.WW->-9000000000000000000<=D i m+D m k/\D i m+D m k<=9000000000000000000
 w:∀ i k,i<n->k<n->D i k<=Nos.WW
def gE (p:Nos.Pn) (l:List Nod) (C:Prop) (ds:List Nat) (vs:List VV) (F0 F1:Nat->Nat->Int) (vs':List VV):LT:=fun lock tt h K=>
 ∃ g:Nat->Nat->Int,FitP lock h tt ⟨2,[0,1].zip (maB p l.length l.length l.length g)⟩ (ds.zip (vs ++ tM l))/\C/\(∀ a b,a<l.length->b<l.length->g a b=F0 a b) /\
  ∀ g':Nat->Nat->Int,(∀ a b,a<l.length->b<l.length->g' a b=F1 a b)->K .normal (ds.zip (vs' ++ tM l)) ⟨2,[0,1].zip (maB p l.length l.length l.length g')⟩
def kG (m i c:Nat) (D:Nat->Nat->Int) (a b:Nat):Int:=if a<i ∨ a=i/\b<c then Nos.rnd m D a b else D a b
def dsK16:List Nat:=[20,19,18,7,6,5,4,2,1]
theorem k16_ev (p:Nos.Pn) (l:List Nod) (m i k:Nat) (g:Nat->Nat->Int) (X:VEx->List VV->List VB->Prop):codeE Try.prog (callN Try.prog noSpec noL 10 20) (fun _=>none) true 10 (ntOf Try.prog 47) 0 (loopB 16 (bodyOf Try.prog 47)) (dsK16.zip (I k::I i::I m::tM l)) ⟨2,[0,1].zip (maB p l.length l.length l.length g)⟩ (obs 2 dsK16 [0,1] X) =
 (bif decide ((↑k:Int)<(↑l.length:Int)) then
 bif decide ((0:Int)<=(↑i:Int)/\(↑i:Int)<(↑l.length:Int)) then
 bif decide (0+(↑i:Int).toNat<l.length) then
 bif decide ((0:Int)<=(↑m:Int)/\(↑m:Int)<(↑l.length:Int)) then
 bif decide (0+(↑i:Int).toNat+1 - 1<l.length/\0+(↑m:Int).toNat<l.length) then
 bif decide (g (0+(↑i:Int).toNat+1 - 1) (0+(↑m:Int).toNat)<(1125899906842624:Int)) then
 bif decide ((0:Int)<=(↑m:Int)/\(↑m:Int)<(↑l.length:Int)) then
 bif decide (0+(↑m:Int).toNat<l.length) then
 bif decide ((0:Int)<=(↑k:Int)/\(↑k:Int)<(↑l.length:Int)) then
 bif decide (0+(↑m:Int).toNat+1 - 1<l.length/\0+(↑k:Int).toNat<l.length) then
 bif decide (g (0+(↑m:Int).toNat+1 - 1) (0+(↑k:Int).toNat)<(1125899906842624:Int)) then
 bif decide ((0:Int)<=(↑i:Int)/\(↑i:Int)<(↑l.length:Int)) then
 bif decide (0+(↑i:Int).toNat<l.length) then
 bif decide ((0:Int)<=(↑i:Int)/\(↑i:Int)<(↑l.length:Int)) then
 bif decide (0+(↑i:Int).toNat<l.length) then
 bif decide ((0:Int)<=(↑k:Int)/\(↑k:Int)<(↑l.length:Int)) then
 bif decide (0+(↑i:Int).toNat+1 - 1<l.length/\0+(↑k:Int).toNat<l.length) then
 bif decide ((0:Int)<=(↑i:Int)/\(↑i:Int)<(↑l.length:Int)) then
 bif decide (0+(↑i:Int).toNat<l.length) then
 bif decide ((0:Int)<=(↑m:Int)/\(↑m:Int)<(↑l.length:Int)) then
 bif decide (0+(↑i:Int).toNat+1 - 1<l.length/\0+(↑m:Int).toNat<l.length) then
 bif decide ((0:Int)<=(↑m:Int)/\(↑m:Int)<(↑l.length:Int)) then
 bif decide (0+(↑m:Int).toNat<l.length) then
 bif decide ((0:Int)<=(↑k:Int)/\(↑k:Int)<(↑l.length:Int)) then
 bif decide (0+(↑m:Int).toNat+1 - 1<l.length/\0+(↑k:Int).toNat<l.length) then
 bif inK .i64 (g (0+(↑i:Int).toNat+1 - 1) (0+(↑m:Int).toNat)+g (0+(↑m:Int).toNat+1 - 1) (0+(↑k:Int).toNat)) then
 bif decide ((0:Int)<=(↑k:Int)/\(↑k:Int)<(↑l.length:Int)) then
 bif decide (0+(↑i:Int).toNat+1 - 1<l.length/\0+(↑k:Int).toNat<l.length) then
 bif inK .i64 ((↑k:Int)+(1:Int)) then
 X .normal [I ((↑k:Int)+(1:Int)),I (↑i:Int),I (↑m:Int),VV.slice (VA.rw 1 0 0) l.length l.length,I (↑l.length:Int),VV.bool false,VV.nils,VV.ptr (VA.own 0 0),noD l] [.cells (pnL p) 26,VB.mat l.length l.length l.length (setM g (0+(↑i:Int).toNat+1 - 1) (0+(↑k:Int).toNat) (min (g (0+(↑i:Int).toNat+1 - 1) (0+(↑k:Int).toNat)) (g (0+(↑i:Int).toNat+1 - 1) (0+(↑m:Int).toNat)+g (0+(↑m:Int).toNat+1 - 1) (0+(↑k:Int).toNat)))) (22:TypeId) (3:TypeId)]
 else False
 else False
 else False
 else False
 else False
 else False
 else False
 else False
 else False
 else False
 else False
 else False
 else False
 else False
 else False
 else False
 else False
 else False
 else bif inK .i64 ((↑k:Int)+(1:Int)) then
 X .normal [I ((↑k:Int)+(1:Int)),I (↑i:Int),I (↑m:Int),VV.slice (VA.rw 1 0 0) l.length l.length,I (↑l.length:Int),VV.bool false,VV.nils,VV.ptr (VA.own 0 0),noD l] [.cells (pnL p) 26,VB.mat l.length l.length l.length g (22:TypeId) (3:TypeId)]
 else False
 else False
 else False
 else False
 else False
 else bif inK .i64 ((↑k:Int)+(1:Int)) then
 X .normal [I ((↑k:Int)+(1:Int)),I (↑i:Int),I (↑m:Int),VV.slice (VA.rw 1 0 0) l.length l.length,I (↑l.length:Int),VV.bool false,VV.nils,VV.ptr (VA.own 0 0),noD l] [.cells (pnL p) 26,VB.mat l.length l.length l.length g (22:TypeId) (3:TypeId)]
 else False
 else False
 else False
 else False
 else False
 else X (VEx.exit 16) [I (↑k:Int),I (↑i:Int),I (↑m:Int),VV.slice (VA.rw 1 0 0) l.length l.length,I (↑l.length:Int),VV.bool false,VV.nils,VV.ptr (VA.own 0 0),noD l] [.cells (pnL p) 26,VB.mat l.length l.length l.length g (22:TypeId) (3:TypeId)]):=by kernel_rfl
def lK16 (p:Nos.Pn) (l:List Nod) (m i:Nat) (D:Nat->Nat->Int):LT:=gE p l (RO l.length m D/\i<l.length) dsK16 [I 0,I i,I m] (kG m i 0 D) (kG m i l.length D) [I l.length,I i,I m]
def dsI14:List Nat:=[19,18,7,6,5,4,2,1]
theorem i14_ev (p:Nos.Pn) (l:List Nod) (m i:Nat) (g D:Nat->Nat->Int) (X:VEx->List VV->List VB->Prop):codeE Try.prog (callN Try.prog noSpec noL 10 20) (tabB [(16,lK16 p l m i D)]) true 10 (ntOf Try.prog 47) 0 (loopB 14 (bodyOf Try.prog 47)) (dsI14.zip (I i::I m::tM l)) ⟨2,[0,1].zip (maB p l.length l.length l.length g)⟩ (obs 2 dsI14 [0,1] X) =
 (bif decide ((↑i:Int)<(↑l.length:Int)) then
 ∃ (g_1:Nat->Nat->Int),FitP 0 (VH.mk 2 ([0,1].zip (maB p l.length l.length l.length g))) ((20,I 0)::(266,VV.bool true)::(266,VV.bool (decide ((↑i:Int)<(↑l.length:Int))))::(265,I (↑l.length:Int))::(264,I (↑i:Int))::dsI14.zip (I (↑i:Int)::I (↑m:Int)::tM l)) (VH.mk 2 ([0,1].zip (maB p l.length l.length l.length g_1))) (dsK16.zip ([I 0,I (↑i:Int),I (↑m:Int)] ++ tM l))/\(RO l.length m D/\i<l.length)/\(∀ (a b:Nat),a<l.length->b<l.length->g_1 a b=kG m i 0 D a b)/\∀ (g':Nat->Nat->Int),(∀ (a b:Nat),a<l.length->b<l.length->g' a b=kG m i l.length D a b)->bif inK .i64 ((↑i:Int)+(1:Int)) then
 X .normal [I ((↑i:Int)+(1:Int)),I (↑m:Int),VV.slice (VA.rw 1 0 0) l.length l.length,I (↑l.length:Int),VV.bool false,VV.nils,VV.ptr (VA.own 0 0),noD l] [.cells (pnL p) 26,VB.mat l.length l.length l.length g' (22:TypeId) (3:TypeId)]
 else False
 else X (VEx.exit 14) [I (↑i:Int),I (↑m:Int),VV.slice (VA.rw 1 0 0) l.length l.length,I (↑l.length:Int),VV.bool false,VV.nils,VV.ptr (VA.own 0 0),noD l] [.cells (pnL p) 26,VB.mat l.length l.length l.length g (22:TypeId) (3:TypeId)]):=by kernel_rfl
def lI14 (p:Nos.Pn) (l:List Nod) (m:Nat) (D:Nat->Nat->Int):LT:=gE p l (RO l.length m D) dsI14 [I 0,I m] D (Nos.rnd m D) [I l.length,I m]
def dsC18:List Nat:=[21,18,7,6,5,4,2,1]
theorem c18_ev (p:Nos.Pn) (l:List Nod) (m i:Nat) (g:Nat->Nat->Int) (X:VEx->List VV->List VB->Prop):codeE Try.prog (callN Try.prog noSpec noL 10 20) (fun _=>none) true 10 (ntOf Try.prog 47) 0 (loopB 18 (bodyOf Try.prog 47)) (dsC18.zip (I i::I m::tM l)) ⟨2,[0,1].zip (maB p l.length l.length l.length g)⟩ (obs 2 dsC18 [0,1] X) =
 (bif decide ((↑i:Int)<(↑l.length:Int)) then
 bif decide ((0:Int)<=(↑i:Int)/\(↑i:Int)<(↑l.length:Int)) then
 bif decide (0+(↑i:Int).toNat<l.length) then
 bif decide ((0:Int)<=(↑i:Int)/\(↑i:Int)<(↑l.length:Int)) then
 bif decide (0+(↑i:Int).toNat+1 - 1<l.length/\0+(↑i:Int).toNat<l.length) then
 bif decide (g (0+(↑i:Int).toNat+1 - 1) (0+(↑i:Int).toNat)<(0:Int)) then
 X VEx.ret [I (↑i:Int),I (↑m:Int),VV.slice (VA.rw 1 0 0) l.length l.length,I (↑l.length:Int),VV.bool false,VV.slice (VA.rw 1 0 0) l.length l.length,VV.ptr (VA.own 0 0),noD l] [.cells (pnL p) 26,VB.mat l.length l.length l.length g (22:TypeId) (3:TypeId)]
 else bif inK .i64 ((↑i:Int)+(1:Int)) then
 X .normal [I ((↑i:Int)+(1:Int)),I (↑m:Int),VV.slice (VA.rw 1 0 0) l.length l.length,I (↑l.length:Int),VV.bool false,VV.nils,VV.ptr (VA.own 0 0),noD l] [.cells (pnL p) 26,VB.mat l.length l.length l.length g (22:TypeId) (3:TypeId)]
 else False
 else False
 else False
 else False
 else False
 else X (VEx.exit 18) [I (↑i:Int),I (↑m:Int),VV.slice (VA.rw 1 0 0) l.length l.length,I (↑l.length:Int),VV.bool false,VV.nils,VV.ptr (VA.own 0 0),noD l] [.cells (pnL p) 26,VB.mat l.length l.length l.length g (22:TypeId) (3:TypeId)]):=by kernel_rfl
def tR (l:List Nod):List VV:=[.slice (.rw 1 0 0) l.length l.length,I l.length,.bool false,.slice (.rw 1 0 0) l.length l.length,.ptr (.own 0 0),noD l]
def lC18 (p:Nos.Pn) (l:List Nod) (m:Nat):LT:=fun lock tt h K=>
 ∃ g:Nat->Nat->Int,FitP lock h tt ⟨2,[0,1].zip (maB p l.length l.length l.length g)⟩ (dsC18.zip (I 0::I m::tM l))/\l.length<=65 /\
  ((∀ a,a<l.length->¬ g a a<0)->K .normal (dsC18.zip (I l.length::I m::tM l)) ⟨2,[0,1].zip (maB p l.length l.length l.length g)⟩) /\
  ((∃ a,a<l.length/\g a a<0)->∀ i:Nat,K .ret (dsC18.zip (I i::I m::tR l)) ⟨2,[0,1].zip (maB p l.length l.length l.length g)⟩)
def dsM12:List Nat:=[18,7,6,5,4,2,1]
theorem m12_ev (p:Nos.Pn) (l:List Nod) (m:Nat) (g:Nat->Nat->Int) (X:VEx->List VV->List VB->Prop):codeE Try.prog (callN Try.prog noSpec noL 10 20) (tabB [(14,lI14 p l m g),(18,lC18 p l m)]) true 10 (ntOf Try.prog 47) 0 (loopB 12 (bodyOf Try.prog 47)) (dsM12.zip (I m::tM l)) ⟨2,[0,1].zip (maB p l.length l.length l.length g)⟩ (obs 2 dsM12 [0,1] X) =
 (bif decide ((↑m:Int)<(↑l.length:Int)) then
 ∃ (g_1:Nat->Nat->Int),FitP 0 (VH.mk 2 ([0,1].zip (maB p l.length l.length l.length g))) ((19,I 0)::(261,VV.bool true)::(261,VV.bool (decide ((↑m:Int)<(↑l.length:Int))))::(260,I (↑l.length:Int))::(259,I (↑m:Int))::dsM12.zip (I (↑m:Int)::tM l)) (VH.mk 2 ([0,1].zip (maB p l.length l.length l.length g_1))) (dsI14.zip ([I 0,I (↑m:Int)] ++ tM l))/\RO l.length m g/\(∀ (a b:Nat),a<l.length->b<l.length->g_1 a b=g a b)/\∀ (g':Nat->Nat->Int),(∀ (a b:Nat),a<l.length->b<l.length->g' a b=Nos.rnd m g a b)->∃ (g:Nat->Nat->Int),FitP 0 (VH.mk 2 ([0,1].zip (maB p l.length l.length l.length g'))) ((21,I 0)::dsI14.zip ([I (↑l.length:Int),I (↑m:Int)] ++ tM l)) (VH.mk 2 ([0,1].zip (maB p l.length l.length l.length g))) (dsC18.zip (I 0::I (↑m:Int)::tM l))/\l.length<=65/\((∀ (a:Nat),a<l.length->¬g a a<(0:Int))->bif inK .i64 ((↑m:Int)+(1:Int)) then
 X .normal [I ((↑m:Int)+(1:Int)),VV.slice (VA.rw 1 0 0) l.length l.length,I (↑l.length:Int),VV.bool false,VV.nils,VV.ptr (VA.own 0 0),noD l] [.cells (pnL p) 26,VB.mat l.length l.length l.length g (22:TypeId) (3:TypeId)]
 else False)/\((∃ (a:Nat),a<l.length/\g a a<(0:Int))->∀ (i:Nat),X VEx.ret [I (↑m:Int),VV.slice (VA.rw 1 0 0) l.length l.length,I (↑l.length:Int),VV.bool false,VV.slice (VA.rw 1 0 0) l.length l.length,VV.ptr (VA.own 0 0),noD l] [.cells (pnL p) 26,VB.mat l.length l.length l.length g (22:TypeId) (3:TypeId)])
 else X (VEx.exit 12) [I (↑m:Int),VV.slice (VA.rw 1 0 0) l.length l.length,I (↑l.length:Int),VV.bool false,VV.nils,VV.ptr (VA.own 0 0),noD l] [.cells (pnL p) 26,VB.mat l.length l.length l.length g (22:TypeId) (3:TypeId)]):=by kernel_rfl
def gFar (p:Nos.Pn) (g:Nat->Nat->Int):Prop:=∀ x y,x ∈ ndF p->y ∈ ndF p->g (nx p x) (nx p y)=Nos.farAB p (toN x) (toN y)
def lM12 (p:Nos.Pn) (l:List Nod):LT:=fun lock tt h K=>
 ∃ g:Nat->Nat->Int,FitP lock h tt ⟨2,[0,1].zip (maB p l.length l.length l.length g)⟩ (dsM12.zip (I 0::tM l))/\(l=ndF p/\Nos.PnOk p)/\MO l.length (PD p l.length 0) g /\
  (Nos.fitF p->∀ g':Nat->Nat->Int,gFar p g'->K .normal (dsM12.zip (I l.length::tM l)) ⟨2,[0,1].zip (maB p l.length l.length l.length g')⟩) /\
  (¬ Nos.fitF p->∀ (m:Nat) (g':Nat->Nat->Int),K .ret (dsM12.zip (I m::tR l)) ⟨2,[0,1].zip (maB p l.length l.length l.length g')⟩)
theorem mof_ev (p:Nos.Pn) (l:List Nod) (Q:VRes->VH->Prop):callN Try.prog noSpec (atF 47 [(0,lF0 p l),(4,lT4 p l),(6,lS6 p l),(8,lD8 p l),(12,lM12 p l)]) 10 20 0 (.fn 47) [.agg (pnL p),noD l] ⟨0,[]⟩ (fun r h=>Q r h) =
 (bif decide ((0:Int)<=(↑l.length:Int)/\(↑l.length:Int)=(↑l.length:Int)) then
 bif roomB (↑l.length:Int).toNat (24) then
 ∃ (C:Nat),∃ (g:Nat->Nat->Int),FitP 0 (VH.mk (2) [(1,VB.mat (↑l.length:Int).toNat 0 0 (fun (x x_1:Nat)=>(0:Int)) 22 (elT Try.prog 22)),(0,VB.cells [VV.tl p.D.length 1 (dG p.D),VV.tl p.T.length 5 (Nos.tG p.T),VV.tl p.S.length 3 (Nos.sG p.S)] 26)]) [(8,I 0),(7,VV.slice (VA.rw (1) 0 0) (↑l.length:Int).toNat (↑l.length:Int).toNat),(25,VV.slice (VA.rw (1) 0 0) (↑l.length:Int).toNat (↑l.length:Int).toNat),(24,I (↑l.length:Int)),(6,I (↑l.length:Int)),(23,I (↑l.length:Int)),(22,noD l),(5,VV.bool false),(4,VV.nils),(2,VV.ptr (VA.own 0 0)),(0,VV.agg (pnL p)),(1,noD l)] (VH.mk 2 ([0,1].zip (maB p l.length 0 C g))) (dsF0.zip (I 0::tM l))/\(l.length<=100/\0<l.length)/\∀ (g':Nat->Nat->Int),(∀ (a b:Nat),a<l.length->b<l.length->g' a b=if a=b then
 (0:Int)
 else Nos.WW)->∃ (g:Nat->Nat->Int),FitP 0 (VH.mk 2 ([0,1].zip (maB p l.length l.length l.length g'))) ((10,I 0)::dsF0.zip (I (↑l.length:Int)::tM l)) (VH.mk 2 ([0,1].zip (maB p l.length l.length l.length g))) (dsT4.zip ([I 0] ++ tM l))/\(l=ndF p/\Nos.PnOk p)/\MO l.length P0 g/\∀ (g':Nat->Nat->Int),MO l.length (PT p p.T.length) g'->∃ (g:Nat->Nat->Int),FitP 0 (VH.mk 2 ([0,1].zip (maB p l.length l.length l.length g'))) ((14,I 0)::dsT4.zip ([I (↑p.T.length:Int)] ++ tM l)) (VH.mk 2 ([0,1].zip (maB p l.length l.length l.length g))) (dsS6.zip ([I 0] ++ tM l))/\(l=ndF p/\Nos.PnOk p)/\MO l.length (PT p p.T.length) g/\∀ (g':Nat->Nat->Int),MO l.length (PS p p.S.length) g'->∃ (g:Nat->Nat->Int),FitP 0 (VH.mk 2 ([0,1].zip (maB p l.length l.length l.length g'))) ((16,I 0)::dsS6.zip ([I (↑p.S.length:Int)] ++ tM l)) (VH.mk 2 ([0,1].zip (maB p l.length l.length l.length g))) (dsD8.zip ([I 0] ++ tM l))/\(l=ndF p/\Nos.PnOk p)/\MO l.length (PS p p.S.length) g/\∀ (g':Nat->Nat->Int),MO l.length (PD p l.length 0) g'->∃ (g:Nat->Nat->Int),FitP 0 (VH.mk 2 ([0,1].zip (maB p l.length l.length l.length g'))) ((18,I 0)::dsD8.zip ([I (↑l.length:Int)] ++ tM l)) (VH.mk 2 ([0,1].zip (maB p l.length l.length l.length g))) (dsM12.zip (I 0::tM l))/\(l=ndF p/\Nos.PnOk p)/\MO l.length (PD p l.length 0) g/\(Nos.fitF p->∀ (g':Nat->Nat->Int),gFar p g'->Q (VRes.ret (VV.tup [VV.slice (VA.rw 1 0 0) l.length l.length,VV.bool true])) (VH.mk 2 [(0,.cells (pnL p) 26),(1,VB.mat l.length l.length l.length g' (22:TypeId) (3:TypeId))]))/\(¬Nos.fitF p->∀ (m:Nat) (g':Nat->Nat->Int),Q (VRes.ret (VV.tup [VV.slice (VA.rw 1 0 0) l.length l.length,VV.bool false])) (VH.mk 2 [(0,.cells (pnL p) 26),(1,VB.mat l.length l.length l.length g' (22:TypeId) (3:TypeId))]))
 else False
 else False):=by kernel_rfl
end Go.Sx.Nod
namespace Go.Sx.Nod
open Go Go.Sx Go.Proofs
open Go.Sx.Nos (PnOk t0 s0 rnd WW rd flat fwN iF badD goodF fitF)
set_option maxRecDepth 1000000
theorem eWW:WW=1125899906842624:=rfl
section
variable {p:Nos.Pn} {l:List Nod}
theorem gE_ok {lp:Nat} {C:Prop} {ds:List Nat} (V:Nat->List VV) (N:Nat) (F:Nat->Nat->Nat->Int) {F0 F1:Nat->Nat->Int} {vs0 vs1:List VV} (lsp:Nat->Nat->Option LT)
  (hls:∀ i id T,lsp i id=some T->∀ b' ∈ blocksOf id (loopB lp (bodyOf Try.prog 47)),LSound Try.prog true (.block id b') (ntOf Try.prog 47) T)
  (hr:C->∀ i g (X:VEx->List VV->List VB->Prop),i<=N->(∀ a b,a<l.length->b<l.length->g a b=F i a b)->(i<N->∀ g',(∀ a b,a<l.length->b<l.length->g' a b=F (i+1) a b)->X .normal (V (i+1) ++ tM l) (maB p l.length l.length l.length g'))->(i=N->X (.exit lp) (V i ++ tM l) (maB p l.length l.length l.length g)) ->
   codeE Try.prog (callN Try.prog noSpec noL 10 20) (lsp i) true 10 (ntOf Try.prog 47) 0 (loopB lp (bodyOf Try.prog 47)) (ds.zip (V i ++ tM l)) ⟨2,[0,1].zip (maB p l.length l.length l.length g)⟩ (obs 2 ds [0,1] X))
  (hv0:V 0=vs0) (hv1:V N=vs1) (h0:C->∀ a b,a<l.length->b<l.length->F0 a b=F 0 a b) (h1:C->∀ a b,a<l.length->b<l.length->F N a b=F1 a b) :
  LSound Try.prog true (.block lp (.loop (loopB lp (bodyOf Try.prog 47)))) (ntOf Try.prog 47) (gE p l C ds vs0 F0 F1 vs1):=by
 subst hv0
 subst hv1
 by_cases hh:C
 ·refine loop_rowD hmix good0 (un:=10) (ds:=ds) (ns:=[0,1]) (nx:=2) (lsp:=fun s:Nat × (Nat->Nat->Int)=>lsp s.1) (fun s=>V s.1 ++ tM l) (fun s=>maB p l.length l.length l.length s.2) (fun s=>s.1<=N/\∀ a b,a<l.length->b<l.length->s.2 a b=F s.1 a b) (fun s=>N - s.1)
   (fun _ e vs bs=>e=.exit lp/\vs=V N ++ tM l/\∃ g',(∀ a b,a<l.length->b<l.length->g' a b=F N a b)/\bs=maB p l.length l.length l.length g') (fun s _=>hls s.1) ?_ ?_
  ·rintro ⟨i,g⟩ ⟨hi,hg⟩
   dsimp only at hi hg
   refine hr hh i g _ hi hg (fun hiN g' hg'=>?_) (fun hiN=>?_)
   ·exact ⟨(i+1,g'),⟨by show i+1<=N; omega,hg'⟩,by show N - (i+1)<N - i; omega,rfl,fitBs_refl _,fun _ _ _ h=>h⟩
   ·subst hiN
    exact ⟨rfl,rfl,g,hg,rfl⟩
  ·rintro lock tt h K ⟨g,hf,_,hg,hK⟩
   refine ⟨(0,g),hf,⟨Nat.zero_le _,fun a b ha hb=>(hg a b ha hb).trans (h0 hh a b ha hb)⟩,?_⟩
   rintro e vs bs ⟨rfl,rfl,g',h2,rfl⟩
   have:=hK g' (fun a b ha hb=>(h2 a b ha hb).trans (h1 hh a b ha hb))
   rw [show exitOf lp (.exit lp)=.normal by simp [exitOf]]
   exact this
 ·rintro lock tt h K ⟨g,hf,hc,_⟩
  exact (hh hc).elim
theorem rnd_row {n m:Nat} {D:Nat->Nat->Int} (h:RO n m D) (b:Nat):rnd m D m b=D m b:=by
 unfold rnd
 rw [h.z]
 split <;> omega
theorem rnd_col {n m:Nat} {D:Nat->Nat->Int} (h:RO n m D) (a:Nat):rnd m D a m=D a m:=by
 unfold rnd
 rw [h.z]
 split <;> omega
theorem lK16_ok {m i:Nat} {D:Nat->Nat->Int}:LSound Try.prog true (.block 16 (.loop (loopB 16 (bodyOf Try.prog 47)))) (ntOf Try.prog 47) (lK16 p l m i D):=by
 refine gE_ok (fun k=>[I k,I i,I m]) l.length (fun k=>kG m i k D) (fun _ _=>none) (fun _=>noL_ok) (fun hC k g X hk hg k1 k2=>?_) rfl rfl (fun _ _ _ _ _=>rfl) (fun _ _ _ _ _=>rfl)
 obtain ⟨hR,hi⟩:=hC
 have hn:=hR.hn
 have hm:=hR.hm
 have hW:=eWW
 refine cast (k16_ev p l m i k g _).symm ?_
 refine cond_d (fun h=>?_) (fun h=>k2 (by omega))
 have hk2:k<l.length:=by omega
 have g1:g (0+(i:Int).toNat+1 - 1) (0+(m:Int).toNat)=D i m:=by
  rw [z1,z0,hg i m hi hm]
  unfold kG
  split
  ·exact rnd_col hR i
  ·rfl
 have g2:g (0+(m:Int).toNat+1 - 1) (0+(k:Int).toNat)=D m k:=by
  rw [z1,z0,hg m k hm hk2]
  unfold kG
  split
  ·exact rnd_row hR k
  ·rfl
 have g3:g i k=D i k:=by
  rw [hg i k hi hk2]
  unfold kG
  rw [if_neg (by omega)]
 have next:∀ g':Nat->Nat->Int,(∀ a b,a<l.length->b<l.length->g' a b=if a=i/\b=k then rnd m D i k else g a b)->∀ a b,a<l.length->b<l.length->g' a b=kG m i (k+1) D a b:=fun g' h2 a b ha hb=>by
  rw [h2 a b ha hb]
  by_cases e:a=i/\b=k
  ·obtain ⟨rfl,rfl⟩:=e
   rw [if_pos ⟨rfl,rfl⟩]
   unfold kG
   rw [if_pos (by omega)]
  ·rw [if_neg e,hg a b ha hb]
   unfold kG
   by_cases e2:a<i ∨ a=i/\b<k
   ·rw [if_pos e2,if_pos (by omega)]
   ·rw [if_neg e2,if_neg (by omega)]
 have stay:¬ (D i m<WW/\D m k<WW)->∀ a b,a<l.length->b<l.length->g a b=kG m i (k+1) D a b:=fun hc=>next g (fun a b ha hb=>by
  split
  ·rename_i e
   obtain ⟨rfl,rfl⟩:=e
   rw [g3]
   unfold rnd
   have w1:=hR.w a m hi hm
   rw [if_neg (by omega)]
  ·rfl)
 refine cond_dk ⟨by omega,by omega⟩ (cond_dk (by omega) (cond_dk ⟨by omega,by omega⟩ (cond_dk ⟨by omega,by omega⟩ (cond_d (fun c1=>?_) (fun c1=>cond_r (by omega) (k1 hk2 g (stay (by omega))))))))
 refine cond_dk ⟨by omega,by omega⟩ (cond_dk (by omega) (cond_dk ⟨by omega,by omega⟩ (cond_dk ⟨by omega,by omega⟩ (cond_d (fun c2=>?_) (fun c2=>cond_r (by omega) (k1 hk2 g (stay (by omega))))))))
 have hs:=hR.s i k hi hk2 (by omega) (by omega)
 have hs2 : -9223372036854775808<=g (0+(i:Int).toNat+1 - 1) (0+(m:Int).toNat)+g (0+(m:Int).toNat+1 - 1) (0+(k:Int).toNat)/\g (0+(i:Int).toNat+1 - 1) (0+(m:Int).toNat)+g (0+(m:Int).toNat+1 - 1) (0+(k:Int).toNat)<=9223372036854775807:=by omega
 repeat' first
  | refine cond_r hs2 ?_
  | refine cond_dk (by omega) ?_
  | refine cond_dk ⟨by omega,by omega⟩ ?_
  | refine cond_r (by omega) ?_
 rw [g1,g2]
 refine k1 hk2 _ (next _ fun a b ha hb=>?_)
 rw [setM_eq,z1,z0]
 split
 ·rw [g3]
  unfold rnd
  rw [if_pos (by omega)]
 ·rfl
theorem lI14_ok {m:Nat} {D:Nat->Nat->Int}:LSound Try.prog true (.block 14 (.loop (loopB 14 (bodyOf Try.prog 47)))) (ntOf Try.prog 47) (lI14 p l m D):=by
 refine gE_ok (fun i=>[I i,I m]) l.length (fun i=>kG m i 0 D) (fun i=>tabB [(16,lK16 p l m i D)]) (fun i=>lsp_one (by kernel_rfl) lK16_ok) (fun hR i g X hi hg k1 k2=>?_) rfl rfl (fun _ a b _ _=>?_) (fun _ a b ha _=>?_)
 ·refine cast (i14_ev p l m i g D _).symm ?_
  have hn:=hR.hn
  refine cond_d (fun h=>⟨g,⟨⟨rfl,rfl,VB.fit_refl _,VB.fit_refl _,trivial⟩,rfl,rfl,rfl,rfl,rfl,rfl,rfl,rfl,rfl,trivial⟩,⟨hR,by omega⟩,hg,fun g' hg'=>cond_r (by omega) (k1 (by omega) g' fun a b ha hb=>?_)⟩) (fun h=>k2 (by omega))
  rw [hg' a b ha hb]
  unfold kG
  by_cases e:a<i ∨ a=i/\b<l.length
  ·rw [if_pos e,if_pos (by omega)]
  ·rw [if_neg e,if_neg (by omega)]
 ·unfold kG
  rw [if_neg (by omega)]
 ·unfold kG
  rw [if_pos (by omega)]
theorem lC18_ok {m:Nat}:LSound Try.prog true (.block 18 (.loop (loopB 18 (bodyOf Try.prog 47)))) (ntOf Try.prog 47) (lC18 p l m):=by
 intro lock tt h K hK
 obtain ⟨g,hf,hn,k1,k2⟩:=hK
 have key:LSound Try.prog true (.block 18 (.loop (loopB 18 (bodyOf Try.prog 47)))) (ntOf Try.prog 47) (fun lock tt h K=>FitP lock h tt ⟨2,[0,1].zip (maB p l.length l.length l.length g)⟩ (dsC18.zip (I 0::I m::tM l))/\((∀ a,a<l.length->¬ g a a<0)->K .normal (dsC18.zip (I l.length::I m::tM l)) ⟨2,[0,1].zip (maB p l.length l.length l.length g)⟩)/\((∃ a,a<l.length/\g a a<0)->∀ i:Nat,K .ret (dsC18.zip (I i::I m::tR l)) ⟨2,[0,1].zip (maB p l.length l.length l.length g)⟩)):=by
  refine loop_row hmix good0 (un:=10) (ds:=dsC18) (ns:=[0,1]) (nx:=2) (fun i:Nat=>I i::I m::tM l) (fun _=>maB p l.length l.length l.length g) (fun i=>i<=l.length/\∀ j,j<i->¬ g j j<0) (fun i=>l.length - i)
   (fun _ e vs bs=>bs=maB p l.length l.length l.length g/\((e=.exit 18/\(∀ a,a<l.length->¬ g a a<0)/\vs=I l.length::I m::tM l) ∨ (e=.ret/\(∃ a,a<l.length/\g a a<0)/\∃ i:Nat,vs=I i::I m::tR l))) noL_ok ?_ ?_
  ·rintro i ⟨hi,hg⟩
   refine cast (c18_ev p l m i g _).symm ?_
   refine cond_d (fun h=>cond_dk ⟨by omega,by omega⟩ (cond_dk (by omega) (cond_dk ⟨by omega,by omega⟩ (cond_dk ⟨by omega,by omega⟩ (cond_d (fun c=>?_) (fun c=>cond_r (by omega) ?_)))))) (fun h=>?_)
   ·rw [z1,z0] at c
    exact ⟨rfl,.inr ⟨rfl,⟨i,by omega,c⟩,i,rfl⟩⟩
   ·rw [z1,z0] at c
    refine ⟨i+1,⟨by omega,fun j hj=>?_⟩,by dsimp only; omega,rfl,fitBs_refl _,fun _ _ _ h=>h⟩
    by_cases hji:j=i
    ·subst hji; exact c
    ·exact hg j (by omega)
   ·obtain rfl:i=l.length:=by omega
    exact ⟨rfl,.inl ⟨rfl,hg,rfl⟩⟩
  ·rintro lock tt h K ⟨hf,k1,k2⟩
   refine ⟨0,hf,⟨Nat.zero_le _,fun j hj=>absurd hj (Nat.not_lt_zero _)⟩,?_⟩
   rintro e vs bs ⟨rfl,⟨rfl,h1,rfl⟩ | ⟨rfl,h1,i,rfl⟩⟩
   ·exact k1 h1
   ·exact k2 h1 i
 exact key lock tt h K ⟨hf,k1,k2⟩
end
end Go.Sx.Nod
namespace Go.Sx.Nod
open Go Go.Sx Go.Proofs
open Go.Sx.Nos (PnOk t0 s0 rnd WW rd flat fwN iF badD goodF fitF farAB FI Wg DM rd_flat)
set_option maxRecDepth 1000000
section
variable {p:Nos.Pn} {l:List Nod}
theorem lsp_two {f:FuncId} {o i j n:Nat} {b c:Code} {T U:LT} (hb:blocksOf i (loopB o (bodyOf Try.prog f))=[b]) (hc:blocksOf j (loopB o (bodyOf Try.prog f))=[c]) (h0:LSound Try.prog true (.block i b) n T) (h1:LSound Try.prog true (.block j c) n U):∀ id S,tabB [(i,T),(j,U)] id=some S->∀ b' ∈ blocksOf id (loopB o (bodyOf Try.prog f)),LSound Try.prog true (.block id b') n S:=by
 intro id S hS b' hb'
 simp only [tabB] at hS
 cases hid:Nat.beq id i with
 | true=>
  rw [hid] at hS
  have:=Nat.eq_of_beq_eq_true hid
  subst this
  cases hS
  rw [hb] at hb'
  simp only [List.mem_singleton] at hb'
  subst hb'
  exact h0
 | false=>
  rw [hid] at hS
  simp only [cond_false] at hS
  cases hjd:Nat.beq id j with
  | false=>rw [hjd] at hS; cases hS
  | true=>
   rw [hjd] at hS
   have:=Nat.eq_of_beq_eq_true hjd
   subst this
   cases hS
   rw [hc] at hb'
   simp only [List.mem_singleton] at hb'
   subst hb'
   exact h1
theorem ro_of {W g:Nat->Nat->Int} {m:Nat} (hw:Wg l.length (rd (flat W))) (hn:l.length<=65) (hm:m<l.length) (hg:∀ a b,a<l.length->b<l.length->g a b=rd (fwN l.length m (flat W)) a b) (hj:∀ j,j<m->¬ badD l.length (fwN l.length (j+1) (flat W))):RO l.length m g:=by
 have h:=Nos.fw_FI hw hn m (by omega) hj
 have hW:=eWW
 refine ⟨hn,hm,?_,fun i k hi hk h1 h2=>?_,fun i k hi hk=>?_⟩
 ·rw [hg m m hm hm]
  exact Nos.fw_z hw h hj hm
 ·rw [hg i m hi hm] at h1 ⊢
  rw [hg m k hm hk] at h2 ⊢
  have b1:=(h.bd hw hn (by omega) hi hm).resolve_left (by omega)
  have b2:=(h.bd hw hn (by omega) hm hk).resolve_left (by omega)
  omega
 ·rw [hg i k hi hk]
  have b1:=h.bd hw hn (by omega) hi hk
  omega
theorem lM12_ok:LSound Try.prog true (.block 12 (.loop (loopB 12 (bodyOf Try.prog 47)))) (ntOf Try.prog 47) (lM12 p l):=by
 intro lock tt h K hK
 obtain ⟨W,hf,⟨hl,hp⟩,hM,k1,k2⟩:=hK
 have hn:l.length<=65:=by rw [hl]; exact ndF_le hp
 have hD:DM p (unN p) W:=by rw [hl] at hM; exact hM.dm hp
 have hu:(unN p).length=l.length:=by rw [unN_len,hl]
 have hw:Wg l.length (rd (flat W)):=by rw [<- hu]; exact hD.wg hp
 have hfit:goodF l.length (flat W) ↔ fitF p:=by rw [<- hu]; exact hD.fit hp
 have hfar:fitF p->∀ g,(∀ a b,a<l.length->b<l.length->g a b=rd (fwN l.length l.length (flat W)) a b)->gFar p g:=fun hfp g hg x y hx hy=>by
  rw [hg _ _ (by rw [hl]; exact nx_lt hp hx) (by rw [hl]; exact nx_lt hp hy),<- hu]
  exact hD.far hp hfp ((List.mem_map).2 ⟨x,hx,rfl⟩) ((List.mem_map).2 ⟨y,hy,rfl⟩)
 have key:LSound Try.prog true (.block 12 (.loop (loopB 12 (bodyOf Try.prog 47)))) (ntOf Try.prog 47) (fun lock tt h K=>FitP lock h tt ⟨2,[0,1].zip (maB p l.length l.length l.length W)⟩ (dsM12.zip (I 0::tM l)) /\
   (fitF p->∀ g':Nat->Nat->Int,gFar p g'->K .normal (dsM12.zip (I l.length::tM l)) ⟨2,[0,1].zip (maB p l.length l.length l.length g')⟩) /\
   (¬ fitF p->∀ (m:Nat) (g':Nat->Nat->Int),K .ret (dsM12.zip (I m::tR l)) ⟨2,[0,1].zip (maB p l.length l.length l.length g')⟩)):=by
  refine loop_rowD hmix good0 (un:=10) (ds:=dsM12) (ns:=[0,1]) (nx:=2) (lsp:=fun s:Nat × (Nat->Nat->Int)=>tabB [(14,lI14 p l s.1 s.2),(18,lC18 p l s.1)]) (fun s=>I s.1::tM l) (fun s=>maB p l.length l.length l.length s.2)
   (fun s=>s.1<=l.length/\(∀ a b,a<l.length->b<l.length->s.2 a b=rd (fwN l.length s.1 (flat W)) a b)/\∀ j,j<s.1->¬ badD l.length (fwN l.length (j+1) (flat W))) (fun s=>l.length - s.1)
   (fun _ e vs bs=>(e=.exit 12/\fitF p/\vs=I l.length::tM l/\∃ g',gFar p g'/\bs=maB p l.length l.length l.length g') ∨ (e=.ret/\¬ fitF p/\∃ (m:Nat) (g':Nat->Nat->Int),vs=I m::tR l/\bs=maB p l.length l.length l.length g')) (fun _ _=>lsp_two (by kernel_rfl) (by kernel_rfl) lI14_ok lC18_ok) ?_ ?_
  ·rintro ⟨m,g⟩ ⟨hm,hg,hj⟩
   dsimp only at hm hg hj
   refine cast (m12_ev p l m g _).symm ?_
   refine cond_d (fun h=>?_) (fun h=>?_)
   ·have hm2:m<l.length:=by omega
    refine ⟨g,⟨⟨rfl,rfl,VB.fit_refl _,VB.fit_refl _,trivial⟩,rfl,rfl,rfl,rfl,rfl,rfl,rfl,rfl,trivial⟩,ro_of hw hn hm2 hg hj,fun _ _ _ _=>rfl,fun g' hg'=>⟨g',⟨⟨rfl,rfl,VB.fit_refl _,VB.fit_refl _,trivial⟩,rfl,rfl,rfl,rfl,rfl,rfl,rfl,rfl,trivial⟩,hn,fun hc=>cond_r (by omega) ?_,fun hc i=>?_⟩⟩
    all_goals
     have hs:∀ a b,a<l.length->b<l.length->g' a b=rd (fwN l.length (m+1) (flat W)) a b:=fun a b ha hb=>by
      rw [hg' a b ha hb]
      show _=rd (iF l.length m l.length (fwN l.length m (flat W))) a b
      rw [Nos.iF_rnd hn hm2 ha hb]
      unfold rnd
      rw [hg a m ha hm2,hg m b hm2 hb,hg a b ha hb]
    ·refine ⟨(m+1,g'),⟨by show m+1<=_; omega,hs,fun j hj2=>?_⟩,by show l.length - (m+1)<l.length - m; omega,rfl,fitBs_refl _,fun _ _ _ h=>h⟩
     by_cases hjm:j=m
     ·subst hjm
      rintro ⟨i,hi,hb⟩
      refine hc i hi ?_
      rw [hs i i hi hi]
      exact hb
     ·exact hj j (by have hj2:j<m+1:=hj2; omega)
    ·refine .inr ⟨rfl,fun hfp=>?_,m,g',rfl,rfl⟩
     obtain ⟨i,hi,hb⟩:=hc
     rw [hs i i hi hi] at hb
     exact hfit.2 hfp m hm2 ⟨i,hi,hb⟩
   ·obtain rfl:m=l.length:=by omega
    have hfp:=hfit.1 hj
    exact .inl ⟨rfl,hfp,rfl,g,hfar hfp g hg,rfl⟩
  ·rintro lock tt h K ⟨hf,k1,k2⟩
   refine ⟨(0,W),hf,⟨Nat.zero_le _,fun a b _ hb=>(rd_flat (by omega)).symm,fun j hj=>absurd hj (Nat.not_lt_zero _)⟩,?_⟩
   rintro e vs bs (⟨rfl,hfp,rfl,g',h1,rfl⟩ | ⟨rfl,hfp,m,g',rfl,rfl⟩)
   ·exact k1 hfp g' h1
   ·exact k2 hfp m g'
 exact key lock tt h K ⟨hf,k1,k2⟩
theorem elT22:elT Try.prog 22=3:=by kernel_rfl
theorem most_v (hl:l=ndF p) (hp:PnOk p):(fitF p->∃ h' g,gFar p g/\CallsV Try.prog 47 [.agg (pnL p),noD l] ⟨0,[]⟩ (.ret (.tup [matD l.length l.length g,.bool true])) h') /\
  (¬ fitF p->∃ h' g,CallsV Try.prog 47 [.agg (pnL p),noD l] ⟨0,[]⟩ (.ret (.tup [matD l.length l.length g,.bool false])) h'):=by
 have hn:l.length<=65:=by rw [hl]; exact ndF_le hp
 have h0:0<l.length:=by rw [hl]; exact List.length_pos_of_mem mem_0
 have hall:LoopsOk Try.prog 47 [(0,lF0 p l),(4,lT4 p l),(6,lS6 p l),(8,lD8 p l),(12,lM12 p l)]:=fun y hy=>by
  simp only [List.mem_cons,List.not_mem_nil,or_false] at hy
  rcases hy with rfl | rfl | rfl | rfl | rfl
  ·exact ⟨by kernel_rfl,lF0_ok⟩
  ·exact ⟨by kernel_rfl,lT4_ok⟩
  ·exact ⟨by kernel_rfl,lS6_ok⟩
  ·exact ⟨by kernel_rfl,lD8_ok⟩
  ·exact ⟨by kernel_rfl,lM12_ok⟩
 obtain ⟨r,h',hQ,hc⟩:=of_callN (callL_good hmix noSp hall (un:=10) 20) (f:=47) (args:=[.agg (pnL p),noD l]) (h:=⟨0,[]⟩) (K:=fun r h=>∃ (b:Bool) (g:Nat->Nat->Int),r=.ret (.tup [.slice (.rw 1 0 0) l.length l.length,.bool b])/\h.at 1=.mat l.length l.length l.length g 22 3/\(fitF p/\b=true/\gFar p g ∨ ¬ fitF p/\b=false)) (by
  refine cast (mof_ev p l _).symm (cond_dk ⟨by omega,rfl⟩ (cond_k (room24 (by omega)) ?_))
  refine ⟨0,fun _ _=>0,⟨⟨rfl,rfl,VB.fit_refl _,⟨rfl,rfl,rfl,rfl,elT22,fun _ _ _ _=>rfl⟩,trivial⟩,rfl,rfl,rfl,rfl,rfl,rfl,rfl,trivial⟩,⟨by omega,h0⟩,fun g hg=>?_⟩
  refine ⟨g,⟨⟨rfl,rfl,VB.fit_refl _,VB.fit_refl _,trivial⟩,rfl,rfl,rfl,rfl,rfl,rfl,rfl,trivial⟩,⟨hl,hp⟩,⟨fun i k hi hk=>.inl (hg i k hi hk),fun _ _ _ _ _ h=>h.elim,fun i k hi hk=>by rw [hg i k hi hk]; exact Int.le_refl _⟩,fun g hg=>?_⟩
  refine ⟨g,⟨⟨rfl,rfl,VB.fit_refl _,VB.fit_refl _,trivial⟩,rfl,rfl,rfl,rfl,rfl,rfl,rfl,trivial⟩,⟨hl,hp⟩,hg,fun g hg=>?_⟩
  refine ⟨g,⟨⟨rfl,rfl,VB.fit_refl _,VB.fit_refl _,trivial⟩,rfl,rfl,rfl,rfl,rfl,rfl,rfl,trivial⟩,⟨hl,hp⟩,hg,fun g hg=>?_⟩
  exact ⟨g,⟨⟨rfl,rfl,VB.fit_refl _,VB.fit_refl _,trivial⟩,rfl,rfl,rfl,rfl,rfl,rfl,rfl,trivial⟩,⟨hl,hp⟩,hg,fun hf g hg=>⟨true,g,rfl,rfl,.inl ⟨hf,rfl,hg⟩⟩,fun hf m g=>⟨false,g,rfl,rfl,.inr ⟨hf,rfl⟩⟩⟩)
 obtain ⟨b,g,rfl,hm,hb⟩:=hQ
 have hc2:=calls_tellM (v2:=.tup [matD l.length l.length g,.bool b]) hc hm (fun R R' x hle hv hx=>by
  obtain ⟨xs,⟨y0,ys,q1,q2,rfl⟩,rfl⟩:=hx
  exact ⟨_,⟨y0,_,hv y0 q1,VRelL.mono hle _ _ q2,rfl⟩,rfl⟩)
 rcases hb with ⟨hf,rfl,hg⟩ | ⟨hf,rfl⟩
 ·exact ⟨fun _=>⟨_,g,hg,hc2⟩,fun h=>absurd hf h⟩
 ·exact ⟨fun h=>absurd h hf,fun _=>⟨_,g,hc2⟩⟩
def moR (p:Nos.Pn):FuncId × Spec1:=(47,fun _ args h K=>match args with
 | [x,y]=>(x=.agg (pnL p)/\y=noD (ndF p))/\PnOk p/\(fitF p->∀ g:Nat->Nat->Int,gFar p g->∀ n:Nat,n=(ndF p).length->K (.ret (.tup [matD n n g,.bool true])) h)/\(¬ fitF p->∀ (g:Nat->Nat->Int) (n:Nat),n=(ndF p).length->K (.ret (.tup [matD n n g,.bool false])) h)
 | _=>False)
theorem moR_ok:SpOk Try.prog (moR p).1 (moR p).2:=by
 intro lock args h K hK
 simp only [moR] at hK
 split at hK
 ·obtain ⟨⟨rfl,rfl⟩,hp,k1,k2⟩:=hK
  obtain ⟨m1,m2⟩:=most_v (p:=p) rfl hp
  by_cases hf:fitF p
  ·obtain ⟨h',g,hg,hc⟩:=m1 hf
   exact ⟨_,h,k1 hf g hg _ rfl,lockP_refl _ _,calls_lift0 hc rfl rfl⟩
  ·obtain ⟨h',g,hc⟩:=m2 hf
   exact ⟨_,h,k2 hf g _ rfl,lockP_refl _ _,calls_lift0 hc rfl rfl⟩
 ·exact hK.elim
def ndR (p:Nos.Pn):FuncId × Spec1:=(48,fun _ args h K=>match args with
 | [x]=>x=.agg (pnL p)/\PnOk p/\∀ l:List Nod,l=ndF p->K (.ret (noD l)) h
 | _=>False)
theorem ndR_ok:SpOk Try.prog (ndR p).1 (ndR p).2:=by
 intro lock args h K hK
 simp only [ndR] at hK
 split at hK
 ·obtain ⟨rfl,hp,k1⟩:=hK
  have h1:=hp.t
  have h2:=hp.s
  obtain ⟨h',hc⟩:=nodes_v (p:=p) (by omega) (by omega)
  exact ⟨_,h,k1 _ rfl,lockP_refl _ _,calls_lift0 hc rfl rfl⟩
 ·exact hK.elim
end
end Go.Sx.Nod
namespace Go.Sx.Nod
open Go Go.Sx Go.Proofs
set_option maxRecDepth 1000000
def VP (i:Nat):List VV:=[I i,.bool false,.ptr (.own 0 0)]
def BP0 (p:Nos.Pn):List VB:=[.cells (pnL p) 26]
theorem p0_ev (p:Nos.Pn) (i:Nat) (X:VEx->List VV->List VB->Prop):codeE Try.prog (callN Try.prog noSpec noL 10 20) (fun _=>none) true 10 (ntOf Try.prog 15) 0 (loopB 0 (bodyOf Try.prog 15)) ([3,2,1].zip (VP i)) ⟨1,[0].zip (BP0 p)⟩ (obs 1 [3,2,1] [0] X) =
 (bif decide ((↑i:Int)<(↑p.D.length:Int)) then
 bif decide ((0:Int)<=(↑i:Int)/\(↑i:Int)<(↑p.D.length:Int)) then
 bif decide ((0:Int)<=p.D.getD (↑i:Int).toNat (0:Int)) then
 bif !decide (p.D.getD (↑i:Int).toNat (0:Int)<=(1000:Int)) then
 X VEx.ret [I (↑i:Int),VV.bool false,VV.ptr (VA.own 0 0)] [.cells (pnL p) 26]
 else bif inK .i64 ((↑i:Int)+(1:Int)) then
 X .normal [I ((↑i:Int)+(1:Int)),VV.bool false,VV.ptr (VA.own 0 0)] [.cells (pnL p) 26]
 else False
 else X VEx.ret [I (↑i:Int),VV.bool false,VV.ptr (VA.own 0 0)] [.cells (pnL p) 26]
 else False
 else X (VEx.exit 0) [I (↑i:Int),VV.bool false,VV.ptr (VA.own 0 0)] [.cells (pnL p) 26]):=by kernel_rfl
theorem p2_ev (p:Nos.Pn) (i:Nat) (X:VEx->List VV->List VB->Prop):codeE Try.prog (callN Try.prog noSpec noL 10 20) (fun _=>none) true 10 (ntOf Try.prog 15) 0 (loopB 2 (bodyOf Try.prog 15)) ([4,2,1].zip (VP i)) ⟨1,[0].zip (BP0 p)⟩ (obs 1 [4,2,1] [0] X) =
 (bif decide ((↑i:Int)<(↑p.T.length:Int)) then
 bif decide ((0:Int)<=(↑i:Int)/\(↑i:Int)<(↑p.T.length:Int)) then
 bif inK .i64 ((↑p.D.length:Int) - (1:Int)) then
 bif decide ((0:Int)<=(p.T.getD (↑i:Int).toNat Nos.t0).j) then
 bif !decide ((p.T.getD (↑i:Int).toNat Nos.t0).j<=(↑p.D.length:Int) - (1:Int)) then
 X VEx.ret [I (↑i:Int),VV.bool false,VV.ptr (VA.own 0 0)] [.cells (pnL p) 26]
 else bif decide ((0:Int)<=(p.T.getD (↑i:Int).toNat Nos.t0).s) then
 bif !decide ((p.T.getD (↑i:Int).toNat Nos.t0).s<=(15:Int)) then
 X VEx.ret [I (↑i:Int),VV.bool false,VV.ptr (VA.own 0 0)] [.cells (pnL p) 26]
 else bif decide ((0:Int)<=(p.T.getD (↑i:Int).toNat Nos.t0).p) then
 bif !decide ((p.T.getD (↑i:Int).toNat Nos.t0).p<=(1000:Int)) then
 X VEx.ret [I (↑i:Int),VV.bool false,VV.ptr (VA.own 0 0)] [.cells (pnL p) 26]
 else bif decide ((-100000:Int)<=(p.T.getD (↑i:Int).toNat Nos.t0).c) then
 bif !decide ((p.T.getD (↑i:Int).toNat Nos.t0).c<=(100000:Int)) then
 X VEx.ret [I (↑i:Int),VV.bool false,VV.ptr (VA.own 0 0)] [.cells (pnL p) 26]
 else bif decide ((0:Int)<=(p.T.getD (↑i:Int).toNat Nos.t0).o) then
 bif !decide ((p.T.getD (↑i:Int).toNat Nos.t0).o<=(10000:Int)) then
 X VEx.ret [I (↑i:Int),VV.bool false,VV.ptr (VA.own 0 0)] [.cells (pnL p) 26]
 else bif inK .i64 ((↑i:Int)+(1:Int)) then
 X .normal [I ((↑i:Int)+(1:Int)),VV.bool false,VV.ptr (VA.own 0 0)] [.cells (pnL p) 26]
 else False
 else X VEx.ret [I (↑i:Int),VV.bool false,VV.ptr (VA.own 0 0)] [.cells (pnL p) 26]
 else X VEx.ret [I (↑i:Int),VV.bool false,VV.ptr (VA.own 0 0)] [.cells (pnL p) 26]
 else X VEx.ret [I (↑i:Int),VV.bool false,VV.ptr (VA.own 0 0)] [.cells (pnL p) 26]
 else X VEx.ret [I (↑i:Int),VV.bool false,VV.ptr (VA.own 0 0)] [.cells (pnL p) 26]
 else X VEx.ret [I (↑i:Int),VV.bool false,VV.ptr (VA.own 0 0)] [.cells (pnL p) 26]
 else False
 else False
 else X (VEx.exit 2) [I (↑i:Int),VV.bool false,VV.ptr (VA.own 0 0)] [.cells (pnL p) 26]):=by kernel_rfl
theorem p4_ev (p:Nos.Pn) (i:Nat) (X:VEx->List VV->List VB->Prop):codeE Try.prog (callN Try.prog noSpec noL 10 20) (fun _=>none) true 10 (ntOf Try.prog 15) 0 (loopB 4 (bodyOf Try.prog 15)) ([6,2,1].zip (VP i)) ⟨1,[0].zip (BP0 p)⟩ (obs 1 [6,2,1] [0] X) =
 (bif decide ((↑i:Int)<(↑p.S.length:Int)) then
 bif decide ((0:Int)<=(↑i:Int)/\(↑i:Int)<(↑p.S.length:Int)) then
 bif decide ((0:Int)<=(p.S.getD (↑i:Int).toNat Nos.s0).s) then
 bif !decide ((p.S.getD (↑i:Int).toNat Nos.s0).s<=(15:Int)) then
 X VEx.ret [I (↑i:Int),VV.bool false,VV.ptr (VA.own 0 0)] [.cells (pnL p) 26]
 else bif decide ((p.S.getD (↑i:Int).toNat Nos.s0).lo<(-100000:Int)) then
 X VEx.ret [I (↑i:Int),VV.bool false,VV.ptr (VA.own 0 0)] [.cells (pnL p) 26]
 else bif decide ((p.S.getD (↑i:Int).toNat Nos.s0).lo > (p.S.getD (↑i:Int).toNat Nos.s0).hi) then
 X VEx.ret [I (↑i:Int),VV.bool false,VV.ptr (VA.own 0 0)] [.cells (pnL p) 26]
 else bif decide ((p.S.getD (↑i:Int).toNat Nos.s0).hi > (100000:Int)) then
 X VEx.ret [I (↑i:Int),VV.bool false,VV.ptr (VA.own 0 0)] [.cells (pnL p) 26]
 else bif inK .i64 ((↑i:Int)+(1:Int)) then
 X .normal [I ((↑i:Int)+(1:Int)),VV.bool false,VV.ptr (VA.own 0 0)] [.cells (pnL p) 26]
 else False
 else X VEx.ret [I (↑i:Int),VV.bool false,VV.ptr (VA.own 0 0)] [.cells (pnL p) 26]
 else False
 else X (VEx.exit 4) [I (↑i:Int),VV.bool false,VV.ptr (VA.own 0 0)] [.cells (pnL p) 26]):=by kernel_rfl
def lPn (p:Nos.Pn) (d N:Nat) (ok:Nat->Prop):LT:=fun lock tt h K=>
 FitP lock h tt ⟨1,[0].zip (BP0 p)⟩ ([d,2,1].zip (VP 0))/\(N<=1000/\p.D.length<=1000)/\((∀ j,j<N->ok j)->K .normal ([d,2,1].zip (VP N)) ⟨1,[0].zip (BP0 p)⟩)/\((¬ ∀ j,j<N->ok j)->∀ i:Nat,K .ret ([d,2,1].zip (VP i)) ⟨1,[0].zip (BP0 p)⟩)
def okD (p:Nos.Pn) (j:Nat):Prop:=0<=p.D.getD j 0/\p.D.getD j 0<=1000
def okTs (p:Nos.Pn) (t:Nos.Ts):Prop:=(0<=t.j/\t.j<p.D.length)/\(0<=t.s/\t.s<=15)/\(0<=t.p/\t.p<=1000)/\(-100000<=t.c/\t.c<=100000)/\(0<=t.o/\t.o<=10000)
def okSd (s:Nos.Sd):Prop:=(0<=s.s/\s.s<=15)/\-100000<=s.lo/\s.lo<=s.hi/\s.hi<=100000
theorem rp_ev (p:Nos.Pn) (Q:VRes->Prop):callN Try.prog noSpec (atF 15 [(0,lPn p 3 p.D.length (okD p)),(2,lPn p 4 p.T.length fun j=>okTs p (p.T.getD j Nos.t0)),(4,lPn p 6 p.S.length fun j=>okSd (p.S.getD j Nos.s0))]) 10 20 0 (.fn 15) [.agg (pnL p)] ⟨0,[]⟩ (fun r _=>Q r) =
 (bif decide ((↑p.D.length:Int) > (8:Int)) then
 Q (VRes.ret (VV.bool false))
 else bif decide ((↑p.T.length:Int) > (48:Int)) then
 Q (VRes.ret (VV.bool false))
 else bif decide ((↑p.S.length:Int) > (16:Int)) then
 Q (VRes.ret (VV.bool false))
 else FitP 0 (VH.mk 1 ([0].zip (BP0 p))) ([3,2,1].zip (VP 0)) (VH.mk 1 ([0].zip (BP0 p))) ([3,2,1].zip (VP 0))/\(p.D.length<=1000/\p.D.length<=1000)/\((∀ (j:Nat),j<p.D.length->okD p j)->FitP 0 (VH.mk 1 ([0].zip (BP0 p))) ([4,2,1].zip (VP 0)) (VH.mk 1 ([0].zip (BP0 p))) ([4,2,1].zip (VP 0))/\(p.T.length<=1000/\p.D.length<=1000)/\((∀ (j:Nat),j<p.T.length->(fun (j:Nat)=>okTs p (p.T.getD j Nos.t0)) j)->FitP 0 (VH.mk 1 ([0].zip (BP0 p))) ([6,2,1].zip (VP 0)) (VH.mk 1 ([0].zip (BP0 p))) ([6,2,1].zip (VP 0))/\(p.S.length<=1000/\p.D.length<=1000)/\((∀ (j:Nat),j<p.S.length->(fun (j:Nat)=>okSd (p.S.getD j Nos.s0)) j)->Q (VRes.ret (VV.bool true)))/\((¬∀ (j:Nat),j<p.S.length->(fun (j:Nat)=>okSd (p.S.getD j Nos.s0)) j)->∀ (i:Nat),Q (VRes.ret (VV.bool false))))/\((¬∀ (j:Nat),j<p.T.length->(fun (j:Nat)=>okTs p (p.T.getD j Nos.t0)) j)->∀ (i:Nat),Q (VRes.ret (VV.bool false))))/\((¬∀ (j:Nat),j<p.D.length->okD p j)->∀ (i:Nat),Q (VRes.ret (VV.bool false)))):=by kernel_rfl
end Go.Sx.Nod
namespace Go.Sx.Nod
open Go Go.Sx Go.Proofs
open Go.Sx.Nos (PnOk panB panB_iff)
set_option maxRecDepth 1000000
section
variable {p:Nos.Pn}
theorem lPn_ok {lp d N:Nat} {ok:Nat->Prop} (hr:∀ i (X:VEx->List VV->List VB->Prop),i<=N->N<=1000->p.D.length<=1000->(i<N->ok i->X .normal (VP (i+1)) (BP0 p))->(i<N->¬ ok i->X .ret (VP i) (BP0 p))->(i=N->X (.exit lp) (VP i) (BP0 p)) ->
   codeE Try.prog (callN Try.prog noSpec noL 10 20) (fun _=>none) true 10 (ntOf Try.prog 15) 0 (loopB lp (bodyOf Try.prog 15)) ([d,2,1].zip (VP i)) ⟨1,[0].zip (BP0 p)⟩ (obs 1 [d,2,1] [0] X)) :
  LSound Try.prog true (.block lp (.loop (loopB lp (bodyOf Try.prog 15)))) (ntOf Try.prog 15) (lPn p d N ok):=by
 by_cases hh:N<=1000/\p.D.length<=1000
 ·obtain ⟨h1,h2⟩:=hh
  refine loop_row hmix good0 (un:=10) (ds:=[d,2,1]) (ns:=[0]) (nx:=1) (fun i:Nat=>VP i) (fun _=>BP0 p) (fun i=>i<=N/\∀ j,j<i->ok j) (fun i=>N - i) (fun _ e vs bs=>bs=BP0 p/\((e=.exit lp/\(∀ j,j<N->ok j)/\vs=VP N) ∨ (e=.ret/\(¬ ∀ j,j<N->ok j)/\∃ i:Nat,vs=VP i))) noL_ok ?_ ?_
  ·rintro i ⟨hi,hg⟩
   refine hr i _ hi h1 h2 (fun hiN ho=>?_) (fun hiN ho=>?_) (fun hiN=>?_)
   ·refine ⟨i+1,⟨by show i+1<=N; omega,fun j hj=>?_⟩,by show N - (i+1)<N - i; omega,rfl,fitBs_refl _,fun _ _ _ h=>h⟩
    by_cases hji:j=i
    ·subst hji; exact ho
    ·exact hg j (by omega)
   ·exact ⟨rfl,.inr ⟨rfl,fun h=>ho (h i hiN),i,rfl⟩⟩
   ·subst hiN
    exact ⟨rfl,.inl ⟨rfl,hg,rfl⟩⟩
  ·rintro lock tt h K ⟨hf,_,k1,k2⟩
   refine ⟨0,hf,⟨Nat.zero_le _,fun j hj=>absurd hj (Nat.not_lt_zero _)⟩,?_⟩
   rintro e vs bs ⟨rfl,⟨rfl,h1,rfl⟩ | ⟨rfl,h1,i,rfl⟩⟩
   ·rw [show exitOf lp (.exit lp)=.normal by simp [exitOf]]
    exact k1 h1
   ·exact k2 h1 i
 ·rintro lock tt h K ⟨hf,hc,_⟩
  exact (hh hc).elim
theorem lPD_ok:LSound Try.prog true (.block 0 (.loop (loopB 0 (bodyOf Try.prog 15)))) (ntOf Try.prog 15) (lPn p 3 p.D.length (okD p)):=lPn_ok fun i X hi hN hD k1 k2 k3=>by
 refine cast (p0_ev p i _).symm ?_
 have e:okD p i ↔ 0<=p.D.getD (i:Int).toNat 0/\p.D.getD (i:Int).toNat 0<=1000:=by rw [Int.toNat_natCast]; exact Iff.rfl
 refine cond_d (fun h=>cond_dk ⟨by omega,by omega⟩ (cond_d (fun c1=>cond_nd (fun c2=>k2 (by omega) fun h=>c2 (e.1 h).2) (fun c2=>cond_r (by omega) (k1 (by omega) (e.2 ⟨c1,c2⟩)))) (fun c1=>k2 (by omega) fun h=>c1 (e.1 h).1))) (fun h=>k3 (by omega))
theorem lPT_ok:LSound Try.prog true (.block 2 (.loop (loopB 2 (bodyOf Try.prog 15)))) (ntOf Try.prog 15) (lPn p 4 p.T.length fun j=>okTs p (p.T.getD j Nos.t0)):=lPn_ok fun i X hi hN hD k1 k2 k3=>by
 refine cast (p2_ev p i _).symm ?_
 refine cond_d (fun h=>cond_dk ⟨by omega,by omega⟩ (cond_r (by omega) ?_)) (fun h=>k3 (by omega))
 have k1:okTs p (p.T.getD (i:Int).toNat Nos.t0)->X .normal (VP (i+1)) (BP0 p):=fun h=>k1 (by omega) (by rw [Int.toNat_natCast] at h; exact h)
 have k2:¬ okTs p (p.T.getD (i:Int).toNat Nos.t0)->X .ret (VP i) (BP0 p):=fun h=>k2 (by omega) (by rw [Int.toNat_natCast] at h; exact h)
 generalize p.T.getD (i:Int).toNat Nos.t0=t at k1 k2 ⊢
 unfold okTs at k1 k2
 refine cond_d (fun a1=>cond_nd (fun a2=>k2 (by omega)) (fun a2=>?_)) (fun a1=>k2 (by omega))
 refine cond_d (fun b1=>cond_nd (fun b2=>k2 (by omega)) (fun b2=>?_)) (fun b1=>k2 (by omega))
 refine cond_d (fun c1=>cond_nd (fun c2=>k2 (by omega)) (fun c2=>?_)) (fun c1=>k2 (by omega))
 refine cond_d (fun d1=>cond_nd (fun d2=>k2 (by omega)) (fun d2=>?_)) (fun d1=>k2 (by omega))
 exact cond_d (fun e1=>cond_nd (fun e2=>k2 (by omega)) (fun e2=>cond_r (by omega) (k1 (by omega)))) (fun e1=>k2 (by omega))
theorem lPS_ok:LSound Try.prog true (.block 4 (.loop (loopB 4 (bodyOf Try.prog 15)))) (ntOf Try.prog 15) (lPn p 6 p.S.length fun j=>okSd (p.S.getD j Nos.s0)):=lPn_ok fun i X hi hN hD k1 k2 k3=>by
 refine cast (p4_ev p i _).symm ?_
 refine cond_d (fun h=>cond_dk ⟨by omega,by omega⟩ ?_) (fun h=>k3 (by omega))
 have k1:okSd (p.S.getD (i:Int).toNat Nos.s0)->X .normal (VP (i+1)) (BP0 p):=fun h=>k1 (by omega) (by rw [Int.toNat_natCast] at h; exact h)
 have k2:¬ okSd (p.S.getD (i:Int).toNat Nos.s0)->X .ret (VP i) (BP0 p):=fun h=>k2 (by omega) (by rw [Int.toNat_natCast] at h; exact h)
 generalize p.S.getD (i:Int).toNat Nos.s0=t at k1 k2 ⊢
 unfold okSd at k1 k2
 refine cond_d (fun a1=>cond_nd (fun a2=>k2 (by omega)) (fun a2=>?_)) (fun a1=>k2 (by omega))
 exact cond_d (fun b1=>k2 (by omega)) (fun b1=>cond_d (fun c1=>k2 (by omega)) (fun c1=>cond_d (fun d1=>k2 (by omega)) (fun d1=>cond_r (by omega) (k1 (by omega)))))
theorem getD_all {α:Type} {l:List α} {d:α} {P:α->Prop}:(∀ j,j<l.length->P (l.getD j d)) ↔ ∀ x ∈ l,P x:=by
 constructor
 ·intro h x hx
  obtain ⟨j,hj,rfl⟩:=List.mem_iff_getElem.1 hx
  have:=h j hj
  rwa [List.getD_eq_getElem?_getD,List.getElem?_eq_getElem hj] at this
 ·intro h j hj
  rw [List.getD_eq_getElem?_getD,List.getElem?_eq_getElem hj]
  exact h _ (List.getElem_mem hj)
theorem pn_t (h:PnOk p):panB p=true:=panB_iff.2 h
theorem pn_f (h:¬ PnOk p):panB p=false:=Bool.eq_false_iff.2 fun h2=>h (panB_iff.1 h2)
theorem panel_v:∃ h',CallsV Try.prog 15 [.agg (pnL p)] ⟨0,[]⟩ (.ret (.bool (panB p))) h':=by
 have hall:LoopsOk Try.prog 15 [(0,lPn p 3 p.D.length (okD p)),(2,lPn p 4 p.T.length fun j=>okTs p (p.T.getD j Nos.t0)),(4,lPn p 6 p.S.length fun j=>okSd (p.S.getD j Nos.s0))]:=fun y hy=>by
  simp only [List.mem_cons,List.not_mem_nil,or_false] at hy
  rcases hy with rfl | rfl | rfl
  ·exact ⟨by kernel_rfl,lPD_ok⟩
  ·exact ⟨by kernel_rfl,lPT_ok⟩
  ·exact ⟨by kernel_rfl,lPS_ok⟩
 obtain ⟨r,h',rfl,hc⟩:=of_callN (callL_good hmix noSp hall (un:=10) 20) (f:=15) (args:=[.agg (pnL p)]) (h:=⟨0,[]⟩) (K:=fun r _=>r=.ret (.bool (panB p))) (by
  refine cast (rp_ev p _).symm ?_
  refine cond_d (fun c=>by rw [pn_f fun h=>by have:=h.d; omega]) (fun c1=>cond_d (fun c=>by rw [pn_f fun h=>by have:=h.t; omega]) (fun c2=>cond_d (fun c=>by rw [pn_f fun h=>by have:=h.s; omega]) (fun c3=>?_)))
  refine ⟨fitP_self rfl,⟨by omega,by omega⟩,fun h1=>⟨fitP_self rfl,⟨by omega,by omega⟩,fun h2=>⟨fitP_self rfl,⟨by omega,by omega⟩,fun h3=>?_,fun h3 _=>?_⟩,fun h2 _=>?_⟩,fun h1 _=>?_⟩
  ·rw [pn_t ⟨by omega,by omega,by omega,(getD_all (P:=fun x:Int=>0<=x/\x<=1000)).1 h1,(getD_all (P:=okTs p)).1 h2,(getD_all (P:=okSd)).1 h3⟩]
  ·rw [pn_f fun h=>h3 ((getD_all (P:=okSd)).2 h.sd)]
  ·rw [pn_f fun h=>h2 ((getD_all (P:=okTs p)).2 h.ts)]
  ·rw [pn_f fun h=>h1 ((getD_all (P:=fun x:Int=>0<=x/\x<=1000)).2 h.dr)])
 exact ⟨h',hc⟩
def rpR (p:Nos.Pn):FuncId × Spec1:=(15,fun _ args h K=>match args with
 | [x]=>isD h 2 x (.agg (pnL p))/\K (.ret (.bool (panB p))) h
 | _=>False)
theorem rpR_ok:SpOk Try.prog (rpR p).1 (rpR p).2:=by
 intro lock args h K hK
 simp only [rpR] at hK
 split at hK
 ·obtain ⟨h1,hK⟩:=hK
  obtain ⟨h',hc⟩:=panel_v (p:=p)
  exact ⟨_,h,hK,lockP_refl _ _,calls_lendDP 2 hc rfl ⟨h1,trivial⟩⟩
 ·exact hK.elim
end
end Go.Sx.Nod
namespace Go.Sx.Nos
open Go Go.Sx Go.Proofs
set_option maxRecDepth 1000000
def trR (Q:VRes->List VB->Prop):VRes->VH->Prop:=fun r h=>Q r [h.at 0,h.at 1,h.at 2,h.at 6,h.at 7]
theorem tried_ev (p:Pn) (c1 c2 c3:Nat) (Q:VRes->List VB->Prop):spD Try.prog 46 (tabS [tasT p c1 c2 c3]) noL 10 20 0 [.agg (pnV p c1 c2 c3)] (pnH p) (trR Q) =
 ((arD p=arD p/\arT p=arT p/\arS p=arS p/\pnB p c1 c2 c3=pnB p c1 c2 c3)/\(PnOk p/\SafeP p)/\(fitF p->Q (VRes.ret (VV.tup [VV.ptr (VA.own (6+1) 0),VV.bool true])) [arD p,arT p,arS p,VB.map kU (PK.int IntKind.i64) (esOf (sAll p).fst),VB.fam [VV.mp (6)] 4225 (farF p) (93:TypeId)])/\(¬fitF p->Q (VRes.ret (VV.tup [VV.nilp,VV.bool false])) [arD p,arT p,arS p,VB.cells [] 108,VB.free])):=by kernel_rfl
end Go.Sx.Nos
namespace Go.Sx.Nos
open Go Go.Sx Go.Proofs
set_option maxRecDepth 1000000
section
variable {p:Pn} {c1 c2 c3:Nat}
theorem tried_v (hp:PnOk p) :
  (fitF p->CallsV Try.prog 46 [.agg (pnV p c1 c2 c3)] (pnH p) (.ret (.tup [.ptr (.own 7 0),.bool true])) ⟨8,[(6,maB (noP p)),(7,faB 6 (farF p))]⟩) /\
  (¬ fitF p->CallsV Try.prog 46 [.agg (pnV p c1 c2 c3)] (pnH p) (.ret (.tup [.nilp,.bool false])) ⟨6,[]⟩):=by
 obtain ⟨r,h',hQ,hc⟩:=of_sp (spD_ok hmix (f:=46) (sp:=tabS [tasT p c1 c2 c3]) (un:=10) (fu:=20) (tabs_ok (by
   intro x hx
   simp only [List.mem_singleton] at hx
   subst hx
   exact tasT_ok))) (args:=[.agg (pnV p c1 c2 c3)]) (h:=pnH p)
  (K:=trR fun r bs=>(fitF p/\r=.ret (.tup [.ptr (.own 7 0),.bool true])/\bs=[arD p,arT p,arS p,maB (noP p),faB 6 (farF p)]) ∨ (¬ fitF p/\r=.ret (.tup [.nilp,.bool false])))
  (by
   refine cast (tried_ev p c1 c2 c3 _).symm ?_
   exact ⟨⟨rfl,rfl,rfl,rfl⟩,⟨hp,safe_all hp⟩,fun h=>.inl ⟨h,rfl,rfl⟩,fun h=>.inr ⟨h,rfl⟩⟩)
 rcases hQ with ⟨hf,rfl,hb⟩ | ⟨hf,rfl⟩
 ·refine ⟨fun _=>?_,fun h=>absurd hf h⟩
  injection hb with g0 hb
  injection hb with g1 hb
  injection hb with g2 hb
  injection hb with g3 hb
  injection hb with g4 hb
  exact calls_weak hc (show 3<=8 by decide) ⟨by rw [g3]; exact VB.fit_refl _,by rw [g4]; exact VB.fit_refl _,trivial⟩ rfl rfl
 ·refine ⟨fun h=>absurd h hf,fun _=>calls_weak hc (show 3<=6 by decide) trivial rfl rfl⟩
theorem calls_pnN {f:FuncId} {pl:List VV} {d t s:VV} {h:VH} {r:VRes} {bl:List VB} (o:Nat)
  (hs:∀ c1 c2 c3,∃ h',CallsV Try.prog f (.agg (pnV p c1 c2 c3)::pl) (pnH p) r h'/\∀ i,h'.at (o+i)=(bl[i]?).getD .free) (hr:r.fl2 o=true) (hbl:∀ c ∈ bl,c.fl2 o) (hpl:pureL pl=true) (hp:pnIs h p d t s) :
  CallsV Try.prog f (.agg [d,t,s]::pl) h (r.sh o h.nx) (pushL h (bl.map (VB.sh o h.nx))):=by
 refine calls_view_mk (hm:=agH (pnA p)) o (fun n=>?_) hr hbl ?_
 ·rcases agH_at (pnA p) n with ⟨s,ok,g,h1,_⟩ | h1 | h1
  ·exact .inl ⟨s,ok,g,h1⟩
  ·exact .inr (.inl h1)
  ·exact .inr (.inr h1)
 ·intro B R w xs em hx
  obtain ⟨y,ys,⟨us,hus,rfl⟩,hys,rfl⟩:=hx
  obtain ⟨cs,qs,h1,h2⟩:=ag_view em (pnA p) 0 [d,t,s] us (pnIs_ag hp) hus
  obtain ⟨c1,c2,c3,hcs⟩:=pnA_args p cs
  obtain ⟨hm',hc,hat⟩:=hs c1 c2 c3
  refine ⟨fun n _=>qs n,fun n=>agSt 0 (pnA p) n,_,hm',hc,hat,⟨fun n s ok g hn=>?_⟩,?_⟩
  ·rcases agH_at (pnA p) n with ⟨s',ok',g',h3,h4⟩ | h3 | h3
   ·rw [h3] at hn
    cases hn
    obtain ⟨g1,g2⟩:=h1 n _ _ _ h4
    refine ⟨g1,fun ix i hi=>?_⟩
    obtain ⟨k1,k2,k3,k4⟩:=g2 ix i hi
    exact ⟨k1,k2,k3,k4 _⟩
   ·rw [h3] at hn; cases hn
   ·rw [h3] at hn; cases hn
  ·refine ⟨_,ys,⟨us,?_,rfl⟩,pure_L _ _ hpl hys,rfl⟩
   rw [<- hcs]
   exact h2 _ fun m _=>rfl
end
def triT:FuncId × Spec1:=(46,fun _ args h K=>match args with
 | [.agg [d,t,s]]=>∃ p:Pn,pnIs h p d t s/\PnOk p/\(match h with
   | ⟨nx,bs⟩=>(fitF p->K (.ret (.tup [.ptr (.own (nx+1) 0),.bool true])) ⟨nx+2,(nx+1,faB nx (farF p))::(nx,maB (noP p))::bs⟩)/\(¬ fitF p->K (.ret (.tup [.nilp,.bool false])) ⟨nx,bs⟩))
 | _=>False)
theorem at_8 {bs:List (Nat × VB)} {k i:Nat} (h:¬ i<k):(VH.mk k bs).at i=.free:=at_geA h
theorem triT_ok:SpOk Try.prog triT.1 triT.2:=by
 intro lock args h K hK
 simp only [triT] at hK
 split at hK
 ·rename_i d t s
  obtain ⟨p,hpn,hp,hK⟩:=hK
  obtain ⟨nx,bs⟩:=h
  by_cases hf:fitF p
  ·have h1:=calls_pnN (f:=46) (pl:=[]) (r:=.ret (.tup [.ptr (.own 7 0),.bool true])) (bl:=[maB (noP p),faB 6 (farF p)]) 6 (fun c1 c2 c3=>⟨_,(tried_v hp).1 hf,fun i=>by
    match i with
    | 0=>rfl
    | 1=>rfl
    | i+2=>
     rw [at_8 (by omega)]
     rfl⟩) rfl (fun c hc=>by
    simp only [List.mem_cons,List.not_mem_nil,or_false] at hc
    rcases hc with rfl | rfl
    ·trivial
    ·exact (rfl:flL2 6 [VV.mp 6]=true)) rfl hpn
   have s7:shN 6 nx 7=nx+1:=by unfold shN; rw [if_neg (by decide)]; omega
   have s6:shN 6 nx 6=nx:=by unfold shN; rw [if_neg (by decide)]; omega
   have e1:(VRes.ret (.tup [.ptr (.own 7 0),.bool true])).sh 6 nx=.ret (.tup [.ptr (.own (nx+1) 0),.bool true]):=congrArg (fun n=>VRes.ret (.tup [.ptr (.own n 0),.bool true])) s7
   have e2:([maB (noP p),faB 6 (farF p)]:List VB).map (VB.sh 6 nx)=[maB (noP p),faB nx (farF p)]:=congrArg (fun n=>[maB (noP p),VB.fam [.mp n] 4225 (farF p) 93]) s6
   refine ⟨_,_,hK.1 hf,?_,?_⟩
   ·exact lockP_push (lock:=lock) (VH.mk nx bs) [maB (noP p),faB nx (farF p)]
   ·have h1:CallsV Try.prog 46 [.agg [d,t,s]] ⟨nx,bs⟩ ((VRes.ret (.tup [.ptr (.own 7 0),.bool true])).sh 6 nx) (pushL ⟨nx,bs⟩ (([maB (noP p),faB 6 (farF p)]:List VB).map (VB.sh 6 nx))):=h1
    rw [e1,e2] at h1
    exact h1
  ·refine ⟨_,_,hK.2 hf,lockP_refl _ _,?_⟩
   exact calls_pn (f:=46) (pl:=[]) (r:=.ret (.tup [.nilp,.bool false])) (fun c1 c2 c3=>⟨_,(tried_v hp).2 hf⟩) rfl rfl hpn
 ·exact hK.elim
end Go.Sx.Nos
namespace Go.Sx.Nos
open Go Go.Sx Go.Proofs
set_option maxRecDepth 1000000
noncomputable def as59:Code:=rfAs Try.prog 59
noncomputable def bd59:Code:=rfBd Try.prog 59
def slH (b:Bool) (y z:Int):Slots:=[(10,.func 70 [] [.ptr (.own 6 0)]),(9,.ptr (.own 3 0)),(8,.bool false),(8,.bool (b == false && (decide (y=0) && (decide (z=0) && true)))),(7,.agg [.bool false,I 0,I 0]),(6,.agg [.bool b,I y,I z]),(4,.ptr (.own 5 0)),(3,.ptr (.own 4 0)),(0,.ptr (.own 3 0)),(1,.agg [.bool b,I y,I z])]
noncomputable def recH (b:Bool) (y z:Int):VB:=.loop true none (slH b y z) 17 [11,12] as59 bd59
noncomputable def recD (b:Bool) (y z:Int):VB:=.loop false (some .ret) (slH b y z) 17 [11,12] as59 bd59
def nsH:List Nat:=[0,1,2,3,4,5,6,7]
def BH (p:Pn) (c1 c2 c3:Nat) (b:Bool) (y z:Int) (r:Bool) (rc:VB):List VB:=BP p c1 c2 c3 ++ [.cells [.bool b,I y,I z] 73,.cells [.bool r] 4,.cells [.ptr (.own 3 0)] 104,rc]
def VOh (p:Pn) (c2:Nat) (i:Int):List VV:=[.yld 7,.ptr (.own 6 0),.slice (.el 1 [] 0 0) p.T.length c2,I p.T.length,I i]
def VLh (p:Pn) (c2:Nat) (i k:Int):List VV:=VOh p c2 i ++ [.ptr (.own 8 0),.ptr (.own 9 0),.ptr (.own 10 0),.slice (.el 1 [] 0 0) p.T.length c2,I p.T.length,I k]
def nsLh:List Nat:=[0,1,2,3,4,5,6,7,8,9,10]
def BLh (p:Pn) (c1 c2 c3:Nat) (b:Bool) (y z:Int) (r:Bool) (rc:VB) (t:Ts):List VB:=BH p c1 c2 c3 b y z r rc ++ [.cells (tsL t) 32,.cells (vV t.s) 73,.cells (cV t.j t.p) 73]
def VSh (p:Pn) (c3:Nat) (i:Int):List VV:=[.yld 7,.ptr (.own 6 0),.slice (.el 2 [] 0 0) p.S.length c3,I p.S.length,I i]
theorem hinn_ev (p:Pn) (c1 c2 c3:Nat) (b:Bool) (y z:Int) (t:Ts) (i k:Int) (X:VEx->List VV->List VB->Prop):codeE Try.prog (callN Try.prog noSpec noL 10 20) (fun _=>none) true 10 147 0 (loopB 2 (bodyOf Try.prog 70)) (dsL.zip (VLh p c2 i k)) ⟨13,nsLh.zip (BLh p c1 c2 c3 b y z false (recH b y z) t)⟩ (obs 13 dsL nsLh X) =
 (bif decide (k<(↑p.T.length:Int)) then
 bif decide ((0:Int)<=k/\k<(↑p.T.length:Int)) then
 (([]:List Int)=[]/\(0:Int)<=(0:Int)+k/\(0:Int)+k<(↑p.T.length:Int))/\bif !decide ((p.T.getD ((0:Int)+k).toNat t0).j=t.j) then
 bif inK IntKind.i64 (k+(1:Int)) then
 X VEx.normal (VLh p c2 i (k+1)) (BLh p c1 c2 c3 b y z false (recH b y z) t)
 else False
 else bif decide ((p.T.getD ((0:Int)+k).toNat t0).p<=t.p) then
 bif inK IntKind.i64 (k+(1:Int)) then
 X VEx.normal (VLh p c2 i (k+1)) (BLh p c1 c2 c3 b y z false (recH b y z) t)
 else False
 else bif decide ((0:Int)<=t.j/\t.j<(↑p.D.length:Int)) then
 (([]:List Int)=[]/\(0:Int)<=(0:Int)+t.j/\(0:Int)+t.j<(↑p.D.length:Int))/\bif inK IntKind.i64 ((p.T.getD ((0:Int)+k).toNat t0).p - t.p) then
 bif inK IntKind.i64 (p.D.getD ((0:Int)+t.j).toNat (0:Int)*((p.T.getD ((0:Int)+k).toNat t0).p - t.p)) then
 bif true == b && (decide (t.j=y) && (decide (t.p=z) && true)) then
 X VEx.ret (VLh p c2 i k) (BLh p c1 c2 c3 b y z true (recD b y z) t)
 else bif true == b && (decide ((p.T.getD ((0:Int)+k).toNat t0).j=y) && (decide ((p.T.getD ((0:Int)+k).toNat t0).p=z) && true)) then
 X VEx.ret (VLh p c2 i k) (BLh p c1 c2 c3 b y z true (recD b y z) t)
 else bif inK IntKind.i64 (k+(1:Int)) then
 X VEx.normal (VLh p c2 i (k+1)) (BLh p c1 c2 c3 b y z false (recH b y z) t)
 else False
 else False
 else False
 else False
 else False
 else X (VEx.exit 2) (VLh p c2 i k) (BLh p c1 c2 c3 b y z false (recH b y z) t)):=by kernel_rfl
theorem hstd_ev (p:Pn) (c1 c2 c3:Nat) (b:Bool) (y z:Int) (i:Int) (X:VEx->List VV->List VB->Prop):codeE Try.prog (callN Try.prog noSpec noL 10 20) (fun _=>none) true 10 147 0 (loopB 4 (bodyOf Try.prog 70)) (dsS.zip (VSh p c3 i)) ⟨8,nsH.zip (BH p c1 c2 c3 b y z false (recH b y z))⟩ (obs 8 dsS nsH X) =
 (bif decide (i<(↑p.S.length:Int)) then
 bif decide ((0:Int)<=i/\i<(↑p.S.length:Int)) then
 (([]:List Int)=[]/\(0:Int)<=(0:Int)+i/\(0:Int)+i<(↑p.S.length:Int))/\bif inK IntKind.i64 ((p.S.getD ((0:Int)+i).toNat s0).s+(1:Int)) then
 bif false == b && (decide ((p.S.getD ((0:Int)+i).toNat s0).s+(1:Int)=y) && (decide ((0:Int)=z) && true)) then
 X VEx.ret (VSh p c3 i) (BH p c1 c2 c3 b y z true (recD b y z))
 else bif inK IntKind.i64 ((p.S.getD ((0:Int)+i).toNat s0).s+(1:Int)) then
 bif inK IntKind.i64 ((0:Int) - (p.S.getD ((0:Int)+i).toNat s0).lo) then
 bif false == b && (decide ((0:Int)=y) && (decide ((0:Int)=z) && true)) then
 X VEx.ret (VSh p c3 i) (BH p c1 c2 c3 b y z true (recD b y z))
 else bif inK IntKind.i64 (i+(1:Int)) then
 X VEx.normal (VSh p c3 (i+1)) (BH p c1 c2 c3 b y z false (recH b y z))
 else False
 else False
 else False
 else False
 else False
 else X (VEx.exit 4) (VSh p c3 i) (BH p c1 c2 c3 b y z false (recH b y z))):=by kernel_rfl
end Go.Sx.Nos
namespace Go.Sx.Nos
open Go Go.Sx Go.Proofs
set_option maxRecDepth 1000000
theorem nd_test (b' b:Bool) (y' y z' z:Int):(b' == b && (decide (y'=y) && (decide (z'=z) && true)))=decide (ndB b' y' z'=ndB b y z):=by
 rw [Bool.eq_iff_iff]
 cases b <;> cases b' <;> simp [ndB]
def hasL (l:List Lk) (x:Nd):Prop:=∃ e ∈ l,e.1=x
theorem hasL_app {a b:List Lk} {x:Nd}:hasL (a ++ b) x ↔ hasL a x ∨ hasL b x:=by
 unfold hasL
 simp only [List.mem_append,or_and_right,exists_or]
theorem hasL_nil {x:Nd}:¬ hasL [] x:=by simp [hasL]
theorem hasL_two {l m:Lk} {x:Nd}:hasL [l,m] x ↔ l.1=x ∨ m.1=x:=by simp [hasL]
section
variable {p:Pn} {c1 c2 c3:Nat} {b:Bool} {y z:Int}
def lInnH (p:Pn) (c1 c2 c3:Nat) (b:Bool) (y z:Int) (t:Ts) (i:Int):LT:=fun lock tt h K=>
 FitP lock h tt ⟨13,nsLh.zip (BLh p c1 c2 c3 b y z false (recH b y z) t)⟩ (dsL.zip (VLh p c2 i 0))/\(PnOk p/\t ∈ p.T) /\
  (¬ hasL (p.T.flatMap (lkI p t)) (ndB b y z)->K .normal (dsL.zip (VLh p c2 i p.T.length)) ⟨13,nsLh.zip (BLh p c1 c2 c3 b y z false (recH b y z) t)⟩) /\
  (hasL (p.T.flatMap (lkI p t)) (ndB b y z)->∀ k:Nat,K .ret (dsL.zip (VLh p c2 i k)) ⟨13,nsLh.zip (BLh p c1 c2 c3 b y z true (recD b y z) t)⟩)
def oInnH (p:Pn) (c1 c2 c3:Nat) (b:Bool) (y z:Int) (t:Ts) (i:Int) (k:Nat) (e:VEx) (vs:List VV) (bs:List VB):Prop:=
 (e=.exit 2/\¬ hasL ((p.T.drop k).flatMap (lkI p t)) (ndB b y z)/\vs=VLh p c2 i p.T.length/\bs=BLh p c1 c2 c3 b y z false (recH b y z) t) ∨
 (e=.ret/\hasL ((p.T.drop k).flatMap (lkI p t)) (ndB b y z)/\(∃ k':Nat,vs=VLh p c2 i k')/\bs=BLh p c1 c2 c3 b y z true (recD b y z) t)
theorem lInnH_ok {t:Ts} {i:Int}:LSound Try.prog true (.block 2 (.loop (loopB 2 (bodyOf Try.prog 70)))) 147 (lInnH p c1 c2 c3 b y z t i):=by
 by_cases hh:PnOk p/\t ∈ p.T
 ·obtain ⟨hp,ht⟩:=hh
  refine loop_row hmix good0 (un:=10) (ds:=dsL) (ns:=nsLh) (nx:=13) (fun k:Nat=>VLh p c2 i k) (fun _=>BLh p c1 c2 c3 b y z false (recH b y z) t) (fun k=>k<=p.T.length) (fun k=>p.T.length - k)
   (oInnH p c1 c2 c3 b y z t i) noL_ok ?_ ?_
  ·intro k hk
   refine cast (hinn_ev p c1 c2 c3 b y z t i k _).symm ?_
   obtain ⟨⟨j0,j1⟩,_,⟨p0,p1⟩,_⟩:=hp.ts t ht
   by_cases h:k<p.T.length
   ·obtain ⟨hu,hdrop⟩:=getT h
    obtain ⟨_,_,⟨q0,q1⟩,_⟩:=hp.ts _ hu
    have hT:=hp.t
    refine cond_dk (by omega) (cond_dk ⟨by omega,by omega⟩ ⟨⟨rfl,by omega,by omega⟩,?_⟩)
    rw [zero_toNat]
    have nxt:¬ hasL (lkI p t (p.T.getD k t0)) (ndB b y z)->RoundQ (fun k:Nat=>VLh p c2 i k) (fun _=>BLh p c1 c2 c3 b y z false (recH b y z) t) (fun k=>k<=p.T.length) (fun k=>p.T.length - k)
      (oInnH p c1 c2 c3 b y z t i) k .normal (VLh p c2 i (k+1)) (BLh p c1 c2 c3 b y z false (recH b y z) t):=fun he=>
     ⟨k+1,by omega,by dsimp only; omega,vst (V:=VLh p c2 i) k,fitBs_refl _,fun e vs bs ho=>by
      unfold oInnH at ho ⊢
      rw [hdrop,List.flatMap_cons,hasL_app]
      rcases ho with ⟨h1,h2,h3⟩ | ⟨h1,h2,h3⟩
      ·exact .inl ⟨h1,fun h=>h.elim he h2,h3⟩
      ·exact .inr ⟨h1,.inr h2,h3⟩⟩
    refine cond_nd (fun hj=>cond_r (by omega) (nxt (by unfold lkI; rw [if_neg (fun e=>hj e.1)]; exact hasL_nil))) (fun hj=>cond_d (fun hq=>cond_r (by omega) (nxt (by unfold lkI; rw [if_neg (by omega)]; exact hasL_nil))) (fun hq=>?_))
    rw [Int.zero_add]
    have hlt:t.p<(p.T.getD k t0).p:=by omega
    have hdr:=dr_in hp ht hu hlt
    unfold dr at hdr
    have he:lkI p t (p.T.getD k t0)=[(cN t.j t.p,cN (p.T.getD k t0).j (p.T.getD k t0).p,dr p t (p.T.getD k t0)),(cN (p.T.getD k t0).j (p.T.getD k t0).p,cN t.j t.p,dr p t (p.T.getD k t0))]:=by unfold lkI; rw [if_pos ⟨hj,hlt⟩]
    have fin:hasL (lkI p t (p.T.getD k t0)) (ndB b y z)->RoundQ (fun k:Nat=>VLh p c2 i k) (fun _=>BLh p c1 c2 c3 b y z false (recH b y z) t) (fun k=>k<=p.T.length) (fun k=>p.T.length - k)
      (oInnH p c1 c2 c3 b y z t i) k .ret (VLh p c2 i k) (BLh p c1 c2 c3 b y z true (recD b y z) t):=fun hl=>by
     refine .inr ⟨rfl,?_,⟨k,rfl⟩,rfl⟩
     rw [hdrop,List.flatMap_cons,hasL_app]
     exact .inl hl
    refine cond_dk ⟨j0,j1⟩ ⟨⟨rfl,j0,j1⟩,cond_r (by omega) (cond_r (by omega) ?_)⟩
    rw [nd_test,nd_test]
    refine cond_d (fun h1=>fin (by rw [he,hasL_two]; exact .inl h1)) (fun h1=>cond_d (fun h2=>fin (by rw [he,hasL_two]; exact .inr h2)) (fun h2=>cond_r (by omega) (nxt (by rw [he,hasL_two]; exact fun h=>h.elim h1 h2))))
   ·have:k=p.T.length:=by omega
    subst this
    refine cond_d (fun h=>by omega) (fun _=>.inl ⟨rfl,?_,rfl,rfl⟩)
    rw [List.drop_length]
    exact hasL_nil
  ·rintro lock tt h K ⟨hf,_,h1,h2⟩
   refine ⟨0,hf,Nat.zero_le _,?_⟩
   rintro x vs bs (⟨rfl,he,rfl,rfl⟩ | ⟨rfl,he,⟨k,rfl⟩,rfl⟩)
   ·exact h1 he
   ·exact h2 he k
 ·rintro lock tt h K ⟨_,hc,_⟩
  exact (hh hc).elim
def lStdH (p:Pn) (c1 c2 c3:Nat) (b:Bool) (y z:Int):LT:=fun lock tt h K=>
 FitP lock h tt ⟨8,nsH.zip (BH p c1 c2 c3 b y z false (recH b y z))⟩ (dsS.zip (VSh p c3 0))/\PnOk p /\
  (¬ hasL (p.S.flatMap lkS) (ndB b y z)->K .normal (dsS.zip (VSh p c3 p.S.length)) ⟨8,nsH.zip (BH p c1 c2 c3 b y z false (recH b y z))⟩) /\
  (hasL (p.S.flatMap lkS) (ndB b y z)->∀ k:Nat,K .ret (dsS.zip (VSh p c3 k)) ⟨8,nsH.zip (BH p c1 c2 c3 b y z true (recD b y z))⟩)
def oStdH (p:Pn) (c1 c2 c3:Nat) (b:Bool) (y z:Int) (k:Nat) (e:VEx) (vs:List VV) (bs:List VB):Prop:=
 (e=.exit 4/\¬ hasL ((p.S.drop k).flatMap lkS) (ndB b y z)/\vs=VSh p c3 p.S.length/\bs=BH p c1 c2 c3 b y z false (recH b y z)) ∨
 (e=.ret/\hasL ((p.S.drop k).flatMap lkS) (ndB b y z)/\(∃ k':Nat,vs=VSh p c3 k')/\bs=BH p c1 c2 c3 b y z true (recD b y z))
theorem lStdH_ok:LSound Try.prog true (.block 4 (.loop (loopB 4 (bodyOf Try.prog 70)))) 147 (lStdH p c1 c2 c3 b y z):=by
 by_cases hp:PnOk p
 ·refine loop_row hmix good0 (un:=10) (ds:=dsS) (ns:=nsH) (nx:=8) (fun k:Nat=>VSh p c3 k) (fun _=>BH p c1 c2 c3 b y z false (recH b y z)) (fun k=>k<=p.S.length) (fun k=>p.S.length - k)
   (oStdH p c1 c2 c3 b y z) noL_ok ?_ ?_
  ·intro k hk
   refine cast (hstd_ev p c1 c2 c3 b y z k _).symm ?_
   by_cases h:k<p.S.length
   ·obtain ⟨hs,hdrop⟩:=getS h
    have hS:=hp.s
    obtain ⟨⟨s0,s1⟩,l0,l1,l2⟩:=hp.sd _ hs
    refine cond_dk (by omega) (cond_dk ⟨by omega,by omega⟩ ⟨⟨rfl,by omega,by omega⟩,?_⟩)
    rw [zero_toNat]
    have nxt:¬ hasL (lkS (p.S.getD k Nos.s0)) (ndB b y z)->RoundQ (fun k:Nat=>VSh p c3 k) (fun _=>BH p c1 c2 c3 b y z false (recH b y z)) (fun k=>k<=p.S.length) (fun k=>p.S.length - k)
      (oStdH p c1 c2 c3 b y z) k .normal (VSh p c3 (k+1)) (BH p c1 c2 c3 b y z false (recH b y z)):=fun he=>
     ⟨k+1,by omega,by dsimp only; omega,vst (V:=VSh p c3) k,fitBs_refl _,fun e vs bs ho=>by
      unfold oStdH at ho ⊢
      rw [hdrop,List.flatMap_cons,hasL_app]
      rcases ho with ⟨h1,h2,h3⟩ | ⟨h1,h2,h3⟩
      ·exact .inl ⟨h1,fun h=>h.elim he h2,h3⟩
      ·exact .inr ⟨h1,.inr h2,h3⟩⟩
    have fin:hasL (lkS (p.S.getD k Nos.s0)) (ndB b y z)->RoundQ (fun k:Nat=>VSh p c3 k) (fun _=>BH p c1 c2 c3 b y z false (recH b y z)) (fun k=>k<=p.S.length) (fun k=>p.S.length - k)
      (oStdH p c1 c2 c3 b y z) k .ret (VSh p c3 k) (BH p c1 c2 c3 b y z true (recD b y z)):=fun hl=>by
     refine .inr ⟨rfl,?_,⟨k,rfl⟩,rfl⟩
     rw [hdrop,List.flatMap_cons,hasL_app]
     exact .inl hl
    have he:lkS (p.S.getD k Nos.s0)=[(vN (p.S.getD k Nos.s0).s,zeroN,(p.S.getD k Nos.s0).hi),(zeroN,vN (p.S.getD k Nos.s0).s,0 - (p.S.getD k Nos.s0).lo)]:=rfl
    rw [nd_test,nd_test]
    refine cond_r (by omega) (cond_d (fun h1=>fin (by rw [he,hasL_two]; exact .inl h1)) (fun h1=>cond_r (by omega) (cond_r (by omega) (cond_d (fun h2=>fin (by rw [he,hasL_two]; exact .inr h2)) (fun h2=>cond_r (by omega) (nxt (by rw [he,hasL_two]; exact fun h=>h.elim h1 h2)))))))
   ·have:k=p.S.length:=by omega
    subst this
    refine cond_d (fun h=>by omega) (fun _=>.inl ⟨rfl,?_,rfl,rfl⟩)
    rw [List.drop_length]
    exact hasL_nil
  ·rintro lock tt h K ⟨hf,_,h1,h2⟩
   refine ⟨0,hf,Nat.zero_le _,?_⟩
   rintro x vs bs (⟨rfl,he,rfl,rfl⟩ | ⟨rfl,he,⟨k,rfl⟩,rfl⟩)
   ·exact h1 he
   ·exact h2 he k
 ·rintro lock tt h K ⟨_,hc,_⟩
  exact (hp hc).elim
end
end Go.Sx.Nos
namespace Go.Sx.Nos
open Go Go.Sx Go.Proofs
set_option maxRecDepth 1000000
theorem hout_ev (p:Pn) (c1 c2 c3:Nat) (b:Bool) (y z:Int) (i:Int) (X:VEx->List VV->List VB->Prop):codeE Try.prog (callN Try.prog noSpec noL 10 20) (tabB [(2,lInnH p c1 c2 c3 b y z (getI p i) i)]) true 10 147 0 (loopB 0 (bodyOf Try.prog 70)) (dsO.zip (VOh p c2 i)) ⟨8,nsH.zip (BH p c1 c2 c3 b y z false (recH b y z))⟩ (obs 8 dsO nsH X) =
 (bif decide (i<(↑p.T.length:Int)) then
 bif decide ((0:Int)<=i/\i<(↑p.T.length:Int)) then
 (([]:List Int)=[]/\(0:Int)<=(0:Int)+i/\(0:Int)+i<(↑p.T.length:Int))/\bif inK IntKind.i64 ((getI p i).s+(1:Int)) then
 bif inK IntKind.i64 ((getI p i).c+(getI p i).o) then
 bif false == b && (decide ((getI p i).s+(1:Int)=y) && (decide ((0:Int)=z) && true)) then
 X VEx.ret (VOh p c2 i) (BH p c1 c2 c3 b y z true (recD b y z))
 else bif inK IntKind.i64 ((getI p i).o - (getI p i).c) then
 bif true == b && (decide ((getI p i).j=y) && (decide ((getI p i).p=z) && true)) then
 X VEx.ret (VOh p c2 i) (BH p c1 c2 c3 b y z true (recD b y z))
 else FitP 0 (VH.mk 13 (nsLh.zip (BLh p c1 c2 c3 b y z false (recH b y z) (getI p i)))) (dsL.zip (VLh p c2 i (0:Int))) (VH.mk 13 (nsLh.zip (BLh p c1 c2 c3 b y z false (recH b y z) (getI p i)))) (dsL.zip (VLh p c2 i (0:Int)))/\(PnOk p/\getI p i ∈ p.T)/\(¬hasL (List.flatMap (lkI p (getI p i)) p.T) (ndB b y z)->bif inK IntKind.i64 (i+(1:Int)) then
 X VEx.normal (VOh p c2 (i+1)) (BH p c1 c2 c3 b y z false (recH b y z))
 else False)/\(hasL (List.flatMap (lkI p (getI p i)) p.T) (ndB b y z)->∀ (k:Nat),X VEx.ret (VOh p c2 i) (BH p c1 c2 c3 b y z true (recD b y z)))
 else False
 else False
 else False
 else False
 else X (VEx.exit 0) (VOh p c2 i) (BH p c1 c2 c3 b y z false (recH b y z))):=by kernel_rfl
end Go.Sx.Nos
namespace Go.Sx.Nos
open Go Go.Sx Go.Proofs
set_option maxRecDepth 1000000
section
variable {p:Pn} {c1 c2 c3:Nat} {b:Bool} {y z:Int}
def lOutH (p:Pn) (c1 c2 c3:Nat) (b:Bool) (y z:Int):LT:=fun lock tt h K=>
 FitP lock h tt ⟨8,nsH.zip (BH p c1 c2 c3 b y z false (recH b y z))⟩ (dsO.zip (VOh p c2 0))/\PnOk p /\
  (¬ hasL (p.T.flatMap (lkT p)) (ndB b y z)->K .normal (dsO.zip (VOh p c2 p.T.length)) ⟨8,nsH.zip (BH p c1 c2 c3 b y z false (recH b y z))⟩) /\
  (hasL (p.T.flatMap (lkT p)) (ndB b y z)->∀ k:Nat,K .ret (dsO.zip (VOh p c2 k)) ⟨8,nsH.zip (BH p c1 c2 c3 b y z true (recD b y z))⟩)
def oOutH (p:Pn) (c1 c2 c3:Nat) (b:Bool) (y z:Int) (k:Nat) (e:VEx) (vs:List VV) (bs:List VB):Prop:=
 (e=.exit 0/\¬ hasL ((p.T.drop k).flatMap (lkT p)) (ndB b y z)/\vs=VOh p c2 p.T.length/\bs=BH p c1 c2 c3 b y z false (recH b y z)) ∨
 (e=.ret/\hasL ((p.T.drop k).flatMap (lkT p)) (ndB b y z)/\(∃ k':Nat,vs=VOh p c2 k')/\bs=BH p c1 c2 c3 b y z true (recD b y z))
theorem lsp_innH {t:Ts} {i:Int}:∀ id T,tabB [(2,lInnH p c1 c2 c3 b y z t i)] id=some T->∀ b' ∈ blocksOf id (loopB 0 (bodyOf Try.prog 70)),LSound Try.prog true (.block id b') 147 T:=by
 intro id T hT b' hb
 simp only [tabB] at hT
 cases hid:Nat.beq id 2 with
 | false=>rw [hid] at hT; cases hT
 | true=>
  rw [hid] at hT
  have:=Nat.eq_of_beq_eq_true hid
  subst this
  cases hT
  have h2:blocksOf 2 (loopB 0 (bodyOf Try.prog 70))=[.loop (loopB 2 (bodyOf Try.prog 70))]:=by kernel_rfl
  rw [h2] at hb
  simp only [List.mem_singleton] at hb
  subst hb
  exact lInnH_ok
theorem lOutH_ok:LSound Try.prog true (.block 0 (.loop (loopB 0 (bodyOf Try.prog 70)))) 147 (lOutH p c1 c2 c3 b y z):=by
 by_cases hp:PnOk p
 ·refine loop_rowD hmix good0 (un:=10) (ds:=dsO) (ns:=nsH) (nx:=8) (lsp:=fun k:Nat=>tabB [(2,lInnH p c1 c2 c3 b y z (getI p k) k)]) (fun k:Nat=>VOh p c2 k) (fun _=>BH p c1 c2 c3 b y z false (recH b y z)) (fun k=>k<=p.T.length) (fun k=>p.T.length - k)
   (oOutH p c1 c2 c3 b y z) (fun _ _=>lsp_innH) ?_ ?_
  ·intro k hk
   refine cast (hout_ev p c1 c2 c3 b y z k _).symm ?_
   by_cases h:k<p.T.length
   ·obtain ⟨ht,hdrop⟩:=getT h
    have hT:=hp.t
    have hgi:getI p k=p.T.getD k t0:=by unfold getI; rw [zero_toNat]
    rw [<- hgi] at ht hdrop
    obtain ⟨_,⟨s0,s1⟩,_,⟨e0,e1⟩,⟨o0,o1⟩⟩:=hp.ts _ ht
    have nxt:¬ hasL (lkT p (getI p k)) (ndB b y z)->RoundQ (fun k:Nat=>VOh p c2 k) (fun _=>BH p c1 c2 c3 b y z false (recH b y z)) (fun k=>k<=p.T.length) (fun k=>p.T.length - k)
      (oOutH p c1 c2 c3 b y z) k .normal (VOh p c2 (k+1)) (BH p c1 c2 c3 b y z false (recH b y z)):=fun he=>
     ⟨k+1,by omega,by dsimp only; omega,vst (V:=VOh p c2) k,fitBs_refl _,fun e vs bs ho=>by
      unfold oOutH at ho ⊢
      rw [hdrop,List.flatMap_cons,hasL_app]
      rcases ho with ⟨h1,h2,h3⟩ | ⟨h1,h2,h3⟩
      ·exact .inl ⟨h1,fun h=>h.elim he h2,h3⟩
      ·exact .inr ⟨h1,.inr h2,h3⟩⟩
    have fin:hasL (lkT p (getI p k)) (ndB b y z)->RoundQ (fun k:Nat=>VOh p c2 k) (fun _=>BH p c1 c2 c3 b y z false (recH b y z)) (fun k=>k<=p.T.length) (fun k=>p.T.length - k)
      (oOutH p c1 c2 c3 b y z) k .ret (VOh p c2 k) (BH p c1 c2 c3 b y z true (recD b y z)):=fun hl=>by
     refine .inr ⟨rfl,?_,⟨k,rfl⟩,rfl⟩
     rw [hdrop,List.flatMap_cons,hasL_app]
     exact .inl hl
    have he:lkH (getI p k)=[(vN (getI p k).s,cN (getI p k).j (getI p k).p,(getI p k).c+(getI p k).o),(cN (getI p k).j (getI p k).p,vN (getI p k).s,(getI p k).o - (getI p k).c)]:=rfl
    have hT2:hasL (lkT p (getI p k)) (ndB b y z) ↔ (vN (getI p k).s=ndB b y z ∨ cN (getI p k).j (getI p k).p=ndB b y z) ∨ hasL (p.T.flatMap (lkI p (getI p k))) (ndB b y z):=by
     unfold lkT
     rw [hasL_app,he,hasL_two]
    rw [nd_test,nd_test]
    refine cond_dk (by omega) (cond_dk ⟨by omega,by omega⟩ ⟨⟨rfl,by omega,by omega⟩,cond_r (by omega) (cond_r (by omega) (cond_d (fun h1=>fin (hT2.2 (.inl (.inl h1)))) (fun h1=>cond_r (by omega) (cond_d (fun h2=>fin (hT2.2 (.inl (.inr h2)))) (fun h2=>?_)))))⟩)
    exact ⟨fitP_self rfl,⟨hp,ht⟩,fun h3=>cond_r (by omega) (nxt (fun h=>(hT2.1 h).elim (fun h=>h.elim h1 h2) h3)),fun h3 k'=>fin (hT2.2 (.inr h3))⟩
   ·have:k=p.T.length:=by omega
    subst this
    refine cond_d (fun h=>by omega) (fun _=>.inl ⟨rfl,?_,rfl,rfl⟩)
    rw [List.drop_length]
    exact hasL_nil
  ·rintro lock tt h K ⟨hf,_,h1,h2⟩
   refine ⟨0,hf,Nat.zero_le _,?_⟩
   rintro x vs bs (⟨rfl,he,rfl,rfl⟩ | ⟨rfl,he,⟨k,rfl⟩,rfl⟩)
   ·exact h1 he
   ·exact h2 he k
 ·rintro lock tt h K ⟨_,hc,_⟩
  exact (hp hc).elim
def lkLH (p:Pn) (c1 c2 c3:Nat) (b:Bool) (y z:Int):List (Nat × LT):=[(0,lOutH p c1 c2 c3 b y z),(4,lStdH p c1 c2 c3 b y z)]
theorem lkLH_ok:LoopsOk Try.prog 70 (lkLH p c1 c2 c3 b y z):=by
 intro x hx
 simp only [lkLH,List.mem_cons,List.not_mem_nil,or_false] at hx
 rcases hx with rfl | rfl
 ·exact ⟨by kernel_rfl,lOutH_ok⟩
 ·exact ⟨by kernel_rfl,lStdH_ok⟩
end
end Go.Sx.Nos
namespace Go.Sx.Nos
open Go Go.Sx Go.Proofs
set_option maxRecDepth 1000000
def th4 (Q:VRes->List VB->Prop):VRes->VH->Prop:=fun r h=>Q r [h.at 0,h.at 1,h.at 2,h.at 3]
theorem th_ev (p:Pn) (c1 c2 c3:Nat) (b:Bool) (y z:Int) (Q:VRes->List VB->Prop):callN Try.prog noSpec (at2 59 70 [] (lkLH p c1 c2 c3 b y z)) 10 20 0 (.fn 59) [.ptr (.own 3 0),.agg [.bool b,I y,I z]] (tastH p c1 c2 c3) (th4 Q) =
 (bif b == false && (decide (y=(0:Int)) && (decide (z=(0:Int)) && true)) then
 Q (VRes.ret (VV.bool true)) [arD p,arT p,arS p,pnB p c1 c2 c3]
 else FitP 0 (VH.mk 8 (nsH.zip (BH p c1 c2 c3 b y z false (recH b y z)))) (dsO.zip (VOh p c2 (0:Int))) (VH.mk 8 (nsH.zip (BH p c1 c2 c3 b y z false (recH b y z)))) (dsO.zip (VOh p c2 (0:Int)))/\PnOk p/\(¬hasL (List.flatMap (lkT p) p.T) (ndB b y z)->FitP 0 (VH.mk 8 (nsH.zip (BH p c1 c2 c3 b y z false (recH b y z)))) (dsS.zip (VSh p c3 (0:Int))) (VH.mk 8 (nsH.zip (BH p c1 c2 c3 b y z false (recH b y z)))) (dsS.zip (VSh p c3 (0:Int)))/\PnOk p/\(¬hasL (List.flatMap lkS p.S) (ndB b y z)->Q (VRes.ret (VV.bool false)) [arD p,arT p,arS p,pnB p c1 c2 c3])/\(hasL (List.flatMap lkS p.S) (ndB b y z)->∀ (k:Nat),Q (VRes.ret (VV.bool true)) [arD p,arT p,arS p,pnB p c1 c2 c3]))/\(hasL (List.flatMap (lkT p) p.T) (ndB b y z)->∀ (k:Nat),Q (VRes.ret (VV.bool true)) [arD p,arT p,arS p,pnB p c1 c2 c3])):=by kernel_rfl
end Go.Sx.Nos
namespace Go.Sx.Nos
open Go Go.Sx Go.Proofs
set_option maxRecDepth 1000000
open Classical in
noncomputable def thB (p:Pn) (x:Nd):Bool:=decide (thP p x)
open Classical in
theorem thB_iff {p:Pn} {x:Nd}:thB p x=true ↔ thP p x:=by unfold thB; exact decide_eq_true_iff
theorem th_v {p:Pn} {c1 c2 c3:Nat} (hp:PnOk p) (b:Bool) (y z:Int):CallsV Try.prog 59 [.ptr (.own 3 0),.agg [.bool b,I y,I z]] (tastH p c1 c2 c3) (.ret (.bool (thB p (ndB b y z)))) (tastH p c1 c2 c3):=by
 obtain ⟨r,h',hQ,hc⟩:=of_callN (callL2_good (f:=59) (g:=70) (by decide) (lf:=[]) (fun x hx=>by cases hx) (lkLH_ok (p:=p) (c1:=c1) (c2:=c2) (c3:=c3) (b:=b) (y:=y) (z:=z)) (sp:=noSpec) noSp (un:=10) 20)
  (f:=59) (args:=[.ptr (.own 3 0),.agg [.bool b,I y,I z]]) (h:=tastH p c1 c2 c3) (K:=th4 fun r bs=>r=.ret (.bool (thB p (ndB b y z)))/\bs=[arD p,arT p,arS p,pnB p c1 c2 c3])
  (by
   refine cast (th_ev p c1 c2 c3 b y z _).symm ?_
   have e0:(b == false && (decide (y=0) && (decide (z=0) && true)))=decide (ndB b y z=zeroN):=by
    have:=nd_test b false y 0 z 0
    exact this
   have hl:hasL (links p) (ndB b y z) ↔ hasL (p.T.flatMap (lkT p)) (ndB b y z) ∨ hasL (p.S.flatMap lkS) (ndB b y z):=hasL_app
   have e1:∀ {v:Bool},(v=true ↔ thP p (ndB b y z))->VRes.ret (.bool v)=.ret (.bool (thB p (ndB b y z)))/\[arD p,arT p,arS p,pnB p c1 c2 c3]=[arD p,arT p,arS p,pnB p c1 c2 c3]:=fun {v} h=>by
    refine ⟨?_,rfl⟩
    congr 2
    rw [Bool.eq_iff_iff,h,thB_iff]
   rw [e0]
   refine cond_d (fun h=>e1 ⟨fun _=>.inl h,fun _=>rfl⟩) (fun h0=>⟨fitP_self rfl,hp,fun h1=>⟨fitP_self rfl,hp,fun h2=>e1 ⟨fun h=>by simp at h,fun h=>?_⟩,fun h2 _=>e1 ⟨fun _=>.inr (hl.2 (.inr h2)),fun _=>rfl⟩⟩,fun h1 _=>e1 ⟨fun _=>.inr (hl.2 (.inl h1)),fun _=>rfl⟩⟩)
   exact absurd h (fun h=>h.elim h0 (fun h=>(hl.1 h).elim h1 h2)))
 obtain ⟨rfl,hb⟩:=hQ
 injection hb with g0 hb
 injection hb with g1 hb
 injection hb with g2 hb
 injection hb with g3 hb
 exact calls_weak hc (show 4<=4 by decide) ⟨by rw [g0]; exact VB.fit_refl _,by rw [g1]; exact VB.fit_refl _,by rw [g2]; exact VB.fit_refl _,by rw [g3]; exact VB.fit_refl _,trivial⟩ rfl rfl
noncomputable def thT (p:Pn) (c1 c2 c3:Nat):FuncId × Spec1:=(59,fun _ args h K=>match args with
 | [.ptr (.own 3 0),.agg [.bool b,.int .i64 y,.int .i64 z]]=>(h.at 0=arD p/\h.at 1=arT p/\h.at 2=arS p/\h.at 3=pnB p c1 c2 c3)/\PnOk p/\K (.ret (.bool (thB p (ndB b y z)))) h
 | _=>False)
theorem thT_ok {p:Pn} {c1 c2 c3:Nat}:SpOk Try.prog (thT p c1 c2 c3).1 (thT p c1 c2 c3).2:=by
 intro lock args h K hK
 simp only [thT] at hK
 split at hK
 ·rename_i b y z
  obtain ⟨⟨g0,g1,g2,g3⟩,hp,hK⟩:=hK
  have hc:=th_v (c1:=c1) (c2:=c2) (c3:=c3) hp b y z
  have hnx:(tastH p c1 c2 c3).nx<=h.nx:=lt_nx (n:=3) (by rw [g3]; simp)
  have hat:∀ n,n<(tastH p c1 c2 c3).nx->h.at n=(tastH p c1 c2 c3).at n:=fun n hn=>by
   match n,hn with
   | 0,_=>exact g0
   | 1,_=>exact g1
   | 2,_=>exact g2
   | 3,_=>exact g3
  have hnf:∀ n,n<(tastH p c1 c2 c3).nx->(tastH p c1 c2 c3).at n ≠ .free:=fun n hn=>by
   match n,hn with
   | 0,_=>exact fun h=>VB.noConfusion h
   | 1,_=>exact fun h=>VB.noConfusion h
   | 2,_=>exact fun h=>VB.noConfusion h
   | 3,_=>exact fun h=>VB.noConfusion h
  have hbel:∀ n,n<(tastH p c1 c2 c3).nx->((tastH p c1 c2 c3).at n).bel (tastH p c1 c2 c3).nx=true:=fun n hn=>by
   match n,hn with
   | 0,_=>rfl
   | 1,_=>rfl
   | 2,_=>rfl
   | 3,_=>rfl
  exact ⟨_,h,hK,lockP_refl _ _,calls_lift (h:=h) hc hnx hat (fun n hn=>rfl) hnf hbel rfl rfl⟩
 ·exact hK.elim
def panC:FuncId × Spec1:=(40,fun _ args h K=>match args with
 | [.agg [d,t,s]]=>∃ p:Pn,pnIs h p d t s/\K (.ret (.bool (panB p))) h
 | _=>False)
theorem panC_ok:SpOk Try.prog panC.1 panC.2:=by
 intro lock args h K hK
 simp only [panC] at hK
 split at hK
 ·obtain ⟨p,hp,hK⟩:=hK
  exact ⟨_,h,hK,lockP_refl _ _,calls_pn (pl:=[]) (fun c1 c2 c3=>pan_v p c1 c2 c3) rfl rfl hp⟩
 ·exact hK.elim
def numK:FuncId × Spec1:=(61,fun _ args h K=>match args with
 | [.ptr (.own t 0),.agg [.bool b,.int .i64 y,.int .i64 z]]=>(match h.at t with
  | .fam [.mp m] 4225 _ 93=>∃ N:List Nd,h.at m=maB N/\ndB b y z ∈ N/\K (.ret (I (ixN N (ndB b y z):Nat))) h
  | _=>False)
 | _=>False)
theorem numK_ok:SpOk Try.prog numK.1 numK.2:=by
 intro lock args h K hK
 simp only [numK] at hK
 split at hK
 ·rename_i t b y z
  split at hK
  ·rename_i m d ht
   obtain ⟨N,hm,hin,hK⟩:=hK
   have hmt:m ≠ t:=fun e=>by rw [e,ht] at hm; cases hm
   have h2:=tasted_at (m:=m) (t:=t) (num_v N d b y z) hm ht rfl rfl
   rw [show addN N (ndB b y z)=N from if_pos hin] at h2
   have n1:(VH.mk h.nx ((m,maB N)::h.bs)).at=upd h.at m (maB N):=VH.at_put h m _ (by rw [hm]; simp)
   have n2:(VH.mk h.nx ((m,maB N)::h.bs)).at=h.at:=by
    rw [n1]
    funext q
    unfold upd
    split
    ·rename_i hq; subst hq; exact hm.symm
    ·rfl
   have hat:(VH.mk h.nx ((t,faB m d)::(m,maB N)::h.bs)).at=h.at:=by
    have:=VH.at_put (VH.mk h.nx ((m,maB N)::h.bs)) t (faB m d) (by rw [n2,ht]; simp)
    refine this.trans ?_
    funext q
    rw [n2]
    unfold upd
    split
    ·rename_i hq; subst hq; exact ht.symm
    ·rfl
   refine ⟨_,h,hK,lockP_refl _ _,?_⟩
   intro B R w xs em hx
   refine (h2 B R w xs em hx).mono ?_
   rintro e w' ⟨R',a1,a2,a3⟩
   rw [hat] at a1 a2
   exact ⟨R',a1,a2,a3⟩
  ·exact hK.elim
 ·exact hK.elim
end Go.Sx.Nos
namespace Go.Sx.Nos
open Go Go.Sx Go.Proofs
set_option maxRecDepth 1000000
theorem btw_ev (p:Pn) (c1 c2 c3:Nat) (b:Bool) (y z:Int) (b':Bool) (y' z':Int) (Q:VRes->Prop):callN Try.prog (tabS [panC,thT p c1 c2 c3,triT,numK]) noL 10 20 0 (.fn 42) [.agg (pnV p c1 c2 c3),.agg [.bool b,I y,I z],.agg [.bool b',I y',I z']] (pnH p) (fun r _=>Q r) =
 (∃ p_1,pnIs (VH.mk (7) [(6,VB.cells [I 0,I 0] 34),(5,VB.cells [VV.bool b',I y',I z'] 73),(4,VB.cells [VV.bool b,I y,I z] 73),(3,VB.cells [VV.slice (VA.el 0 [] (0:Int) 0) p.D.length c1,VV.slice (VA.el 1 [] (0:Int) 0) p.T.length c2,VV.slice (VA.el 2 [] (0:Int) 0) p.S.length c3] 26),(0,arD p),(1,arT p),(2,arS p)]) p_1 (VV.slice (VA.el 0 [] (0:Int) 0) p.D.length c1) (VV.slice (VA.el 1 [] (0:Int) 0) p.T.length c2) (VV.slice (VA.el 2 [] (0:Int) 0) p.S.length c3)/\bif !panB p_1 then
 Q (VRes.ret (VV.tup [VV.agg [I 0,I 0],I 1]))
 else (arD p=arD p/\arT p=arT p/\arS p=arS p/\pnB p c1 c2 c3=pnB p c1 c2 c3)/\PnOk p/\bif !thB p (ndB b y z) then
 Q (VRes.ret (VV.tup [VV.agg [I 0,I 0],I 4]))
 else (arD p=arD p/\arT p=arT p/\arS p=arS p/\pnB p c1 c2 c3=pnB p c1 c2 c3)/\PnOk p/\bif !thB p (ndB b' y' z') then
 Q (VRes.ret (VV.tup [VV.agg [I 0,I 0],I 4]))
 else ∃ p_2,pnIs (VH.mk (7) [(6,VB.cells [I 0,I 0] 34),(5,VB.cells [VV.bool b',I y',I z'] 73),(4,VB.cells [VV.bool b,I y,I z] 73),(3,VB.cells [VV.slice (VA.el 0 [] (0:Int) 0) p.D.length c1,VV.slice (VA.el 1 [] (0:Int) 0) p.T.length c2,VV.slice (VA.el 2 [] (0:Int) 0) p.S.length c3] 26),(0,arD p),(1,arT p),(2,arS p)]) p_2 (VV.slice (VA.el 0 [] (0:Int) 0) p.D.length c1) (VV.slice (VA.el 1 [] (0:Int) 0) p.T.length c2) (VV.slice (VA.el 2 [] (0:Int) 0) p.S.length c3)/\PnOk p_2/\(fitF p_2->∃ N,(maskH [0,1,2,3,4,5,6,7,8,9,10,11] (VH.mk (12) ((11,VB.cells [VV.bool b',I y',I z'] 73)::(10,VB.cells [VV.bool b,I y,I z] 73)::maskL (VH.mk (10) [(9,VB.cells [VV.ptr (VA.own (7+1) 0)] 79),(9,VB.cells [VV.nilp] 79),(7+1,faB (7) (farF p_2)),(7,maB (noP p_2)),(6,VB.cells [I 0,I 0] 34),(5,VB.cells [VV.bool b',I y',I z'] 73),(4,VB.cells [VV.bool b,I y,I z] 73),(3,VB.cells [VV.slice (VA.el 0 [] (0:Int) 0) p.D.length c1,VV.slice (VA.el 1 [] (0:Int) 0) p.T.length c2,VV.slice (VA.el 2 [] (0:Int) 0) p.S.length c3] 26),(0,arD p),(1,arT p),(2,arS p)]) [9,0,1,2,3,4,5,6,7,8]))).at (7)=maB N/\ndB b y z ∈ N/\∃ N_1,(maskH [0,1,2,3,4,5,6,7,8,9,10,11] (VH.mk (12) ((11,VB.cells [VV.bool b',I y',I z'] 73)::(10,VB.cells [VV.bool b,I y,I z] 73)::maskL (VH.mk (10) [(9,VB.cells [VV.ptr (VA.own (7+1) 0)] 79),(9,VB.cells [VV.nilp] 79),(7+1,faB (7) (farF p_2)),(7,maB (noP p_2)),(6,VB.cells [I 0,I 0] 34),(5,VB.cells [VV.bool b',I y',I z'] 73),(4,VB.cells [VV.bool b,I y,I z] 73),(3,VB.cells [VV.slice (VA.el 0 [] (0:Int) 0) p.D.length c1,VV.slice (VA.el 1 [] (0:Int) 0) p.T.length c2,VV.slice (VA.el 2 [] (0:Int) 0) p.S.length c3] 26),(0,arD p),(1,arT p),(2,arS p)]) [9,0,1,2,3,4,5,6,7,8]))).at (7)=maB N_1/\ndB b' y' z' ∈ N_1/\bif decide ((0:Int)<=(↑(ixN N (ndB b y z)):Int)/\(↑(ixN N (ndB b y z)):Int)<(↑65:Int)) then
 bif decide ((0:Int)<=(↑(ixN N_1 (ndB b' y' z')):Int)/\(↑(ixN N_1 (ndB b' y' z')):Int)<(↑65:Int)) then
 bif decide ((↑(ixN N (ndB b y z)):Int).toNat*(65)+(↑(ixN N_1 (ndB b' y' z')):Int).toNat*(1)<4225) then
 ∃ N_2,(maskH [0,1,2,3,4,5,6,7,8,9,10,11] (VH.mk (12) [(11,VB.cells [VV.bool b,I y,I z] 73),(10,VB.cells [VV.bool b',I y',I z'] 73),(9,VB.cells [VV.ptr (VA.own (7+1) 0)] 79),(9,VB.cells [VV.ptr (VA.own (7+1) 0)] 79),(9,VB.cells [VV.nilp] 79),(7+1,faB (7) (farF p_2)),(7,maB (noP p_2)),(6,VB.cells [I 0,I 0] 34),(5,VB.cells [VV.bool b',I y',I z'] 73),(4,VB.cells [VV.bool b,I y,I z] 73),(3,VB.cells [VV.slice (VA.el 0 [] (0:Int) 0) p.D.length c1,VV.slice (VA.el 1 [] (0:Int) 0) p.T.length c2,VV.slice (VA.el 2 [] (0:Int) 0) p.S.length c3] 26),(0,arD p),(1,arT p),(2,arS p)])).at (7)=maB N_2/\ndB b' y' z' ∈ N_2/\keepP (VH.mk (12) [(11,VB.cells [VV.bool b,I y,I z] 73),(10,VB.cells [VV.bool b',I y',I z'] 73),(9,VB.cells [VV.ptr (VA.own (7+1) 0)] 79),(9,VB.cells [VV.ptr (VA.own (7+1) 0)] 79),(9,VB.cells [VV.nilp] 79),(7+1,faB (7) (farF p_2)),(7,maB (noP p_2)),(6,VB.cells [I 0,I 0] 34),(5,VB.cells [VV.bool b',I y',I z'] 73),(4,VB.cells [VV.bool b,I y,I z] 73),(3,VB.cells [VV.slice (VA.el 0 [] (0:Int) 0) p.D.length c1,VV.slice (VA.el 1 [] (0:Int) 0) p.T.length c2,VV.slice (VA.el 2 [] (0:Int) 0) p.S.length c3] 26),(0,arD p),(1,arT p),(2,arS p)]) (maskH [0,1,2,3,4,5,6,7,8,9,10,11] (VH.mk (12) [(11,VB.cells [VV.bool b,I y,I z] 73),(10,VB.cells [VV.bool b',I y',I z'] 73),(9,VB.cells [VV.ptr (VA.own (7+1) 0)] 79),(9,VB.cells [VV.ptr (VA.own (7+1) 0)] 79),(9,VB.cells [VV.nilp] 79),(7+1,faB (7) (farF p_2)),(7,maB (noP p_2)),(6,VB.cells [I 0,I 0] 34),(5,VB.cells [VV.bool b',I y',I z'] 73),(4,VB.cells [VV.bool b,I y,I z] 73),(3,VB.cells [VV.slice (VA.el 0 [] (0:Int) 0) p.D.length c1,VV.slice (VA.el 1 [] (0:Int) 0) p.T.length c2,VV.slice (VA.el 2 [] (0:Int) 0) p.S.length c3] 26),(0,arD p),(1,arT p),(2,arS p)])) (7) [0,1,2,3,4,5,6,7,8,9,10,11]/\∃ N_3,(maskH [0,1,2,3,4,5,6,7,8,9,10,11] (VH.mk (12) [(7,VB.map kU (PK.int IntKind.i64) (esOf (noP p_2))),(11,VB.cells [VV.bool b,I y,I z] 73),(10,VB.cells [VV.bool b',I y',I z'] 73),(9,VB.cells [VV.ptr (VA.own (7+1) 0)] 79),(9,VB.cells [VV.ptr (VA.own (7+1) 0)] 79),(9,VB.cells [VV.nilp] 79),(7+1,faB (7) (farF p_2)),(7,maB (noP p_2)),(6,VB.cells [I 0,I 0] 34),(5,VB.cells [VV.bool b',I y',I z'] 73),(4,VB.cells [VV.bool b,I y,I z] 73),(3,VB.cells [VV.slice (VA.el 0 [] (0:Int) 0) p.D.length c1,VV.slice (VA.el 1 [] (0:Int) 0) p.T.length c2,VV.slice (VA.el 2 [] (0:Int) 0) p.S.length c3] 26),(0,arD p),(1,arT p),(2,arS p)])).at (7)=maB N_3/\ndB b y z ∈ N_3/\keepP (VH.mk (12) [(7,VB.map kU (PK.int IntKind.i64) (esOf (noP p_2))),(11,VB.cells [VV.bool b,I y,I z] 73),(10,VB.cells [VV.bool b',I y',I z'] 73),(9,VB.cells [VV.ptr (VA.own (7+1) 0)] 79),(9,VB.cells [VV.ptr (VA.own (7+1) 0)] 79),(9,VB.cells [VV.nilp] 79),(7+1,faB (7) (farF p_2)),(7,maB (noP p_2)),(6,VB.cells [I 0,I 0] 34),(5,VB.cells [VV.bool b',I y',I z'] 73),(4,VB.cells [VV.bool b,I y,I z] 73),(3,VB.cells [VV.slice (VA.el 0 [] (0:Int) 0) p.D.length c1,VV.slice (VA.el 1 [] (0:Int) 0) p.T.length c2,VV.slice (VA.el 2 [] (0:Int) 0) p.S.length c3] 26),(0,arD p),(1,arT p),(2,arS p)]) (maskH [0,1,2,3,4,5,6,7,8,9,10,11] (VH.mk (12) [(7,VB.map kU (PK.int IntKind.i64) (esOf (noP p_2))),(11,VB.cells [VV.bool b,I y,I z] 73),(10,VB.cells [VV.bool b',I y',I z'] 73),(9,VB.cells [VV.ptr (VA.own (7+1) 0)] 79),(9,VB.cells [VV.ptr (VA.own (7+1) 0)] 79),(9,VB.cells [VV.nilp] 79),(7+1,faB (7) (farF p_2)),(7,maB (noP p_2)),(6,VB.cells [I 0,I 0] 34),(5,VB.cells [VV.bool b',I y',I z'] 73),(4,VB.cells [VV.bool b,I y,I z] 73),(3,VB.cells [VV.slice (VA.el 0 [] (0:Int) 0) p.D.length c1,VV.slice (VA.el 1 [] (0:Int) 0) p.T.length c2,VV.slice (VA.el 2 [] (0:Int) 0) p.S.length c3] 26),(0,arD p),(1,arT p),(2,arS p)])) (7) [0,1,2,3,4,5,6,7,8,9,10,11]/\bif decide ((0:Int)<=(↑(ixN N_2 (ndB b' y' z')):Int)/\(↑(ixN N_2 (ndB b' y' z')):Int)<(↑65:Int)) then
 bif decide ((0:Int)<=(↑(ixN N_3 (ndB b y z)):Int)/\(↑(ixN N_3 (ndB b y z)):Int)<(↑65:Int)) then
 bif decide ((↑(ixN N_2 (ndB b' y' z')):Int).toNat*(65)+(↑(ixN N_3 (ndB b y z)):Int).toNat*(1)<4225) then
 bif decide (max (farF p_2 ((↑(ixN N (ndB b y z)):Int).toNat*(65)+(↑(ixN N_1 (ndB b' y' z')):Int).toNat*(1))) (farF p_2 ((↑(ixN N_2 (ndB b' y' z')):Int).toNat*(65)+(↑(ixN N_3 (ndB b y z)):Int).toNat*(1)))=(1125899906842624:Int)) then
 Q (VRes.ret (VV.tup [VV.agg [I 0,I 0],I 12]))
 else bif inK IntKind.i64 ((0:Int) - farF p_2 ((↑(ixN N_2 (ndB b' y' z')):Int).toNat*(65)+(↑(ixN N_3 (ndB b y z)):Int).toNat*(1))) then
 Q (VRes.ret (VV.tup [VV.agg [I ((0:Int) - farF p_2 ((↑(ixN N_2 (ndB b' y' z')):Int).toNat*(65)+(↑(ixN N_3 (ndB b y z)):Int).toNat*(1))),I (farF p_2 ((↑(ixN N (ndB b y z)):Int).toNat*(65)+(↑(ixN N_1 (ndB b' y' z')):Int).toNat*(1)))],I 0]))
 else False
 else False
 else False
 else False
 else False
 else False
 else False)/\(¬fitF p_2->Q (VRes.ret (VV.tup [VV.agg [I 0,I 0],I 6])))):=by kernel_rfl
end Go.Sx.Nos
namespace Go.Sx.Nos
open Go Go.Sx Go.Proofs
set_option maxRecDepth 1000000
theorem pnIs_own {h:VH} {p:Pn} {c1 c2 c3:Nat} (g0:h.at 0=arD p) (g1:h.at 1=arT p) (g2:h.at 2=arS p):pnIs h p (.slice (.el 0 [] 0 0) p.D.length c1) (.slice (.el 1 [] 0 0) p.T.length c2) (.slice (.el 2 [] 0 0) p.S.length c3):=by
 refine ⟨⟨rfl,by decide,_,_,g0,fun j hj=>⟨⟨rfl,by omega,by omega⟩,?_⟩⟩,⟨rfl,by decide,_,_,g1,fun j hj=>⟨⟨rfl,by omega,by omega⟩,?_⟩⟩,⟨rfl,by decide,_,_,g2,fun j hj=>⟨⟨rfl,by omega,by omega⟩,?_⟩⟩⟩
 all_goals rw [zero_toNat]
open Classical in
noncomputable def btF (p:Pn) (a b:Nd):Int × Int × Int:=
 if PnOk p then (if thP p a/\thP p b then (if fitF p then (if farAB p a b=WW ∨ farAB p b a=WW then (0,0,12) else (0 - farAB p b a,farAB p a b,0)) else (0,0,6)) else (0,0,4)) else (0,0,1)
def spV (r:Int × Int × Int):VV:=.tup [.agg [I r.1,I r.2.1],I r.2.2]
theorem btw_v (p:Pn) (c1 c2 c3:Nat) (b:Bool) (y z:Int) (b':Bool) (y' z':Int):∃ h',CallsV Try.prog 42 [.agg (pnV p c1 c2 c3),.agg [.bool b,I y,I z],.agg [.bool b',I y',I z']] (pnH p) (.ret (spV (btF p (ndB b y z) (ndB b' y' z')))) h':=by
 obtain ⟨r,h',rfl,hc⟩:=of_callN (tab_good hmix (l:=[panC,thT p c1 c2 c3,triT,numK]) (fun x hx=>by
   simp only [List.mem_cons,List.not_mem_nil,or_false] at hx
   rcases hx with rfl | rfl | rfl | rfl
   ·exact panC_ok
   ·exact thT_ok
   ·exact triT_ok
   ·exact numK_ok) 20) (un:=10) (f:=42) (args:=[.agg (pnV p c1 c2 c3),.agg [.bool b,I y,I z],.agg [.bool b',I y',I z']]) (h:=pnH p)
  (K:=fun r _=>r=.ret (spV (btF p (ndB b y z) (ndB b' y' z'))))
  (by
   refine cast (btw_ev p c1 c2 c3 b y z b' y' z' _).symm ?_
   generalize ndB b y z=a1
   generalize ndB b' y' z'=a2
   refine ⟨p,pnIs_own rfl rfl rfl,?_⟩
   cases hpb:panB p with
   | false=>
    have hn:¬ PnOk p:=fun h=>by rw [<- panB_iff,hpb] at h; cases h
    show VRes.ret _=_
    unfold btF; rw [if_neg hn]; rfl
   | true=>
    have hp:PnOk p:=panB_iff.1 hpb
    refine ⟨⟨rfl,rfl,rfl,rfl⟩,hp,?_⟩
    cases ha:thB p a1 with
    | false=>
     have hn:¬ thP p a1:=fun h=>by rw [<- thB_iff,ha] at h; cases h
     show VRes.ret _=_
     unfold btF; rw [if_pos hp,if_neg (fun h=>hn h.1)]; rfl
    | true=>
     have ha:thP p a1:=thB_iff.1 ha
     refine ⟨⟨rfl,rfl,rfl,rfl⟩,hp,?_⟩
     cases hb:thB p a2 with
     | false=>
      have hn:¬ thP p a2:=fun h=>by rw [<- thB_iff,hb] at h; cases h
      show VRes.ret _=_
      unfold btF; rw [if_pos hp,if_neg (fun h=>hn h.2)]; rfl
     | true=>
      have hb:thP p a2:=thB_iff.1 hb
      refine ⟨p,pnIs_own rfl rfl rfl,hp,fun hf=>?_,fun hf=>?_⟩
      ·have ma:=(mem_no hp a1).2 ha
       have mb:=(mem_no hp a2).2 hb
       have ia:=ixN_lt ma
       have ib:=ixN_lt mb
       have hn:=no_le hp
       change ixN (noP p) a1<(noP p).length at ia
       change ixN (noP p) a2<(noP p).length at ib
       change (noP p).length<=65 at hn
       have wa:(0:Int)<=(ixN (noP p) a1:Int)/\(ixN (noP p) a1:Int)<((65:Nat):Int):=⟨by omega,by omega⟩
       have wb:(0:Int)<=(ixN (noP p) a2:Int)/\(ixN (noP p) a2:Int)<((65:Nat):Int):=⟨by omega,by omega⟩
       have e1:farF p ((ixN (noP p) a1:Int).toNat*65+(ixN (noP p) a2:Int).toNat*1)=farAB p a1 a2:=by unfold farAB; rw [Int.toNat_natCast,Int.toNat_natCast,Nat.mul_one]
       have e2:farF p ((ixN (noP p) a2:Int).toNat*65+(ixN (noP p) a1:Int).toNat*1)=farAB p a2 a1:=by unfold farAB; rw [Int.toNat_natCast,Int.toNat_natCast,Nat.mul_one]
       refine ⟨noP p,rfl,ma,noP p,rfl,mb,cond_dk wa (cond_dk wb (cond_dk (by simp only [Int.toNat_natCast]; omega) ⟨noP p,rfl,mb,?_,noP p,rfl,ma,?_,cond_dk wb (cond_dk wa (cond_dk (by simp only [Int.toNat_natCast]; omega) ?_))⟩))⟩
       ·exact ⟨rfl,rfl,rfl,rfl,rfl,rfl,rfl,rfl,rfl,rfl,rfl,trivial⟩
       ·exact ⟨rfl,rfl,rfl,rfl,rfl,rfl,rfl,rfl,rfl,rfl,rfl,trivial⟩
       ·rw [e1,e2]
        have hW:=eWW
        have b1:farAB p a1 a2 ≠ WW->farAB p a1 a2<=66000000/\-66000000<=farAB p a1 a2:=fun h=>⟨(far_mx hp hf ma mb h).2.2,(far_mx hp hf ma mb h).2.1⟩
        have b2:farAB p a2 a1 ≠ WW->farAB p a2 a1<=66000000/\-66000000<=farAB p a2 a1:=fun h=>⟨(far_mx hp hf mb ma h).2.2,(far_mx hp hf mb ma h).2.1⟩
        refine cond_d (fun hm=>?_) (fun hm=>?_)
        ·have:farAB p a1 a2=WW ∨ farAB p a2 a1=WW:=by omega
         unfold btF; rw [if_pos hp,if_pos ⟨ha,hb⟩,if_pos hf,if_pos this]; rfl
        ·have:¬ (farAB p a1 a2=WW ∨ farAB p a2 a1=WW):=by omega
         refine cond_r (by omega) ?_
         unfold btF; rw [if_pos hp,if_pos ⟨ha,hb⟩,if_pos hf,if_neg this]; rfl
      ·show VRes.ret _=_
       unfold btF; rw [if_pos hp,if_pos ⟨ha,hb⟩,if_neg hf]; rfl)
 exact ⟨h',hc⟩
noncomputable def btwT:FuncId × Spec1:=(42,fun _ args h K=>match args with
 | [.agg [d,t,s],.agg [.bool b,.int .i64 y,.int .i64 z],.agg [.bool b',.int .i64 y',.int .i64 z']]=>∃ p:Pn,pnIs h p d t s/\K (.ret (spV (btF p (ndB b y z) (ndB b' y' z')))) h
 | _=>False)
theorem btwT_ok:SpOk Try.prog btwT.1 btwT.2:=by
 intro lock args h K hK
 simp only [btwT] at hK
 split at hK
 ·rename_i d t s b y z b' y' z'
  obtain ⟨p,hp,hK⟩:=hK
  exact ⟨_,h,hK,lockP_refl _ _,calls_pn (pl:=[.agg [.bool b,.int .i64 y,.int .i64 z],.agg [.bool b',.int .i64 y',.int .i64 z']]) (fun c1 c2 c3=>btw_v p c1 c2 c3 b y z b' y' z') rfl rfl hp⟩
 ·exact hK.elim
end Go.Sx.Nos
namespace Go.Sx.Nos
open Go Go.Sx Go.Proofs
set_option maxRecDepth 1000000
theorem val_ev (p:Pn) (c1 c2 c3:Nat) (s:Int) (Q:VRes->Prop):callN Try.prog (tabS [panC,btwT]) noL 10 20 0 (.fn 17) [.agg (pnV p c1 c2 c3),I s] (pnH p) (fun r _=>Q r) =
 (∃ p_1,pnIs (VH.mk (5) [(4,VB.cells [I 0,I 0] 34),(3,VB.cells [VV.slice (VA.el 0 [] (0:Int) 0) p.D.length c1,VV.slice (VA.el 1 [] (0:Int) 0) p.T.length c2,VV.slice (VA.el 2 [] (0:Int) 0) p.S.length c3] 26),(0,arD p),(1,arT p),(2,arS p)]) p_1 (VV.slice (VA.el 0 [] (0:Int) 0) p.D.length c1) (VV.slice (VA.el 1 [] (0:Int) 0) p.T.length c2) (VV.slice (VA.el 2 [] (0:Int) 0) p.S.length c3)/\bif panB p_1 then
 bif decide ((0:Int)<=s) then
 bif !decide (s<=(15:Int)) then
 Q (VRes.ret (VV.tup [VV.agg [I 0,I 0],I 4]))
 else bif inK IntKind.i64 (s+(1:Int)) then
 ∃ p_2,pnIs (VH.mk (5) [(4,VB.cells [I 0,I 0] 34),(3,VB.cells [VV.slice (VA.el 0 [] (0:Int) 0) p.D.length c1,VV.slice (VA.el 1 [] (0:Int) 0) p.T.length c2,VV.slice (VA.el 2 [] (0:Int) 0) p.S.length c3] 26),(0,arD p),(1,arT p),(2,arS p)]) p_2 (VV.slice (VA.el 0 [] (0:Int) 0) p.D.length c1) (VV.slice (VA.el 1 [] (0:Int) 0) p.T.length c2) (VV.slice (VA.el 2 [] (0:Int) 0) p.S.length c3)/\Q (VRes.ret (VV.tup [VV.agg [I (btF p_2 (ndB false (s+(1:Int)) (0:Int)) (ndB false (0:Int) (0:Int))).fst,I (btF p_2 (ndB false (s+(1:Int)) (0:Int)) (ndB false (0:Int) (0:Int))).snd.fst],I (btF p_2 (ndB false (s+(1:Int)) (0:Int)) (ndB false (0:Int) (0:Int))).snd.snd]))
 else False
 else Q (VRes.ret (VV.tup [VV.agg [I 0,I 0],I 4]))
 else bif inK IntKind.i64 (s+(1:Int)) then
 ∃ p_2,pnIs (VH.mk (5) [(4,VB.cells [I 0,I 0] 34),(3,VB.cells [VV.slice (VA.el 0 [] (0:Int) 0) p.D.length c1,VV.slice (VA.el 1 [] (0:Int) 0) p.T.length c2,VV.slice (VA.el 2 [] (0:Int) 0) p.S.length c3] 26),(0,arD p),(1,arT p),(2,arS p)]) p_2 (VV.slice (VA.el 0 [] (0:Int) 0) p.D.length c1) (VV.slice (VA.el 1 [] (0:Int) 0) p.T.length c2) (VV.slice (VA.el 2 [] (0:Int) 0) p.S.length c3)/\Q (VRes.ret (VV.tup [VV.agg [I (btF p_2 (ndB false (s+(1:Int)) (0:Int)) (ndB false (0:Int) (0:Int))).fst,I (btF p_2 (ndB false (s+(1:Int)) (0:Int)) (ndB false (0:Int) (0:Int))).snd.fst],I (btF p_2 (ndB false (s+(1:Int)) (0:Int)) (ndB false (0:Int) (0:Int))).snd.snd]))
 else False):=by kernel_rfl
theorem dif_ev (p:Pn) (c1 c2 c3:Nat) (s t:Int) (Q:VRes->Prop):callN Try.prog (tabS [panC,btwT]) noL 10 20 0 (.fn 18) [.agg (pnV p c1 c2 c3),I s,I t] (pnH p) (fun r _=>Q r) =
 (∃ p_1,pnIs (VH.mk (5) [(4,VB.cells [I 0,I 0] 34),(3,VB.cells [VV.slice (VA.el 0 [] (0:Int) 0) p.D.length c1,VV.slice (VA.el 1 [] (0:Int) 0) p.T.length c2,VV.slice (VA.el 2 [] (0:Int) 0) p.S.length c3] 26),(0,arD p),(1,arT p),(2,arS p)]) p_1 (VV.slice (VA.el 0 [] (0:Int) 0) p.D.length c1) (VV.slice (VA.el 1 [] (0:Int) 0) p.T.length c2) (VV.slice (VA.el 2 [] (0:Int) 0) p.S.length c3)/\bif panB p_1 then
 bif decide ((0:Int)<=s) then
 bif !decide (s<=(15:Int)) then
 Q (VRes.ret (VV.tup [VV.agg [I 0,I 0],I 4]))
 else bif decide ((0:Int)<=t) then
 bif !decide (t<=(15:Int)) then
 Q (VRes.ret (VV.tup [VV.agg [I 0,I 0],I 4]))
 else bif inK IntKind.i64 (s+(1:Int)) then
 bif inK IntKind.i64 (t+(1:Int)) then
 ∃ p_2,pnIs (VH.mk (5) [(4,VB.cells [I 0,I 0] 34),(3,VB.cells [VV.slice (VA.el 0 [] (0:Int) 0) p.D.length c1,VV.slice (VA.el 1 [] (0:Int) 0) p.T.length c2,VV.slice (VA.el 2 [] (0:Int) 0) p.S.length c3] 26),(0,arD p),(1,arT p),(2,arS p)]) p_2 (VV.slice (VA.el 0 [] (0:Int) 0) p.D.length c1) (VV.slice (VA.el 1 [] (0:Int) 0) p.T.length c2) (VV.slice (VA.el 2 [] (0:Int) 0) p.S.length c3)/\Q (VRes.ret (VV.tup [VV.agg [I (btF p_2 (ndB false (s+(1:Int)) (0:Int)) (ndB false (t+(1:Int)) (0:Int))).fst,I (btF p_2 (ndB false (s+(1:Int)) (0:Int)) (ndB false (t+(1:Int)) (0:Int))).snd.fst],I (btF p_2 (ndB false (s+(1:Int)) (0:Int)) (ndB false (t+(1:Int)) (0:Int))).snd.snd]))
 else False
 else False
 else Q (VRes.ret (VV.tup [VV.agg [I 0,I 0],I 4]))
 else Q (VRes.ret (VV.tup [VV.agg [I 0,I 0],I 4]))
 else bif inK IntKind.i64 (s+(1:Int)) then
 bif inK IntKind.i64 (t+(1:Int)) then
 ∃ p_2,pnIs (VH.mk (5) [(4,VB.cells [I 0,I 0] 34),(3,VB.cells [VV.slice (VA.el 0 [] (0:Int) 0) p.D.length c1,VV.slice (VA.el 1 [] (0:Int) 0) p.T.length c2,VV.slice (VA.el 2 [] (0:Int) 0) p.S.length c3] 26),(0,arD p),(1,arT p),(2,arS p)]) p_2 (VV.slice (VA.el 0 [] (0:Int) 0) p.D.length c1) (VV.slice (VA.el 1 [] (0:Int) 0) p.T.length c2) (VV.slice (VA.el 2 [] (0:Int) 0) p.S.length c3)/\Q (VRes.ret (VV.tup [VV.agg [I (btF p_2 (ndB false (s+(1:Int)) (0:Int)) (ndB false (t+(1:Int)) (0:Int))).fst,I (btF p_2 (ndB false (s+(1:Int)) (0:Int)) (ndB false (t+(1:Int)) (0:Int))).snd.fst],I (btF p_2 (ndB false (s+(1:Int)) (0:Int)) (ndB false (t+(1:Int)) (0:Int))).snd.snd]))
 else False
 else False):=by kernel_rfl
theorem bia_ev (p:Pn) (c1 c2 c3:Nat) (s t:Int) (Q:VRes->Prop):callN Try.prog (tabS [panC,btwT]) noL 10 20 0 (.fn 19) [.agg (pnV p c1 c2 c3),I s,I t] (pnH p) (fun r _=>Q r) =
 (∃ p_1,pnIs (VH.mk (5) [(4,VB.cells [I 0,I 0] 34),(3,VB.cells [VV.slice (VA.el 0 [] (0:Int) 0) p.D.length c1,VV.slice (VA.el 1 [] (0:Int) 0) p.T.length c2,VV.slice (VA.el 2 [] (0:Int) 0) p.S.length c3] 26),(0,arD p),(1,arT p),(2,arS p)]) p_1 (VV.slice (VA.el 0 [] (0:Int) 0) p.D.length c1) (VV.slice (VA.el 1 [] (0:Int) 0) p.T.length c2) (VV.slice (VA.el 2 [] (0:Int) 0) p.S.length c3)/\Q (VRes.ret (VV.tup [VV.agg [I (btF p_1 (ndB false (0:Int) (0:Int)) (ndB true s t)).fst,I (btF p_1 (ndB false (0:Int) (0:Int)) (ndB true s t)).snd.fst],I (btF p_1 (ndB false (0:Int) (0:Int)) (ndB true s t)).snd.snd]))):=by kernel_rfl
theorem fit_ev (p:Pn) (c1 c2 c3:Nat) (Q:VRes->Prop):callN Try.prog (tabS [panC,triT]) noL 10 20 0 (.fn 23) [.agg (pnV p c1 c2 c3)] (pnH p) (fun r _=>Q r) =
 (∃ p_1,pnIs (VH.mk (4) [(3,VB.cells [VV.slice (VA.el 0 [] (0:Int) 0) p.D.length c1,VV.slice (VA.el 1 [] (0:Int) 0) p.T.length c2,VV.slice (VA.el 2 [] (0:Int) 0) p.S.length c3] 26),(0,arD p),(1,arT p),(2,arS p)]) p_1 (VV.slice (VA.el 0 [] (0:Int) 0) p.D.length c1) (VV.slice (VA.el 1 [] (0:Int) 0) p.T.length c2) (VV.slice (VA.el 2 [] (0:Int) 0) p.S.length c3)/\bif !panB p_1 then
 Q (VRes.ret (VV.tup [VV.bool false,I 1]))
 else ∃ p_2,pnIs (VH.mk (4) [(3,VB.cells [VV.slice (VA.el 0 [] (0:Int) 0) p.D.length c1,VV.slice (VA.el 1 [] (0:Int) 0) p.T.length c2,VV.slice (VA.el 2 [] (0:Int) 0) p.S.length c3] 26),(0,arD p),(1,arT p),(2,arS p)]) p_2 (VV.slice (VA.el 0 [] (0:Int) 0) p.D.length c1) (VV.slice (VA.el 1 [] (0:Int) 0) p.T.length c2) (VV.slice (VA.el 2 [] (0:Int) 0) p.S.length c3)/\PnOk p_2/\(fitF p_2->Q (VRes.ret (VV.tup [VV.bool true,I 0])))/\(¬fitF p_2->Q (VRes.ret (VV.tup [VV.bool false,I 0])))):=by kernel_rfl
end Go.Sx.Nos
namespace Go.Sx.Nos
open Go Go.Sx Go.Proofs
set_option maxRecDepth 1000000
def shT (f:FuncId) (n:Nat) {R:Type} (sh:R->VV) (C:Pn->List Int->Prop) (F:Pn->List Int->R):FuncId × Spec1:=(f,fun _ args h K=>match args with
 | .agg [d,t,s]::r=>numsE r fun ns=>bif Nat.beq ns.length n then ∃ p:Pn,pnIs h p d t s/\C p ns/\K (.ret (sh (F p ns))) h else False
 | _=>False)
theorem shT_ok {f:FuncId} {n:Nat} {R:Type} {sh:R->VV} {C:Pn->List Int->Prop} {F:Pn->List Int->R} (hsh:∀ r,(sh r).pure=true)
  (hf:∀ (p:Pn) (ns:List Int),ns.length=n->C p ns->∀ c1 c2 c3,∃ h',CallsV Try.prog f (.agg (pnV p c1 c2 c3)::ns.map (VV.int .i64)) (pnH p) (.ret (sh (F p ns))) h'):SpOk Try.prog (shT f n sh C F).1 (shT f n sh C F).2:=by
 intro lock args h K hK
 simp only [shT] at hK
 split at hK
 ·rename_i d t s r
  obtain ⟨ns,hK2,rfl⟩:=numsE_sound hK
  obtain ⟨hn,p,hp,hv,hK⟩:=cond_f hK2
  exact ⟨_,h,hK,lockP_refl _ _,calls_pn (hf p ns (Nat.eq_of_beq_eq_true hn) hv) (hsh _) (pure_ints ns) hp⟩
 ·exact hK.elim
theorem pq_ok:∀ x ∈ [panC,btwT],SpOk Try.prog x.1 x.2:=fun x hx=>by
 simp only [List.mem_cons,List.not_mem_nil,or_false] at hx
 rcases hx with rfl | rfl
 ·exact panC_ok
 ·exact btwT_ok
def sOk16 (s:Int):Prop:=0<=s/\s<=15
instance (s:Int):Decidable (sOk16 s):=inferInstanceAs (Decidable (_/\_))
def n64 (s:Int):Prop:=-9223372036854775808<=s+1/\s+1<=9223372036854775807
open Classical in
noncomputable def valF (p:Pn) (s:Int):Int × Int × Int:=if PnOk p/\¬ sOk16 s then (0,0,4) else btF p (vN s) zeroN
open Classical in
noncomputable def difF (p:Pn) (a b:Int):Int × Int × Int:=if PnOk p/\(¬ sOk16 a ∨ ¬ sOk16 b) then (0,0,4) else btF p (vN a) (vN b)
noncomputable def biaF (p:Pn) (j t:Int):Int × Int × Int:=btF p zeroN (cN j t)
open Classical in
noncomputable def fitB (p:Pn):Bool:=decide (fitF p)
open Classical in
theorem fitB_t {p:Pn} (h:fitF p):fitB p=true:=decide_eq_true h
open Classical in
theorem fitB_f {p:Pn} (h:¬ fitF p):fitB p=false:=decide_eq_false h
open Classical in
noncomputable def fisF (p:Pn):Bool × Int:=if PnOk p then (fitB p,0) else (false,1)
abbrev g0 (ns:List Int) (i:Nat):Int:=ns.getD i 0
def fiV (r:Bool × Int):VV:=.tup [.bool r.1,I r.2]
noncomputable def valT:=shT 17 1 spV (fun _ ns=>n64 (g0 ns 0)) fun p ns=>valF p (g0 ns 0)
noncomputable def difT:=shT 18 2 spV (fun _ ns=>n64 (g0 ns 0)/\n64 (g0 ns 1)) fun p ns=>difF p (g0 ns 0) (g0 ns 1)
noncomputable def biaT:=shT 19 2 spV (fun _ _=>True) fun p ns=>biaF p (g0 ns 0) (g0 ns 1)
theorem biaT_ok:SpOk Try.prog biaT.1 biaT.2:=shT_ok (fun _=>rfl) fun p ns hn _ c1 c2 c3=>by
 match ns,hn with
 | [s,t],_=>
  obtain ⟨r,h',rfl,hc⟩:=of_callN (tab_good hmix pq_ok 20) (un:=10) (f:=19) (args:=[.agg (pnV p c1 c2 c3),I s,I t]) (h:=pnH p) (K:=fun r _=>r=.ret (spV (biaF p s t)))
   (by refine cast (bia_ev p c1 c2 c3 s t _).symm ?_; exact ⟨p,pnIs_own rfl rfl rfl,rfl⟩)
  exact ⟨h',hc⟩
theorem valT_ok:SpOk Try.prog valT.1 valT.2:=shT_ok (fun _=>rfl) fun p ns hn hC c1 c2 c3=>by
 match ns,hn with
 | [s],_=>
  have hk:n64 s:=hC
  have k0 : -9223372036854775808<=s+1:=hk.1
  have k1:s+1<=9223372036854775807:=hk.2
  obtain ⟨r,h',rfl,hc⟩:=of_callN (tab_good hmix pq_ok 20) (un:=10) (f:=17) (args:=[.agg (pnV p c1 c2 c3),I s]) (h:=pnH p) (K:=fun r _=>r=.ret (spV (valF p s)))
   (by
    refine cast (val_ev p c1 c2 c3 s _).symm ?_
    have e1:PnOk p/\¬ sOk16 s->valF p s=(0,0,4):=fun h=>by unfold valF; rw [if_pos h]
    have e2:¬ (PnOk p/\¬ sOk16 s)->valF p s=btF p (vN s) zeroN:=fun h=>by unfold valF; rw [if_neg h]
    refine ⟨p,pnIs_own rfl rfl rfl,?_⟩
    cases hpb:panB p with
    | false=>
     have hn:¬ PnOk p:=fun h=>by rw [<- panB_iff,hpb] at h; cases h
     rw [e2 (fun h=>hn h.1)]
     exact cond_r (by omega) ⟨p,pnIs_own rfl rfl rfl,rfl⟩
    | true=>
     have hp:PnOk p:=panB_iff.1 hpb
     refine cond_d (fun a0=>cond_nd (fun a1=>?_) (fun a1=>cond_r (by omega) ⟨p,pnIs_own rfl rfl rfl,?_⟩)) (fun a0=>?_)
     ·rw [e1 ⟨hp,fun h=>a1 h.2⟩]; rfl
     ·rw [e2 (fun h=>h.2 ⟨a0,a1⟩)]; rfl
     ·rw [e1 ⟨hp,fun h=>a0 h.1⟩]; rfl)
  exact ⟨h',hc⟩
theorem difT_ok:SpOk Try.prog difT.1 difT.2:=shT_ok (fun _=>rfl) fun p ns hn hC c1 c2 c3=>by
 match ns,hn with
 | [s,t],_=>
  have hk:n64 s/\n64 t:=hC
  have k0 : -9223372036854775808<=s+1:=hk.1.1
  have k1:s+1<=9223372036854775807:=hk.1.2
  have l0 : -9223372036854775808<=t+1:=hk.2.1
  have l1:t+1<=9223372036854775807:=hk.2.2
  obtain ⟨r,h',rfl,hc⟩:=of_callN (tab_good hmix pq_ok 20) (un:=10) (f:=18) (args:=[.agg (pnV p c1 c2 c3),I s,I t]) (h:=pnH p) (K:=fun r _=>r=.ret (spV (difF p s t)))
   (by
    refine cast (dif_ev p c1 c2 c3 s t _).symm ?_
    have e1:PnOk p/\(¬ sOk16 s ∨ ¬ sOk16 t)->difF p s t=(0,0,4):=fun h=>by unfold difF; rw [if_pos h]
    have e2:¬ (PnOk p/\(¬ sOk16 s ∨ ¬ sOk16 t))->difF p s t=btF p (vN s) (vN t):=fun h=>by unfold difF; rw [if_neg h]
    refine ⟨p,pnIs_own rfl rfl rfl,?_⟩
    cases hpb:panB p with
    | false=>
     have hn:¬ PnOk p:=fun h=>by rw [<- panB_iff,hpb] at h; cases h
     rw [e2 (fun h=>hn h.1)]
     exact cond_r (by omega) (cond_r (by omega) ⟨p,pnIs_own rfl rfl rfl,rfl⟩)
    | true=>
     have hp:PnOk p:=panB_iff.1 hpb
     refine cond_d (fun a0=>cond_nd (fun a1=>?_) (fun a1=>cond_d (fun b0=>cond_nd (fun b1=>?_) (fun b1=>cond_r (by omega) (cond_r (by omega) ⟨p,pnIs_own rfl rfl rfl,?_⟩))) (fun b0=>?_))) (fun a0=>?_)
     ·rw [e1 ⟨hp,.inl fun h=>a1 h.2⟩]; rfl
     ·rw [e1 ⟨hp,.inr fun h=>b1 h.2⟩]; rfl
     ·rw [e2 (fun h=>h.2.elim (fun h=>h ⟨a0,a1⟩) (fun h=>h ⟨b0,b1⟩))]; rfl
     ·rw [e1 ⟨hp,.inr fun h=>b0 h.1⟩]; rfl
     ·rw [e1 ⟨hp,.inl fun h=>a0 h.1⟩]; rfl)
  exact ⟨h',hc⟩
end Go.Sx.Nos
namespace Go.Sx.Nos
open Go Go.Sx Go.Proofs
set_option maxRecDepth 1000000
theorem great_ev (p:Pn) (c1 c2 c3:Nat) (m:Int) (Q:VRes->Prop):callN Try.prog noSpec noL 10 20 0 (.fn 14) [.agg (pnV p c1 c2 c3),I m] (pnH p) (fun r _=>Q r) =
 (bif decide ((↑p.D.length:Int) > (20:Int)) then
 Q (VRes.ret (VV.bool true))
 else bif decide ((↑p.T.length:Int) > m) then
 bif decide ((↑p.T.length:Int)<=(48:Int)) then
 Q (VRes.ret (VV.bool true))
 else bif decide ((↑p.T.length:Int) > (52:Int)) then
 Q (VRes.ret (VV.bool true))
 else Q (VRes.ret (VV.bool (decide ((↑p.S.length:Int) > (20:Int)))))
 else bif decide ((↑p.T.length:Int) > (52:Int)) then
 Q (VRes.ret (VV.bool true))
 else Q (VRes.ret (VV.bool (decide ((↑p.S.length:Int) > (20:Int)))))):=by kernel_rfl
theorem alive_ev (Q:VRes->Prop):callN Try.prog (tabS [valT,difT,biaT]) noL 10 20 0 (.fn 16) [] ⟨0,[]⟩ (fun r _=>Q r) =
 (∃ p,pnIs (VH.mk (5) [(4,VB.cells [VV.sl (1) 2,VV.sl (2) 4,VV.sl (3) 1] 26),(4,VB.cells [VV.nils,VV.nils,VV.nils] 26),(0,VB.cells [VV.sl (1) 2,VV.sl (2) 4,VV.sl (3) 1] 26),(3,VB.vec 1 (fun j=>List.take (3) (List.drop (j*(3)) [I 0,I 480,I 490])) (3) 36),(2,VB.vec 4 (fun j=>List.take (5) (List.drop (j*(5)) [I 0,I 0,I 0,I 500,I 20,I 0,I 1,I 0,I 530,I 20,I 1,I 0,I 3,I 700,I 5,I 1,I 1,I 5,I 735,I 5])) (5) 32),(1,VB.vec 2 (fun j=>List.take (1) (List.drop (j*(1)) [I 0,I 10])) (1) 3),(0,VB.cells [VV.nils,VV.nils,VV.nils] 26)]) p (VV.sl (1) 2) (VV.sl (2) 4) (VV.sl (3) 1)/\n64 (g0 [(1:Int)] 0)/\∃ p_1,pnIs (VH.mk (6) [(5,VB.cells [I ((fun p ns=>valF p (g0 ns 0)) p [(1:Int)]).fst,I ((fun p ns=>valF p (g0 ns 0)) p [(1:Int)]).snd.fst] 34),(5,VB.cells [I 0,I 0] 34),(4,VB.cells [VV.sl (1) 2,VV.sl (2) 4,VV.sl (3) 1] 26),(4,VB.cells [VV.nils,VV.nils,VV.nils] 26),(0,VB.cells [VV.sl (1) 2,VV.sl (2) 4,VV.sl (3) 1] 26),(3,VB.vec 1 (fun j=>List.take (3) (List.drop (j*(3)) [I 0,I 480,I 490])) (3) 36),(2,VB.vec 4 (fun j=>List.take (5) (List.drop (j*(5)) [I 0,I 0,I 0,I 500,I 20,I 0,I 1,I 0,I 530,I 20,I 1,I 0,I 3,I 700,I 5,I 1,I 1,I 5,I 735,I 5])) (5) 32),(1,VB.vec 2 (fun j=>List.take (1) (List.drop (j*(1)) [I 0,I 10])) (1) 3),(0,VB.cells [VV.nils,VV.nils,VV.nils] 26)]) p_1 (VV.sl (1) 2) (VV.sl (2) 4) (VV.sl (3) 1)/\(n64 (g0 [(1:Int),(0:Int)] 0)/\n64 (g0 [(1:Int),(0:Int)] 1))/\∃ p_2,pnIs (VH.mk (7) [(6,VB.cells [I ((fun p ns=>difF p (g0 ns 0) (g0 ns 1)) p_1 [(1:Int),(0:Int)]).fst,I ((fun p ns=>difF p (g0 ns 0) (g0 ns 1)) p_1 [(1:Int),(0:Int)]).snd.fst] 34),(6,VB.cells [I 0,I 0] 34),(5,VB.cells [I ((fun p ns=>valF p (g0 ns 0)) p [(1:Int)]).fst,I ((fun p ns=>valF p (g0 ns 0)) p [(1:Int)]).snd.fst] 34),(5,VB.cells [I 0,I 0] 34),(4,VB.cells [VV.sl (1) 2,VV.sl (2) 4,VV.sl (3) 1] 26),(4,VB.cells [VV.nils,VV.nils,VV.nils] 26),(0,VB.cells [VV.sl (1) 2,VV.sl (2) 4,VV.sl (3) 1] 26),(3,VB.vec 1 (fun j=>List.take (3) (List.drop (j*(3)) [I 0,I 480,I 490])) (3) 36),(2,VB.vec 4 (fun j=>List.take (5) (List.drop (j*(5)) [I 0,I 0,I 0,I 500,I 20,I 0,I 1,I 0,I 530,I 20,I 1,I 0,I 3,I 700,I 5,I 1,I 1,I 5,I 735,I 5])) (5) 32),(1,VB.vec 2 (fun j=>List.take (1) (List.drop (j*(1)) [I 0,I 10])) (1) 3),(0,VB.cells [VV.nils,VV.nils,VV.nils] 26)]) p_2 (VV.sl (1) 2) (VV.sl (2) 4) (VV.sl (3) 1)/\True/\bif decide (((fun p ns=>valF p (g0 ns 0)) p [(1:Int)]).fst=(485:Int)) && (decide (((fun p ns=>valF p (g0 ns 0)) p [(1:Int)]).snd.fst=(555:Int)) && true) then
 bif decide (((fun p ns=>valF p (g0 ns 0)) p [(1:Int)]).snd.snd=(0:Int)) then
 bif decide (((fun p ns=>difF p (g0 ns 0) (g0 ns 1)) p_1 [(1:Int),(0:Int)]).fst=(5:Int)) && (decide (((fun p ns=>difF p (g0 ns 0) (g0 ns 1)) p_1 [(1:Int),(0:Int)]).snd.fst=(65:Int)) && true) then
 bif decide (((fun p ns=>difF p (g0 ns 0) (g0 ns 1)) p_1 [(1:Int),(0:Int)]).snd.snd=(0:Int)) then
 bif decide (((fun p ns=>biaF p (g0 ns 0) (g0 ns 1)) p_2 [(1:Int),(5:Int)]).fst=(185:Int)) && (decide (((fun p ns=>biaF p (g0 ns 0) (g0 ns 1)) p_2 [(1:Int),(5:Int)]).snd.fst=(245:Int)) && true) then
 Q (VRes.ret (VV.bool (decide (((fun p ns=>biaF p (g0 ns 0) (g0 ns 1)) p_2 [(1:Int),(5:Int)]).snd.snd=(0:Int)))))
 else Q (VRes.ret (VV.bool false))
 else Q (VRes.ret (VV.bool false))
 else Q (VRes.ret (VV.bool false))
 else Q (VRes.ret (VV.bool false))
 else Q (VRes.ret (VV.bool false))):=by kernel_rfl
end Go.Sx.Nos
namespace Go.Sx.Nos
open Go Go.Sx Go.Proofs
set_option maxRecDepth 1000000
section
variable {p:Pn} {c1 c2 c3:Nat}
def greatB (p:Pn) (m:Int):Bool:=decide ((p.D.length:Int) > 20 ∨ ((p.T.length:Int) > m/\(p.T.length:Int)<=48) ∨ (p.T.length:Int) > 52 ∨ (p.S.length:Int) > 20)
theorem great_v (p:Pn) (c1 c2 c3:Nat) (m:Int):∃ h',CallsV Try.prog 14 [.agg (pnV p c1 c2 c3),I m] (pnH p) (.ret (.bool (greatB p m))) h':=by
 obtain ⟨r,h',rfl,hc⟩:=of_callN good0 (f:=14) (args:=[.agg (pnV p c1 c2 c3),I m]) (h:=pnH p) (K:=fun r _=>r=.ret (.bool (greatB p m)))
  (by
   refine cast (great_ev p c1 c2 c3 m _).symm ?_
   have tt:((p.D.length:Int) > 20 ∨ ((p.T.length:Int) > m/\(p.T.length:Int)<=48) ∨ (p.T.length:Int) > 52 ∨ (p.S.length:Int) > 20)->VRes.ret (VV.bool true)=.ret (.bool (greatB p m)):=fun h=>by unfold greatB; rw [decide_eq_true h]
   have ss:¬ (p.D.length:Int) > 20->¬ ((p.T.length:Int) > m/\(p.T.length:Int)<=48)->¬ (p.T.length:Int) > 52->VRes.ret (VV.bool (decide ((p.S.length:Int) > 20)))=.ret (.bool (greatB p m)):=fun h1 h2 h3=>by
    unfold greatB
    congr 2
    rw [decide_eq_decide]
    omega
   refine cond_d (fun a=>tt (.inl a)) (fun a=>cond_d (fun b=>cond_d (fun d=>tt (.inr (.inl ⟨b,d⟩))) (fun d=>cond_d (fun e=>tt (.inr (.inr (.inl e)))) (fun e=>ss a (fun h=>d h.2) e))) (fun b=>cond_d (fun e=>tt (.inr (.inr (.inl e)))) (fun e=>ss a (fun h=>b h.1) e))))
 exact ⟨h',hc⟩
end
def boV (b:Bool):VV:=.bool b
end Go.Sx.Nos
namespace Go.Sx.Nos
open Go Go.Sx Go.Proofs
set_option maxRecDepth 1000000
end Go.Sx.Nos
