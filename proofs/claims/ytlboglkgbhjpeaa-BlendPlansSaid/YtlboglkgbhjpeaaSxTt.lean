/- Lists in slots, told as data: at the end of a round, at a loop's begin. -/
import Derived.Test.YtlboglkgbhjpeaaSxT
namespace Go.Sx
open Go
def tellSl:List Nat->Slots->VH->(Slots->VH->Prop)->Prop
 | [],t,h,K=>K t h
 | d::r,t,h,K=>
  match look t d,h with
  | .sl b L,⟨nx,bs⟩=>
   match (VH.mk nx bs).at b with
   | .vec L' g s _=>bif (Nat.beq L' L && Nat.ble 1 s) then tellSl r ((d,.tl L s g)::t) ⟨nx,(b,.gone)::bs⟩ K else tellSl r t ⟨nx,bs⟩ K
   | _=>tellSl r t ⟨nx,bs⟩ K
  | _,h=>tellSl r t h K
theorem tellSl_sound:∀ (l:List Nat) (t:Slots) (h:VH) (K:Slots->VH->Prop),tellSl l t h K->∃ t' h',K t' h'/\ToldT t h t' h':=by
 intro l
 induction l with
 | nil=>exact fun t h K hK=>⟨t,h,hK,ToldT.refl _ _⟩
 | cons d r ih=>
  intro t h K hK
  unfold tellSl at hK
  split at hK
  ·rename_i b L nx bs hd
   split at hK
   ·rename_i L' g s ty hb
    rcases Bool.eq_false_or_eq_true (Nat.beq L' L && Nat.ble 1 s) with hc | hc
    ·rw [hc] at hK
     simp only [cond_true] at hK
     simp only [Bool.and_eq_true] at hc
     have hL:=Nat.eq_of_beq_eq_true hc.1
     subst hL
     obtain ⟨t',h',k1,k3⟩:=ih _ _ K hK
     exact ⟨t',h',k1,(told_one hd hb).trans k3⟩
    ·rw [hc] at hK
     simp only [cond_false] at hK
     exact ih _ _ K hK
   ·exact ih _ _ K hK
  ·exact ih _ _ K hK
def obsT (ss:List Nat) (nx:Nat) (ds ns:List Nat) (Q:VEx->List VV->List VB->Prop):CK:=fun e t h=>tellSl ss t h fun t h=>obs nx ds ns Q e t h
section
variable {P:Program}
theorem ToldT.sem {pl:Bool} {c:Code} {n:Nat} {t t1 t2:Slots} {h h1 h2:VH} {e:VEx} (ht:ToldT t1 h1 t2 h2) (hs:SemC P pl c n t h e t1 h1):SemC P pl c n t h e t2 h2:=by
 intro F hF hp B ds R a w em tr hn hds
 refine wpIn_mono (hs F hF hp B ds R a w em tr hn hds) ?_
 rintro ex a' w' ⟨R',rs,k1,k2,k3,k4,k5,k6,k7,kz,k8⟩
 obtain ⟨R2,n2,e2,tr2⟩:=ht B R' a' w' k2 k3
 have hle:=n2.le k2
 exact ⟨R2,rs,k1.trans n2,e2,tr2,k4,k5,k6.next n2,k7,kz,exRel_mono hle k8⟩
theorem sem_told {pl:Bool} {c:Code} {n:Nat} {t t2 t':Slots} {h h2 h':VH} {e:VEx} (ht:ToldT t h t2 h2) (hs:SemC P pl c n t2 h2 e t' h'):SemC P pl c n t h e t' h':=by
 intro F hF hp B ds R a w em tr hn hds
 obtain ⟨R2,n2,e2,tr2⟩:=ht B R a w em tr
 refine wpIn_mono (hs F hF hp B ds R2 a w e2 tr2 hn hds) ?_
 intro ex a' w' hp
 exact hp.of_next n2
theorem loop_allT {σ:Type} (hmix:P.follows .mixedOrders=true) {call:CallT} (hg:Good P call) {lsp:σ->Nat->Option LT} {un n nx:Nat} {zs:List Nat} {ds ns:List Nat} {b:Code} (V:σ->List VV) (Bk:σ->List VB) (Inv:σ->Prop) (μ:σ->Nat) (Out:σ->VEx->List VV->List VB->Prop)
  (hls:∀ s,Inv s->∀ id T,lsp s id=some T->∀ b' ∈ blocksOf id b,LSound P true (.block id b') n T)
  (hr:∀ s,Inv s->codeE P call (lsp s) true un n 0 b (ds.zip (V s)) ⟨nx,ns.zip (Bk s)⟩ (obsT zs nx ds ns (RoundQ V Bk Inv μ Out s))) :
  ∀ s,Inv s->∃ e vs bs,Out s e vs bs/\e ≠ .normal/\LoopTo P true b n (ds.zip (V s)) ⟨nx,ns.zip (Bk s)⟩ e (ds.zip vs) ⟨nx,ns.zip bs⟩:=by
 have key:∀ (m:Nat) (s:σ),μ s<m->Inv s->∃ e vs bs,Out s e vs bs/\e ≠ .normal/\LoopTo P true b n (ds.zip (V s)) ⟨nx,ns.zip (Bk s)⟩ e (ds.zip vs) ⟨nx,ns.zip bs⟩:=by
  intro m
  induction m with
  | zero=>intro s hs; omega
  | succ m ih=>
   intro s hs hi
   obtain ⟨e,t1,h1,hK,_,hsem⟩:=code_sound (pl:=true) hmix hg b _ _ _ (hls s hi) (hr s hi)
   obtain ⟨t',h',hK,htd⟩:=tellSl_sound zs t1 h1 _ hK
   have hsem:=htd.sem hsem
   obtain ⟨hbel,hQ⟩:=cond_f hK
   simp only [Bool.and_eq_true] at hbel
   obtain ⟨⟨b1,b2⟩,b3⟩:=hbel
   have hpan:∀ v,e=.panic v->v.bel nx=true:=fun v hv=>by subst hv; exact b3
   by_cases hn:e=.normal
   ·subst hn
    obtain ⟨s',q1,q2,q3,q4,q5⟩:=hQ
    obtain ⟨e2,vs,bs,w1,w2,w3⟩:=ih s' (by omega) q1
    have hsem2:=sem_weak (bs:=ns.zip (Bk s')) (t2:=ds.zip (V s')) hsem (Nat.le_refl nx) (fitB_zip h' ns (Bk s') q4) (belB_zip ns _ _ q4 b2) (by rw [<- q3]; exact fitS_zip t' ds) (by rw [<- q3]; exact belS_zip ds _ b1) hpan
    exact ⟨e2,vs,bs,q5 _ _ _ w1,w2,.next hsem2 w3⟩
   ·have hsem2:=sem_weak (bs:=ns.zip (ns.map h'.at)) (t2:=ds.zip (ds.map (look t'))) hsem (Nat.le_refl nx) (fitB_zip h' ns _ (fitBs_refl _)) (belB_zip ns _ _ (fitBs_refl _) b2) (fitS_zip t' ds) (belS_zip ds _ b1) hpan
    refine ⟨e,_,_,?_,hn,.last hsem2 hn⟩
    cases e <;> first | exact (hn rfl).elim | exact hQ
 exact fun s hi=>key (μ s+1) s (Nat.lt_succ_self _) hi
end
end Go.Sx
