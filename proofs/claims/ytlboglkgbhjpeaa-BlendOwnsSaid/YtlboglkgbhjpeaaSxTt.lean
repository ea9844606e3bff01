/- Lists in slots, told as data: at the end of a round, at a loop's begin. -/
import Derived.Test.YtlboglkgbhjpeaaSxT
namespace Go.Sx
open Go
def tellSl:List Nat->Slots->VH->(Slots->VH->Prop)->Prop
 | [],t,h,K=>K t h
 | d::r,t,h,K=>
  match look t d,h with
  | .sl b L,⟨nx,bs⟩=>
   match (VH.mk nx bs).at b with
   | .vec L' g s _=>bif (Nat.beq L' L && Nat.ble 1 s) then tellSl r ((d,.tl L s g)::t) ⟨nx,(b,.gone)::bs⟩ K else tellSl r t ⟨nx,bs⟩ K
   | _=>tellSl r t ⟨nx,bs⟩ K
  | _,h=>tellSl r t h K
theorem tellSl_sound:∀ (l:List Nat) (t:Slots) (h:VH) (K:Slots->VH->Prop),tellSl l t h K->∃ t' h',K t' h'/\ToldT t h t' h':=by
 intro l
 induction l with
 | nil=>exact fun t h K hK=>⟨t,h,hK,ToldT.refl _ _⟩
 | cons d r ih=>
  intro t h K hK
  unfold tellSl at hK
  split at hK
  ·rename_i b L nx bs hd
   split at hK
   ·rename_i L' g s ty hb
    rcases Bool.eq_false_or_eq_true (Nat.beq L' L && Nat.ble 1 s) with hc | hc
    ·rw [hc] at hK
     simp only [cond_true] at hK
     simp only [Bool.and_eq_true] at hc
     have hL:=Nat.eq_of_beq_eq_true hc.1
     subst hL
     obtain ⟨t',h',k1,k3⟩:=ih _ _ K hK
     exact ⟨t',h',k1,(told_one hd hb).trans k3⟩
    ·rw [hc] at hK
     simp only [cond_false] at hK
     exact ih _ _ K hK
   ·exact ih _ _ K hK
  ·exact ih _ _ K hK
section
variable {P:Program}
theorem ToldT.sem {pl:Bool} {c:Code} {n:Nat} {t t1 t2:Slots} {h h1 h2:VH} {e:VEx} (ht:ToldT t1 h1 t2 h2) (hs:SemC P pl c n t h e t1 h1):SemC P pl c n t h e t2 h2:=by
 intro F hF hp B ds R a w em tr hn hds
 refine wpIn_mono (hs F hF hp B ds R a w em tr hn hds) ?_
 rintro ex a' w' ⟨R',rs,k1,k2,k3,k4,k5,k6,k7,kz,k8⟩
 obtain ⟨R2,n2,e2,tr2⟩:=ht B R' a' w' k2 k3
 have hle:=n2.le k2
 exact ⟨R2,rs,k1.trans n2,e2,tr2,k4,k5,k6.next n2,k7,kz,exRel_mono hle k8⟩
end
end Go.Sx
