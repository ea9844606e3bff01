/- A contract over read-only arrays, used wherever its lists lie in the caller's memory. -/
import Derived.Test.YtlboglkgbhjpeaaSxY
import Derived.Test.YtlboglkgbhjpeaaSxW
namespace Go.Sx
open Go
section
variable {P:Program}
theorem ghost_row {c:Code} {n d nx:Nat} {bs:List (Nat × VB)} {t0:Slots} {T0 T:LT} (g:Nat->List VV) (s:Nat) (ty:TypeId) (h0:LSound P true c n T0)
  (hT:∀ lock t h K,T lock t h K->FitP lock h t ⟨nx,bs⟩ ((d,.nils)::t0)/\T0 0 ((d,.sl nx 0)::t0) ((VH.mk nx bs).new (.vec 0 g s ty)) K):LSound P true c n T:=by
 intro lock t h K hK
 obtain ⟨hf,hK⟩:=hT lock t h K hK
 obtain ⟨e,t',h',hk,_,hs⟩:=h0 _ _ _ _ hK
 obtain rfl:=hf.1.1
 refine ⟨e,t',h',hk,lock0 _ _,sem_fit hf (sem_ghost g s ty hs fun R a hv ht=>?_)⟩
 have h1:=slot_ghost (d:=d) (n0:=nx) (t:=(d,.nils)::t0) (by rw [look_cons]; exact if_pos rfl) R a hv ht
 intro d'
 have h2:=h1 d'
 rw [look_cons] at h2 ⊢
 by_cases h:d=d'
 ·rw [if_pos h] at h2 ⊢; exact h2
 ·rw [if_neg h] at h2 ⊢
  rw [look_cons,if_neg h] at h2
  exact h2
end
end Go.Sx
