/- A contract over one list that it may turn, used at a caller's list. -/
import Derived.Test.YtlboglkgbhjpeaaSxS
import Derived.Test.YtlboglkgbhjpeaaSxN
namespace Go.Sx
open Go
section
variable {P:Program}
theorem calls_told {f:FuncId} {args args2:List VV} {h h':VH} {r:VRes} {m L s:Nat} {g:Nat->List VV} {t:TypeId} (hs:CallsV P f args2 ⟨h.nx,(m,.gone)::h.bs⟩ r h') (hm:h.at m=.vec L g s t)
  (hv:∀ (R R':Rn) (xs:List Value),R.le R'->(∀ y,VRel R (.sl m L) y->VRel R' (.tl L s g) y)->VRelL R args xs->VRelL R' args2 xs):CallsV P f args h r h':=by
 intro B R w xs em hx
 obtain ⟨R2,hle,e2,n2,hy⟩:=emb_frzV em hm
 have hat:(VH.mk h.nx ((m,.gone)::h.bs)).at=upd h.at m .gone:=VH.at_put h m .gone (by rw [hm]; simp)
 refine (hs B R2 w xs (by rw [hat]; exact e2) (hv R R2 xs hle hy hx)).mono ?_
 rintro e w' ⟨R',n1,e1,x⟩
 exact ⟨R',Nxt.trans n2 (by rw [hat] at n1; exact n1),e1,x⟩
end
end Go.Sx
