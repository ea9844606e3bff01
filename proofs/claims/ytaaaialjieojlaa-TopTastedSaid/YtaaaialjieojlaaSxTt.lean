/- Lists in slots, told as data: at the end of a round, at a loop's begin. -/
import Derived.Test.YtaaaialjieojlaaSxT
namespace Go.Sx
open Go
section
variable {P:Program}
theorem ToldT.sem {pl:Bool} {c:Code} {n:Nat} {t t1 t2:Slots} {h h1 h2:VH} {e:VEx} (ht:ToldT t1 h1 t2 h2) (hs:SemC P pl c n t h e t1 h1):SemC P pl c n t h e t2 h2:=by
 intro F hF hp B ds R a w em tr hn hds
 refine wpIn_mono (hs F hF hp B ds R a w em tr hn hds) ?_
 rintro ex a' w' ⟨R',rs,k1,k2,k3,k4,k5,k6,k7,kz,k8⟩
 obtain ⟨R2,n2,e2,tr2⟩:=ht B R' a' w' k2 k3
 have hle:=n2.le k2
 exact ⟨R2,rs,k1.trans n2,e2,tr2,k4,k5,k6.next n2,k7,kz,exRel_mono hle k8⟩
end
end Go.Sx
