/- Lists in slots, told as data: at the end of a round, at a loop's begin. -/
import Derived.Test.YtjpjicnfpikdlaaSxT
namespace Go.Sx
open Go
section
variable {P:Program}
theorem sem_told {pl:Bool} {c:Code} {n:Nat} {t t2 t':Slots} {h h2 h':VH} {e:VEx} (ht:ToldT t h t2 h2) (hs:SemC P pl c n t2 h2 e t' h'):SemC P pl c n t h e t' h':=by
 intro F hF hp B ds R a w em tr hn hds
 obtain ⟨R2,n2,e2,tr2⟩:=ht B R a w em tr
 refine wpIn_mono (hs F hF hp B ds R2 a w e2 tr2 hn hds) ?_
 intro ex a' w' hp
 exact hp.of_next n2
end
end Go.Sx
