/- Lists of structs of numbers at a row's arguments, as data. -/
import Derived.Test.YtlboglkgbhjpeaaSxI
namespace Go.Sx
open Go Go.ChangeShapes Go.WideShapes Go.RowKit
theorem tl_congr {R:Rn} {L s:Nat} {g g':Nat->List VV} {x:Value} (hg:∀ j,j<L->g j=g' j) (hx:VRel R (.tl L s g) x):VRel R (.tl L s g') x:=by
 obtain ⟨p,cap,a1,a2,a3⟩:=hx
 refine ⟨p,cap,a1,a2,fun i hi=>?_⟩
 obtain ⟨b,o,xs,b1,b2,b3,b4,b5⟩:=a3 i hi
 exact ⟨b,o,xs,b1,b2,b3,by rw [<- hg i hi]; exact b4,by rw [<- hg i hi]; exact b5⟩
end Go.Sx
