/- A contract over read-only arrays, that gives new lists, holds where its arrays lie elsewhere. -/
import Derived.Test.YtnfkbbcbehnnkaaSxW
namespace Go.Sx
open Go
theorem ownsRow_base {w:World} {base base':Nat} {e:TypeId} {size:Nat} {v:Value} {n:Nat} {xs:List Value} (h:w.ownsRow base e size v n xs) (hb:base'<=base):w.ownsRow base' e size v n xs:=by
 refine ⟨h.1,?_⟩
 rcases h.2 with h1 | ⟨g,cap,cur,h1,h2,h3⟩
 ·exact .inl h1
 ·exact .inr ⟨g,cap,cur,h1,Nat.le_trans hb h2,h3⟩
section
variable {P:Program}
end
end Go.Sx
