/- Nested lists at a row's arguments, as data. -/
import Derived.Test.YtnfkbbcbehnnkaaSxJ
namespace Go.Sx
open Go Go.ChangeShapes Go.WideShapes Go.RowKit
section
variable {P:Program} {H:Type} {enc:TypeId × Value->H} {w:World} {base:Nat} {spare:Nat->Bool} {held:Bool}
end
end Go.Sx
