/- Rows whose arguments hold lists; lists of structs of numbers, read. -/
import Derived.Test.YtlboglkgbhjpeaaSxX
namespace Go.Sx
open Go Go.ChangeShapes Go.WideShapes Go.RowKit
section
variable {H:Type} {enc:TypeId × Value->H} {P:Program} {w:World} {base:Nat} {spare:Nat->Bool} {held:Bool}
end
end Go.Sx
