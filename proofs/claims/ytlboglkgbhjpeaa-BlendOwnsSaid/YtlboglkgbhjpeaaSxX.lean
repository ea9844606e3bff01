/- A contract over lists, at a row's arguments. -/
import Derived.Test.YtlboglkgbhjpeaaSxZ
import Derived.Test.YtlboglkgbhjpeaaSxQ
namespace Go.Sx
open Go Go.ChangeShapes Go.WideShapes Go.RowKit
end Go.Sx
