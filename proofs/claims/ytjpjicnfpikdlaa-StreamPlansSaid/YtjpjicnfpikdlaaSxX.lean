/- A contract over lists, at a row's arguments. -/
import Derived.Test.YtjpjicnfpikdlaaSxZ
import Derived.Test.YtjpjicnfpikdlaaSxQ
namespace Go.Sx
open Go Go.ChangeShapes Go.WideShapes Go.RowKit
end Go.Sx
