/- Lists of structs of numbers at a row's arguments, as data. -/
import Derived.Test.YtnfkbbcbehnnkaaSxI
namespace Go.Sx
open Go Go.ChangeShapes Go.WideShapes Go.RowKit
end Go.Sx
