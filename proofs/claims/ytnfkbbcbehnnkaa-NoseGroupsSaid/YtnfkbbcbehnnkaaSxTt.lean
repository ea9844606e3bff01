/- Lists in slots, told as data: at the end of a round, at a loop's begin. -/
import Derived.Test.YtnfkbbcbehnnkaaSxT
namespace Go.Sx
open Go
section
variable {P:Program}
end
end Go.Sx
