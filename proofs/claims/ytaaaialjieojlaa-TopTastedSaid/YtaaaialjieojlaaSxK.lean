/- A contract over one list that it may turn, used at a caller's list. -/
import Derived.Test.YtaaaialjieojlaaSxS
import Derived.Test.YtaaaialjieojlaaSxN
namespace Go.Sx
open Go
section
variable {P:Program}
end
end Go.Sx
