/- A contract over read-only arrays, used wherever its lists lie in the caller's memory. -/
import Derived.Test.YtlboglkgbhjpeaaSxY
import Derived.Test.YtlboglkgbhjpeaaSxW

namespace Go.Sx
open Go
section
variable {P : Program}

end
end Go.Sx
