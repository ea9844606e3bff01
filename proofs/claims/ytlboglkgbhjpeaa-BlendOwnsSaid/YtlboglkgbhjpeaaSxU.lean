/- A call that writes: what it does not see stays as it is. -/
import Derived.Test.YtlboglkgbhjpeaaSxC
namespace Go.Sx
open Go
section
variable {P:Program}
end
end Go.Sx
