/- A function that defers one closure, which recovers. -/
import Derived.Test.YtlboglkgbhjpeaaSxC
import Derived.RecoverIn
namespace Go.Sx
open Go
section
variable {P:Program}
end
end Go.Sx
