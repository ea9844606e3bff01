/- The body of a function that defers one closure, which recovers. -/
import Derived.Test.YtlboglkgbhjpeaaSxD
namespace Go.Sx
open Go
section
variable {P:Program}
end
end Go.Sx
