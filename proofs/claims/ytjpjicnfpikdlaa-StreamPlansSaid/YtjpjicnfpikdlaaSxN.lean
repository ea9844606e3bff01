/- A contract over some blocks holds where they bear other names. -/
import Derived.Test.YtjpjicnfpikdlaaSxU
namespace Go.Sx
open Go
section
variable {P:Program}
end
end Go.Sx
