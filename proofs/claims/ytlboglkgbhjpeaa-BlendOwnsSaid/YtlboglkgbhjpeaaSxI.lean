/- A law over data, at a row's arguments. -/
import Derived.Test.YtlboglkgbhjpeaaSxS
import Derived.Test.YtlboglkgbhjpeaaSxP
namespace Go.Sx
open Go RowKit
def dataR (w:World):Rn:=⟨fun _=>none,fun _ _=>⟨0,0,none⟩,fun _=>0,fun _ _=>none,fun k=>match k with
 | .blk b=>Wfr w b
 | .reg _ _=>none⟩
end Go.Sx
