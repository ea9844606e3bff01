/- A law over data, at a row's arguments. -/
import Derived.Test.YtjpjicnfpikdlaaSxS
import Derived.Test.YtjpjicnfpikdlaaSxP
namespace Go.Sx
open Go RowKit
def dataR (w:World):Rn:=⟨fun _=>none,fun _ _=>⟨0,0,none⟩,fun _=>0,fun _ _=>none,Wfr w⟩
theorem row_data {P:Program} {f:FuncId} {args:List VV} {W:World} {xs:List Value} {h':VH} (hs:CallsV P f args ⟨0,[]⟩ (.ret (.bool true)) h') (ha:VRelL (dataR W) args xs) :
  Calls P f xs.toArray W fun e W'=>e=.returned (.bool true)/\Below W.heap.size W W':=
 calls_row (R:=dataR W) hs (emb_none (fun _=>rfl) (fun _ _=>rfl) (fun _ _ h=>wfr_ok h)) ha (fun n b=>none_not_live n b)
end Go.Sx
