/- A contract over lists, at a row's arguments. -/
import Derived.Test.YtaaaialjieojlaaSxZ
import Derived.Test.YtaaaialjieojlaaSxQ
namespace Go.Sx
open Go Go.ChangeShapes Go.WideShapes Go.RowKit
structure RowIn (W:World) (v:Value) (L s cap:Nat) (g:Nat->List VV) (q:Addr):Prop where
 val:v=.slice (some q) L cap ∨ (v=.slice none 0 0/\L=0/\cap=0)
 le:L<=cap
 cell:Lies W q L s g
end Go.Sx
