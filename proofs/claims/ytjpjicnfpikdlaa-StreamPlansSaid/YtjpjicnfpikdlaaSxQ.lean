/- Arguments of numbers, and slices of them. -/
import Derived.Test.YtjpjicnfpikdlaaSxR
namespace Go.Sx
open Go Go.RowKit
section
variable {H:Type} {enc:TypeId × Value->H} {P:Program} {w:World} {base:Nat} {spare:Nat->Bool} {held:Bool}
theorem emb_none {W:World} {R:Rn} (hR:∀ n,R.blk n=none) (hv:∀ n L,R.vec n L=none) (hfz:∀ b xs,R.frz b=some xs->b<W.heap.size/\∀ (k:Nat) (x:Value),xs[k]? = some x->W.cell? ⟨b,k,none⟩=some x:=by intro _ _ h; cases h):Emb W.heap.size R (VH.mk 0 []).at W:=
 emb_args hR hv (fun n=>.inr (.inr (at_ge (by omega)))) (fun n s ok g hn=>by rw [at_ge (by omega)] at hn; cases hn) hfz
theorem none_not_live {R:Rn} (n b:Nat):R.ow n ((VH.mk 0 []).at n) ≠ some b:=fun hl=>by rw [at_ge (by omega)] at hl; cases hl
end
end Go.Sx
