/- Arguments of numbers, and slices of them. -/
import Derived.Test.YtaaaialjieojlaaSxR
namespace Go.Sx
open Go Go.RowKit
section
variable {H:Type} {enc:TypeId × Value->H} {P:Program} {w:World} {base:Nat} {spare:Nat->Bool} {held:Bool}
def isStrB (P:Program) (t:TypeId):Bool:=match P.underlying t with
 | some (.struct _)=>true
 | _=>false
theorem isStr_of {t:TypeId} (h:isStrB P t=true):∃ fs,P.underlying t=some (.struct fs):=by
 unfold isStrB at h
 split at h
 ·rename_i fs hf; exact ⟨fs,hf⟩
 ·cases h
theorem okWide_agg {r:Go.Reach} {b0:Nat} {t:TypeId} {fs:Array Field} {v:Value} (ht:P.underlying t=some (.struct fs)) (h:Value.okWide P w r b0 t v):∃ cs,v=.agg cs:=by
 unfold Value.okWide at h
 rw [ht] at h
 obtain ⟨cs,h1,_⟩:=h
 exact ⟨cs,h1⟩
theorem emb_none {W:World} {R:Rn} (hR:∀ n,R.blk n=none) (hv:∀ n L,R.vec n L=none) (hfz:∀ b xs,R.frz b=some xs->b<W.heap.size/\∀ (k:Nat) (x:Value),xs[k]? = some x->W.cell? ⟨b,k,none⟩=some x:=by intro _ _ h; cases h):Emb W.heap.size R (VH.mk 0 []).at W:=
 emb_args hR hv (fun n=>.inr (.inr (at_ge (by omega)))) (fun n s ok g hn=>by rw [at_ge (by omega)] at hn; cases hn) hfz
theorem none_not_live {R:Rn} (n b:Nat):¬ R.ow n ((VH.mk 0 []).at n) b:=fun hl=>by rw [at_ge (by omega)] at hl; cases hl
end
end Go.Sx
