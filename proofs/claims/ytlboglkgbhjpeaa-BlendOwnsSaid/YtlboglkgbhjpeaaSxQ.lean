/- Arguments of numbers, and slices of them. -/
import Derived.Test.YtlboglkgbhjpeaaSxR
namespace Go.Sx
open Go Go.RowKit
section
variable {H:Type} {enc:TypeId × Value->H} {P:Program} {w:World} {base:Nat} {spare:Nat->Bool} {held:Bool}
def isStrB (P:Program) (t:TypeId):Bool:=match P.underlying t with
 | some (.struct _)=>true
 | _=>false
theorem isStr_of {t:TypeId} (h:isStrB P t=true):∃ fs,P.underlying t=some (.struct fs):=by
 unfold isStrB at h
 split at h
 ·rename_i fs hf; exact ⟨fs,hf⟩
 ·cases h
theorem okWide_agg {r:Go.Reach} {b0:Nat} {t:TypeId} {fs:Array Field} {v:Value} (ht:P.underlying t=some (.struct fs)) (h:Value.okWide P w r b0 t v):∃ cs,v=.agg cs:=by
 unfold Value.okWide at h
 rw [ht] at h
 obtain ⟨cs,h1,_⟩:=h
 exact ⟨cs,h1⟩
end
end Go.Sx
