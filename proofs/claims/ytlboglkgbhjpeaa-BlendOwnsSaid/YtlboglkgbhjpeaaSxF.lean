/- Tables of contracts, and small laws on trees. -/
import Derived.Test.YtlboglkgbhjpeaaSxE
namespace Go.Sx
open Go
abbrev Spec1:=Nat->List VV->VH->(VRes->VH->Prop)->Prop
def noSpec:SpecT:=fun _=>none
def noL:FuncId->Nat->Option LT:=fun _ _=>none
def tabS:List (FuncId × Spec1)->SpecT
 | [],_=>none
 | (g,T)::r,f=>bif Nat.beq f g then some T else tabS r f
def SpOk (P:Program) (f:FuncId) (T:Spec1):Prop:=
 ∀ lock args h K,T lock args h K->∃ r h',K r h'/\LockP lock h h'/\CallsV P f args h r h'
section
variable {P:Program}
theorem tab_ok:∀ (l:List (FuncId × Spec1)),(∀ x ∈ l,SpOk P x.1 x.2)->∀ f T,tabS l f=some T->SpOk P f T
 | [],_,_,_,h=>by cases h
 | (g,T')::r,hl,f,T,h=>by
  simp only [tabS] at h
  cases hb:Nat.beq f g with
  | true=>
   rw [hb] at h
   simp only [cond_true,Option.some.injEq] at h
   have:=Nat.eq_of_beq_eq_true hb
   subst this; subst h
   exact hl (f,T') (by simp)
  | false=>
   rw [hb] at h
   exact tab_ok r (fun x hx=>hl x (by simp [hx])) f T (by simpa using h)
theorem of_callN {sp:SpecT} {ls:FuncId->Nat->Option LT} {un fu:Nat} (hg:Good P (callN P sp ls un fu)) {f:FuncId} {args:List VV} {h:VH} {K:VRes->VH->Prop} (hK:callN P sp ls un fu 0 (.fn f) args h K):∃ r h',K r h'/\CallsV P f args h r h':=by
 obtain ⟨r,h',h1,_,h2⟩:=hg _ _ _ _ _ hK
 exact ⟨r,h',h1,h2⟩
end
end Go.Sx
