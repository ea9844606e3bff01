/- Functions with loops that have contracts. -/
import Derived.Test.YtlboglkgbhjpeaaSxG
namespace Go.Sx
open Go
def bodyOf (P:Program) (f:FuncId):Code:=match P.funcs[f]? with
 | some fn=>(match fn.body with
  | some c=>c
  | none=>.skip)
 | none=>.skip
def loopB (id:Nat) (c:Code):Code:=match blocksOf id c with
 | [.loop b]=>b
 | _=>.skip
def ntOf (P:Program) (f:FuncId):Nat:=match P.funcs[f]? with
 | some fn=>fn.ntmps
 | none=>0
def tabB:List (Nat × LT)->Nat->Option LT
 | [],_=>none
 | (id,T)::r,i=>bif Nat.beq i id then some T else tabB r i
def FitP (lock:Nat) (h:VH) (t:Slots) (h0:VH) (t0:Slots):Prop:=(lock=0/\h.nx=h0.nx/\fitB h0.bs h)/\fitS t0 t
theorem lock0 (h h':VH):LockP 0 h h':=fun n hn=>absurd hn (Nat.not_lt_zero n)
section
variable {P:Program}
theorem tabB_some:∀ {l:List (Nat × LT)} {id:Nat} {T:LT},tabB l id=some T->(id,T) ∈ l
 | [],_,_,h=>by cases h
 | (i,T')::r,id,T,h=>by
  simp only [tabB] at h
  cases hb:Nat.beq id i with
  | true=>
   rw [hb] at h
   simp only [cond_true,Option.some.injEq] at h
   have:=Nat.eq_of_beq_eq_true hb
   subst this; subst h
   simp
  | false=>
   rw [hb] at h
   exact List.mem_cons_of_mem _ (tabB_some (by simpa using h))
def LoopsOk (P:Program) (f:FuncId) (l:List (Nat × LT)):Prop:=
 ∀ x ∈ l,blocksOf x.1 (bodyOf P f)=[.loop (loopB x.1 (bodyOf P f))]/\LSound P true (.block x.1 (.loop (loopB x.1 (bodyOf P f)))) (ntOf P f) x.2
theorem sem_fit {lock:Nat} {h h0:VH} {t t0:Slots} (hf:FitP lock h t h0 t0) {c:Code} {n:Nat} {e:VEx} {t':Slots} {h':VH} (hs:SemC P true c n t0 h0 e t' h'):SemC P true c n t h e t' h':=by
 obtain ⟨⟨_,h1,h2⟩,h3⟩:=hf
 cases h0 with
 | mk nx bs=>
  simp only at h1 h2
  subst h1
  exact sem_pre hs h2 h3
theorem loops_use {f:FuncId} {l:List (Nat × LT)} (hl:LoopsOk P f l) {fn:Func} (hf:P.funcs[f]? = some fn):∀ c,fn.body=some c->∀ id T,tabB l id=some T->∀ b ∈ blocksOf id c,LSound P true (.block id b) fn.ntmps T:=by
 intro c hc id T hT b hb
 have e:bodyOf P f=c:=by unfold bodyOf; rw [hf]; simp only [hc]
 have en:ntOf P f=fn.ntmps:=by unfold ntOf; rw [hf]
 obtain ⟨h1,h2⟩:=hl _ (tabB_some hT)
 rw [e] at h1 h2
 rw [en] at h2
 simp only at h1 h2
 rw [h1] at hb
 simp only [List.mem_singleton] at hb
 subst hb
 exact h2
end
end Go.Sx
