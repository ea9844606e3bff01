/- stream: Na1 Na2 Na3 Na4 Na5 Nb1 Nb2 Nb3 Nb4 Nr1 Oa0 Ob0 Oc1 Oc2 Oc3 Oc4 Od1 Od2 Od3 Ok1 Nc1 Nc2 Nc3 Nc4 Nc5 Nc6 Nd1 Nd2 Nd3 Nd4 Nd5 Nd6 Ne1 Ne2 Ne3 Nf1 Nf2, in one text. -/
import Derived.Test.YtnfkbbcbehnnkaaSxN
import Derived.Test.YtnfkbbcbehnnkaaSxX
import Derived.Test.YtnfkbbcbehnnkaaProg
import Derived.Test.YtnfkbbcbehnnkaaSxP
import Derived.Test.YtnfkbbcbehnnkaaRows
import Derived.Test.YtnfkbbcbehnnkaaSxO
import Derived.Test.YtnfkbbcbehnnkaaSxJ
import Derived.Test.YtnfkbbcbehnnkaaSxK
import Derived.Test.YtnfkbbcbehnnkaaSxU
import Derived.Test.YtnfkbbcbehnnkaaSxY
import Derived.Test.YtnfkbbcbehnnkaaSxTt
import Derived.Test.YtnfkbbcbehnnkaaSxRd
import Derived.Test.YtnfkbbcbehnnkaaSxI
namespace Go.Sx.Nos
open Go Go.Sx Go.Proofs
set_option maxRecDepth 1000000
theorem hmix:Try.prog.follows .mixedOrders=true:=by kernel_rfl
theorem none_good {un:Nat} (m:Nat):Good Try.prog (callN Try.prog noSpec noL un m):=
 callN_good hmix (fun _ _ h=>by cases h) (fun _ _ _ _ _ _ _ h=>by cases h) m
theorem good0:Good Try.prog (callN Try.prog noSpec noL 10 20):=none_good 20
theorem noL_ok {b:Code} {n:Nat}:∀ id T,(fun _:Nat=>(none:Option LT)) id=some T->∀ b' ∈ blocksOf id b,LSound Try.prog true (.block id b') n T:=fun _ _ h=>by cases h
theorem lo_one {f:FuncId} {id:Nat} {T:LT} (hb:blocksOf id (bodyOf Try.prog f)=[.loop (loopB id (bodyOf Try.prog f))]) (hs:LSound Try.prog true (.block id (.loop (loopB id (bodyOf Try.prog f)))) (ntOf Try.prog f) T):LoopsOk Try.prog f [(id,T)]:=by
 intro x hx
 simp only [List.mem_singleton] at hx
 subst hx
 exact ⟨hb,hs⟩
theorem cond_b {b:Bool} {p q:Prop} (h1:b=true->p) (h2:b=false->q):(bif b then p else q):=by
 cases b
 ·exact h2 rfl
 ·exact h1 rfl
def boQ (Q:Bool->Prop):VRes->VH->Prop:=fun r _=>match r with
 | .ret (.bool b)=>Q b
 | _=>False
theorem boQ_of {Q:Bool->Prop} {r:VRes} {h:VH} (hq:boQ Q r h):∃ b,r=.ret (.bool b)/\Q b:=by
 unfold boQ at hq
 split at hq
 ·exact ⟨_,rfl,hq⟩
 ·exact hq.elim
theorem by_bo {call:CallT} (hg:Good Try.prog call) {f:FuncId} {args:List VV} {b:Bool} (hK:call 0 (.fn f) args ⟨0,[]⟩ (boQ (· = b))) (ha:belL 0 args=true) (h:VH):CallsV Try.prog f args h (.ret (.bool b)) h:=by
 obtain ⟨r,h',h1,_,h2⟩:=hg _ _ _ _ _ hK
 obtain ⟨b',rfl,rfl⟩:=boQ_of h1
 exact calls_lift0 h2 ha rfl
abbrev I (n:Int):VV:=.int .i64 n
structure Ts where
 j:Int
 s:Int
 p:Int
 c:Int
 o:Int
structure Sd where
 s:Int
 lo:Int
 hi:Int
structure Pn where
 D:List Int
 T:List Ts
 S:List Sd
def tsL (t:Ts):List VV:=[I t.j,I t.s,I t.p,I t.c,I t.o]
def sdL (s:Sd):List VV:=[I s.s,I s.lo,I s.hi]
def t0:Ts:=⟨0,0,0,0,0⟩
def s0:Sd:=⟨0,0,0⟩
def dG (D:List Int):Nat->List VV:=fun j=>[I (D.getD j 0)]
def tG (T:List Ts):Nat->List VV:=fun j=>tsL (T.getD j t0)
def sG (S:List Sd):Nat->List VV:=fun j=>sdL (S.getD j s0)
def kU:List PK:=[.bool,.int .i64,.int .i64]
noncomputable def fl (i:Nat):Field:=match Try.prog.underlying 73 with
 | some (.struct fs) => fs.getD i ⟨ "", 0, 0, false, "", "", 0⟩
 | _ => ⟨ "", 0, 0, false, "", "", 0⟩
theorem u73:Try.prog.underlying 73=some (.struct #[fl 0,fl 1,fl 2]):=by kernel_rfl
theorem fl0 : (fl 0).type = 4 /\ (fl 0).offset = 0 /\ ((fl 0).name == "_") = false := ⟨by kernel_rfl, by kernel_rfl, by kernel_rfl⟩
theorem fl1 : (fl 1).type = 3 /\ (fl 1).offset = 1 /\ ((fl 1).name == "_") = false := ⟨by kernel_rfl, by kernel_rfl, by kernel_rfl⟩
theorem fl2 : (fl 2).type = 3 /\ (fl 2).offset = 2 /\ ((fl 2).name == "_") = false := ⟨by kernel_rfl, by kernel_rfl, by kernel_rfl⟩
theorem u4:Try.prog.underlying 4=some .bool:=by kernel_rfl
theorem u3:Try.prog.underlying 3=some (.int .i64):=by kernel_rfl
theorem check73 (b:Bool) (x:Bool) (y z:Int) (w:World):(Instr.checkKey b 10000 73 (.agg #[.bool x,.int .i64 y,.int .i64 z])).run Try.prog w=.ok () w:=by
 rw [show (10000:Nat)=9998+1+1 by rfl,Instr.checkKey]
 simp only [Sem.run_bind,run_und u73,Result.andThen_ok]
 obtain ⟨a1,a2,a3⟩:=fl0
 obtain ⟨b1,b2,b3⟩:=fl1
 obtain ⟨c1,c2,c3⟩:=fl2
 have a4 : (fl 0).name ≠ "_" := by simpa using a3
 have b4 : (fl 1).name ≠ "_" := by simpa using b3
 have c4 : (fl 2).name ≠ "_" := by simpa using c3
 have p4:(Instr.checkKey b 9999 4 (.bool x)).run Try.prog w=.ok () w:=by
  rw [show (9999:Nat)=9998+1 by rfl,Instr.checkKey]; simp [run_und u4]
 have p3:∀ v:Int,(Instr.checkKey b 9999 3 (.int .i64 v)).run Try.prog w=.ok () w:=fun v=>by
  rw [show (9999:Nat)=9998+1 by rfl,Instr.checkKey]; simp [run_und u3]
 simp [a1,a2,a4,b1,b2,b4,c1,c2,c4,part,isAgg,run_und u4,run_und u3,p4,p3]
theorem eq73 (x x':Bool) (y z y' z':Int):eqT Try.prog 10000 73 (.agg [.bool x,I y,I z]) (.agg [.bool x',I y',I z'])=some ((x == x') && (decide (y=y') && (decide (z=z') && true))):=by kernel_rfl
theorem keyU {k:List Int} (h:keyB kU k=true):∃ (x:Bool) (y z:Int),k=[bif x then 1 else 0,y,z]:=by
 match k,h with
 | [a,y,z],h=>
  simp only [kU,keyB,Bool.and_true,Bool.or_eq_true,decide_eq_true_eq] at h
  rcases h with rfl | rfl
  ·exact ⟨false,y,z,rfl⟩
  ·exact ⟨true,y,z,rfl⟩
 | [],h=>simp [kU,keyB] at h
 | [_],h=>simp [kU,keyB] at h
 | [_,_],h=>simp [kU,keyB] at h
 | _::_::_::_::_,h=>simp [kU,keyB] at h
theorem key73:KeyLaw Try.prog 73 kU:=by
 refine ⟨⟨_,u73⟩,fun w k hk=>?_⟩
 obtain ⟨x,y,z,rfl⟩:=keyU hk
 have kv:∀ (x:Bool) (y z:Int),keyV kU [bif x then 1 else 0,y,z]=[.bool x,.int .i64 y,.int .i64 z]:=fun x y z=>by cases x <;> rfl
 rw [kv]
 refine ⟨fun b=>check73 b x y z w,fun k' hk'=>?_⟩
 obtain ⟨x',y',z',rfl⟩:=keyU hk'
 rw [kv]
 have:=eqT_sound (P:=Try.prog) (R:=⟨fun _=>none,fun _ _=>⟨0,0,none⟩,fun _=>0,fun _ _=>none,fun _=>none⟩) 10000 73 (.agg [.bool x,I y,I z]) (.agg [.bool x',I y',I z']) (.agg #[.bool x,.int .i64 y,.int .i64 z]) (.agg #[.bool x',.int .i64 y',.int .i64 z']) _ w ⟨[_,_,_],⟨_,_,rfl,⟨_,_,rfl,⟨_,_,rfl,rfl,rfl⟩,rfl⟩,rfl⟩,rfl⟩ ⟨[_,_,_],⟨_,_,rfl,⟨_,_,rfl,⟨_,_,rfl,rfl,rfl⟩,rfl⟩,rfl⟩,rfl⟩ (eq73 x x' y z y' z')
 unfold Op.equal Op.maxDepth
 rw [this]
 congr 1
 rw [Bool.eq_iff_iff]
 cases x <;> cases x' <;> simp
end Go.Sx.Nos
namespace Go.Sx.Nos
open Go Go.Sx Go.Proofs
set_option maxRecDepth 1000000
def nuR (Q:VRes->List VB->Prop):VRes->VH->Prop:=fun r h=>Q r [h.at 0,h.at 1]
theorem num_ev (es:List (List Int × Int)) (d:Nat->Int) (b:Bool) (y z:Int) (Q:VRes->List VB->Prop):callN Try.prog noSpec noL 10 20 0 (.fn 61) [.ptr (.own 1 0),.agg [.bool b,I y,I z]] ⟨2,[(1,.fam [.mp 0] 4225 d 93),(0,.map kU (.int .i64) es)]⟩ (nuR Q) =
 (KeyLaw Try.prog 73 kU/\bif !hasE es [bif b then
 (1:Int)
 else (0:Int),y,z] then
 KeyLaw Try.prog 73 kU/\Q (VRes.ret (I (↑es.length:Int))) [VB.map kU (PK.int IntKind.i64) (setE es [bif b then
 (1:Int)
 else (0:Int),y,z] (↑es.length:Int)),VB.fam [VV.mp 0] 4225 d (93:TypeId)]
 else Q (VRes.ret (I (valOf es [bif b then
 (1:Int)
 else (0:Int),y,z]))) [VB.map kU (PK.int IntKind.i64) es,VB.fam [VV.mp 0] 4225 d (93:TypeId)]):=by kernel_rfl
end Go.Sx.Nos
namespace Go.Sx.Nos
open Go Go.Sx Go.Proofs
set_option maxRecDepth 1000000
abbrev Nd:=List Int
def ixN:List Nd->Nd->Nat
 | [],_=>0
 | y::r,x=>if y=x then 0 else ixN r x+1
def addN (N:List Nd) (x:Nd):List Nd:=if x ∈ N then N else N ++ [x]
def esF:Nat->List Nd->List (Nd × Int)
 | _,[]=>[]
 | i,x::r=>(x,(i:Int))::esF (i+1) r
def esOf (N:List Nd):List (Nd × Int):=esF 0 N
theorem esF_len:∀ (N:List Nd) (i:Nat),(esF i N).length=N.length
 | [],_=>rfl
 | x::r,i=>by simp [esF,esF_len r]
theorem esOf_len (N:List Nd):(esOf N).length=N.length:=esF_len N 0
theorem esF_has:∀ (N:List Nd) (i:Nat) (x:Nd),hasE (esF i N) x=decide (x ∈ N)
 | [],_,_=>rfl
 | y::r,i,x=>by
  simp only [esF,hasE,esF_has r]
  by_cases h:y=x
  ·subst h; simp
  ·rw [if_neg h]
   simp only [List.mem_cons,decide_eq_decide]
   exact ⟨fun hh=>.inr hh,fun hh=>hh.resolve_left fun e=>h e.symm⟩
theorem esOf_has (N:List Nd) (x:Nd):hasE (esOf N) x=decide (x ∈ N):=esF_has N 0 x
theorem esF_val:∀ (N:List Nd) (i:Nat) (x:Nd),x ∈ N->getE (esF i N) x=some (((i+ixN N x:Nat)):Int)
 | [],_,_,h=>by cases h
 | y::r,i,x,h=>by
  simp only [esF,getE,ixN]
  by_cases he:y=x
  ·subst he; simp
  ·rw [if_neg he,if_neg he,esF_val r (i+1) x ((List.mem_cons.1 h).resolve_left fun e=>he e.symm)]
   congr 2; omega
theorem esOf_val {N:List Nd} {x:Nd} (h:x ∈ N):valOf (esOf N) x=(ixN N x:Int):=by
 simp [valOf,esOf,esF_val N 0 x h]
theorem esF_set:∀ (N:List Nd) (i:Nat) (x:Nd),x ∉ N->setE (esF i N) x ((i+N.length:Nat):Int)=esF i (N ++ [x])
 | [],_,_,_=>rfl
 | y::r,i,x,h=>by
  have h1:¬ y=x:=fun e=>h (by simp [e])
  have h2:x ∉ r:=fun e=>h (by simp [e])
  simp only [esF,setE,if_neg h1,List.cons_append]
  have:=esF_set r (i+1) x h2
  rw [show i+(y::r).length=i+1+r.length by simp; omega,this]
theorem esOf_set {N:List Nd} {x:Nd} (h:x ∉ N):setE (esOf N) x (N.length:Int)=esOf (N ++ [x]):=by
 have:=esF_set N 0 x h
 rwa [Nat.zero_add] at this
theorem ixN_not:∀ {N:List Nd} {x:Nd},x ∉ N->ixN N x=N.length
 | [],_,_=>rfl
 | y::r,x,h=>by
  simp only [ixN,List.length_cons]
  rw [if_neg (fun e=>h (by simp [e])),ixN_not fun e=>h (by simp [e])]
theorem ixN_lt:∀ {N:List Nd} {x:Nd},x ∈ N->ixN N x<N.length
 | [],_,h=>by cases h
 | y::r,x,h=>by
  simp only [ixN,List.length_cons]
  by_cases he:y=x
  ·rw [if_pos he]; omega
  ·rw [if_neg he]
   have:=ixN_lt ((List.mem_cons.1 h).resolve_left fun e=>he e.symm)
   omega
theorem ixN_get:∀ {N:List Nd} {x:Nd},x ∈ N->N[ixN N x]? = some x
 | [],_,h=>by cases h
 | y::r,x,h=>by
  simp only [ixN]
  by_cases he:y=x
  ·rw [if_pos he,he]; rfl
  ·rw [if_neg he]
   simpa using ixN_get ((List.mem_cons.1 h).resolve_left fun e=>he e.symm)
theorem ixN_app:∀ {N M:List Nd} {x:Nd},x ∈ N->ixN (N ++ M) x=ixN N x
 | [],_,_,h=>by cases h
 | y::r,M,x,h=>by
  simp only [List.cons_append,ixN]
  by_cases he:y=x
  ·rw [if_pos he,if_pos he]
  ·rw [if_neg he,if_neg he,ixN_app ((List.mem_cons.1 h).resolve_left fun e=>he e.symm)]
theorem mem_addN (N:List Nd) (x:Nd):x ∈ addN N x:=by
 unfold addN
 split <;> simp_all
theorem sub_addN {N:List Nd} {x y:Nd} (h:y ∈ N):y ∈ addN N x:=by
 unfold addN
 split <;> simp_all
theorem ixN_add {N:List Nd} {x y:Nd} (h:y ∈ N):ixN (addN N x) y=ixN N y:=by
 unfold addN
 split
 ·rfl
 ·exact ixN_app h
theorem ixN_new (N:List Nd) (x:Nd):ixN (addN N x) x=ixN N x:=by
 unfold addN
 split
 ·rfl
 ·rename_i h
  have:∀ (N:List Nd),x ∉ N->ixN (N ++ [x]) x=N.length:=by
   intro N
   induction N with
   | nil=>intro _; simp [ixN]
   | cons y r ih=>
    intro h
    simp only [List.cons_append,ixN,List.length_cons]
    rw [if_neg (fun e=>h (by simp [e])),ih fun e=>h (by simp [e])]
  rw [this N h,ixN_not h]
abbrev maB (N:List Nd):VB:=.map kU (.int .i64) (esOf N)
abbrev faB (m:Nat) (d:Nat->Int):VB:=.fam [.mp m] 4225 d 93
def ndB (b:Bool) (y z:Int):Nd:=[bif b then 1 else 0,y,z]
theorem num_v (N:List Nd) (d:Nat->Int) (b:Bool) (y z:Int):CallsV Try.prog 61 [.ptr (.own 1 0),.agg [.bool b,I y,I z]] ⟨2,[(1,faB 0 d),(0,maB N)]⟩ (.ret (I (ixN N (ndB b y z):Nat))) ⟨2,[(0,maB (addN N (ndB b y z))),(1,faB 0 d)]⟩:=by
 obtain ⟨r,h',hQ,hc⟩:=of_callN good0 (f:=61) (args:=[.ptr (.own 1 0),.agg [.bool b,I y,I z]]) (h:=⟨2,[(1,faB 0 d),(0,maB N)]⟩)
  (K:=nuR fun r bs=>r=.ret (I (ixN N (ndB b y z):Nat))/\bs=[maB (addN N (ndB b y z)),faB 0 d])
  (by
   rw [num_ev,esOf_has,esOf_len]
   refine ⟨key73,?_⟩
   by_cases h:ndB b y z ∈ N
   ·rw [show [bif b then (1:Int) else (0:Int),y,z]=ndB b y z from rfl,decide_eq_true h,esOf_val h]
    refine ⟨rfl,?_⟩
    rw [show addN N (ndB b y z)=N from if_pos h]
   ·rw [show [bif b then (1:Int) else (0:Int),y,z]=ndB b y z from rfl,decide_eq_false h,esOf_set h]
    refine ⟨key73,by rw [ixN_not h],?_⟩
    rw [show addN N (ndB b y z)=N ++ [ndB b y z] from if_neg h])
 obtain ⟨rfl,hb⟩:=hQ
 injection hb with g0 g1
 injection g1 with g1 _
 exact calls_weak hc (show 2<=2 by decide) ⟨by rw [g0]; exact VB.fit_refl _,by rw [g1]; exact VB.fit_refl _,trivial⟩ rfl rfl
theorem tasted_at {f:FuncId} {args:List VV} {N N':List Nd} {d d':Nat->Int} {r:VRes} {m t:Nat} {h:VH} (hs:CallsV Try.prog f args ⟨2,[(1,faB 0 d),(0,maB N)]⟩ r ⟨2,[(0,maB N'),(1,faB 0 d')]⟩)
  (hm:h.at m=maB N) (ht:h.at t=faB m d) (ha:belL 2 args=true) (hr:r.bel 2=true):CallsV Try.prog f (renL (fun n=>bif Nat.beq n 0 then m else t) args) h (r.ren fun n=>bif Nat.beq n 0 then m else t) ⟨h.nx,(t,faB m d')::(m,maB N')::h.bs⟩:=by
 have hmt:m ≠ t:=fun e=>by rw [e,ht] at hm; cases hm
 have n1:(VH.mk h.nx ((m,maB N')::h.bs)).at=upd h.at m (maB N'):=VH.at_put h m _ (by rw [hm]; simp)
 have n2:(VH.mk h.nx ((t,faB m d')::(m,maB N')::h.bs)).at=upd (upd h.at m (maB N')) t (faB m d'):=by
  have:=VH.at_put (VH.mk h.nx ((m,maB N')::h.bs)) t (faB m d') (by rw [n1]; simp [upd,hmt.symm,ht])
  rw [n1] at this
  exact this
 have two:∀ n,n<2->n=0 ∨ n=1:=fun n hn=>by omega
 refine calls_ren (hm:=⟨2,[(1,faB 0 d),(0,maB N)]⟩) (hm':=⟨2,[(0,maB N'),(1,faB 0 d')]⟩) (fun n=>bif Nat.beq n 0 then m else t) (fun n k hn hk he=>?_) hs (fun n hn=>?_) (fun n hn=>?_) (fun q hq=>?_) (fun n hn=>?_) ha hr
 ·rcases two n hn with rfl | rfl <;> rcases two k hk with rfl | rfl <;> first | rfl | exact absurd he hmt | exact absurd he.symm hmt
 ·rcases two n hn with rfl | rfl
  ·exact ⟨trivial,hm⟩
  ·exact ⟨trivial,ht⟩
 ·rcases two n hn with rfl | rfl
  ·refine ⟨trivial,rfl,?_⟩
   rw [n2]
   simp only [upd,show (bif Nat.beq 0 0 then m else t)=m from rfl,if_neg hmt,if_true]
   rfl
  ·refine ⟨trivial,rfl,?_⟩
   rw [n2]
   simp only [upd,show (bif Nat.beq 1 0 then m else t)=t from rfl,if_true]
   rfl
 ·have h0:m ≠ q:=hq 0 (show 0<2 by decide)
  have h1:t ≠ q:=hq 1 (show 1<2 by decide)
  rw [n2]
  simp [upd,h0.symm,h1.symm]
 ·rcases two n hn with rfl | rfl <;> rfl
def numT:FuncId × Spec1:=(61,fun lock args h K=>match args with
 | [.ptr (.own t 0),.agg [.bool b,.int .i64 y,.int .i64 z]]=>(match h.at t with
  | .fam [.mp m] 4225 _ 93=>∃ N:List Nd,h.at m=maB N/\bif Nat.ble lock m then (match h with
   | ⟨nx,bs⟩=>K (.ret (I (ixN N (ndB b y z):Nat))) ⟨nx,(m,maB (addN N (ndB b y z)))::bs⟩) else False
  | _=>False)
 | _=>False)
theorem numT_ok:SpOk Try.prog numT.1 numT.2:=by
 intro lock args h K hK
 simp only [numT] at hK
 split at hK
 ·rename_i t b y z
  split at hK
  ·rename_i m d ht
   obtain ⟨N,hm,hK⟩:=hK
   obtain ⟨hl,hK⟩:=cond_f hK
   have hmt:m ≠ t:=fun e=>by rw [e,ht] at hm; cases hm
   have h2:=tasted_at (m:=m) (t:=t) (num_v N d b y z) hm ht rfl rfl
   have n1:(VH.mk h.nx ((m,maB (addN N (ndB b y z)))::h.bs)).at=upd h.at m (maB (addN N (ndB b y z))):=VH.at_put h m _ (by rw [hm]; simp)
   refine ⟨_,⟨h.nx,(m,maB (addN N (ndB b y z)))::h.bs⟩,by cases h; exact hK,fun n hn hf=>?_,?_⟩
   ·rw [n1]
    have:=Nat.le_of_ble_eq_true hl
    simp [upd,show n ≠ m by omega]
   ·have hat:(VH.mk h.nx ((t,faB m d)::(m,maB (addN N (ndB b y z)))::h.bs)).at=(VH.mk h.nx ((m,maB (addN N (ndB b y z)))::h.bs)).at:=by
     have:=VH.at_put (VH.mk h.nx ((m,maB (addN N (ndB b y z)))::h.bs)) t (faB m d) (by rw [n1]; simp [upd,hmt.symm,ht])
     refine this.trans ?_
     funext q
     rw [n1]
     unfold upd
     split
     ·rename_i hq; subst hq; rw [if_neg hmt.symm,ht]
     ·rfl
    intro B R w xs em hx
    refine (h2 B R w xs em hx).mono ?_
    rintro e w' ⟨R',a1,a2,a3⟩
    rw [hat] at a1 a2
    exact ⟨R',a1,a2,a3⟩
  ·exact hK.elim
 ·exact hK.elim
end Go.Sx.Nos
namespace Go.Sx.Nos
open Go Go.Sx Go.Proofs
set_option maxRecDepth 1000000
theorem lim_ev (N:List Nd) (d:Nat->Int) (b:Bool) (y z:Int) (b':Bool) (y' z':Int) (n:Int) (Q:VRes->List VB->Prop):callN Try.prog (tabS [numT]) noL 10 20 0 (.fn 69) [.ptr (.own 1 0),.agg [.bool b,I y,I z],.agg [.bool b',I y',I z'],I n] ⟨2,[(1,faB 0 d),(0,maB N)]⟩ (nuR Q) =
 (∃ N_1,(maskH [0,1,2,3] (VH.mk (4) [(3,VB.cells [VV.bool b',I y',I z'] 73),(2,VB.cells [VV.bool b,I y,I z] 73),(1,faB 0 d),(0,maB N)])).at 0=maB N_1/\keepP (VH.mk (4) [(3,VB.cells [VV.bool b',I y',I z'] 73),(2,VB.cells [VV.bool b,I y,I z] 73),(1,faB 0 d),(0,maB N)]) (VH.mk (VH.mk (4) [(3,VB.cells [VV.bool b',I y',I z'] 73),(2,VB.cells [VV.bool b,I y,I z] 73),(1,faB 0 d),(0,maB N)]).nx ((0,maB (addN N_1 (ndB b y z)))::maskL (VH.mk (4) [(3,VB.cells [VV.bool b',I y',I z'] 73),(2,VB.cells [VV.bool b,I y,I z] 73),(1,faB 0 d),(0,maB N)]) [0,1,2,3])) 0 [0,1,2,3]/\∃ N_2,(VH.mk (4) [(0,VB.map kU (PK.int IntKind.i64) (esOf (addN N_1 (ndB b y z)))),(3,VB.cells [VV.bool b',I y',I z'] 73),(2,VB.cells [VV.bool b,I y,I z] 73),(1,faB 0 d),(0,maB N)]).at 0=maB N_2/\bif decide ((0:Int)<=(↑(ixN N_1 (ndB b y z)):Int)/\(↑(ixN N_1 (ndB b y z)):Int)<(↑65:Int)) then
 bif decide ((0:Int)<=(↑(ixN N_2 (ndB b' y' z')):Int)/\(↑(ixN N_2 (ndB b' y' z')):Int)<(↑65:Int)) then
 bif decide ((↑(ixN N_1 (ndB b y z)):Int).toNat*(65)+(↑(ixN N_2 (ndB b' y' z')):Int).toNat*(1)<4225) then
 bif decide ((0:Int)<=(↑(ixN N_1 (ndB b y z)):Int)/\(↑(ixN N_1 (ndB b y z)):Int)<(↑65:Int)) then
 bif decide ((0:Int)<=(↑(ixN N_2 (ndB b' y' z')):Int)/\(↑(ixN N_2 (ndB b' y' z')):Int)<(↑65:Int)) then
 bif decide ((↑(ixN N_1 (ndB b y z)):Int).toNat*(65)+(↑(ixN N_2 (ndB b' y' z')):Int).toNat*(1)+(1)<=4225) then
 Q (VRes.ret (VV.tup [])) [VB.map kU (PK.int IntKind.i64) (esOf (addN N_2 (ndB b' y' z'))),VB.fam [VV.mp 0] 4225 (setF d ((↑(ixN N_1 (ndB b y z)):Int).toNat*(65)+(↑(ixN N_2 (ndB b' y' z')):Int).toNat*(1)) [min (d ((↑(ixN N_1 (ndB b y z)):Int).toNat*(65)+(↑(ixN N_2 (ndB b' y' z')):Int).toNat*(1))) n]) (93:TypeId)]
 else False
 else False
 else False
 else False
 else False
 else False):=by kernel_rfl
end Go.Sx.Nos
namespace Go.Sx.Nos
open Go Go.Sx Go.Proofs
set_option maxRecDepth 1000000
def cel (N:List Nd) (a b:Nd):Nat:=ixN N a*65+ixN (addN N a) b
def limD (N:List Nd) (d:Nat->Int) (a b:Nd) (n:Int):Nat->Int:=fun k=>if k=cel N a b then min (d (cel N a b)) n else d k
def limN (N:List Nd) (a b:Nd):List Nd:=addN (addN N a) b
theorem limD_eq (N:List Nd) (d:Nat->Int) (a b:Nd) (n:Int):setF d ((ixN N a:Int).toNat*65+(ixN (addN N a) b:Int).toNat*1) [min (d ((ixN N a:Int).toNat*65+(ixN (addN N a) b:Int).toNat*1)) n]=limD N d a b n:=by
 funext k
 rw [Int.toNat_natCast,Int.toNat_natCast,Nat.mul_one,setF_eq]
 unfold limD cel
 by_cases h:k=ixN N a*65+ixN (addN N a) b
 ·rw [if_pos h,if_pos (by simp; omega),h]
  simp
 ·rw [if_neg h,if_neg (by simp; omega)]
theorem addN_le (N:List Nd) (x:Nd):N.length<=(addN N x).length:=by
 unfold addN
 split <;> simp
theorem cel_lt {N:List Nd} {a b:Nd} (h:(limN N a b).length<=65):ixN N a<65/\ixN (addN N a) b<65:=by
 have h1:=ixN_lt (mem_addN N a)
 have h2:=ixN_lt (mem_addN (addN N a) b)
 have h3:=addN_le (addN N a) b
 rw [ixN_new] at h1 h2
 unfold limN at h
 omega
theorem lim_v (N:List Nd) (d:Nat->Int) (b:Bool) (y z:Int) (b':Bool) (y' z':Int) (n:Int) (hl:(limN N (ndB b y z) (ndB b' y' z')).length<=65) :
  CallsV Try.prog 69 [.ptr (.own 1 0),.agg [.bool b,I y,I z],.agg [.bool b',I y',I z'],I n] ⟨2,[(1,faB 0 d),(0,maB N)]⟩ (.ret (.tup [])) ⟨2,[(0,maB (limN N (ndB b y z) (ndB b' y' z'))),(1,faB 0 (limD N d (ndB b y z) (ndB b' y' z') n))]⟩:=by
 obtain ⟨h1,h2⟩:=cel_lt hl
 obtain ⟨r,h',hQ,hc⟩:=of_callN (tab_good hmix (l:=[numT]) (fun x hx=>by
   simp only [List.mem_singleton] at hx
   subst hx
   exact numT_ok) 20) (un:=10) (f:=69) (args:=[.ptr (.own 1 0),.agg [.bool b,I y,I z],.agg [.bool b',I y',I z'],I n]) (h:=⟨2,[(1,faB 0 d),(0,maB N)]⟩)
  (K:=nuR fun r bs=>r=.ret (.tup [])/\bs=[maB (limN N (ndB b y z) (ndB b' y' z')),faB 0 (limD N d (ndB b y z) (ndB b' y' z') n)])
  (by
   rw [lim_ev]
   have w1:(0:Int)<=(ixN N (ndB b y z):Int)/\(ixN N (ndB b y z):Int)<((65:Nat):Int):=⟨by omega,by omega⟩
   have w2:(0:Int)<=(ixN (addN N (ndB b y z)) (ndB b' y' z'):Int)/\(ixN (addN N (ndB b y z)) (ndB b' y' z'):Int)<((65:Nat):Int):=⟨by omega,by omega⟩
   refine ⟨N,rfl,⟨rfl,rfl,rfl,trivial⟩,addN N (ndB b y z),rfl,?_⟩
   refine cond_dk w1 (cond_dk w2 (cond_dk (by simp only [Int.toNat_natCast]; omega) (cond_dk w1 (cond_dk w2 (cond_dk (by simp only [Int.toNat_natCast]; omega) ⟨rfl,?_⟩)))))
   rw [limD_eq]
   rfl)
 obtain ⟨rfl,hb⟩:=hQ
 injection hb with g0 g1
 injection g1 with g1 _
 exact calls_weak hc (show 2<=2 by decide) ⟨by rw [g0]; exact VB.fit_refl _,by rw [g1]; exact VB.fit_refl _,trivial⟩ rfl rfl
def limT:FuncId × Spec1:=(69,fun lock args h K=>match args with
 | [.ptr (.own t 0),.agg [.bool b,.int .i64 y,.int .i64 z],.agg [.bool b',.int .i64 y',.int .i64 z'],.int .i64 n]=>(match h.at t with
  | .fam [.mp m] 4225 d 93=>∃ N:List Nd,(h.at m=maB N/\(limN N (ndB b y z) (ndB b' y' z')).length<=65)/\bif (Nat.ble lock m && Nat.ble lock t) then (match h with
   | ⟨nx,bs⟩=>K (.ret (.tup [])) ⟨nx,(t,faB m (limD N d (ndB b y z) (ndB b' y' z') n))::(m,maB (limN N (ndB b y z) (ndB b' y' z')))::bs⟩) else False
  | _=>False)
 | _=>False)
theorem limT_ok:SpOk Try.prog limT.1 limT.2:=by
 intro lock args h K hK
 simp only [limT] at hK
 split at hK
 ·rename_i t b y z b' y' z' n
  split at hK
  ·rename_i m d ht
   obtain ⟨N,⟨hm,hlen⟩,hK⟩:=hK
   obtain ⟨hl,hK⟩:=cond_f hK
   simp only [Bool.and_eq_true] at hl
   have hmt:m ≠ t:=fun e=>by rw [e,ht] at hm; cases hm
   have h2:=tasted_at (m:=m) (t:=t) (lim_v N d b y z b' y' z' n hlen) hm ht rfl rfl
   refine ⟨_,_,by cases h; exact hK,fun q hq hf=>?_,h2⟩
   have n1:(VH.mk h.nx ((m,maB (limN N (ndB b y z) (ndB b' y' z')))::h.bs)).at=upd h.at m (maB (limN N (ndB b y z) (ndB b' y' z'))):=VH.at_put h m _ (by rw [hm]; simp)
   have n2:=VH.at_put (VH.mk h.nx ((m,maB (limN N (ndB b y z) (ndB b' y' z')))::h.bs)) t (faB m (limD N d (ndB b y z) (ndB b' y' z') n)) (by rw [n1]; simp [upd,hmt.symm,ht])
   have n3:(VH.mk h.nx ((t,faB m (limD N d (ndB b y z) (ndB b' y' z') n))::(m,maB (limN N (ndB b y z) (ndB b' y' z')))::h.bs)).at q=h.at q:=by
    have:=congrFun n2 q
    refine this.trans ?_
    rw [n1]
    have a1:=Nat.le_of_ble_eq_true hl.1
    have a2:=Nat.le_of_ble_eq_true hl.2
    simp [upd,show q ≠ m by omega,show q ≠ t by omega]
   exact n3
  ·exact hK.elim
 ·exact hK.elim
end Go.Sx.Nos
namespace Go.Sx.Nos
open Go Go.Sx Go.Proofs
set_option maxRecDepth 1000000
def inB (n lo hi:Int):Bool:=decide (lo<=n) && decide (n<=hi)
def witT:FuncId × Spec1:=(53,fun _ args h K=>match args with
 | [.int .i64 n,.int .i64 lo,.int .i64 hi]=>K (.ret (.bool (inB n lo hi))) h
 | _=>False)
def arD (p:Pn):VB:=arrOf 1 p.D.length (dG p.D)
def arT (p:Pn):VB:=arrOf 5 p.T.length (tG p.T)
def arS (p:Pn):VB:=arrOf 3 p.S.length (sG p.S)
abbrev pnV (p:Pn) (c1 c2 c3:Nat):List VV:=[.slice (.el 0 [] 0 0) p.D.length c1,.slice (.el 1 [] 0 0) p.T.length c2,.slice (.el 2 [] 0 0) p.S.length c3]
abbrev pnB (p:Pn) (c1 c2 c3:Nat):VB:=.cells (pnV p c1 c2 c3) 26
def dsI:List Nat:=[4,0,1,7,8]
def VI (n:Nat) (cap k:Nat) (f:VV) (r i:Int):List VV:=[I r,.slice (.el k [] 0 0) n cap,f,I n,I i]
def nsI:List Nat:=[0,1,2,3]
def BI (p:Pn) (c1 c2 c3:Nat):List VB:=[arD p,arT p,arS p,pnB p c1 c2 c3]
theorem wit_ev (n lo hi:Int) (Q:VRes->VH->Prop):callN Try.prog noSpec noL 10 20 0 (.fn 53) [I n,I lo,I hi] ⟨0,[]⟩ Q =
 (bif decide (lo<=n) then
 Q (VRes.ret (VV.bool (decide (n<=hi)))) (VH.mk 0 [])
 else Q (VRes.ret (VV.bool false)) (VH.mk 0 [])):=by kernel_rfl
theorem i52_ev (p:Pn) (c1 c2 c3:Nat) (r i:Int) (X:VEx->List VV->List VB->Prop):codeE Try.prog (callN Try.prog (tabS [witT]) noL 10 20) (fun _=>none) true 10 19 0 (loopB 0 (bodyOf Try.prog 65)) (dsI.zip (VI p.D.length c1 0 (.func 52 [] []) r i)) ⟨4,nsI.zip (BI p c1 c2 c3)⟩ (obs 4 dsI nsI X) =
 (bif decide (i<(↑p.D.length:Int)) then
 bif decide ((0:Int)<=i/\i<(↑p.D.length:Int)) then
 (([]:List Int)=[]/\(0:Int)<=(0:Int)+i/\(0:Int)+i<(↑p.D.length:Int))/\bif !inB (p.D.getD ((0:Int)+i).toNat (0:Int)) (0:Int) (1000:Int) then
 X VEx.ret [I i,VV.slice (VA.el 0 [] (0:Int) 0) p.D.length c1,VV.func (52:FuncId) [] [],I (↑p.D.length:Int),I i] (BI p c1 c2 c3)
 else bif inK IntKind.i64 (i+(1:Int)) then
 X VEx.normal [I r,VV.slice (VA.el 0 [] (0:Int) 0) p.D.length c1,VV.func (52:FuncId) [] [],I (↑p.D.length:Int),I (i+(1:Int))] (BI p c1 c2 c3)
 else False
 else False
 else X (VEx.exit 0) [I r,VV.slice (VA.el 0 [] (0:Int) 0) p.D.length c1,VV.func (52:FuncId) [] [],I (↑p.D.length:Int),I i] (BI p c1 c2 c3)):=by kernel_rfl
theorem i54_ev (p:Pn) (c1 c2 c3:Nat) (r i:Int) (X:VEx->List VV->List VB->Prop):codeE Try.prog (callN Try.prog (tabS [witT]) noL 10 20) (fun _=>none) true 10 19 0 (loopB 0 (bodyOf Try.prog 66)) (dsI.zip (VI p.T.length c2 1 (.func 54 [] [.ptr (.own 3 0)]) r i)) ⟨4,nsI.zip (BI p c1 c2 c3)⟩ (obs 4 dsI nsI X) =
 (bif decide (i<(↑p.T.length:Int)) then
 bif decide ((0:Int)<=i/\i<(↑p.T.length:Int)) then
 (([]:List Int)=[]/\(0:Int)<=(0:Int)+i/\(0:Int)+i<(↑p.T.length:Int))/\bif inK IntKind.i64 ((↑p.D.length:Int) - (1:Int)) then
 bif inB (p.T.getD ((0:Int)+i).toNat t0).j (0:Int) ((↑p.D.length:Int) - (1:Int)) then
 bif inB (p.T.getD ((0:Int)+i).toNat t0).s (0:Int) (15:Int) then
 bif !inB (p.T.getD ((0:Int)+i).toNat t0).p (0:Int) (1000:Int) then
 X VEx.ret [I i,VV.slice (VA.el 1 [] (0:Int) 0) p.T.length c2,VV.func (54:FuncId) [] [VV.ptr (VA.own 3 0)],I (↑p.T.length:Int),I i] (BI p c1 c2 c3)
 else bif !inB (p.T.getD ((0:Int)+i).toNat t0).c (-100000:Int) (100000:Int) then
 X VEx.ret [I i,VV.slice (VA.el 1 [] (0:Int) 0) p.T.length c2,VV.func (54:FuncId) [] [VV.ptr (VA.own 3 0)],I (↑p.T.length:Int),I i] (BI p c1 c2 c3)
 else bif !inB (p.T.getD ((0:Int)+i).toNat t0).o (0:Int) (10000:Int) then
 X VEx.ret [I i,VV.slice (VA.el 1 [] (0:Int) 0) p.T.length c2,VV.func (54:FuncId) [] [VV.ptr (VA.own 3 0)],I (↑p.T.length:Int),I i] (BI p c1 c2 c3)
 else bif inK IntKind.i64 (i+(1:Int)) then
 X VEx.normal [I r,VV.slice (VA.el 1 [] (0:Int) 0) p.T.length c2,VV.func (54:FuncId) [] [VV.ptr (VA.own 3 0)],I (↑p.T.length:Int),I (i+(1:Int))] (BI p c1 c2 c3)
 else False
 else X VEx.ret [I i,VV.slice (VA.el 1 [] (0:Int) 0) p.T.length c2,VV.func (54:FuncId) [] [VV.ptr (VA.own 3 0)],I (↑p.T.length:Int),I i] (BI p c1 c2 c3)
 else X VEx.ret [I i,VV.slice (VA.el 1 [] (0:Int) 0) p.T.length c2,VV.func (54:FuncId) [] [VV.ptr (VA.own 3 0)],I (↑p.T.length:Int),I i] (BI p c1 c2 c3)
 else False
 else False
 else X (VEx.exit 0) [I r,VV.slice (VA.el 1 [] (0:Int) 0) p.T.length c2,VV.func (54:FuncId) [] [VV.ptr (VA.own 3 0)],I (↑p.T.length:Int),I i] (BI p c1 c2 c3)):=by kernel_rfl
theorem i55_ev (p:Pn) (c1 c2 c3:Nat) (r i:Int) (X:VEx->List VV->List VB->Prop):codeE Try.prog (callN Try.prog (tabS [witT]) noL 10 20) (fun _=>none) true 10 19 0 (loopB 0 (bodyOf Try.prog 67)) (dsI.zip (VI p.S.length c3 2 (.func 55 [] []) r i)) ⟨4,nsI.zip (BI p c1 c2 c3)⟩ (obs 4 dsI nsI X) =
 (bif decide (i<(↑p.S.length:Int)) then
 bif decide ((0:Int)<=i/\i<(↑p.S.length:Int)) then
 (([]:List Int)=[]/\(0:Int)<=(0:Int)+i/\(0:Int)+i<(↑p.S.length:Int))/\bif !inB (p.S.getD ((0:Int)+i).toNat s0).s (0:Int) (15:Int) then
 X VEx.ret [I i,VV.slice (VA.el 2 [] (0:Int) 0) p.S.length c3,VV.func (55:FuncId) [] [],I (↑p.S.length:Int),I i] (BI p c1 c2 c3)
 else bif decide ((p.S.getD ((0:Int)+i).toNat s0).lo<(-100000:Int)) then
 X VEx.ret [I i,VV.slice (VA.el 2 [] (0:Int) 0) p.S.length c3,VV.func (55:FuncId) [] [],I (↑p.S.length:Int),I i] (BI p c1 c2 c3)
 else bif decide ((p.S.getD ((0:Int)+i).toNat s0).lo > (p.S.getD ((0:Int)+i).toNat s0).hi) then
 X VEx.ret [I i,VV.slice (VA.el 2 [] (0:Int) 0) p.S.length c3,VV.func (55:FuncId) [] [],I (↑p.S.length:Int),I i] (BI p c1 c2 c3)
 else bif decide ((p.S.getD ((0:Int)+i).toNat s0).hi > (100000:Int)) then
 X VEx.ret [I i,VV.slice (VA.el 2 [] (0:Int) 0) p.S.length c3,VV.func (55:FuncId) [] [],I (↑p.S.length:Int),I i] (BI p c1 c2 c3)
 else bif inK IntKind.i64 (i+(1:Int)) then
 X VEx.normal [I r,VV.slice (VA.el 2 [] (0:Int) 0) p.S.length c3,VV.func (55:FuncId) [] [],I (↑p.S.length:Int),I (i+(1:Int))] (BI p c1 c2 c3)
 else False
 else False
 else X (VEx.exit 0) [I r,VV.slice (VA.el 2 [] (0:Int) 0) p.S.length c3,VV.func (55:FuncId) [] [],I (↑p.S.length:Int),I i] (BI p c1 c2 c3)):=by kernel_rfl
end Go.Sx.Nos
namespace Go.Sx.Nos
open Go Go.Sx Go.Proofs
set_option maxRecDepth 1000000
theorem witT_ok:SpOk Try.prog witT.1 witT.2:=by
 intro lock args h K hK
 simp only [witT] at hK
 split at hK
 ·rename_i n lo hi
  refine ⟨_,h,hK,lockP_refl _ _,by_bo good0 (f:=53) (args:=[I n,I lo,I hi]) (b:=inB n lo hi) ?_ rfl h⟩
  refine cast (wit_ev n lo hi _).symm ?_
  unfold inB
  refine cond_d (fun h=>?_) (fun h=>?_)
  ·rw [decide_eq_true h]; rfl
  ·rw [decide_eq_false h]; rfl
 ·exact hK.elim
theorem tWi_ok:∀ x ∈ [witT],SpOk Try.prog x.1 x.2:=fun x hx=>by
 simp only [List.mem_singleton] at hx
 subst hx
 exact witT_ok
def LAny (nx:Nat) (ds ns:List Nat) (V:Int->Int->List VV) (B:List VB) (n:Nat) (bad:Nat->Bool):LT:=fun lock t h K=>
 FitP lock h t ⟨nx,ns.zip B⟩ (ds.zip (V 0 0))/\((∀ i,i<n->bad i=false)->K .normal (ds.zip (V 0 n)) ⟨nx,ns.zip B⟩) /\
  ((∃ i,i<n/\bad i=true)->∀ r j:Int,0<=r->K .ret (ds.zip (V r j)) ⟨nx,ns.zip B⟩)
def OAny (V:Int->Int->List VV) (B:List VB) (n:Nat) (bad:Nat->Bool) (i:Nat) (x:VEx) (vs:List VV) (bs:List VB):Prop:=
 (x=.exit 0/\(∀ j,i<=j->j<n->bad j=false)/\vs=V 0 n/\bs=B) ∨
 (x=.ret/\(∃ j,i<=j/\j<n/\bad j=true)/\(∃ r j:Int,0<=r/\vs=V r j)/\bs=B)
theorem any_row {call:CallT} (hg:Good Try.prog call) {f:FuncId} {nx n:Nat} {ds ns:List Nat} {V:Int->Int->List VV} {B:List VB} {bad:Nat->Bool}
  (round:∀ (i:Nat) (X:VEx->List VV->List VB->Prop),i<=n->(if i<n then (if bad i=true then X .ret (V i i) B else X .normal (V 0 (i+1)) B) else X (.exit 0) (V 0 n) B) ->
   codeE Try.prog call (fun _=>none) true 10 (ntOf Try.prog f) 0 (loopB 0 (bodyOf Try.prog f)) (ds.zip (V 0 i)) ⟨nx,ns.zip B⟩ (obs nx ds ns X)):LSound Try.prog true (.block 0 (.loop (loopB 0 (bodyOf Try.prog f)))) (ntOf Try.prog f) (LAny nx ds ns V B n bad):=by
 refine loop_row hmix hg (un:=10) (ds:=ds) (ns:=ns) (nx:=nx) (fun i:Nat=>V 0 i) (fun _=>B) (fun i=>i<=n) (fun i=>n - i) (OAny V B n bad) noL_ok (fun i hi=>round i _ hi ?_) ?_
 ·by_cases h:i<n
  ·rw [if_pos h]
   by_cases hb:bad i=true
   ·rw [if_pos hb]
    exact .inr ⟨rfl,⟨i,Nat.le_refl i,h,hb⟩,⟨i,i,Int.natCast_nonneg _,rfl⟩,rfl⟩
   ·rw [if_neg hb]
    have hb:bad i=false:=by simpa using hb
    refine ⟨i+1,by omega,by dsimp only; omega,by show _=V 0 ((i+1:Nat):Int); rw [Int.natCast_add]; rfl,fitBs_refl _,fun e vs bs ho=>?_⟩
    rcases ho with ⟨a1,a2,a3⟩ | ⟨a1,⟨j,b1,b2⟩,a3⟩
    ·refine .inl ⟨a1,fun j h1 h2=>?_,a3⟩
     by_cases hj:j=i
     ·rw [hj]; exact hb
     ·exact a2 j (by omega) h2
    ·exact .inr ⟨a1,⟨j,by omega,b2⟩,a3⟩
  ·rw [if_neg h]
   exact .inl ⟨rfl,fun j h1 h2=>by omega,rfl,rfl⟩
 ·rintro lock t h K ⟨hf,h1,h2⟩
  refine ⟨0,hf,Nat.zero_le n,?_⟩
  rintro x vs bs (⟨rfl,he,rfl,rfl⟩ | ⟨rfl,⟨j,_,hj,hb⟩,⟨r,k,hr,rfl⟩,rfl⟩)
  ·exact h1 fun i hi=>he i (Nat.zero_le i) hi
  ·exact h2 ⟨j,hj,hb⟩ r k hr
def dOk (n:Int):Bool:=inB n 0 1000
def tOk (p:Pn) (t:Ts):Bool:=inB t.j 0 (p.D.length - 1) && (inB t.s 0 15 && (inB t.p 0 1000 && (inB t.c (-100000) 100000 && inB t.o 0 10000)))
def sOk (s:Sd):Bool:=inB s.s 0 15 && (decide (-100000<=s.lo) && (decide (s.lo<=s.hi) && decide (s.hi<=100000)))
section
variable {p:Pn} {c1 c2 c3:Nat}
theorem zero_toNat (i:Nat):((0:Int)+(i:Int)).toNat=i:=by omega
theorem L52_ok (hn:p.D.length<=100):LSound Try.prog true (.block 0 (.loop (loopB 0 (bodyOf Try.prog 65)))) (ntOf Try.prog 65) (LAny 4 dsI nsI (fun r i=>VI p.D.length c1 0 (.func 52 [] []) r i) (BI p c1 c2 c3) p.D.length fun i=>!dOk (p.D.getD i 0)):=by
 refine any_row (tab_good hmix tWi_ok (unroll:=10) 20) fun i X hi hX=>?_
 refine cast (i52_ev p c1 c2 c3 0 i X).symm ?_
 by_cases h:i<p.D.length
 ·rw [if_pos h] at hX
  refine cond_dk (by omega) (cond_dk ⟨by omega,by omega⟩ ⟨⟨rfl,by omega,by omega⟩,?_⟩)
  rw [zero_toNat]
  refine cond_b (fun hb=>?_) (fun hb=>cond_r (by omega) ?_)
  ·rw [if_pos (show (!dOk (p.D.getD i 0))=true from hb)] at hX; exact hX
  ·rw [if_neg (by unfold dOk; rw [hb]; decide)] at hX; exact hX
 ·rw [if_neg h] at hX
  have:i=p.D.length:=by omega
  subst this
  exact cond_d (fun h=>by omega) (fun _=>hX)
theorem L54_ok (hn:p.T.length<=100) (hd:p.D.length<=100):LSound Try.prog true (.block 0 (.loop (loopB 0 (bodyOf Try.prog 66)))) (ntOf Try.prog 66) (LAny 4 dsI nsI (fun r i=>VI p.T.length c2 1 (.func 54 [] [.ptr (.own 3 0)]) r i) (BI p c1 c2 c3) p.T.length fun i=>!tOk p (p.T.getD i t0)):=by
 refine any_row (tab_good hmix tWi_ok (unroll:=10) 20) fun i X hi hX=>?_
 refine cast (i54_ev p c1 c2 c3 0 i X).symm ?_
 by_cases h:i<p.T.length
 ·rw [if_pos h] at hX
  refine cond_dk (by omega) (cond_dk ⟨by omega,by omega⟩ ⟨⟨rfl,by omega,by omega⟩,cond_r (by omega) ?_⟩)
  rw [zero_toNat]
  unfold tOk at hX
  refine cond_b (fun b1=>cond_b (fun b2=>cond_b (fun b3=>?_) (fun b3=>cond_b (fun b4=>?_) (fun b4=>cond_b (fun b5=>?_) (fun b5=>cond_r (by omega) ?_)))) (fun b2=>?_)) (fun b1=>?_)
  ·rw [if_pos (by simp only [Bool.not_eq_true'] at b3; rw [b1,b2,b3]; rfl)] at hX; exact hX
  ·rw [if_pos (by simp only [Bool.not_eq_true',Bool.not_eq_false'] at b3 b4; rw [b1,b2,b3,b4]; rfl)] at hX; exact hX
  ·rw [if_pos (by simp only [Bool.not_eq_true',Bool.not_eq_false'] at b3 b4 b5; rw [b1,b2,b3,b4,b5]; rfl)] at hX; exact hX
  ·rw [if_neg (by simp only [Bool.not_eq_true',Bool.not_eq_false'] at b3 b4 b5; rw [b1,b2,b3,b4,b5]; decide)] at hX; exact hX
  ·rw [if_pos (by rw [b1,b2]; rfl)] at hX; exact hX
  ·rw [if_pos (by rw [b1]; rfl)] at hX; exact hX
 ·rw [if_neg h] at hX
  have:i=p.T.length:=by omega
  subst this
  exact cond_d (fun h=>by omega) (fun _=>hX)
theorem L55_ok (hn:p.S.length<=100):LSound Try.prog true (.block 0 (.loop (loopB 0 (bodyOf Try.prog 67)))) (ntOf Try.prog 67) (LAny 4 dsI nsI (fun r i=>VI p.S.length c3 2 (.func 55 [] []) r i) (BI p c1 c2 c3) p.S.length fun i=>!sOk (p.S.getD i s0)):=by
 refine any_row (tab_good hmix tWi_ok (unroll:=10) 20) fun i X hi hX=>?_
 refine cast (i55_ev p c1 c2 c3 0 i X).symm ?_
 by_cases h:i<p.S.length
 ·rw [if_pos h] at hX
  refine cond_dk (by omega) (cond_dk ⟨by omega,by omega⟩ ⟨⟨rfl,by omega,by omega⟩,?_⟩)
  rw [zero_toNat]
  unfold sOk at hX
  refine cond_b (fun b1=>?_) (fun b1=>cond_d (fun b2=>?_) (fun b2=>cond_d (fun b3=>?_) (fun b3=>cond_d (fun b4=>?_) (fun b4=>cond_r (by omega) ?_))))
  ·rw [if_pos (by simp only [Bool.not_eq_true'] at b1; rw [b1]; rfl)] at hX; exact hX
  ·rw [if_pos (by simp only [Bool.not_eq_false'] at b1; rw [b1,decide_eq_false (by omega)]; rfl)] at hX; exact hX
  ·rw [if_pos (by simp only [Bool.not_eq_false'] at b1; rw [b1,decide_eq_true (by omega),decide_eq_false (by omega)]; rfl)] at hX; exact hX
  ·rw [if_pos (by simp only [Bool.not_eq_false'] at b1; rw [b1,decide_eq_true (by omega),decide_eq_true (by omega),decide_eq_false (by omega)]; rfl)] at hX; exact hX
  ·rw [if_neg (by simp only [Bool.not_eq_false'] at b1; rw [b1,decide_eq_true (by omega),decide_eq_true (by omega),decide_eq_true (by omega)]; decide)] at hX; exact hX
 ·rw [if_neg h] at hX
  have:i=p.S.length:=by omega
  subst this
  exact cond_d (fun h=>by omega) (fun _=>hX)
end
end Go.Sx.Nos
namespace Go.Sx.Nos
open Go Go.Sx Go.Proofs
set_option maxRecDepth 1000000
def at3 (a b c:FuncId) (la lb lc:List (Nat × LT)):FuncId->Nat->Option LT:=fun x id=>bif Nat.beq x a then tabB la id else bif Nat.beq x b then tabB lb id else bif Nat.beq x c then tabB lc id else none
def gL (c:Prop) (T:LT):LT:=fun lock t h K=>c/\T lock t h K
def l52 (p:Pn) (c1 c2 c3:Nat):LT:=gL (p.D.length<=100) <| LAny 4 dsI nsI (fun r i=>VI p.D.length c1 0 (.func 52 [] []) r i) (BI p c1 c2 c3) p.D.length fun i=>!dOk (p.D.getD i 0)
def l54 (p:Pn) (c1 c2 c3:Nat):LT:=gL (p.T.length<=100/\p.D.length<=100) <| LAny 4 dsI nsI (fun r i=>VI p.T.length c2 1 (.func 54 [] [.ptr (.own 3 0)]) r i) (BI p c1 c2 c3) p.T.length fun i=>!tOk p (p.T.getD i t0)
def l55 (p:Pn) (c1 c2 c3:Nat):LT:=gL (p.S.length<=100) <| LAny 4 dsI nsI (fun r i=>VI p.S.length c3 2 (.func 55 [] []) r i) (BI p c1 c2 c3) p.S.length fun i=>!sOk (p.S.getD i s0)
def pnH (p:Pn):VH:=⟨3,[(0,arD p),(1,arT p),(2,arS p)]⟩
theorem f40_ev (p:Pn) (c1 c2 c3:Nat) (Q:VRes->Prop):callN Try.prog noSpec (at3 65 66 67 [(0,l52 p c1 c2 c3)] [(0,l54 p c1 c2 c3)] [(0,l55 p c1 c2 c3)]) 10 20 0 (.fn 40) [.agg (pnV p c1 c2 c3)] (pnH p) (fun r _=>Q r) =
 (bif decide ((↑p.D.length:Int) > (8:Int)) then
 Q (VRes.ret (VV.bool false))
 else bif decide ((↑p.T.length:Int) > (48:Int)) then
 Q (VRes.ret (VV.bool false))
 else bif decide ((↑p.S.length:Int) > (16:Int)) then
 Q (VRes.ret (VV.bool false))
 else p.D.length<=100/\FitP 0 (VH.mk 4 (nsI.zip (BI p c1 c2 c3))) (dsI.zip ((fun r i=>VI p.D.length c1 0 (VV.func (52:FuncId) [] []) r i) (0:Int) (0:Int))) (VH.mk 4 (nsI.zip (BI p c1 c2 c3))) (dsI.zip ((fun r i=>VI p.D.length c1 0 (VV.func (52:FuncId) [] []) r i) (0:Int) (0:Int)))/\((∀ (i:Nat),i<p.D.length->(fun i=>!dOk (p.D.getD i (0:Int))) i=false)->(p.T.length<=100/\p.D.length<=100)/\FitP 0 (VH.mk 4 (nsI.zip (BI p c1 c2 c3))) (dsI.zip ((fun r i=>VI p.T.length c2 1 (VV.func (54:FuncId) [] [VV.ptr (VA.own 3 0)]) r i) (0:Int) (0:Int))) (VH.mk 4 (nsI.zip (BI p c1 c2 c3))) (dsI.zip ((fun r i=>VI p.T.length c2 1 (VV.func (54:FuncId) [] [VV.ptr (VA.own 3 0)]) r i) (0:Int) (0:Int)))/\((∀ (i:Nat),i<p.T.length->(fun i=>!tOk p (p.T.getD i t0)) i=false)->p.S.length<=100/\FitP 0 (VH.mk 4 (nsI.zip (BI p c1 c2 c3))) (dsI.zip ((fun r i=>VI p.S.length c3 2 (VV.func (55:FuncId) [] []) r i) (0:Int) (0:Int))) (VH.mk 4 (nsI.zip (BI p c1 c2 c3))) (dsI.zip ((fun r i=>VI p.S.length c3 2 (VV.func (55:FuncId) [] []) r i) (0:Int) (0:Int)))/\((∀ (i:Nat),i<p.S.length->(fun i=>!sOk (p.S.getD i s0)) i=false)->Q (VRes.ret (VV.bool !decide ((-1:Int) ≥ (0:Int)))))/\((∃ i,i<p.S.length/\(fun i=>!sOk (p.S.getD i s0)) i=true)->∀ (r j:Int),(0:Int)<=r->Q (VRes.ret (VV.bool !decide (r ≥ (0:Int))))))/\((∃ i,i<p.T.length/\(fun i=>!tOk p (p.T.getD i t0)) i=true)->∀ (r j:Int),(0:Int)<=r->bif !decide (r ≥ (0:Int)) then
 p.S.length<=100/\FitP 0 (VH.mk 4 (nsI.zip (BI p c1 c2 c3))) (dsI.zip ((fun r i=>VI p.S.length c3 2 (VV.func (55:FuncId) [] []) r i) (0:Int) (0:Int))) (VH.mk 4 (nsI.zip (BI p c1 c2 c3))) (dsI.zip ((fun r i=>VI p.S.length c3 2 (VV.func (55:FuncId) [] []) r i) (0:Int) (0:Int)))/\((∀ (i:Nat),i<p.S.length->(fun i=>!sOk (p.S.getD i s0)) i=false)->Q (VRes.ret (VV.bool !decide ((-1:Int) ≥ (0:Int)))))/\((∃ i,i<p.S.length/\(fun i=>!sOk (p.S.getD i s0)) i=true)->∀ (r j:Int),(0:Int)<=r->Q (VRes.ret (VV.bool !decide (r ≥ (0:Int)))))
 else Q (VRes.ret (VV.bool false))))/\((∃ i,i<p.D.length/\(fun i=>!dOk (p.D.getD i (0:Int))) i=true)->∀ (r j:Int),(0:Int)<=r->bif !decide (r ≥ (0:Int)) then
 (p.T.length<=100/\p.D.length<=100)/\FitP 0 (VH.mk 4 (nsI.zip (BI p c1 c2 c3))) (dsI.zip ((fun r i=>VI p.T.length c2 1 (VV.func (54:FuncId) [] [VV.ptr (VA.own 3 0)]) r i) (0:Int) (0:Int))) (VH.mk 4 (nsI.zip (BI p c1 c2 c3))) (dsI.zip ((fun r i=>VI p.T.length c2 1 (VV.func (54:FuncId) [] [VV.ptr (VA.own 3 0)]) r i) (0:Int) (0:Int)))/\((∀ (i:Nat),i<p.T.length->(fun i=>!tOk p (p.T.getD i t0)) i=false)->p.S.length<=100/\FitP 0 (VH.mk 4 (nsI.zip (BI p c1 c2 c3))) (dsI.zip ((fun r i=>VI p.S.length c3 2 (VV.func (55:FuncId) [] []) r i) (0:Int) (0:Int))) (VH.mk 4 (nsI.zip (BI p c1 c2 c3))) (dsI.zip ((fun r i=>VI p.S.length c3 2 (VV.func (55:FuncId) [] []) r i) (0:Int) (0:Int)))/\((∀ (i:Nat),i<p.S.length->(fun i=>!sOk (p.S.getD i s0)) i=false)->Q (VRes.ret (VV.bool !decide ((-1:Int) ≥ (0:Int)))))/\((∃ i,i<p.S.length/\(fun i=>!sOk (p.S.getD i s0)) i=true)->∀ (r j:Int),(0:Int)<=r->Q (VRes.ret (VV.bool !decide (r ≥ (0:Int))))))/\((∃ i,i<p.T.length/\(fun i=>!tOk p (p.T.getD i t0)) i=true)->∀ (r j:Int),(0:Int)<=r->bif !decide (r ≥ (0:Int)) then
 p.S.length<=100/\FitP 0 (VH.mk 4 (nsI.zip (BI p c1 c2 c3))) (dsI.zip ((fun r i=>VI p.S.length c3 2 (VV.func (55:FuncId) [] []) r i) (0:Int) (0:Int))) (VH.mk 4 (nsI.zip (BI p c1 c2 c3))) (dsI.zip ((fun r i=>VI p.S.length c3 2 (VV.func (55:FuncId) [] []) r i) (0:Int) (0:Int)))/\((∀ (i:Nat),i<p.S.length->(fun i=>!sOk (p.S.getD i s0)) i=false)->Q (VRes.ret (VV.bool !decide ((-1:Int) ≥ (0:Int)))))/\((∃ i,i<p.S.length/\(fun i=>!sOk (p.S.getD i s0)) i=true)->∀ (r j:Int),(0:Int)<=r->Q (VRes.ret (VV.bool !decide (r ≥ (0:Int)))))
 else Q (VRes.ret (VV.bool false)))
 else Q (VRes.ret (VV.bool false)))):=by kernel_rfl
end Go.Sx.Nos
namespace Go.Sx.Nos
open Go Go.Sx Go.Proofs
set_option maxRecDepth 1000000
theorem callL3_good {a b c:FuncId} (h1:Nat.beq b a=false) (h2:Nat.beq c a=false) (h3:Nat.beq c b=false) {la lb lc:List (Nat × LT)} (ha:LoopsOk Try.prog a la) (hb:LoopsOk Try.prog b lb) (hc:LoopsOk Try.prog c lc) {sp:FuncId->Option Spec1} (hsp:∀ f S,sp f=some S->SpOk Try.prog f S) {un:Nat} (m:Nat):Good Try.prog (callN Try.prog sp (at3 a b c la lb lc) un m):=by
 refine callN_good hmix hsp (fun x fn cd hf hcd id T hT bl hbl=>?_) m
 unfold at3 at hT
 cases hx:Nat.beq x a with
 | true=>
  rw [hx] at hT
  have:=Nat.eq_of_beq_eq_true hx
  subst this
  exact loops_use ha hf cd hcd id T hT bl hbl
 | false=>
  rw [hx] at hT
  cases hx2:Nat.beq x b with
  | true=>
   rw [hx2] at hT
   have:=Nat.eq_of_beq_eq_true hx2
   subst this
   exact loops_use hb hf cd hcd id T hT bl hbl
  | false=>
   rw [hx2] at hT
   cases hx3:Nat.beq x c with
   | true=>
    rw [hx3] at hT
    have:=Nat.eq_of_beq_eq_true hx3
    subst this
    exact loops_use hc hf cd hcd id T hT bl hbl
   | false=>rw [hx3] at hT; cases hT
def panB (p:Pn):Bool:=decide (p.D.length<=8) && (decide (p.T.length<=48) && (decide (p.S.length<=16) && (p.D.all dOk && (p.T.all (tOk p) && p.S.all sOk))))
theorem all_of {α:Type} {l:List α} {q:α->Bool} {d:α} (h:∀ i,i<l.length->(!q (l.getD i d))=false):l.all q=true:=by
 rw [List.all_eq_true]
 intro x hx
 obtain ⟨i,hi,rfl⟩:=List.mem_iff_getElem.1 hx
 have:=h i hi
 rw [List.getD_eq_getElem?_getD,List.getElem?_eq_getElem hi] at this
 simpa using this
theorem all_no {α:Type} {l:List α} {q:α->Bool} {d:α} (h:∃ i,i<l.length/\(!q (l.getD i d))=true):l.all q=false:=by
 obtain ⟨i,hi,h⟩:=h
 rw [List.getD_eq_getElem?_getD,List.getElem?_eq_getElem hi] at h
 simp only [Option.getD_some,Bool.not_eq_true'] at h
 rw [List.all_eq_false]
 exact ⟨l[i],List.getElem_mem hi,by rw [h]; decide⟩
theorem gL_ok {c:Prop} {T:LT} {pl:Bool} {cd:Code} {n:Nat} (h:c->LSound Try.prog pl cd n T):LSound Try.prog pl cd n (gL c T):=fun lock t h' K hK=>h hK.1 lock t h' K hK.2
theorem pan_v (p:Pn) (c1 c2 c3:Nat):∃ h',CallsV Try.prog 40 [.agg (pnV p c1 c2 c3)] (pnH p) (.ret (.bool (panB p))) h':=by
 obtain ⟨r,h',hQ,hc⟩:=of_callN (callL3_good (a:=65) (b:=66) (c:=67) (by decide) (by decide) (by decide)
    (lo_one (by kernel_rfl) (gL_ok fun hn=>L52_ok (p:=p) (c1:=c1) (c2:=c2) (c3:=c3) hn)) (lo_one (by kernel_rfl) (gL_ok fun (hn:p.T.length<=100/\p.D.length<=100)=>L54_ok (p:=p) (c1:=c1) (c2:=c2) (c3:=c3) hn.1 hn.2)) (lo_one (by kernel_rfl) (gL_ok fun hn=>L55_ok (p:=p) (c1:=c1) (c2:=c2) (c3:=c3) hn))
    (sp:=noSpec) (fun _ _ h=>absurd h (by simp [noSpec])) (un:=10) 20) (f:=40) (args:=[.agg (pnV p c1 c2 c3)]) (h:=pnH p) (K:=fun r _=>r=.ret (.bool (panB p)))
  (by
   refine cast (f40_ev p c1 c2 c3 (fun r=>r=.ret (.bool (panB p)))).symm ?_
   unfold panB
   refine cond_d (fun h=>by rw [decide_eq_false (by omega)]; rfl) (fun s1=>?_)
   rw [decide_eq_true (by omega:p.D.length<=8)]
   refine cond_d (fun h=>by rw [decide_eq_false (by omega)]; rfl) (fun s2=>?_)
   rw [decide_eq_true (by omega:p.T.length<=48)]
   refine cond_d (fun h=>by rw [decide_eq_false (by omega)]; rfl) (fun s3=>?_)
   rw [decide_eq_true (by omega:p.S.length<=16)]
   simp only [Bool.true_and]
   refine ⟨by omega,fitP_self rfl,fun a1=>?_,fun a1 r j hr=>?_⟩
   ·rw [all_of a1]
    refine ⟨⟨by omega,by omega⟩,fitP_self rfl,fun a2=>?_,fun a2 r j hr=>?_⟩
    ·rw [all_of a2]
     refine ⟨by omega,fitP_self rfl,fun a3=>?_,fun a3 r j hr=>?_⟩
     ·rw [all_of a3]; rfl
     ·rw [all_no a3,decide_eq_true (show r ≥ 0 from hr)]; rfl
    ·rw [all_no a2,decide_eq_true (show r ≥ 0 from hr)]; rfl
   ·rw [all_no a1,decide_eq_true (show r ≥ 0 from hr)]; rfl)
 subst hQ
 exact ⟨h',hc⟩
def pnIs (h:VH) (p:Pn) (d t s:VV):Prop:=isList h d p.D.length 1 (dG p.D)/\isList h t p.T.length 5 (tG p.T)/\isList h s p.S.length 3 (sG p.S)
def pnA (p:Pn):List Ag:=[.l p.D.length 1 (dG p.D),.l p.T.length 5 (tG p.T),.l p.S.length 3 (sG p.S)]
theorem pnIs_ag {h:VH} {p:Pn} {d t s:VV} (hp:pnIs h p d t s):agIs h (pnA p) [d,t,s]:=
 ⟨d,_,rfl,hp.1,fun _ _=>rfl,t,_,rfl,hp.2.1,fun _ _=>rfl,s,_,rfl,hp.2.2,fun _ _=>rfl,rfl⟩
theorem pnA_args (p:Pn):∀ cs:List Nat,∃ c1 c2 c3,agArgs 0 (pnA p) cs=pnV p c1 c2 c3
 | []=>⟨0,0,0,rfl⟩
 | [c1]=>⟨c1,0,0,rfl⟩
 | [c1,c2]=>⟨c1,c2,0,rfl⟩
 | c1::c2::c3::_=>⟨c1,c2,c3,rfl⟩
theorem calls_pn {f:FuncId} {p:Pn} {pl:List VV} {d t s:VV} {h:VH} {r:VRes}
  (hs:∀ c1 c2 c3,∃ h',CallsV Try.prog f (.agg (pnV p c1 c2 c3)::pl) (pnH p) r h') (hr:r.pure=true) (hpl:pureL pl=true) (hp:pnIs h p d t s):CallsV Try.prog f (.agg [d,t,s]::pl) h r h:=by
 refine calls_viewA (hm:=agH (pnA p)) (fun n=>?_) hr ?_
 ·rcases agH_at (pnA p) n with ⟨s,ok,g,h1,_⟩ | h1 | h1
  ·exact .inl ⟨s,ok,g,h1⟩
  ·exact .inr (.inl h1)
  ·exact .inr (.inr h1)
 ·intro B R w xs em hx
  obtain ⟨y,ys,⟨us,hus,rfl⟩,hys,rfl⟩:=hx
  obtain ⟨cs,qs,h1,h2⟩:=ag_view em (pnA p) 0 [d,t,s] us (pnIs_ag hp) hus
  obtain ⟨c1,c2,c3,hcs⟩:=pnA_args p cs
  obtain ⟨hm',hc⟩:=hs c1 c2 c3
  refine ⟨fun n _=>qs n,fun n=>agSt 0 (pnA p) n,_,hm',hc,⟨fun n s ok g hn=>?_⟩,?_⟩
  ·rcases agH_at (pnA p) n with ⟨s',ok',g',h3,h4⟩ | h3 | h3
   ·rw [h3] at hn
    cases hn
    obtain ⟨g1,g2⟩:=h1 n _ _ _ h4
    refine ⟨g1,fun ix i hi=>?_⟩
    obtain ⟨k1,k2,k3,k4⟩:=g2 ix i hi
    exact ⟨k1,k2,k3,k4 _⟩
   ·rw [h3] at hn; cases hn
   ·rw [h3] at hn; cases hn
  ·refine ⟨_,ys,⟨us,?_,rfl⟩,pure_L _ _ hpl hys,rfl⟩
   rw [<- hcs]
   exact h2 _ fun m _=>rfl
theorem pure_ints:∀ ns:List Int,pureL (ns.map (VV.int .i64))=true
 | []=>rfl
 | n::ns=>by simp [pureL,VV.pure,pure_ints ns]
end Go.Sx.Nos
namespace Go.Sx.Nos
open Go Go.Sx Go.Proofs Go.ChangeShapes Go.WideShapes Go.RowKit
set_option maxRecDepth 1000000
theorem leaves26:leavesT Try.prog 5 26=some [22,23,24]:=by kernel_rfl
theorem leaves3:leavesT Try.prog 5 3=some [3]:=by kernel_rfl
theorem leaves32:leavesT Try.prog 5 32=some [3,3,3,3,3]:=by kernel_rfl
theorem leaves36:leavesT Try.prog 5 36=some [3,3,3]:=by kernel_rfl
theorem und3:Try.prog.underlying 3=some (.int .i64):=by kernel_rfl
theorem und22:Try.prog.underlying 22=some (.slice 3):=by kernel_rfl
theorem und23:Try.prog.underlying 23=some (.slice 32):=by kernel_rfl
theorem und24:Try.prog.underlying 24=some (.slice 36):=by kernel_rfl
theorem cells3:Try.prog.cellsOf 3=1:=by kernel_rfl
theorem cells32:Try.prog.cellsOf 32=5:=by kernel_rfl
theorem cells36:Try.prog.cellsOf 36=3:=by kernel_rfl
theorem str26:isStrB Try.prog 26=true:=by kernel_rfl
theorem all3 {us:List TypeId} (h:us.all (· == 3)=true):∀ u ∈ us,Try.prog.underlying u=some (.int .i64):=by
 intro u hu
 have:=List.all_eq_true.1 h u hu
 rw [beq_iff_eq] at this
 subst this
 exact und3
def i64B (n:Int):Prop:=-9223372036854775808<=n/\n<=9223372036854775807
structure TsB (t:Ts):Prop where
 j:i64B t.j
 s:i64B t.s
 p:i64B t.p
 c:i64B t.c
 o:i64B t.o
structure SdB (x:Sd):Prop where
 s:i64B x.s
 lo:i64B x.lo
 hi:i64B x.hi
structure PnB (p:Pn):Prop where
 d:∀ x ∈ p.D,i64B x
 t:∀ t ∈ p.T,TsB t
 s:∀ s ∈ p.S,SdB s
theorem list1 {l:List Int} (h:l.length=1):∃ a,l=[a]:=by
 match l,h with
 | [a],_=>exact ⟨a,rfl⟩
theorem list3 {l:List Int} (h:l.length=3):∃ a b c,l=[a,b,c]:=by
 match l,h with
 | [a,b,c],_=>exact ⟨a,b,c,rfl⟩
theorem list5 {l:List Int} (h:l.length=5):∃ a b c d e,l=[a,b,c,d,e]:=by
 match l,h with
 | [a,b,c,d,e],_=>exact ⟨a,b,c,d,e,rfl⟩
theorem vals3 {l:List Value} (h:l.length=3):∃ a b c,l=[a,b,c]:=by
 match l,h with
 | [a,b,c],_=>exact ⟨a,b,c,rfl⟩
def d1 (l:List Int):Int:=l.getD 0 0
def ts5 (l:List Int):Ts:=⟨l.getD 0 0,l.getD 1 0,l.getD 2 0,l.getD 3 0,l.getD 4 0⟩
def sd3 (l:List Int):Sd:=⟨l.getD 0 0,l.getD 1 0,l.getD 2 0⟩
section
variable {H:Type} {enc:TypeId × Value->H} {W:World} {base:Nat} {spare:Nat->Bool} {held:Bool} {r:Go.Reach} {b0:Nat} {v:Value} {d:DataW H} {ps:List MemPlace} {m:Nat} {y:DataW H × List MemPlace}
theorem rowIn_of {L s cap:Nat} {g g':Nat->List VV} {q:Addr} {L':Nat} (h:RowIn W v L s cap g q) (hL:L'=L) (hg:∀ j,j<L->g' j=g j):RowIn W v L' s cap g' q:=by
 subst hL
 refine ⟨h.val,h.le,fun j hj=>?_⟩
 have:=h.cell j hj
 rwa [<- hg j hj] at this
theorem read_D (hd:DataW.trod enc Try.prog W base spare held m 22 [v]=some y):∃ (D:List Int) (cap:Nat) (q:Addr),RowIn W v D.length 1 cap (dG D) q/\∀ x ∈ D,i64B x:=by
 obtain ⟨l,cap,q,h1,_,h3⟩:=rows_in und22 leaves3 cells3 (by decide) (all3 rfl) hd
 refine ⟨l.map d1,cap,q,rowIn_of h1 (by simp) fun j hj=>?_,fun x hx=>?_⟩
 ·have hm:l.getD j [] ∈ l:=by rw [List.getD_eq_getElem?_getD,List.getElem?_eq_getElem hj]; exact List.getElem_mem hj
  obtain ⟨a,ha⟩:=list1 (h3 _ hm).1
  have e:(l.map d1).getD j 0=d1 (l.getD j []):=by simp [List.getD_eq_getElem?_getD,hj]
  unfold dG
  rw [e,ha]
  rfl
 ·obtain ⟨z,hz,rfl⟩:=List.mem_map.1 hx
  obtain ⟨a,rfl⟩:=list1 (h3 z hz).1
  exact i64_range ((h3 _ hz).2 a (by simp))
theorem read_T (hd:DataW.trod enc Try.prog W base spare held m 23 [v]=some y):∃ (T:List Ts) (cap:Nat) (q:Addr),RowIn W v T.length 5 cap (tG T) q/\∀ t ∈ T,TsB t:=by
 obtain ⟨l,cap,q,h1,_,h3⟩:=rows_in und23 leaves32 cells32 (by decide) (all3 rfl) hd
 refine ⟨l.map ts5,cap,q,rowIn_of h1 (by simp) fun j hj=>?_,fun x hx=>?_⟩
 ·have hm:l.getD j [] ∈ l:=by rw [List.getD_eq_getElem?_getD,List.getElem?_eq_getElem hj]; exact List.getElem_mem hj
  obtain ⟨a,b,c,e,f,ha⟩:=list5 (h3 _ hm).1
  have e:(l.map ts5).getD j t0=ts5 (l.getD j []):=by simp [List.getD_eq_getElem?_getD,hj]
  unfold tG
  rw [e,ha]
  rfl
 ·obtain ⟨z,hz,rfl⟩:=List.mem_map.1 hx
  obtain ⟨a,b,c,e,f,rfl⟩:=list5 (h3 z hz).1
  have g:=(h3 _ hz).2
  exact ⟨i64_range (g a (by simp)),i64_range (g b (by simp)),i64_range (g c (by simp)),i64_range (g e (by simp)),i64_range (g f (by simp))⟩
theorem read_S (hd:DataW.trod enc Try.prog W base spare held m 24 [v]=some y):∃ (S:List Sd) (cap:Nat) (q:Addr),RowIn W v S.length 3 cap (sG S) q/\∀ s ∈ S,SdB s:=by
 obtain ⟨l,cap,q,h1,_,h3⟩:=rows_in und24 leaves36 cells36 (by decide) (all3 rfl) hd
 refine ⟨l.map sd3,cap,q,rowIn_of h1 (by simp) fun j hj=>?_,fun x hx=>?_⟩
 ·have hm:l.getD j [] ∈ l:=by rw [List.getD_eq_getElem?_getD,List.getElem?_eq_getElem hj]; exact List.getElem_mem hj
  obtain ⟨a,b,c,ha⟩:=list3 (h3 _ hm).1
  have e:(l.map sd3).getD j s0=sd3 (l.getD j []):=by simp [List.getD_eq_getElem?_getD,hj]
  unfold sG
  rw [e,ha]
  rfl
 ·obtain ⟨z,hz,rfl⟩:=List.mem_map.1 hx
  obtain ⟨a,b,c,rfl⟩:=list3 (h3 z hz).1
  have g:=(h3 _ hz).2
  exact ⟨i64_range (g a (by simp)),i64_range (g b (by simp)),i64_range (g c (by simp))⟩
def PnIn (W:World) (v:Value) (p:Pn):Prop:=∃ vD vT vS c1 q1 c2 q2 c3 q3,v=.agg #[vD,vT,vS]/\RowIn W vD p.D.length 1 c1 (dG p.D) q1/\RowIn W vT p.T.length 5 c2 (tG p.T) q2/\RowIn W vS p.S.length 3 c3 (sG p.S) q3
theorem read_pn (hval:Value.okWide Try.prog W r b0 26 v) (hd:DataW.Trod enc Try.prog W base spare held 26 v d ps):∃ p:Pn,PnIn W v p/\PnB p:=by
 obtain ⟨cs,rfl,hl,hg⟩:=fields_in str26 leaves26 hval hd
 obtain ⟨vD,vT,vS,rfl⟩:=vals3 hl
 obtain ⟨_,_,_,e0,h0⟩:=hg 0 22 rfl
 obtain ⟨_,_,_,e1,h1⟩:=hg 1 23 rfl
 obtain ⟨_,_,_,e2,h2⟩:=hg 2 24 rfl
 cases e0; cases e1; cases e2
 obtain ⟨D,c1,q1,r1,b1⟩:=read_D h0
 obtain ⟨T,c2,q2,r2,b2⟩:=read_T h1
 obtain ⟨S,c3,q3,r3,b3⟩:=read_S h2
 exact ⟨⟨D,T,S⟩,⟨_,_,_,_,_,_,_,_,_,rfl,r1,r2,r3⟩,b1,b2,b3⟩
end
end Go.Sx.Nos
namespace Go.Sx
open Go
section
variable {P:Program}
end
end Go.Sx
namespace Go.Sx.Nod
open Go Go.Sx Go.Proofs
set_option maxRecDepth 1000000
theorem hmix:Try.prog.follows .mixedOrders=true:=by kernel_rfl
theorem none_good {un:Nat} (m:Nat):Good Try.prog (callN Try.prog noSpec noL un m):=
 callN_good hmix (fun _ _ h=>by cases h) (fun _ _ _ _ _ _ _ h=>by cases h) m
theorem good0:Good Try.prog (callN Try.prog noSpec noL 10 20):=none_good 20
theorem noL_ok {b:Code} {n:Nat}:∀ id T,(fun _:Nat=>(none:Option LT)) id=some T->∀ b' ∈ blocksOf id b,LSound Try.prog true (.block id b') n T:=fun _ _ h=>by cases h
theorem noSp:∀ f T,noSpec f=some T->SpOk Try.prog f T:=fun _ _ h=>by cases h
theorem noL_good {sp:SpecT} (h:∀ f T,sp f=some T->SpOk Try.prog f T):Good Try.prog (callN Try.prog sp noL 10 20):=callN_good hmix h (fun _ _ _ _ _ _ _ h=>by cases h) 20
@[reducible] def I (n:Int):VV:=.int .i64 n
def dG (D:List Int) (j:Nat):List VV:=[I (D.getD j 0)]
def inD (D:List Int):VV:=.tl D.length 1 (dG D)
theorem tab1 {T:FuncId × Spec1} (h:SpOk Try.prog T.1 T.2):∀ f U,tabS [T] f=some U->SpOk Try.prog f U:=tab_ok _ (fun x hx=>by
 simp only [List.mem_singleton] at hx
 subst hx
 exact h)
theorem lsp_one {f:FuncId} {o i n:Nat} {b:Code} {T0:LT} (hb0:blocksOf i (loopB o (bodyOf Try.prog f))=[b]) (h0:LSound Try.prog true (.block i b) n T0):∀ id T,tabB [(i,T0)] id=some T->∀ b' ∈ blocksOf id (loopB o (bodyOf Try.prog f)),LSound Try.prog true (.block id b') n T:=by
 intro id T hT b' hb
 simp only [tabB] at hT
 cases hid:Nat.beq id i with
 | false=>rw [hid] at hT; cases hT
 | true=>
  rw [hid] at hT
  have:=Nat.eq_of_beq_eq_true hid
  subst this
  cases hT
  rw [hb0] at hb
  simp only [List.mem_singleton] at hb
  subst hb
  exact h0
theorem calls_args {P:Program} {f:FuncId} {args args2:List VV} {h h':VH} {r:VRes} (hs:CallsV P f args2 h r h') (hv:∀ (R:Rn) (xs:List Value),VRelL R args xs->VRelL R args2 xs):CallsV P f args h r h':=fun B R w xs em hx=>hs B R w xs em (hv R xs hx)
theorem catG_lt {L j:Nat} {f g:Nat->List VV} (h:j<L):catG L f g j=f j:=by
 unfold catG
 rw [show Nat.blt j L=true from Nat.blt_eq.mpr h]
 rfl
theorem catG_ge {L j:Nat} {f g:Nat->List VV} (h:L<=j):catG L f g j=g (j - L):=by
 unfold catG
 rw [show Nat.blt j L=false from Bool.eq_false_iff.2 (fun hh=>by have:=Nat.blt_eq.mp hh; omega)]
 rfl
theorem room8 {n:Nat} (h:n<=100):roomB n 8=true:=by
 unfold roomB
 rw [Nat.ble_eq_true_of_le (by omega),Nat.ble_eq_true_of_le (by omega)]
 rfl
theorem room24 {n:Nat} (h:n<=2000000):roomB n 24=true:=by
 unfold roomB
 rw [Nat.ble_eq_true_of_le (by omega),Nat.ble_eq_true_of_le (by omega)]
 rfl
theorem getD_snoc_lt {α:Type} {L:List α} {a d:α} {j:Nat} (h:j<L.length):(L ++ [a]).getD j d=L.getD j d:=by
 rw [List.getD_eq_getElem?_getD,List.getElem?_append_left h,<- List.getD_eq_getElem?_getD]
theorem getD_snoc_eq {α:Type} {L:List α} {a d:α}:(L ++ [a]).getD L.length d=a:=by
 rw [List.getD_eq_getElem?_getD,List.getElem?_append_right (Nat.le_refl _),Nat.sub_self]
 rfl
end Go.Sx.Nod
namespace Go.Sx
open Go
def matD (K C:Nat) (g:Nat->Nat->Int):VV:=.tl K 1 (fun i=>[.tl C 1 (fun k=>[.int .i64 (g i k)])])
theorem emb_frzM {B:Nat} {R:Rn} {η:Nat->VB} {w:World} (e:Emb B R η w) {n K C:Nat} {g:Nat->Nat->Int} {t te:TypeId} (hn:η n=.mat K K C g t te) :
  ∃ R',R.le R'/\Emb B R' (upd η n .gone) w/\Nxt η R w (upd η n .gone) R' w/\∀ x,VRel R (.slice (.rw n 0 0) K K) x->VRel R' (matD K C g) x:=by
 obtain ⟨_,⟨b0,xs0,m1,m2,m3,m4,m5,_⟩,m7,m8,m9⟩:=e.mat n K K C g t te hn
 have hv:∀ j,j<=K->∃ b xs v ty,R.vec n j=some v/\v.ownBlock=some b/\w.heap[b]? = some (.cells (List.toArray xs) ty (0,0)):=fun j hj=>by
  cases j with
  | zero=>exact ⟨b0,xs0,_,t,m1,rfl,m3⟩
  | succ i=>
   obtain ⟨b,ys,g1,g2,g3,_⟩:=m7 i hj
   exact ⟨b,ys,_,te,g1,rfl,g3⟩
 have key:∀ k,k<=K+1->∃ R',R.le R'/\R'.blk=R.blk/\R'.vec=R.vec/\Emb B R' (upd η n .gone) w/\(∀ j v b xs ty,j<k->R.vec n j=some v->v.ownBlock=some b->w.heap[b]? = some (.cells (List.toArray xs) ty (0,0))->R'.frz b=some xs)/\∀ b xs,R'.frz b=some xs->R.frz b=some xs ∨ ∃ j v,j<k/\R.vec n j=some v/\v.ownBlock=some b:=by
  intro k
  induction k with
  | zero=>exact fun _=>⟨R,⟨fun _ _ h=>h,rfl,rfl,fun _ _ _ h=>h,fun _ _ h=>h⟩,rfl,rfl,emb_gone e n,fun j _ _ _ _ h=>absurd h (Nat.not_lt_zero _),fun _ _ h=>.inl h⟩
  | succ k ih=>
   intro hk
   obtain ⟨R1,h1,h2,h3,h4,h5,h6⟩:=ih (by omega)
   obtain ⟨b,xs,v,ty,g1,g2,g3⟩:=hv k (by omega)
   have hown:R.ow n (η n) b:=by rw [hn]; exact ⟨k,v,by omega,g1,g2⟩
   have hnf:∀ ys,R1.frz b ≠ some ys:=fun ys hy=>by
    rcases h6 b ys hy with q | ⟨j,u,q1,q2,q3⟩
    ·exact (e.frz b ys q).2.1 n hown
    ·have:=m8 j k u v b (by omega) (by omega) q2 g1 q3 g2
     omega
   have hle:R1.le (R1.addF b xs):=le_addF hnf
   have hno:∀ m,¬ R1.ow m (upd η n .gone m) b:=fun m hm=>by
    by_cases hmn:m=n
    ·subst hmn
     simp only [upd,if_true] at hm
     exact hm.elim
    ·simp only [upd,if_neg hmn] at hm
     have hm:R.ow m (η m) b:=by
      have:R1.ow m (η m)=R.ow m (η m):=by cases η m <;> simp only [Rn.ow,h2,h3]
      rw [<- this]
      exact hm
     exact hmn (e.inj m n b hm hown)
   have hc:∀ q x,xs[q]? = some x->w.cell? ⟨b,q,none⟩=some x:=fun q x hq=>by simp [World.cell?,g3,hq]
   refine ⟨R1.addF b xs,⟨fun m c hm=>hle.blk m c (h1.blk m c hm),h1.arr,h1.str,fun m L u hm=>hle.vec m L u (h1.vec m L u hm),fun c ys hc=>hle.frz c ys (h1.frz c ys hc)⟩,h2,h3,emb_addF h4 (e.lt hown) hno hc hle,fun j u c ys ty' hj q1 q2 q3=>?_,fun c ys hcy=>?_⟩
   ·by_cases hjk:j=k
    ·subst hjk
     rw [g1] at q1
     cases q1
     rw [g2] at q2
     cases q2
     rw [g3] at q3
     have hxy:xs=ys:=by
      simp only [Option.some.injEq,Obj.cells.injEq] at q3
      exact List.toArray_inj q3.1
     rw [<- hxy]
     simp [Rn.addF]
    ·exact hle.frz c ys (h5 j u c ys ty' (by omega) q1 q2 q3)
   ·simp only [Rn.addF] at hcy
    split at hcy
    ·rename_i hcb
     subst hcb
     exact .inr ⟨k,v,Nat.lt_succ_self _,g1,g2⟩
    ·rcases h6 c ys hcy with q | ⟨j,u,q1,q2,q3⟩
     ·exact .inl q
     ·exact .inr ⟨j,u,by omega,q2,q3⟩
 obtain ⟨R',h1,h2,h3,h4,h5,h6⟩:=key (K+1) (Nat.le_refl _)
 refine ⟨R',h1,h4,⟨fun m hm=>?_,fun m _=>by rw [h2],h1.arr,h1.str,h1.vec,fun m L v q1 q2=>(by rw [h3,q1] at q2; cases q2),fun m L hm=>?_,fun m b hb=>.inl ?_,Nat.le_refl _,fun _ _ _=>rfl,rfl,rfl,rfl,h1.frz,fun b xs hb=>?_⟩,fun x hx=>?_⟩
 ·by_cases hmn:m=n
  ·subst hmn; simp [upd]
  ·simpa [upd,hmn] using hm
 ·by_cases hmn:m=n
  ·subst hmn; simp [upd] at hm
  ·simp only [upd,if_neg hmn] at hm
   exact .inr ⟨L,hm,Nat.le_refl _⟩
 ·by_cases hmn:m=n
  ·subst hmn
   simp only [upd,if_true] at hb
   exact hb.elim
  ·simp only [upd,if_neg hmn] at hb
   refine ⟨m,?_⟩
   have:R'.ow m (η m)=R.ow m (η m):=by cases η m <;> simp only [Rn.ow,h2,h3]
   rw [<- this]
   exact hb
 ·rcases h6 b xs hb with q | ⟨j,v,q1,q2,q3⟩
  ·exact .inl q
  ·exact .inr (.inl ⟨n,by rw [hn]; exact ⟨j,v,by omega,q2,q3⟩⟩)
 ·obtain ⟨_,p,hp,rfl⟩:=hx
  refine ⟨p,K,rfl,⟨Nat.le_refl _,fun hpn=>?_⟩,fun i hi=>?_⟩
  ·rcases hp with hp | ⟨q,hq,_⟩
   ·exact hp
   ·rw [hpn] at hq; cases hq
  ·obtain ⟨q,rfl,v,b,q1,q2,rfl⟩:=hp.resolve_left (by omega)
   rw [m1] at q1
   cases q1
   cases q2
   obtain ⟨u,r1,r2⟩:=m5 i hi
   obtain ⟨c,ys,s1,s2,s3,s4,s5⟩:=m7 i hi
   rw [s1] at r1
   cases r1
   refine ⟨b0,0,xs0,rfl,h5 0 _ b0 xs0 t (by omega) m1 rfl m3,by omega,rfl,?_⟩
   have hdrop:(xs0.drop (0+i*1)).take 1=[.slice (some ⟨c,0,none⟩) C C]:=by
    apply List.ext_getElem?
    intro q
    rw [List.getElem?_take]
    by_cases hq:q<1
    ·obtain rfl:q=0:=by omega
     rw [if_pos hq,List.getElem?_drop,show 0+i*1+0=i by omega,r2]
     rfl
    ·rw [if_neg hq,List.getElem?_eq_none (by simp only [List.length_singleton]; omega)]
   rw [hdrop]
   refine ⟨_,[],⟨some ⟨c,0,none⟩,C,rfl,⟨Nat.le_refl _,fun h=>by cases h⟩,fun k hk=>⟨c,0,ys,rfl,h5 (i+1) _ c ys te (by omega) s1 rfl s3,by omega,rfl,?_⟩⟩,rfl,rfl⟩
   have hd2:(ys.drop (0+k*1)).take 1=[.int .i64 (g i k)]:=by
    apply List.ext_getElem?
    intro q
    rw [List.getElem?_take]
    by_cases hq:q<1
    ·obtain rfl:q=0:=by omega
     rw [if_pos hq,List.getElem?_drop,show 0+k*1+0=k by omega,s5 k hk]
     rfl
    ·rw [if_neg hq,List.getElem?_eq_none (by simp only [List.length_singleton]; omega)]
   rw [hd2]
   exact ⟨_,[],rfl,rfl,rfl⟩
section
variable {P:Program}
theorem calls_tellM {f:FuncId} {args:List VV} {h h':VH} {v v2:VV} {m K C:Nat} {g:Nat->Nat->Int} {t te:TypeId} (hs:CallsV P f args h (.ret v) h') (hm:h'.at m=.mat K K C g t te)
  (hv:∀ (R R':Rn) (x:Value),R.le R'->(∀ y,VRel R (.slice (.rw m 0 0) K K) y->VRel R' (matD K C g) y)->VRel R v x->VRel R' v2 x):CallsV P f args h (.ret v2) ⟨h'.nx,(m,.gone)::h'.bs⟩:=by
 intro B R w xs em hx
 refine (hs B R w xs em hx).mono ?_
 rintro e w' ⟨R1,n1,e1,x,hx1,he⟩
 obtain ⟨R2,hle,e2,n2,hy⟩:=emb_frzM e1 hm
 have hat:(VH.mk h'.nx ((m,.gone)::h'.bs)).at=upd h'.at m .gone:=VH.at_put h' m .gone (by rw [hm]; simp)
 exact ⟨R2,by rw [hat]; exact n1.trans n2,by rw [hat]; exact e2,x,hv R1 R2 x hle hy hx1,he⟩
end
end Go.Sx
namespace Go.Sx.Nod
open Go Go.Sx Go.Proofs
set_option maxRecDepth 1000000
structure Nod where
 k:Int
 n:Int
 a:Int
deriving DecidableEq
def n0:Nod:=⟨0,0,0⟩
def noL3 (x:Nod):List VV:=[I x.k,I x.n,I x.a]
def noG (l:List Nod) (j:Nat):List VV:=noL3 (l.getD j n0)
def noD (l:List Nod):VV:=.tl l.length 3 (noG l)
def dsIx:List Nat:=[5,4,3,0]
def VIx (l:List Nod) (i:Nat):List VV:=[I i,I 0,.ptr (.own 0 0),noD l]
def BIx (x:Nod):List VB:=[.cells (noL3 x) 78]
theorem ix_ev (l:List Nod) (x:Nod) (i:Nat) (X:VEx->List VV->List VB->Prop):codeE Try.prog (callN Try.prog noSpec noL 10 20) (fun _=>none) true 10 (ntOf Try.prog 51) 0 (loopB 0 (bodyOf Try.prog 51)) (dsIx.zip (VIx l i)) ⟨1,[0].zip (BIx x)⟩ (obs 1 dsIx [0] X) =
 (bif decide ((↑i:Int)<(↑l.length:Int)) then
 bif decide ((0:Int)<=(↑i:Int)/\(↑i:Int)<(↑l.length:Int)) then
 bif decide ((l.getD (↑i:Int).toNat n0).k=x.k) && (decide ((l.getD (↑i:Int).toNat n0).n=x.n) && (decide ((l.getD (↑i:Int).toNat n0).a=x.a) && true)) then
 X VEx.ret [I (↑i:Int),I (↑i:Int),VV.ptr (VA.own 0 0),noD l] [VB.cells [I x.k,I x.n,I x.a] (78:TypeId)]
 else bif inK .i64 ((↑i:Int)+(1:Int)) then
 X .normal [I ((↑i:Int)+(1:Int)),I 0,VV.ptr (VA.own 0 0),noD l] [VB.cells [I x.k,I x.n,I x.a] (78:TypeId)]
 else False
 else False
 else X (VEx.exit 0) [I (↑i:Int),I 0,VV.ptr (VA.own 0 0),noD l] [VB.cells [I x.k,I x.n,I x.a] (78:TypeId)]):=by kernel_rfl
def lIx (l:List Nod) (x:Nod):LT:=fun lock tt h K=>
 FitP lock h tt ⟨1,[0].zip (BIx x)⟩ (dsIx.zip (VIx l 0))/\l.length<=100000/\(∀ i,i<l.length->l.getD i n0=x->(∀ j,j<i->l.getD j n0 ≠ x)->K .ret (dsIx.zip [I i,I i,.ptr (.own 0 0),noD l]) ⟨1,[0].zip (BIx x)⟩)/\((∀ j,j<l.length->l.getD j n0 ≠ x)->K .normal (dsIx.zip (VIx l l.length)) ⟨1,[0].zip (BIx x)⟩)
theorem ixf_ev (l:List Nod) (x:Nod) (Q:VRes->Prop):callN Try.prog noSpec (atF 51 [(0,lIx l x)]) 10 20 0 (.fn 51) [noD l,.agg (noL3 x)] ⟨0,[]⟩ (fun r _=>Q r) =
 (FitP 0 (VH.mk 1 ([0].zip (BIx x))) (dsIx.zip (VIx l 0)) (VH.mk 1 ([0].zip (BIx x))) (dsIx.zip (VIx l 0))/\l.length<=100000/\(∀ (i:Nat),i<l.length->l.getD i n0=x->(∀ (j:Nat),j<i->l.getD j n0 ≠ x)->Q (VRes.ret (I (↑i:Int))))/\((∀ (j:Nat),j<l.length->l.getD j n0 ≠ x)->Q (VRes.ret (I (-1))))):=by kernel_rfl
def ixF (l:List Nod) (x:Nod):Int:=
 match l.findIdx? (fun y=>decide (y=x)) with
 | some i=>i
 | none=>-1
end Go.Sx.Nod
namespace Go.Sx.Nod
open Go Go.Sx Go.Proofs
set_option maxRecDepth 1000000
section
variable {l:List Nod} {x:Nod}
theorem nod_ext {y:Nod}:y=x ↔ y.k=x.k/\y.n=x.n/\y.a=x.a:=by
 cases x
 cases y
 simp
theorem getD_lt {i:Nat} (h:i<l.length):l.getD i n0=l[i]:=by
 rw [List.getD_eq_getElem?_getD,List.getElem?_eq_getElem h]
 rfl
theorem ixF_some {i:Nat} (hi:i<l.length) (hx:l.getD i n0=x) (hf:∀ j,j<i->l.getD j n0 ≠ x):ixF l x=i:=by
 have:l.findIdx? (fun y=>decide (y=x))=some i:=by
  rw [List.findIdx?_eq_some_iff_getElem]
  refine ⟨hi,?_,fun j hj=>?_⟩
  ·rw [<- getD_lt hi]
   exact decide_eq_true hx
  ·have:=hf j hj
   rw [getD_lt (by omega)] at this
   simpa using this
 unfold ixF
 rw [this]
theorem ixF_none (hf:∀ j,j<l.length->l.getD j n0 ≠ x):ixF l x = -1:=by
 have:l.findIdx? (fun y=>decide (y=x))=none:=by
  rw [List.findIdx?_eq_none_iff]
  intro y hy
  obtain ⟨j,hj,rfl⟩:=List.getElem_of_mem hy
  have:=hf j hj
  rw [getD_lt hj] at this
  simpa using this
 unfold ixF
 rw [this]
theorem lIx_ok:LSound Try.prog true (.block 0 (.loop (loopB 0 (bodyOf Try.prog 51)))) (ntOf Try.prog 51) (lIx l x):=by
 by_cases hn:l.length<=100000
 ·refine loop_row hmix good0 (un:=10) (ds:=dsIx) (ns:=[0]) (nx:=1) (fun i:Nat=>VIx l i) (fun _=>BIx x) (fun i=>i<=l.length/\∀ j,j<i->l.getD j n0 ≠ x) (fun i=>l.length - i) (fun _ e vs bs=>bs=BIx x/\((e=.exit 0/\vs=VIx l l.length/\∀ j,j<l.length->l.getD j n0 ≠ x) ∨ (e=.ret/\∃ i:Nat,(i<l.length/\l.getD i n0=x/\∀ j,j<i->l.getD j n0 ≠ x)/\vs=[I i,I i,.ptr (.own 0 0),noD l]))) noL_ok ?_ ?_
  ·rintro i ⟨h0,hp⟩
   refine cast (ix_ev l x i _).symm ?_
   refine cond_d (fun hi=>cond_dk ⟨by omega,by omega⟩ (cond_i (fun hq=>?_) (fun hq=>?_))) (fun hi=>?_)
   ·simp only [Bool.and_eq_true,decide_eq_true_eq,Bool.and_true] at hq
    exact ⟨rfl,.inr ⟨rfl,i,⟨by omega,nod_ext.2 hq,hp⟩,rfl⟩⟩
   ·have hne:l.getD i n0 ≠ x:=fun he=>by
     have h3:=nod_ext.1 he
     have:(decide ((l.getD (↑i:Int).toNat n0).k=x.k) && (decide ((l.getD (↑i:Int).toNat n0).n=x.n) && (decide ((l.getD (↑i:Int).toNat n0).a=x.a) && true)))=true:=by
      simp only [Bool.and_eq_true,decide_eq_true_eq,Bool.and_true]
      exact h3
     rw [this] at hq
     cases hq
    refine cond_r (by omega) ⟨i+1,⟨by omega,fun j hj=>?_⟩,by dsimp only; omega,rfl,fitBs_refl _,fun _ _ _ h=>h⟩
    by_cases hji:j=i
    ·subst hji; exact hne
    ·exact hp j (by omega)
   ·obtain rfl:i=l.length:=by omega
    exact ⟨rfl,.inl ⟨rfl,rfl,hp⟩⟩
  ·rintro lock tt h K ⟨hf,_,k1,k2⟩
   refine ⟨0,hf,⟨Nat.zero_le _,fun j hj=>absurd hj (Nat.not_lt_zero _)⟩,?_⟩
   rintro e vs bs ⟨rfl,⟨rfl,rfl,hp⟩ | ⟨rfl,i,⟨h1,h2,h3⟩,rfl⟩⟩
   ·exact k2 hp
   ·exact k1 i h1 h2 h3
 ·rintro lock tt h K ⟨hf,hc,_⟩
  exact (hn hc).elim
theorem index_v (hn:l.length<=100000):∃ h',CallsV Try.prog 51 [noD l,.agg (noL3 x)] ⟨0,[]⟩ (.ret (I (ixF l x))) h':=by
 have hall:LoopsOk Try.prog 51 [(0,lIx l x)]:=fun y hy=>by
  simp only [List.mem_singleton] at hy
  subst hy
  exact ⟨by kernel_rfl,lIx_ok⟩
 obtain ⟨r,h',rfl,hc⟩:=of_callN (callL_good hmix noSp hall (un:=10) 20) (f:=51) (args:=[noD l,.agg (noL3 x)]) (h:=⟨0,[]⟩) (K:=fun r _=>r=.ret (I (ixF l x))) (by
  refine cast (ixf_ev l x _).symm ⟨fitP_self rfl,hn,fun i h1 h2 h3=>?_,fun h1=>?_⟩
  ·rw [ixF_some h1 h2 h3]
  ·rw [ixF_none h1])
 exact ⟨h',hc⟩
end
end Go.Sx.Nod
namespace Go.Sx.Nod
open Go Go.Sx Go.Proofs
set_option maxRecDepth 1000000
def ixX (l:List Nod) (q:Int):FuncId × Spec1:=(51,fun _ args h K=>match args with
 | [y,.agg [.int .i64 a,.int .i64 b,.int .i64 c]]=>isD h 2 y (noD l)/\l.length<=100000/\q=ixF l ⟨a,b,c⟩/\K (.ret (I q)) h
 | _=>False)
theorem ad_ev (l:List Nod) (x:Nod) (q:Int) (Q:VRes->VH->Prop):callN Try.prog (tabS [ixX l q]) noL 10 20 0 (.fn 64) [.sl 0 l.length,.agg (noL3 x)] ⟨1,[(0,.vec l.length (noG l) 3 78)]⟩ (fun r h=>Q r h) =
 (isD (VH.mk (2) [(1,VB.cells [I x.k,I x.n,I x.a] 78),(0,VB.vec l.length (noG l) 3 (78:TypeId))]) 2 (VV.sl 0 l.length) (noD l)/\l.length<=100000/\q=ixF l (Nod.mk x.k x.n x.a)/\bif decide (q<(0:Int)) then
 bif l.length.beq l.length then
 bif roomB (l.length+1) (24) then
 Q (VRes.ret (VV.sl 0 (l.length+1))) (VH.mk (3) [(0,VB.vec (l.length+1) (catG l.length (noG l) fun (j:Nat)=>List.take (3) (List.drop (j*(3)) [I x.k,I x.n,I x.a])) (3) 78),(2,VB.vec 1 (fun (j:Nat)=>List.take (3) (List.drop (j*(3)) [I x.k,I x.n,I x.a])) (3) 78),(1,VB.cells [I x.k,I x.n,I x.a] 78),(0,VB.vec l.length (noG l) 3 (78:TypeId))])
 else False
 else False
 else Q (VRes.ret (VV.sl 0 l.length)) (VH.mk (2) [(1,VB.cells [I x.k,I x.n,I x.a] 78),(0,VB.vec l.length (noG l) 3 (78:TypeId))])):=by kernel_rfl
end Go.Sx.Nod
namespace Go.Sx.Nod
open Go Go.Sx Go.Proofs
set_option maxRecDepth 1000000
section
variable {l:List Nod} {x:Nod} {q:Int}
def addF (l:List Nod) (x:Nod):List Nod:=if ixF l x<0 then l ++ [x] else l
theorem addF_len:(addF l x).length<=l.length+1:=by
 unfold addF
 split
 ·rw [List.length_append]; exact Nat.le_refl _
 ·omega
theorem ixX_ok:SpOk Try.prog (ixX l q).1 (ixX l q).2:=by
 intro lock args h K hK
 simp only [ixX] at hK
 split at hK
 ·rename_i y a b c
  obtain ⟨h1,hn,rfl,hK⟩:=hK
  obtain ⟨h',hc⟩:=index_v (x:=⟨a,b,c⟩) hn
  exact ⟨_,h,hK,lockP_refl _ _,calls_lendDP 2 hc rfl ⟨h1,⟨⟨rfl,rfl⟩,⟨rfl,rfl⟩,⟨rfl,rfl⟩,trivial⟩,trivial⟩⟩
 ·exact hK.elim
theorem cat_nod:∀ j,j<l.length+1->catG l.length (noG l) (fun j=>List.take 3 (List.drop (j*3) [I x.k,I x.n,I x.a])) j=noG (l ++ [x]) j:=by
 intro j hj
 by_cases h:j<l.length
 ·rw [catG_lt h]
  unfold noG
  rw [getD_snoc_lt h]
 ·obtain rfl:j=l.length:=by omega
  rw [catG_ge (Nat.le_refl _),Nat.sub_self]
  unfold noG
  rw [getD_snoc_eq]
  rfl
theorem add_v (hn:l.length<=1000):CallsV Try.prog 64 [.sl 0 l.length,.agg (noL3 x)] ⟨1,[(0,.vec l.length (noG l) 3 78)]⟩ (.ret (.sl 0 (addF l x).length)) ⟨1,[(0,.vec (addF l x).length (noG (addF l x)) 3 78)]⟩:=by
 obtain ⟨r,h',⟨rfl,hf⟩,hc⟩:=of_callN (noL_good (tab1 (ixX_ok (l:=l) (q:=ixF l x)))) (f:=64) (args:=[.sl 0 l.length,.agg (noL3 x)]) (h:=⟨1,[(0,.vec l.length (noG l) 3 78)]⟩) (K:=fun r h=>r=.ret (.sl 0 (addF l x).length)/\fitB [(0,.vec (addF l x).length (noG (addF l x)) 3 78)] h) (by
  refine cast (ad_ev l x (ixF l x) _).symm ⟨⟨rfl,by decide,_,_,rfl,fun _ _=>rfl⟩,by omega,rfl,cond_d (fun hq=>?_) (fun hq=>?_)⟩
  ·have e:addF l x=l ++ [x]:=if_pos hq
   rw [e]
   refine cond_k (Nat.beq_refl _) (cond_k (room24 (by omega)) ⟨by rw [List.length_append]; rfl,⟨by rw [List.length_append]; rfl,rfl,rfl,fun j hj=>?_⟩,trivial⟩)
   rw [List.length_append] at hj
   exact cat_nod j hj
  ·have e:addF l x=l:=if_neg hq
   rw [e]
   exact ⟨rfl,⟨rfl,rfl,rfl,fun _ _=>rfl⟩,trivial⟩)
 exact calls_weak hc (Nat.le_refl _) hf rfl rfl
def adR:FuncId × Spec1:=(64,fun lock args h K=>match args with
 | [.sl m L,.agg [.int .i64 a,.int .i64 b,.int .i64 c]]=>∃ l:List Nod,(L=l.length/\lock<=m/\l.length<=1000)/\h.at m=.vec l.length (noG l) 3 78/\∀ l':List Nod,l'=addF l ⟨a,b,c⟩->K (.ret (.sl m l'.length)) (h.put m (.vec l'.length (noG l') 3 78))
 | _=>False)
theorem adR_ok:SpOk Try.prog adR.1 adR.2:=by
 intro lock args h K hK
 simp only [adR] at hK
 split at hK
 ·rename_i m L a b c
  obtain ⟨l,⟨rfl,hlm,hn⟩,hm,hK⟩:=hK
  refine ⟨_,_,hK _ rfl,fun n hnl hf=>?_,calls_own1 (add_v (x:=⟨a,b,c⟩) hn) rfl hm rfl rfl⟩
  rw [VH.at_put h m _ (by rw [hm]; simp)]
  unfold upd
  rw [if_neg (by omega)]
 ·exact hK.elim
end
end Go.Sx.Nod
namespace Go.Sx.Nod
open Go Go.Sx Go.Proofs
set_option maxRecDepth 1000000
def pnL (p:Nos.Pn):List VV:=[inD p.D,.tl p.T.length 5 (Nos.tG p.T),.tl p.S.length 3 (Nos.sG p.S)]
def ndT (p:Nos.Pn):Nat->List Nod
 | 0=>[n0]
 | i+1=>addF (addF (ndT p i) ⟨1,(p.T.getD i Nos.t0).s,0⟩) ⟨2,(p.T.getD i Nos.t0).j,(p.T.getD i Nos.t0).p⟩
def ndS (p:Nos.Pn) (L:List Nod):Nat->List Nod
 | 0=>L
 | i+1=>addF (ndS p L i) ⟨1,(p.S.getD i Nos.s0).s,0⟩
def ndF (p:Nos.Pn):List Nod:=ndS p (ndT p p.T.length) p.S.length
def dsN0:List Nat:=[4,3,2,1]
def VN0 (L:List Nod) (i:Nat):List VV:=[I i,.sl 1 L.length,.nils,.ptr (.own 0 0)]
def BN0 (p:Nos.Pn) (L:List Nod):List VB:=[.cells (pnL p) 26,.vec L.length (noG L) 3 78]
theorem nd0_ev (p:Nos.Pn) (L:List Nod) (i:Nat) (X:VEx->List VV->List VB->Prop):codeE Try.prog (callN Try.prog (tabS [adR]) noL 10 20) (fun _=>none) true 10 (ntOf Try.prog 48) 0 (loopB 0 (bodyOf Try.prog 48)) (dsN0.zip (VN0 L i)) ⟨2,[0,1].zip (BN0 p L)⟩ (obs 2 dsN0 [0,1] X) =
 (bif decide ((↑i:Int)<(↑p.T.length:Int)) then
 bif decide ((0:Int)<=(↑i:Int)/\(↑i:Int)<(↑p.T.length:Int)) then
 ∃ (l:List Nod),(L.length=l.length/\lockOf (VH.mk (3) ((2,VB.cells [I (p.T.getD (↑i:Int).toNat Nos.t0).j,I (p.T.getD (↑i:Int).toNat Nos.t0).s,I (p.T.getD (↑i:Int).toNat Nos.t0).p,I (p.T.getD (↑i:Int).toNat Nos.t0).c,I (p.T.getD (↑i:Int).toNat Nos.t0).o] 32)::(2,VB.cells [I 0,I 0,I 0,I 0,I 0] 32)::[0,1].zip (BN0 p L))) (Cls.wrq 1)<=1/\l.length<=1000)/\(maskH [0,1,2] (VH.mk (3) ((2,VB.cells [I (p.T.getD (↑i:Int).toNat Nos.t0).j,I (p.T.getD (↑i:Int).toNat Nos.t0).s,I (p.T.getD (↑i:Int).toNat Nos.t0).p,I (p.T.getD (↑i:Int).toNat Nos.t0).c,I (p.T.getD (↑i:Int).toNat Nos.t0).o] 32)::(2,VB.cells [I 0,I 0,I 0,I 0,I 0] 32)::[0,1].zip (BN0 p L)))).at 1=VB.vec l.length (noG l) 3 (78:TypeId)/\∀ (l':List Nod),l'=addF l (Nod.mk (1:Int) (p.T.getD (↑i:Int).toNat Nos.t0).s (0:Int))->keepP (VH.mk (3) ((2,VB.cells [I (p.T.getD (↑i:Int).toNat Nos.t0).j,I (p.T.getD (↑i:Int).toNat Nos.t0).s,I (p.T.getD (↑i:Int).toNat Nos.t0).p,I (p.T.getD (↑i:Int).toNat Nos.t0).c,I (p.T.getD (↑i:Int).toNat Nos.t0).o] 32)::(2,VB.cells [I 0,I 0,I 0,I 0,I 0] 32)::[0,1].zip (BN0 p L))) ((maskH [0,1,2] (VH.mk (3) ((2,VB.cells [I (p.T.getD (↑i:Int).toNat Nos.t0).j,I (p.T.getD (↑i:Int).toNat Nos.t0).s,I (p.T.getD (↑i:Int).toNat Nos.t0).p,I (p.T.getD (↑i:Int).toNat Nos.t0).c,I (p.T.getD (↑i:Int).toNat Nos.t0).o] 32)::(2,VB.cells [I 0,I 0,I 0,I 0,I 0] 32)::[0,1].zip (BN0 p L)))).put 1 (VB.vec l'.length (noG l') 3 (78:TypeId))) 1 [0,1,2]/\∃ (l:List Nod),(l'.length=l.length/\0<=1/\l.length<=1000)/\(VH.mk (3) ((1,VB.vec l'.length (noG l') 3 (78:TypeId))::(2,VB.cells [I (p.T.getD (↑i:Int).toNat Nos.t0).j,I (p.T.getD (↑i:Int).toNat Nos.t0).s,I (p.T.getD (↑i:Int).toNat Nos.t0).p,I (p.T.getD (↑i:Int).toNat Nos.t0).c,I (p.T.getD (↑i:Int).toNat Nos.t0).o] 32)::(2,VB.cells [I 0,I 0,I 0,I 0,I 0] 32)::[0,1].zip (BN0 p L))).at 1=VB.vec l.length (noG l) 3 (78:TypeId)/\∀ (l':List Nod),l'=addF l (Nod.mk (2:Int) (p.T.getD (↑i:Int).toNat Nos.t0).j (p.T.getD (↑i:Int).toNat Nos.t0).p)->bif inK .i64 ((↑i:Int)+(1:Int)) then
 X .normal [I ((↑i:Int)+(1:Int)),VV.sl 1 l'.length,VV.nils,VV.ptr (VA.own 0 0)] [VB.cells [VV.tl p.D.length 1 (dG p.D),VV.tl p.T.length 5 (Nos.tG p.T),VV.tl p.S.length 3 (Nos.sG p.S)] (26:TypeId),VB.vec l'.length (noG l') 3 (78:TypeId)]
 else False
 else False
 else X (VEx.exit 0) [I (↑i:Int),VV.sl 1 L.length,VV.nils,VV.ptr (VA.own 0 0)] [VB.cells [VV.tl p.D.length 1 (dG p.D),VV.tl p.T.length 5 (Nos.tG p.T),VV.tl p.S.length 3 (Nos.sG p.S)] (26:TypeId),VB.vec L.length (noG L) 3 (78:TypeId)]):=by kernel_rfl
def lN0 (p:Nos.Pn):LT:=fun lock tt h K=>
 FitP lock h tt ⟨2,[0,1].zip (BN0 p [n0])⟩ (dsN0.zip (VN0 [n0] 0))/\p.T.length<=100/\∀ L:List Nod,L=ndT p p.T.length->K .normal (dsN0.zip (VN0 L p.T.length)) ⟨2,[0,1].zip (BN0 p L)⟩
def dsN2:List Nat:=[6,3,2,1]
theorem nd2_ev (p:Nos.Pn) (L:List Nod) (i:Nat) (X:VEx->List VV->List VB->Prop):codeE Try.prog (callN Try.prog (tabS [adR]) noL 10 20) (fun _=>none) true 10 (ntOf Try.prog 48) 0 (loopB 2 (bodyOf Try.prog 48)) (dsN2.zip (VN0 L i)) ⟨2,[0,1].zip (BN0 p L)⟩ (obs 2 dsN2 [0,1] X) =
 (bif decide ((↑i:Int)<(↑p.S.length:Int)) then
 bif decide ((0:Int)<=(↑i:Int)/\(↑i:Int)<(↑p.S.length:Int)) then
 ∃ (l:List Nod),(L.length=l.length/\0<=1/\l.length<=1000)/\(VH.mk 2 ([0,1].zip (BN0 p L))).at 1=VB.vec l.length (noG l) 3 (78:TypeId)/\∀ (l':List Nod),l'=addF l (Nod.mk (1:Int) (p.S.getD (↑i:Int).toNat Nos.s0).s (0:Int))->bif inK .i64 ((↑i:Int)+(1:Int)) then
 X .normal [I ((↑i:Int)+(1:Int)),VV.sl 1 l'.length,VV.nils,VV.ptr (VA.own 0 0)] [VB.cells [VV.tl p.D.length 1 (dG p.D),VV.tl p.T.length 5 (Nos.tG p.T),VV.tl p.S.length 3 (Nos.sG p.S)] (26:TypeId),VB.vec l'.length (noG l') 3 (78:TypeId)]
 else False
 else False
 else X (VEx.exit 2) [I (↑i:Int),VV.sl 1 L.length,VV.nils,VV.ptr (VA.own 0 0)] [VB.cells [VV.tl p.D.length 1 (dG p.D),VV.tl p.T.length 5 (Nos.tG p.T),VV.tl p.S.length 3 (Nos.sG p.S)] (26:TypeId),VB.vec L.length (noG L) 3 (78:TypeId)]):=by kernel_rfl
def lN2 (p:Nos.Pn):LT:=fun lock tt h K=>
 ∃ L0:List Nod,FitP lock h tt ⟨2,[0,1].zip (BN0 p L0)⟩ (dsN2.zip (VN0 L0 0))/\(p.S.length<=100/\L0.length<=300)/\∀ L:List Nod,L=ndS p L0 p.S.length->K .normal (dsN2.zip (VN0 L p.S.length)) ⟨2,[0,1].zip (BN0 p L)⟩
theorem ndf_ev (p:Nos.Pn) (Q:VRes->VH->Prop):callN Try.prog (tabS [adR]) (atF 48 [(0,lN0 p),(2,lN2 p)]) 10 20 0 (.fn 48) [.agg (pnL p)] ⟨0,[]⟩ (fun r h=>Q r h) =
 (FitP 0 (VH.mk (2) [(1,VB.vec 1 (fun (j:Nat)=>List.take (3) (List.drop (j*(3)) [I 0,I 0,I 0])) (3) 78),(0,VB.cells [VV.tl p.D.length 1 (dG p.D),VV.tl p.T.length 5 (Nos.tG p.T),VV.tl p.S.length 3 (Nos.sG p.S)] 26)]) [(4,I 0),(3,VV.sl (1) 1),(8,VV.sl (1) 1),(7,VV.agg [I 0,I 0,I 0]),(2,VV.nils),(1,VV.ptr (VA.own 0 0)),(0,VV.agg (pnL p))] (VH.mk 2 ([0,1].zip (BN0 p [n0]))) (dsN0.zip (VN0 [n0] 0))/\p.T.length<=100/\∀ (L:List Nod),L=ndT p p.T.length->∃ (L0:List Nod),FitP 0 (VH.mk 2 ([0,1].zip (BN0 p L))) ((6,I 0)::dsN0.zip (VN0 L p.T.length)) (VH.mk 2 ([0,1].zip (BN0 p L0))) (dsN2.zip (VN0 L0 0))/\(p.S.length<=100/\L0.length<=300)/\∀ (L:List Nod),L=ndS p L0 p.S.length->Q (VRes.ret (VV.sl 1 L.length)) (VH.mk 2 [(0,VB.cells [VV.tl p.D.length 1 (dG p.D),VV.tl p.T.length 5 (Nos.tG p.T),VV.tl p.S.length 3 (Nos.sG p.S)] (26:TypeId)),(1,VB.vec L.length (noG L) 3 (78:TypeId))])):=by kernel_rfl
end Go.Sx.Nod
namespace Go.Sx.Nod
open Go Go.Sx Go.Proofs
set_option maxRecDepth 1000000
section
variable {p:Nos.Pn} {L:List Nod}
theorem ndT_len:∀ i,(ndT p i).length<=1+2*i
 | 0=>Nat.le_refl _
 | i+1=>by
  have h:=ndT_len i
  have h1:=addF_len (l:=ndT p i) (x:=⟨1,(p.T.getD i Nos.t0).s,0⟩)
  have h2:=addF_len (l:=addF (ndT p i) ⟨1,(p.T.getD i Nos.t0).s,0⟩) (x:=⟨2,(p.T.getD i Nos.t0).j,(p.T.getD i Nos.t0).p⟩)
  unfold ndT
  omega
theorem ndS_len:∀ i,(ndS p L i).length<=L.length+i
 | 0=>Nat.le_refl _
 | i+1=>by
  have h:=ndS_len i
  have h1:=addF_len (l:=ndS p L i) (x:=⟨1,(p.S.getD i Nos.s0).s,0⟩)
  unfold ndS
  omega
theorem adS_ok:∀ f T,tabS [adR] f=some T->SpOk Try.prog f T:=tab1 adR_ok
theorem lN0_ok:LSound Try.prog true (.block 0 (.loop (loopB 0 (bodyOf Try.prog 48)))) (ntOf Try.prog 48) (lN0 p):=by
 by_cases hn:p.T.length<=100
 ·refine loop_row hmix (noL_good adS_ok) (un:=10) (ds:=dsN0) (ns:=[0,1]) (nx:=2) (fun i:Nat=>VN0 (ndT p i) i) (fun i=>BN0 p (ndT p i)) (fun i=>i<=p.T.length) (fun i=>p.T.length - i) (fun _ e vs bs=>e=.exit 0/\vs=VN0 (ndT p p.T.length) p.T.length/\bs=BN0 p (ndT p p.T.length)) noL_ok ?_ ?_
  ·rintro i h0
   have h0:i<=p.T.length:=h0
   have hlen:=ndT_len (p:=p) i
   refine cast (nd0_ev p (ndT p i) i _).symm ?_
   refine cond_d (fun hi=>cond_dk ⟨by omega,by omega⟩ ⟨ndT p i,⟨rfl,Nat.zero_le _,by omega⟩,rfl,?_⟩) (fun hi=>?_)
   ·rintro l1 rfl
    have h1:=addF_len (l:=ndT p i) (x:=⟨1,(p.T.getD i Nos.t0).s,0⟩)
    refine ⟨⟨rfl,rfl,trivial⟩,_,⟨rfl,by decide,?_⟩,rfl,?_⟩
    ·show (addF (ndT p i) ⟨1,(p.T.getD i Nos.t0).s,0⟩).length<=1000
     omega
    ·rintro l2 rfl
     exact cond_r (by omega) ⟨i+1,by show i+1<=_; omega,by dsimp only; omega,rfl,fitBs_refl _,fun _ _ _ h=>h⟩
   ·obtain rfl:i=p.T.length:=by omega
    exact ⟨rfl,rfl,rfl⟩
  ·rintro lock tt h K ⟨hf,_,k1⟩
   refine ⟨0,hf,Nat.zero_le _,?_⟩
   rintro e vs bs ⟨rfl,rfl,rfl⟩
   exact k1 _ rfl
 ·rintro lock tt h K ⟨hf,hc,_⟩
  exact (hn hc).elim
theorem lN2_ok:LSound Try.prog true (.block 2 (.loop (loopB 2 (bodyOf Try.prog 48)))) (ntOf Try.prog 48) (lN2 p):=by
 rintro lock t h K ⟨L0,hf,⟨hn,hL0⟩,k1⟩
 have key:LSound Try.prog true (.block 2 (.loop (loopB 2 (bodyOf Try.prog 48)))) (ntOf Try.prog 48) (fun lock tt h K=>FitP lock h tt ⟨2,[0,1].zip (BN0 p L0)⟩ (dsN2.zip (VN0 L0 0))/\∀ L:List Nod,L=ndS p L0 p.S.length->K .normal (dsN2.zip (VN0 L p.S.length)) ⟨2,[0,1].zip (BN0 p L)⟩):=by
  refine loop_row hmix (noL_good adS_ok) (un:=10) (ds:=dsN2) (ns:=[0,1]) (nx:=2) (fun i:Nat=>VN0 (ndS p L0 i) i) (fun i=>BN0 p (ndS p L0 i)) (fun i=>i<=p.S.length) (fun i=>p.S.length - i) (fun _ e vs bs=>e=.exit 2/\vs=VN0 (ndS p L0 p.S.length) p.S.length/\bs=BN0 p (ndS p L0 p.S.length)) noL_ok ?_ ?_
  ·rintro i h0
   have h0:i<=p.S.length:=h0
   have hlen:=ndS_len (p:=p) (L:=L0) i
   refine cast (nd2_ev p (ndS p L0 i) i _).symm ?_
   refine cond_d (fun hi=>cond_dk ⟨by omega,by omega⟩ ⟨ndS p L0 i,⟨rfl,by decide,by omega⟩,rfl,?_⟩) (fun hi=>?_)
   ·rintro l1 rfl
    exact cond_r (by omega) ⟨i+1,by show i+1<=_; omega,by dsimp only; omega,rfl,fitBs_refl _,fun _ _ _ h=>h⟩
   ·obtain rfl:i=p.S.length:=by omega
    exact ⟨rfl,rfl,rfl⟩
  ·rintro lock tt h K ⟨hf,k1⟩
   refine ⟨0,hf,Nat.zero_le _,?_⟩
   rintro e vs bs ⟨rfl,rfl,rfl⟩
   exact k1 _ rfl
 exact key lock t h K ⟨hf,k1⟩
end
end Go.Sx.Nod
namespace Go.Sx.Nod
open Go Go.Sx Go.Proofs
set_option maxRecDepth 1000000
theorem calls_tellL {P:Program} {f:FuncId} {args:List VV} {h h':VH} {m L s:Nat} {g:Nat->List VV} {t:TypeId} (hs:CallsV P f args h (.ret (.sl m L)) h') (hm:h'.at m=.vec L g s t):CallsV P f args h (.ret (.tl L s g)) ⟨h'.nx,(m,.gone)::h'.bs⟩:=by
 intro B R w xs em hx
 refine (hs B R w xs em hx).mono ?_
 rintro e w' ⟨R1,n1,e1,x,hx1,he⟩
 obtain ⟨R2,hle,e2,n2,hy⟩:=emb_frzV e1 hm
 have hat:(VH.mk h'.nx ((m,.gone)::h'.bs)).at=upd h'.at m .gone:=VH.at_put h' m .gone (by rw [hm]; simp)
 exact ⟨R2,by rw [hat]; exact n1.trans n2,by rw [hat]; exact e2,x,hy x hx1,he⟩
section
variable {p:Nos.Pn}
theorem nodes_v (hT:p.T.length<=100) (hS:p.S.length<=100):∃ h',CallsV Try.prog 48 [.agg (pnL p)] ⟨0,[]⟩ (.ret (noD (ndF p))) h':=by
 have hall:LoopsOk Try.prog 48 [(0,lN0 p),(2,lN2 p)]:=fun y hy=>by
  simp only [List.mem_cons,List.not_mem_nil,or_false] at hy
  rcases hy with rfl | rfl
  ·exact ⟨by kernel_rfl,lN0_ok⟩
  ·exact ⟨by kernel_rfl,lN2_ok⟩
 have hlen:=ndT_len (p:=p) p.T.length
 obtain ⟨r,h',⟨rfl,hf⟩,hc⟩:=of_callN (callL_good hmix adS_ok hall (un:=10) 20) (f:=48) (args:=[.agg (pnL p)]) (h:=⟨0,[]⟩) (K:=fun r h=>r=.ret (.sl 1 (ndF p).length)/\h.at 1=.vec (ndF p).length (noG (ndF p)) 3 78) (by
  refine cast (ndf_ev p _).symm ⟨⟨⟨rfl,rfl,rfl,⟨rfl,rfl,rfl,fun j hj=>?_⟩,trivial⟩,rfl,rfl,rfl,rfl,trivial⟩,hT,?_⟩
  ·obtain rfl:j=0:=by
    have hj:j<1:=hj
    omega
   rfl
  ·rintro L rfl
   refine ⟨ndT p p.T.length,⟨⟨rfl,rfl,VB.fit_refl _,VB.fit_refl _,trivial⟩,rfl,rfl,rfl,rfl,trivial⟩,⟨hS,by omega⟩,?_⟩
   rintro L2 rfl
   exact ⟨rfl,rfl⟩)
 exact ⟨_,calls_tellL hc hf⟩
end
end Go.Sx.Nod
namespace Go.Sx.Nod
open Go Go.Sx Go.Proofs
set_option maxRecDepth 1000000
theorem pn_data {W:World} {v:Value} {p:Nos.Pn} (h:Nos.PnIn W v p):VRel (dataR W) (.agg (pnL p)) v:=by
 obtain ⟨vD,vT,vS,c1,q1,c2,q2,c3,q3,rfl,r1,r2,r3⟩:=h
 exact ⟨_,⟨_,_,rowIn_tl r1 (by decide) (fun _ _=>rfl),⟨_,_,rowIn_tl r2 (by decide) (fun _ _=>rfl),⟨_,_,rowIn_tl r3 (by decide) (fun _ _=>rfl),rfl,rfl⟩,rfl⟩,rfl⟩,rfl⟩
end Go.Sx.Nod
namespace Go.Sx.Nos
open Go Go.Sx Go.Proofs
set_option maxRecDepth 1000000
abbrev WW:Int:=1125899906842624
def rowW:List Int:=List.replicate 65 WW
def ds0:List Nat:=[0,3,4,21]
def V0 (i:Int):List VV:=[.ptr (.own 3 0),.ptr (.own 6 0),.ptr (.own 7 0),I i]
def ds2:List Nat:=[0,3,4,27]
def ns0:List Nat:=[0,1,2,3,4,5,6,7]
abbrev p5:VB:=.cells [.ptr (.own 5 0)] 79
def BP (p:Pn) (c1 c2 c3:Nat):List VB:=[arD p,arT p,arS p,pnB p c1 c2 c3]
def B0 (p:Pn) (c1 c2 c3:Nat) (N:List Nd) (d g:Nat->Int):List VB:=BP p c1 c2 c3 ++ [maB N,faB 4 d,p5,.fam [] 65 g 89]
theorem ini_ev (p:Pn) (c1 c2 c3:Nat) (N:List Nd) (d g:Nat->Int) (i:Int) (X:VEx->List VV->List VB->Prop):codeE Try.prog (callN Try.prog noSpec noL 10 20) (fun _=>none) true 10 131 0 (loopB 0 (bodyOf Try.prog 63)) (ds0.zip (V0 i)) ⟨8,ns0.zip (B0 p c1 c2 c3 N d g)⟩ (obs 8 ds0 ns0 X) =
 (bif decide (i<(65:Int)) then
 bif decide ((0:Int)<=i/\i<(↑65:Int)) then
 bif decide (i.toNat*(1)+(1)<=65) then
 bif inK IntKind.i64 (i+(1:Int)) then
 X VEx.normal [VV.ptr (VA.own 3 0),VV.ptr (VA.own 6 0),VV.ptr (VA.own 7 0),I (i+(1:Int))] [arD p,arT p,arS p,pnB p c1 c2 c3,maB N,faB 4 d,p5,VB.fam [] 65 (setF g (i.toNat*(1)) [(1125899906842624:Int)]) (89:TypeId)]
 else False
 else False
 else False
 else X (VEx.exit 0) [VV.ptr (VA.own 3 0),VV.ptr (VA.own 6 0),VV.ptr (VA.own 7 0),I i] [arD p,arT p,arS p,pnB p c1 c2 c3,maB N,faB 4 d,p5,VB.fam [] 65 g (89:TypeId)]):=by kernel_rfl
theorem far_ev (p:Pn) (c1 c2 c3:Nat) (N:List Nd) (d:Nat->Int) (i:Int) (X:VEx->List VV->List VB->Prop):codeE Try.prog (callN Try.prog noSpec noL 10 20) (fun _=>none) true 10 131 0 (loopB 2 (bodyOf Try.prog 63)) (ds2.zip (V0 i)) ⟨8,ns0.zip (B0 p c1 c2 c3 N d (fun _=>WW))⟩ (obs 8 ds2 ns0 X) =
 (bif decide (i<(65:Int)) then
 bif decide ((0:Int)<=i/\i<(↑65:Int)) then
 bif decide (i.toNat*(65)+(65)<=4225) then
 bif decide ((0:Int)<=i/\i<(↑65:Int)) then
 bif decide ((0:Int)<=i/\i<(↑65:Int)) then
 bif decide (i.toNat*(65)+i.toNat*(1)+(1)<=4225) then
 bif inK IntKind.i64 (i+(1:Int)) then
 X VEx.normal [VV.ptr (VA.own 3 0),VV.ptr (VA.own 6 0),VV.ptr (VA.own 7 0),I (i+(1:Int))] [arD p,arT p,arS p,pnB p c1 c2 c3,maB N,VB.fam [VV.mp 4] 4225 (setF (setF d (i.toNat*(65)) rowW) (i.toNat*(65)+i.toNat*(1)) [(0:Int)]) (93:TypeId),p5,VB.fam [] 65 (fun x=>WW) (89:TypeId)]
 else False
 else False
 else False
 else False
 else False
 else False
 else X (VEx.exit 2) [VV.ptr (VA.own 3 0),VV.ptr (VA.own 6 0),VV.ptr (VA.own 7 0),I i] [arD p,arT p,arS p,pnB p c1 c2 c3,maB N,faB 4 d,p5,VB.fam [] 65 (fun x=>WW) (89:TypeId)]):=by kernel_rfl
end Go.Sx.Nos
namespace Go.Sx.Nos
open Go Go.Sx Go.Proofs
set_option maxRecDepth 1000000
def dIni:Nat->Int:=fun k=>if k / 65=k % 65 then 0 else WW
def lIni (p:Pn) (c1 c2 c3:Nat) (N:List Nd) (d:Nat->Int):LT:=fun lock t h K=>
 FitP lock h t ⟨8,ns0.zip (B0 p c1 c2 c3 N d fun _=>0)⟩ (ds0.zip (V0 0))/\∀ g,(∀ k,k<65->g k=WW)->K .normal (ds0.zip (V0 65)) ⟨8,ns0.zip (B0 p c1 c2 c3 N d g)⟩
def lFar (p:Pn) (c1 c2 c3:Nat) (N:List Nd):LT:=fun lock t h K=>
 FitP lock h t ⟨8,ns0.zip (B0 p c1 c2 c3 N (fun _=>0) fun _=>WW)⟩ (ds2.zip (V0 0))/\∀ d,(∀ k,k<4225->d k=dIni k)->K .normal (ds2.zip (V0 65)) ⟨8,ns0.zip (B0 p c1 c2 c3 N d fun _=>WW)⟩
section
variable {p:Pn} {c1 c2 c3:Nat} {N:List Nd} {d:Nat->Int}
theorem vst {V:Int->List VV} (i:Nat):V ((i:Int)+1)=V ((i+1:Nat):Int):=by rw [Int.natCast_add]; rfl
theorem lIni_ok:LSound Try.prog true (.block 0 (.loop (loopB 0 (bodyOf Try.prog 63)))) 131 (lIni p c1 c2 c3 N d):=by
 refine loop_row hmix good0 (un:=10) (ds:=ds0) (ns:=ns0) (nx:=8) (fun s:Nat × (Nat->Int)=>V0 s.1) (fun s=>B0 p c1 c2 c3 N d s.2) (fun s=>s.1<=65/\∀ k,k<65->s.2 k=if k<s.1 then WW else 0) (fun s=>65 - s.1)
  (fun _ e vs bs=>e=.exit 0/\vs=V0 65/\∃ g,(∀ k,k<65->g k=WW)/\bs=B0 p c1 c2 c3 N d g) noL_ok ?_ ?_
 ·rintro ⟨i,g⟩ ⟨hi,hg⟩
  dsimp only at hi hg ⊢
  refine cast (ini_ev p c1 c2 c3 N d _ i _).symm ?_
  by_cases h:i<65
  ·refine cond_dk (by omega) (cond_dk ⟨by omega,by omega⟩ (cond_dk (by simp only [Int.toNat_natCast]; omega) (cond_r (by omega) ?_)))
   refine ⟨(i+1,setF g ((i:Int).toNat*1) [WW]),⟨by dsimp only; omega,fun k hk=>?_⟩,by dsimp only; omega,vst (V:=V0) i,fitBs_refl _,fun e vs bs ho=>ho⟩
   dsimp only
   rw [Int.toNat_natCast,Nat.mul_one,setF_eq]
   simp only [List.length_singleton]
   by_cases hki:k=i
   ·subst hki; simp
   ·rw [if_neg (by omega),hg k hk]
    by_cases hk2:k<i
    ·rw [if_pos hk2,if_pos (by omega)]
    ·rw [if_neg hk2,if_neg (by omega)]
  ·have:i=65:=by omega
   subst this
   refine cond_d (fun h=>by omega) (fun _=>⟨rfl,rfl,g,fun k hk=>?_,rfl⟩)
   rw [hg k hk,if_pos hk]
 ·rintro lock t h K ⟨hf,hK⟩
  refine ⟨(0,fun _=>0),hf,⟨Nat.zero_le _,fun k _=>?_⟩,?_⟩
  ·exact (if_neg (Nat.not_lt_zero k)).symm
  ·rintro x vs bs ⟨rfl,rfl,g,hg,rfl⟩
   exact hK g hg
theorem rowW_get {k:Nat} (h:k<65):rowW.getD k 0=WW:=by
 unfold rowW
 rw [List.getD_eq_getElem?_getD,List.getElem?_replicate,if_pos h]; rfl
theorem lFar_ok:LSound Try.prog true (.block 2 (.loop (loopB 2 (bodyOf Try.prog 63)))) 131 (lFar p c1 c2 c3 N):=by
 refine loop_row hmix good0 (un:=10) (ds:=ds2) (ns:=ns0) (nx:=8) (fun s:Nat × (Nat->Int)=>V0 s.1) (fun s=>B0 p c1 c2 c3 N s.2 fun _=>WW) (fun s=>s.1<=65/\∀ k,k<4225->s.2 k=if k<s.1*65 then dIni k else 0) (fun s=>65 - s.1)
  (fun _ e vs bs=>e=.exit 2/\vs=V0 65/\∃ d,(∀ k,k<4225->d k=dIni k)/\bs=B0 p c1 c2 c3 N d fun _=>WW) noL_ok ?_ ?_
 ·rintro ⟨i,g⟩ ⟨hi,hg⟩
  dsimp only at hi hg ⊢
  refine cast (far_ev p c1 c2 c3 N _ i _).symm ?_
  by_cases h:i<65
  ·have hb:0<=(i:Int)/\(i:Int)<((65:Nat):Int):=⟨by omega,by omega⟩
   refine cond_dk (by omega) (cond_dk hb (cond_dk (by simp only [Int.toNat_natCast]; omega) (cond_dk hb (cond_dk hb (cond_dk (by simp only [Int.toNat_natCast]; omega) (cond_r (by omega) ?_))))))
   refine ⟨(i+1,setF (setF g ((i:Int).toNat*65) rowW) ((i:Int).toNat*65+(i:Int).toNat*1) [0]),⟨by dsimp only; omega,fun k hk=>?_⟩,by dsimp only; omega,vst (V:=V0) i,fitBs_refl _,fun e vs bs ho=>ho⟩
   dsimp only
   rw [Int.toNat_natCast,Nat.mul_one,setF_eq,setF_eq]
   simp only [List.length_singleton]
   have hl:rowW.length=65:=List.length_replicate ..
   rw [hl]
   unfold dIni
   by_cases h1:i*65+i<=k/\k<i*65+i+1
   ·rw [if_pos h1,if_pos (by omega)]
    have:k=i*65+i:=by omega
    subst this
    rw [if_pos (by omega)]
    simp
   ·rw [if_neg h1]
    by_cases h2:i*65<=k/\k<i*65+65
    ·rw [if_pos h2,if_pos (by omega),rowW_get (by omega),if_neg (by omega)]
    ·rw [if_neg h2,hg k hk]
     unfold dIni
     by_cases h3:k<i*65
     ·simp only [h3,if_true,show k<(i+1)*65 by omega]
     ·simp only [h3,if_false,show ¬ k<(i+1)*65 by omega]
  ·have:i=65:=by omega
   subst this
   refine cond_d (fun h=>by omega) (fun _=>⟨rfl,rfl,g,fun k hk=>?_,rfl⟩)
   rw [hg k hk,if_pos hk]
 ·rintro lock t h K ⟨hf,hK⟩
  refine ⟨(0,fun _=>0),hf,⟨Nat.zero_le _,fun k _=>?_⟩,?_⟩
  ·rw [Nat.zero_mul]; exact (if_neg (Nat.not_lt_zero k)).symm
  ·rintro x vs bs ⟨rfl,rfl,g,hg,rfl⟩
   exact hK g hg
end
end Go.Sx.Nos
namespace Go.Sx.Nos
open Go Go.Sx Go.Proofs
set_option maxRecDepth 1000000
def zeroN:Nd:=[0,0,0]
def rfOf:Code->Option (Code × Code)
 | .rangeFunc _ _ ac bd=>some (ac,bd)
 | .seq a b=>match rfOf a with
  | some r=>some r
  | none=>rfOf b
 | .block _ b=>rfOf b
 | _=>none
def rfAs (P:Program) (f:FuncId):Code:=match rfOf (bodyOf P f) with
 | some (ac,_)=>ac
 | none=>.skip
def rfBd (P:Program) (f:FuncId):Code:=match rfOf (bodyOf P f) with
 | some (_,bd)=>bd
 | none=>.skip
noncomputable def as63:Code:=rfAs Try.prog 63
noncomputable def bd63:Code:=rfBd Try.prog 63
def slT:Slots:=[(45,.func 70 [] [.ptr (.own 8 0)]),(44,.ptr (.own 3 0)),(0,.ptr (.own 3 0)),(3,.ptr (.own 6 0)),(4,.ptr (.own 7 0)),(27,I 65)]
noncomputable def recT:VB:=.loop true none slT 131 [46,47] as63 bd63
def dsO:List Nat:=[0,1,16,17,18]
def VO (p:Pn) (c2:Nat) (i:Int):List VV:=[.yld 9,.ptr (.own 8 0),.slice (.el 1 [] 0 0) p.T.length c2,I p.T.length,I i]
def nsO:List Nat:=[0,1,2,3,4,5,6,8,9]
noncomputable def BO (p:Pn) (c1 c2 c3:Nat) (N:List Nd) (d:Nat->Int):List VB:=BP p c1 c2 c3 ++ [maB N,faB 4 d,p5,.cells [.ptr (.own 3 0)] 104,recT]
abbrev vN (s:Int):Nd:=ndB false (s+1) 0
abbrev cN (j p:Int):Nd:=ndB true j p
abbrev vV (s:Int):List VV:=[.bool false,I (s+1),I 0]
abbrev cV (j p:Int):List VV:=[.bool true,I j,I p]
def dsL:List Nat:=[0,1,16,17,18,4,5,6,57,58,59]
def VL (p:Pn) (c2:Nat) (i k:Int):List VV:=VO p c2 i ++ [.ptr (.own 10 0),.ptr (.own 11 0),.ptr (.own 12 0),.slice (.el 1 [] 0 0) p.T.length c2,I p.T.length,I k]
def nsL:List Nat:=[0,1,2,3,4,5,6,8,9,10,11,12]
noncomputable def BL (p:Pn) (c1 c2 c3:Nat) (N:List Nd) (d:Nat->Int) (t:Ts):List VB:=BO p c1 c2 c3 N d ++ [.cells (tsL t) 32,.cells (vV t.s) 73,.cells (cV t.j t.p) 73]
def dsS:List Nat:=[0,1,115,116,117]
def VS (p:Pn) (c3:Nat) (i:Int):List VV:=[.yld 9,.ptr (.own 8 0),.slice (.el 2 [] 0 0) p.S.length c3,I p.S.length,I i]
theorem inn_ev (p:Pn) (c1 c2 c3:Nat) (N:List Nd) (d:Nat->Int) (t:Ts) (i k:Int) (X:VEx->List VV->List VB->Prop):codeE Try.prog (callN Try.prog (tabS [limT]) noL 10 20) (fun _=>none) true 10 147 0 (loopB 2 (bodyOf Try.prog 70)) (dsL.zip (VL p c2 i k)) ⟨15,nsL.zip (BL p c1 c2 c3 N d t)⟩ (obs 15 dsL nsL X) =
 (bif decide (k<(↑p.T.length:Int)) then
 bif decide ((0:Int)<=k/\k<(↑p.T.length:Int)) then
 (([]:List Int)=[]/\(0:Int)<=(0:Int)+k/\(0:Int)+k<(↑p.T.length:Int))/\bif !decide ((p.T.getD ((0:Int)+k).toNat t0).j=t.j) then
 bif inK IntKind.i64 (k+(1:Int)) then
 X VEx.normal [VV.yld 9,VV.ptr (VA.own 8 0),VV.slice (VA.el 1 [] (0:Int) 0) p.T.length c2,I (↑p.T.length:Int),I i,VV.ptr (VA.own 10 0),VV.ptr (VA.own 11 0),VV.ptr (VA.own 12 0),VV.slice (VA.el 1 [] (0:Int) 0) p.T.length c2,I (↑p.T.length:Int),I (k+(1:Int))] [arD p,arT p,arS p,pnB p c1 c2 c3,maB N,faB 4 d,p5,VB.cells [VV.ptr (VA.own 3 0)] (104:TypeId),recT,VB.cells [I t.j,I t.s,I t.p,I t.c,I t.o] (32:TypeId),VB.cells [VV.bool false,I (t.s+(1:Int)),I 0] (73:TypeId),VB.cells [VV.bool true,I t.j,I t.p] (73:TypeId)]
 else False
 else bif decide ((p.T.getD ((0:Int)+k).toNat t0).p<=t.p) then
 bif inK IntKind.i64 (k+(1:Int)) then
 X VEx.normal [VV.yld 9,VV.ptr (VA.own 8 0),VV.slice (VA.el 1 [] (0:Int) 0) p.T.length c2,I (↑p.T.length:Int),I i,VV.ptr (VA.own 10 0),VV.ptr (VA.own 11 0),VV.ptr (VA.own 12 0),VV.slice (VA.el 1 [] (0:Int) 0) p.T.length c2,I (↑p.T.length:Int),I (k+(1:Int))] [arD p,arT p,arS p,pnB p c1 c2 c3,maB N,faB 4 d,p5,VB.cells [VV.ptr (VA.own 3 0)] (104:TypeId),recT,VB.cells [I t.j,I t.s,I t.p,I t.c,I t.o] (32:TypeId),VB.cells [VV.bool false,I (t.s+(1:Int)),I 0] (73:TypeId),VB.cells [VV.bool true,I t.j,I t.p] (73:TypeId)]
 else False
 else bif decide ((0:Int)<=t.j/\t.j<(↑p.D.length:Int)) then
 (([]:List Int)=[]/\(0:Int)<=(0:Int)+t.j/\(0:Int)+t.j<(↑p.D.length:Int))/\bif inK IntKind.i64 ((p.T.getD ((0:Int)+k).toNat t0).p - t.p) then
 bif inK IntKind.i64 (p.D.getD ((0:Int)+t.j).toNat (0:Int)*((p.T.getD ((0:Int)+k).toNat t0).p - t.p)) then
 ∃ N_1,((VH.mk (18) ((9,VB.gone)::(17,VB.cells [VV.bool true,I t.j,I t.p,VV.bool true,I (p.T.getD ((0:Int)+k).toNat t0).j,I (p.T.getD ((0:Int)+k).toNat t0).p] 117)::(17,VB.cells [VV.bool false,I 0,I 0,VV.bool false,I 0,I 0] 117)::(16,VB.cells [VV.bool true,I (p.T.getD ((0:Int)+k).toNat t0).j,I (p.T.getD ((0:Int)+k).toNat t0).p] 73)::(16,VB.cells [VV.bool false,I 0,I 0] 73)::(15,VB.cells [I (p.T.getD ((0:Int)+k).toNat t0).j,I (p.T.getD ((0:Int)+k).toNat t0).s,I (p.T.getD ((0:Int)+k).toNat t0).p,I (p.T.getD ((0:Int)+k).toNat t0).c,I (p.T.getD ((0:Int)+k).toNat t0).o] 32)::(15,VB.cells [I 0,I 0,I 0,I 0,I 0] 32)::nsL.zip (BL p c1 c2 c3 N d t))).at 4=maB N_1/\(limN N_1 (ndB true t.j t.p) (ndB true (p.T.getD ((0:Int)+k).toNat t0).j (p.T.getD ((0:Int)+k).toNat t0).p)).length<=65)/\∃ N_2,((VH.mk (19) ((9,VB.gone)::(18,VB.cells [VV.bool true,I (p.T.getD ((0:Int)+k).toNat t0).j,I (p.T.getD ((0:Int)+k).toNat t0).p,VV.bool true,I t.j,I t.p] 117)::(18,VB.cells [VV.bool false,I 0,I 0,VV.bool false,I 0,I 0] 117)::(9,recT)::(5,faB 4 (limD N_1 d (ndB true t.j t.p) (ndB true (p.T.getD ((0:Int)+k).toNat t0).j (p.T.getD ((0:Int)+k).toNat t0).p) (p.D.getD ((0:Int)+t.j).toNat (0:Int)*((p.T.getD ((0:Int)+k).toNat t0).p - t.p))))::(4,maB (limN N_1 (ndB true t.j t.p) (ndB true (p.T.getD ((0:Int)+k).toNat t0).j (p.T.getD ((0:Int)+k).toNat t0).p)))::(9,VB.gone)::(17,VB.cells [VV.bool true,I t.j,I t.p,VV.bool true,I (p.T.getD ((0:Int)+k).toNat t0).j,I (p.T.getD ((0:Int)+k).toNat t0).p] 117)::(17,VB.cells [VV.bool false,I 0,I 0,VV.bool false,I 0,I 0] 117)::(16,VB.cells [VV.bool true,I (p.T.getD ((0:Int)+k).toNat t0).j,I (p.T.getD ((0:Int)+k).toNat t0).p] 73)::(16,VB.cells [VV.bool false,I 0,I 0] 73)::(15,VB.cells [I (p.T.getD ((0:Int)+k).toNat t0).j,I (p.T.getD ((0:Int)+k).toNat t0).s,I (p.T.getD ((0:Int)+k).toNat t0).p,I (p.T.getD ((0:Int)+k).toNat t0).c,I (p.T.getD ((0:Int)+k).toNat t0).o] 32)::(15,VB.cells [I 0,I 0,I 0,I 0,I 0] 32)::nsL.zip (BL p c1 c2 c3 N d t))).at 4=maB N_2/\(limN N_2 (ndB true (p.T.getD ((0:Int)+k).toNat t0).j (p.T.getD ((0:Int)+k).toNat t0).p) (ndB true t.j t.p)).length<=65)/\bif inK IntKind.i64 (k+(1:Int)) then
 X VEx.normal [VV.yld 9,VV.ptr (VA.own 8 0),VV.slice (VA.el 1 [] (0:Int) 0) p.T.length c2,I (↑p.T.length:Int),I i,VV.ptr (VA.own 10 0),VV.ptr (VA.own 11 0),VV.ptr (VA.own 12 0),VV.slice (VA.el 1 [] (0:Int) 0) p.T.length c2,I (↑p.T.length:Int),I (k+(1:Int))] [arD p,arT p,arS p,pnB p c1 c2 c3,VB.map kU (PK.int IntKind.i64) (esOf (limN N_2 (ndB true (p.T.getD ((0:Int)+k).toNat t0).j (p.T.getD ((0:Int)+k).toNat t0).p) (ndB true t.j t.p))),VB.fam [VV.mp 4] 4225 (limD N_2 (limD N_1 d (ndB true t.j t.p) (ndB true (p.T.getD ((0:Int)+k).toNat t0).j (p.T.getD ((0:Int)+k).toNat t0).p) (p.D.getD ((0:Int)+t.j).toNat (0:Int)*((p.T.getD ((0:Int)+k).toNat t0).p - t.p))) (ndB true (p.T.getD ((0:Int)+k).toNat t0).j (p.T.getD ((0:Int)+k).toNat t0).p) (ndB true t.j t.p) (p.D.getD ((0:Int)+t.j).toNat (0:Int)*((p.T.getD ((0:Int)+k).toNat t0).p - t.p))) (93:TypeId),p5,VB.cells [VV.ptr (VA.own 3 0)] (104:TypeId),recT,VB.cells [I t.j,I t.s,I t.p,I t.c,I t.o] (32:TypeId),VB.cells [VV.bool false,I (t.s+(1:Int)),I 0] (73:TypeId),VB.cells [VV.bool true,I t.j,I t.p] (73:TypeId)]
 else False
 else False
 else False
 else False
 else False
 else X (VEx.exit 2) [VV.yld 9,VV.ptr (VA.own 8 0),VV.slice (VA.el 1 [] (0:Int) 0) p.T.length c2,I (↑p.T.length:Int),I i,VV.ptr (VA.own 10 0),VV.ptr (VA.own 11 0),VV.ptr (VA.own 12 0),VV.slice (VA.el 1 [] (0:Int) 0) p.T.length c2,I (↑p.T.length:Int),I k] [arD p,arT p,arS p,pnB p c1 c2 c3,maB N,faB 4 d,p5,VB.cells [VV.ptr (VA.own 3 0)] (104:TypeId),recT,VB.cells [I t.j,I t.s,I t.p,I t.c,I t.o] (32:TypeId),VB.cells [VV.bool false,I (t.s+(1:Int)),I 0] (73:TypeId),VB.cells [VV.bool true,I t.j,I t.p] (73:TypeId)]):=by kernel_rfl
theorem std_ev (p:Pn) (c1 c2 c3:Nat) (N:List Nd) (d:Nat->Int) (i:Int) (X:VEx->List VV->List VB->Prop):codeE Try.prog (callN Try.prog (tabS [limT]) noL 10 20) (fun _=>none) true 10 147 0 (loopB 4 (bodyOf Try.prog 70)) (dsS.zip (VS p c3 i)) ⟨10,nsO.zip (BO p c1 c2 c3 N d)⟩ (obs 10 dsS nsO X) =
 (bif decide (i<(↑p.S.length:Int)) then
 bif decide ((0:Int)<=i/\i<(↑p.S.length:Int)) then
 (([]:List Int)=[]/\(0:Int)<=(0:Int)+i/\(0:Int)+i<(↑p.S.length:Int))/\bif inK IntKind.i64 ((p.S.getD ((0:Int)+i).toNat s0).s+(1:Int)) then
 ∃ N_1,((VH.mk (12) ((9,VB.gone)::(11,VB.cells [VV.bool false,I ((p.S.getD ((0:Int)+i).toNat s0).s+(1:Int)),I 0,VV.bool false,I 0,I 0] 117)::(11,VB.cells [VV.bool false,I 0,I 0,VV.bool false,I 0,I 0] 117)::(10,VB.cells [I (p.S.getD ((0:Int)+i).toNat s0).s,I (p.S.getD ((0:Int)+i).toNat s0).lo,I (p.S.getD ((0:Int)+i).toNat s0).hi] 36)::(10,VB.cells [I 0,I 0,I 0] 36)::nsO.zip (BO p c1 c2 c3 N d))).at 4=maB N_1/\(limN N_1 (ndB false ((p.S.getD ((0:Int)+i).toNat s0).s+(1:Int)) (0:Int)) (ndB false (0:Int) (0:Int))).length<=65)/\bif inK IntKind.i64 ((p.S.getD ((0:Int)+i).toNat s0).s+(1:Int)) then
 bif inK IntKind.i64 ((0:Int) - (p.S.getD ((0:Int)+i).toNat s0).lo) then
 ∃ N_2,((VH.mk (13) ((9,VB.gone)::(12,VB.cells [VV.bool false,I 0,I 0,VV.bool false,I ((p.S.getD ((0:Int)+i).toNat s0).s+(1:Int)),I 0] 117)::(12,VB.cells [VV.bool false,I 0,I 0,VV.bool false,I 0,I 0] 117)::(9,recT)::(5,faB 4 (limD N_1 d (ndB false ((p.S.getD ((0:Int)+i).toNat s0).s+(1:Int)) (0:Int)) (ndB false (0:Int) (0:Int)) (p.S.getD ((0:Int)+i).toNat s0).hi))::(4,maB (limN N_1 (ndB false ((p.S.getD ((0:Int)+i).toNat s0).s+(1:Int)) (0:Int)) (ndB false (0:Int) (0:Int))))::(9,VB.gone)::(11,VB.cells [VV.bool false,I ((p.S.getD ((0:Int)+i).toNat s0).s+(1:Int)),I 0,VV.bool false,I 0,I 0] 117)::(11,VB.cells [VV.bool false,I 0,I 0,VV.bool false,I 0,I 0] 117)::(10,VB.cells [I (p.S.getD ((0:Int)+i).toNat s0).s,I (p.S.getD ((0:Int)+i).toNat s0).lo,I (p.S.getD ((0:Int)+i).toNat s0).hi] 36)::(10,VB.cells [I 0,I 0,I 0] 36)::nsO.zip (BO p c1 c2 c3 N d))).at 4=maB N_2/\(limN N_2 (ndB false (0:Int) (0:Int)) (ndB false ((p.S.getD ((0:Int)+i).toNat s0).s+(1:Int)) (0:Int))).length<=65)/\bif inK IntKind.i64 (i+(1:Int)) then
 X VEx.normal [VV.yld 9,VV.ptr (VA.own 8 0),VV.slice (VA.el 2 [] (0:Int) 0) p.S.length c3,I (↑p.S.length:Int),I (i+(1:Int))] [arD p,arT p,arS p,pnB p c1 c2 c3,VB.map kU (PK.int IntKind.i64) (esOf (limN N_2 (ndB false (0:Int) (0:Int)) (ndB false ((p.S.getD ((0:Int)+i).toNat s0).s+(1:Int)) (0:Int)))),VB.fam [VV.mp 4] 4225 (limD N_2 (limD N_1 d (ndB false ((p.S.getD ((0:Int)+i).toNat s0).s+(1:Int)) (0:Int)) (ndB false (0:Int) (0:Int)) (p.S.getD ((0:Int)+i).toNat s0).hi) (ndB false (0:Int) (0:Int)) (ndB false ((p.S.getD ((0:Int)+i).toNat s0).s+(1:Int)) (0:Int)) ((0:Int) - (p.S.getD ((0:Int)+i).toNat s0).lo)) (93:TypeId),p5,VB.cells [VV.ptr (VA.own 3 0)] (104:TypeId),recT]
 else False
 else False
 else False
 else False
 else False
 else X (VEx.exit 4) [VV.yld 9,VV.ptr (VA.own 8 0),VV.slice (VA.el 2 [] (0:Int) 0) p.S.length c3,I (↑p.S.length:Int),I i] [arD p,arT p,arS p,pnB p c1 c2 c3,maB N,faB 4 d,p5,VB.cells [VV.ptr (VA.own 3 0)] (104:TypeId),recT]):=by kernel_rfl
end Go.Sx.Nos
namespace Go.Sx.Nos
open Go Go.Sx Go.Proofs
set_option maxRecDepth 1000000
abbrev Lk:=Nd × Nd × Int
abbrev St:=List Nd × (Nat->Int)
def stepL (s:St) (l:Lk):St:=(limN s.1 l.1 l.2.1,limD s.1 s.2 l.1 l.2.1 l.2.2)
def dr (p:Pn) (t u:Ts):Int:=p.D.getD t.j.toNat 0*(u.p - t.p)
def lkH (t:Ts):List Lk:=[(vN t.s,cN t.j t.p,t.c+t.o),(cN t.j t.p,vN t.s,t.o - t.c)]
def lkI (p:Pn) (t u:Ts):List Lk:=if u.j=t.j/\t.p<u.p then [(cN t.j t.p,cN u.j u.p,dr p t u),(cN u.j u.p,cN t.j t.p,dr p t u)] else []
def lkT (p:Pn) (t:Ts):List Lk:=lkH t ++ p.T.flatMap (lkI p t)
def lkS (s:Sd):List Lk:=[(vN s.s,zeroN,s.hi),(zeroN,vN s.s,0 - s.lo)]
def links (p:Pn):List Lk:=p.T.flatMap (lkT p) ++ p.S.flatMap lkS
def uni (p:Pn):List Nd:=zeroN::((List.range 16).map fun s=>vN (s:Nat)) ++ p.T.map fun t=>cN t.j t.p
structure Gd (p:Pn) (N:List Nd):Prop where
 nodup:N.Nodup
 sub:∀ x ∈ N,x ∈ uni p
theorem nodup_le {α:Type} [BEq α] [LawfulBEq α]:∀ {l m:List α},l.Nodup->(∀ x ∈ l,x ∈ m)->l.length<=m.length
 | [],_,_,_=>by simp
 | x::r,m,h,hs=>by
  obtain ⟨h1,h2⟩:=List.nodup_cons.1 h
  have hx:=hs x (by simp)
  have:=nodup_le (l:=r) (m:=m.erase x) h2 (fun y hy=>by
   have hne:y ≠ x:=fun e=>h1 (e ▸ hy)
   exact (List.mem_erase_of_ne hne).2 (hs y (by simp [hy])))
  rw [List.length_erase_of_mem hx] at this
  have:=List.length_pos_of_mem hx
  simp only [List.length_cons]
  omega
theorem Gd.le {p:Pn} {N:List Nd} (h:Gd p N) (ht:p.T.length<=48):N.length<=65:=by
 have:=nodup_le h.nodup h.sub
 simp [uni] at this
 omega
theorem Gd.add {p:Pn} {N:List Nd} (h:Gd p N) {x:Nd} (hx:x ∈ uni p):Gd p (addN N x):=by
 unfold addN
 split
 ·exact h
 ·rename_i hn
  refine ⟨List.nodup_append.2 ⟨h.nodup,by simp,fun a ha b hb e=>?_⟩,fun y hy=>?_⟩
  ·simp only [List.mem_singleton] at hb
   subst hb; subst e
   exact hn ha
  ·rcases List.mem_append.1 hy with hy | hy
   ·exact h.sub y hy
   ·simp only [List.mem_singleton] at hy
    subst hy; exact hx
theorem Gd.lim {p:Pn} {N:List Nd} (h:Gd p N) {a b:Nd} (ha:a ∈ uni p) (hb:b ∈ uni p):Gd p (limN N a b):=(h.add ha).add hb
theorem Gd.fold {p:Pn}:∀ {l:List Lk} {s:St},Gd p s.1->(∀ x ∈ l,x.1 ∈ uni p/\x.2.1 ∈ uni p)->Gd p (l.foldl stepL s).1
 | [],_,h,_=>h
 | x::r,s,h,hl=>Gd.fold (l:=r) (s:=stepL s x) (h.lim (hl x (by simp)).1 (hl x (by simp)).2) fun y hy=>hl y (by simp [hy])
theorem uni_z (p:Pn):zeroN ∈ uni p:=by simp [uni]
theorem uni_v (p:Pn) {s:Int} (h:0<=s/\s<=15):vN s ∈ uni p:=by
 unfold uni
 simp only [List.mem_append,List.mem_cons,List.mem_map,List.mem_range]
 refine .inl (.inr ⟨s.toNat,by omega,?_⟩)
 rw [Int.toNat_of_nonneg h.1]
theorem uni_c (p:Pn) {t:Ts} (h:t ∈ p.T):cN t.j t.p ∈ uni p:=by
 unfold uni
 simp only [List.mem_append,List.mem_map]
 exact .inr ⟨t,h,rfl⟩
theorem inB_iff {n lo hi:Int}:inB n lo hi=true ↔ lo<=n/\n<=hi:=by simp [inB]
structure PnOk (p:Pn):Prop where
 d:p.D.length<=8
 t:p.T.length<=48
 s:p.S.length<=16
 dr:∀ x ∈ p.D,0<=x/\x<=1000
 ts:∀ t ∈ p.T,(0<=t.j/\t.j<p.D.length)/\(0<=t.s/\t.s<=15)/\(0<=t.p/\t.p<=1000)/\(-100000<=t.c/\t.c<=100000)/\(0<=t.o/\t.o<=10000)
 sd:∀ s ∈ p.S,(0<=s.s/\s.s<=15)/\-100000<=s.lo/\s.lo<=s.hi/\s.hi<=100000
theorem panB_iff {p:Pn}:panB p=true ↔ PnOk p:=by
 unfold panB
 simp only [Bool.and_eq_true,decide_eq_true_eq,List.all_eq_true]
 have e1:∀ x,dOk x=true ↔ 0<=x/\x<=1000:=fun x=>inB_iff
 have e2:∀ t,tOk p t=true ↔ (0<=t.j/\t.j<p.D.length)/\(0<=t.s/\t.s<=15)/\(0<=t.p/\t.p<=1000)/\(-100000<=t.c/\t.c<=100000)/\(0<=t.o/\t.o<=10000):=fun t=>by
  simp only [tOk,Bool.and_eq_true,inB_iff]
  have:t.j<=(p.D.length:Int) - 1 ↔ t.j<p.D.length:=by omega
  rw [this]
 have e3:∀ s,sOk s=true ↔ (0<=s.s/\s.s<=15)/\-100000<=s.lo/\s.lo<=s.hi/\s.hi<=100000:=fun s=>by simp only [sOk,Bool.and_eq_true,inB_iff,decide_eq_true_eq]
 simp only [e1,e2,e3]
 exact ⟨fun ⟨a,b,c,d,e,f⟩=>⟨a,b,c,d,e,f⟩,fun ⟨a,b,c,d,e,f⟩=>⟨a,b,c,d,e,f⟩⟩
theorem getT {p:Pn} {k:Nat} (h:k<p.T.length):p.T.getD k t0 ∈ p.T/\p.T.drop k=p.T.getD k t0::p.T.drop (k+1):=by
 rw [List.getD_eq_getElem?_getD,List.getElem?_eq_getElem h]
 exact ⟨List.getElem_mem h,List.drop_eq_getElem_cons h⟩
theorem getS {p:Pn} {k:Nat} (h:k<p.S.length):p.S.getD k s0 ∈ p.S/\p.S.drop k=p.S.getD k s0::p.S.drop (k+1):=by
 rw [List.getD_eq_getElem?_getD,List.getElem?_eq_getElem h]
 exact ⟨List.getElem_mem h,List.drop_eq_getElem_cons h⟩
theorem dr_in {p:Pn} (hp:PnOk p) {t u:Ts} (ht:t ∈ p.T) (hu:u ∈ p.T) (hlt:t.p<u.p):0<=dr p t u/\dr p t u<=1000000:=by
 obtain ⟨⟨j0,j1⟩,_,⟨p0,p1⟩,_⟩:=hp.ts t ht
 obtain ⟨_,_,⟨q0,q1⟩,_⟩:=hp.ts u hu
 have hj:t.j.toNat<p.D.length:=by omega
 have hd:=hp.dr (p.D.getD t.j.toNat 0) (by rw [List.getD_eq_getElem?_getD,List.getElem?_eq_getElem hj]; exact List.getElem_mem hj)
 unfold dr
 have h2:0<=u.p - t.p/\u.p - t.p<=1000:=by omega
 exact ⟨Int.mul_nonneg hd.1 h2.1,by
  calc _<=1000*(u.p - t.p):=Int.mul_le_mul_of_nonneg_right hd.2 h2.1
   _<=1000000:=by omega⟩
theorem lkI_uni {p:Pn} {t u:Ts} (ht:t ∈ p.T) (hu:u ∈ p.T):∀ x ∈ lkI p t u,x.1 ∈ uni p/\x.2.1 ∈ uni p:=by
 intro x hx
 unfold lkI at hx
 split at hx
 ·rcases List.mem_cons.1 hx with rfl | hx
  ·exact ⟨uni_c p ht,uni_c p hu⟩
  ·simp only [List.mem_singleton] at hx
   subst hx
   exact ⟨uni_c p hu,uni_c p ht⟩
 ·cases hx
theorem lkH_uni {p:Pn} (hp:PnOk p) {t:Ts} (ht:t ∈ p.T):∀ x ∈ lkH t,x.1 ∈ uni p/\x.2.1 ∈ uni p:=by
 intro x hx
 have hs:=(hp.ts t ht).2.1
 rcases List.mem_cons.1 hx with rfl | hx
 ·exact ⟨uni_v p hs,uni_c p ht⟩
 ·simp only [List.mem_singleton] at hx
  subst hx
  exact ⟨uni_c p ht,uni_v p hs⟩
theorem lkS_uni {p:Pn} (hp:PnOk p) {s:Sd} (h:s ∈ p.S):∀ x ∈ lkS s,x.1 ∈ uni p/\x.2.1 ∈ uni p:=by
 intro x hx
 have hs:=(hp.sd s h).1
 rcases List.mem_cons.1 hx with rfl | hx
 ·exact ⟨uni_v p hs,uni_z p⟩
 ·simp only [List.mem_singleton] at hx
  subst hx
  exact ⟨uni_z p,uni_v p hs⟩
theorem lkT_uni {p:Pn} (hp:PnOk p) {t:Ts} (ht:t ∈ p.T):∀ x ∈ lkT p t,x.1 ∈ uni p/\x.2.1 ∈ uni p:=by
 intro x hx
 rcases List.mem_append.1 hx with hx | hx
 ·exact lkH_uni hp ht x hx
 ·obtain ⟨u,hu,hx⟩:=List.mem_flatMap.1 hx
  exact lkI_uni ht hu x hx
section
variable {p:Pn} {c1 c2 c3:Nat}
theorem tLi_ok:∀ x ∈ [limT],SpOk Try.prog x.1 x.2:=fun x hx=>by
 simp only [List.mem_singleton] at hx
 subst hx
 exact limT_ok
def lInn (p:Pn) (c1 c2 c3:Nat) (t:Ts) (i:Int) (s:St):LT:=fun lock tt h K=>
 FitP lock h tt ⟨15,nsL.zip (BL p c1 c2 c3 s.1 s.2 t)⟩ (dsL.zip (VL p c2 i 0))/\(PnOk p/\t ∈ p.T/\Gd p s.1) /\
  K .normal (dsL.zip (VL p c2 i p.T.length)) ⟨15,nsL.zip (BL p c1 c2 c3 ((p.T.flatMap (lkI p t)).foldl stepL s).1 ((p.T.flatMap (lkI p t)).foldl stepL s).2 t)⟩
theorem lInn_ok {t:Ts} {i:Int} {s:St}:LSound Try.prog true (.block 2 (.loop (loopB 2 (bodyOf Try.prog 70)))) 147 (lInn p c1 c2 c3 t i s):=by
 by_cases hh:PnOk p/\t ∈ p.T
 ·obtain ⟨hp,ht⟩:=hh
  refine loop_row hmix (tab_good hmix tLi_ok (unroll:=10) 20) (un:=10) (ds:=dsL) (ns:=nsL) (nx:=15) (fun s:Nat × St=>VL p c2 i s.1) (fun s=>BL p c1 c2 c3 s.2.1 s.2.2 t) (fun s=>s.1<=p.T.length/\Gd p s.2.1) (fun s=>p.T.length - s.1)
   (fun s e vs bs=>e=.exit 2/\vs=VL p c2 i p.T.length/\bs=BL p c1 c2 c3 (((p.T.drop s.1).flatMap (lkI p t)).foldl stepL s.2).1 (((p.T.drop s.1).flatMap (lkI p t)).foldl stepL s.2).2 t) noL_ok ?_ ?_
  ·rintro ⟨k,N,d⟩ ⟨hk,hg⟩
   dsimp only at hk hg ⊢
   refine cast (inn_ev p c1 c2 c3 N d t i k _).symm ?_
   obtain ⟨⟨j0,j1⟩,_,⟨p0,p1⟩,_⟩:=hp.ts t ht
   by_cases h:k<p.T.length
   ·obtain ⟨hu,hdrop⟩:=getT h
    obtain ⟨_,_,⟨q0,q1⟩,_⟩:=hp.ts _ hu
    have hT:=hp.t
    refine cond_dk (by omega) (cond_dk ⟨by omega,by omega⟩ ⟨⟨rfl,by omega,by omega⟩,?_⟩)
    rw [zero_toNat]
    have skip:lkI p t (p.T.getD k t0)=[]->RoundQ (fun s:Nat × St=>VL p c2 i s.1) (fun s=>BL p c1 c2 c3 s.2.1 s.2.2 t) (fun s=>s.1<=p.T.length/\Gd p s.2.1) (fun s=>p.T.length - s.1)
      (fun s e vs bs=>e=.exit 2/\vs=VL p c2 i p.T.length/\bs=BL p c1 c2 c3 (((p.T.drop s.1).flatMap (lkI p t)).foldl stepL s.2).1 (((p.T.drop s.1).flatMap (lkI p t)).foldl stepL s.2).2 t) (k,N,d) .normal (VL p c2 i (k+1)) (BL p c1 c2 c3 N d t):=fun he=>
     ⟨(k+1,N,d),⟨by dsimp only; omega,hg⟩,by dsimp only; omega,vst (V:=VL p c2 i) k,fitBs_refl _,fun e vs bs ho=>by
      dsimp only at ho ⊢
      rw [hdrop,List.flatMap_cons,he,List.nil_append]
      exact ho⟩
    refine cond_nd (fun hj=>cond_r (by omega) (skip (by unfold lkI; rw [if_neg (fun e=>hj e.1)]))) (fun hj=>cond_d (fun hq=>cond_r (by omega) (skip (by unfold lkI; rw [if_neg (by omega)]))) (fun hq=>?_))
    rw [Int.zero_add]
    have hlt:t.p<(p.T.getD k t0).p:=by omega
    have hdr:=dr_in hp ht hu hlt
    unfold dr at hdr
    have g1:=hg.lim (uni_c p ht) (uni_c p hu)
    have g2:=g1.lim (uni_c p hu) (uni_c p ht)
    have he:lkI p t (p.T.getD k t0)=[(cN t.j t.p,cN (p.T.getD k t0).j (p.T.getD k t0).p,dr p t (p.T.getD k t0)),(cN (p.T.getD k t0).j (p.T.getD k t0).p,cN t.j t.p,dr p t (p.T.getD k t0))]:=by unfold lkI; rw [if_pos ⟨hj,hlt⟩]
    refine cond_dk ⟨j0,j1⟩ ⟨⟨rfl,j0,j1⟩,cond_r (by omega) (cond_r (by omega) ⟨N,⟨rfl,g1.le hT⟩,_,⟨rfl,g2.le hT⟩,cond_r (by omega) ?_⟩)⟩
    refine ⟨(k+1,stepL (stepL (N,d) (cN t.j t.p,cN (p.T.getD k t0).j (p.T.getD k t0).p,dr p t (p.T.getD k t0))) (cN (p.T.getD k t0).j (p.T.getD k t0).p,cN t.j t.p,dr p t (p.T.getD k t0))),⟨by dsimp only; omega,g2⟩,by dsimp only; omega,vst (V:=VL p c2 i) k,fitBs_refl _,fun e vs bs ho=>?_⟩
    dsimp only at ho ⊢
    rw [hdrop,List.flatMap_cons,he]
    exact ho
   ·have:k=p.T.length:=by omega
    subst this
    refine cond_d (fun h=>by omega) (fun _=>⟨rfl,rfl,?_⟩)
    rw [List.drop_length]
    rfl
  ·rintro lock tt h K ⟨hf,⟨_,_,hg⟩,hK⟩
   refine ⟨(0,s),hf,⟨Nat.zero_le _,hg⟩,?_⟩
   rintro x vs bs ⟨rfl,rfl,rfl⟩
   exact hK
 ·rintro lock tt h K ⟨_,hc,_⟩
  exact (hh ⟨hc.1,hc.2.1⟩).elim
end
end Go.Sx.Nos
namespace Go.Sx.Nos
open Go Go.Sx Go.Proofs
set_option maxRecDepth 1000000
abbrev getI (p:Pn) (i:Int):Ts:=p.T.getD ((0:Int)+i).toNat t0
theorem out_ev (p:Pn) (c1 c2 c3:Nat) (N:List Nd) (d:Nat->Int) (s:St) (i:Int) (X:VEx->List VV->List VB->Prop):codeE Try.prog (callN Try.prog (tabS [limT]) noL 10 20) (tabB [(2,lInn p c1 c2 c3 (getI p i) i s)]) true 10 147 0 (loopB 0 (bodyOf Try.prog 70)) (dsO.zip (VO p c2 i)) ⟨10,nsO.zip (BO p c1 c2 c3 N d)⟩ (obs 10 dsO nsO X) =
 (bif decide (i<(↑p.T.length:Int)) then
 bif decide ((0:Int)<=i/\i<(↑p.T.length:Int)) then
 (([]:List Int)=[]/\(0:Int)<=(0:Int)+i/\(0:Int)+i<(↑p.T.length:Int))/\bif inK IntKind.i64 ((getI p i).s+(1:Int)) then
 bif inK IntKind.i64 ((getI p i).c+(getI p i).o) then
 ∃ N_1,((VH.mk (14) ((9,VB.gone)::(13,VB.cells [VV.bool false,I ((getI p i).s+(1:Int)),I 0,VV.bool true,I (getI p i).j,I (getI p i).p] 117)::(13,VB.cells [VV.bool false,I 0,I 0,VV.bool false,I 0,I 0] 117)::(12,VB.cells [VV.bool true,I (getI p i).j,I (getI p i).p] 73)::(11,VB.cells [VV.bool false,I ((getI p i).s+(1:Int)),I 0] 73)::(12,VB.cells [VV.bool false,I 0,I 0] 73)::(11,VB.cells [VV.bool false,I 0,I 0] 73)::(10,VB.cells [I (getI p i).j,I (getI p i).s,I (getI p i).p,I (getI p i).c,I (getI p i).o] 32)::(10,VB.cells [I 0,I 0,I 0,I 0,I 0] 32)::nsO.zip (BO p c1 c2 c3 N d))).at 4=maB N_1/\(limN N_1 (ndB false ((getI p i).s+(1:Int)) (0:Int)) (ndB true (getI p i).j (getI p i).p)).length<=65)/\bif inK IntKind.i64 ((getI p i).o - (getI p i).c) then
 ∃ N_2,((VH.mk (15) ((9,VB.gone)::(14,VB.cells [VV.bool true,I (getI p i).j,I (getI p i).p,VV.bool false,I ((getI p i).s+(1:Int)),I 0] 117)::(14,VB.cells [VV.bool false,I 0,I 0,VV.bool false,I 0,I 0] 117)::(9,recT)::(5,faB 4 (limD N_1 d (ndB false ((getI p i).s+(1:Int)) (0:Int)) (ndB true (getI p i).j (getI p i).p) ((getI p i).c+(getI p i).o)))::(4,maB (limN N_1 (ndB false ((getI p i).s+(1:Int)) (0:Int)) (ndB true (getI p i).j (getI p i).p)))::(9,VB.gone)::(13,VB.cells [VV.bool false,I ((getI p i).s+(1:Int)),I 0,VV.bool true,I (getI p i).j,I (getI p i).p] 117)::(13,VB.cells [VV.bool false,I 0,I 0,VV.bool false,I 0,I 0] 117)::(12,VB.cells [VV.bool true,I (getI p i).j,I (getI p i).p] 73)::(11,VB.cells [VV.bool false,I ((getI p i).s+(1:Int)),I 0] 73)::(12,VB.cells [VV.bool false,I 0,I 0] 73)::(11,VB.cells [VV.bool false,I 0,I 0] 73)::(10,VB.cells [I (getI p i).j,I (getI p i).s,I (getI p i).p,I (getI p i).c,I (getI p i).o] 32)::(10,VB.cells [I 0,I 0,I 0,I 0,I 0] 32)::nsO.zip (BO p c1 c2 c3 N d))).at 4=maB N_2/\(limN N_2 (ndB true (getI p i).j (getI p i).p) (ndB false ((getI p i).s+(1:Int)) (0:Int))).length<=65)/\FitP 0 (VH.mk (15) ((9,recT)::(5,faB 4 (limD N_2 (limD N_1 d (ndB false ((getI p i).s+(1:Int)) (0:Int)) (ndB true (getI p i).j (getI p i).p) ((getI p i).c+(getI p i).o)) (ndB true (getI p i).j (getI p i).p) (ndB false ((getI p i).s+(1:Int)) (0:Int)) ((getI p i).o - (getI p i).c)))::(4,maB (limN N_2 (ndB true (getI p i).j (getI p i).p) (ndB false ((getI p i).s+(1:Int)) (0:Int))))::(9,VB.gone)::(14,VB.cells [VV.bool true,I (getI p i).j,I (getI p i).p,VV.bool false,I ((getI p i).s+(1:Int)),I 0] 117)::(14,VB.cells [VV.bool false,I 0,I 0,VV.bool false,I 0,I 0] 117)::(9,recT)::(5,faB 4 (limD N_1 d (ndB false ((getI p i).s+(1:Int)) (0:Int)) (ndB true (getI p i).j (getI p i).p) ((getI p i).c+(getI p i).o)))::(4,maB (limN N_1 (ndB false ((getI p i).s+(1:Int)) (0:Int)) (ndB true (getI p i).j (getI p i).p)))::(9,VB.gone)::(13,VB.cells [VV.bool false,I ((getI p i).s+(1:Int)),I 0,VV.bool true,I (getI p i).j,I (getI p i).p] 117)::(13,VB.cells [VV.bool false,I 0,I 0,VV.bool false,I 0,I 0] 117)::(12,VB.cells [VV.bool true,I (getI p i).j,I (getI p i).p] 73)::(11,VB.cells [VV.bool false,I ((getI p i).s+(1:Int)),I 0] 73)::(12,VB.cells [VV.bool false,I 0,I 0] 73)::(11,VB.cells [VV.bool false,I 0,I 0] 73)::(10,VB.cells [I (getI p i).j,I (getI p i).s,I (getI p i).p,I (getI p i).c,I (getI p i).o] 32)::(10,VB.cells [I 0,I 0,I 0,I 0,I 0] 32)::nsO.zip (BO p c1 c2 c3 N d))) ((59,I 0)::(58,I (↑p.T.length:Int))::(57,VV.slice (VA.el 1 [] (0:Int) 0) p.T.length c2)::(56,VV.ptr (VA.own 3 (1)))::(55,VV.ptr (VA.own 3 0))::(54,VV.ptr (VA.own 3 0))::(53,VV.bool false)::(53,VV.bool !true)::(52,VV.bool !true)::(41,VV.bool false)::(51,VV.bool true)::(41,VV.bool false)::(50,I ((getI p i).o - (getI p i).c))::(41,VV.bool false)::(49,I (getI p i).c)::(41,VV.bool false)::(48,VV.ptr (VA.own (10) (3)))::(41,VV.bool false)::(47,I (getI p i).o)::(41,VV.bool false)::(46,VV.ptr (VA.own (10) (4)))::(41,VV.bool false)::(45,VV.agg [VV.bool true,I (getI p i).j,I (getI p i).p,VV.bool false,I ((getI p i).s+(1:Int)),I 0])::(41,VV.bool false)::(44,VV.agg [VV.bool false,I ((getI p i).s+(1:Int)),I 0])::(41,VV.bool false)::(43,VV.agg [VV.bool true,I (getI p i).j,I (getI p i).p])::(41,VV.bool false)::(42,VV.yld 9)::(41,VV.bool false)::(41,VV.bool !true)::(40,VV.bool !true)::(39,VV.bool true)::(38,I ((getI p i).c+(getI p i).o))::(37,I (getI p i).o)::(36,VV.ptr (VA.own (10) (4)))::(35,I (getI p i).c)::(34,VV.ptr (VA.own (10) (3)))::(33,VV.agg [VV.bool false,I ((getI p i).s+(1:Int)),I 0,VV.bool true,I (getI p i).j,I (getI p i).p])::(32,VV.agg [VV.bool true,I (getI p i).j,I (getI p i).p])::(31,VV.agg [VV.bool false,I ((getI p i).s+(1:Int)),I 0])::(30,VV.yld 9)::(6,VV.ptr (VA.own (12) 0))::(5,VV.ptr (VA.own (11) 0))::(29,VV.agg [VV.bool true,I (getI p i).j,I (getI p i).p])::(28,I (getI p i).p)::(27,VV.ptr (VA.own (10) (2)))::(26,I (getI p i).j)::(25,VV.ptr (VA.own (10) 0))::(24,VV.agg [VV.bool false,I ((getI p i).s+(1:Int)),I 0])::(23,I (getI p i).s)::(22,VV.ptr (VA.own (10) (1)))::(4,VV.ptr (VA.own (10) 0))::(21,VV.agg [I (getI p i).j,I (getI p i).s,I (getI p i).p,I (getI p i).c,I (getI p i).o])::(20,VV.ptr (VA.el 1 [] ((0:Int)+i) 0))::(19,VV.bool true)::(19,VV.bool (decide (i<(↑p.T.length:Int))))::dsO.zip (VO p c2 i)) (VH.mk 15 (nsL.zip (BL p c1 c2 c3 s.fst s.snd (getI p i)))) (dsL.zip (VL p c2 i (0:Int)))/\(PnOk p/\getI p i ∈ p.T/\Gd p s.fst)/\bif inK IntKind.i64 (i+(1:Int)) then
 X VEx.normal [VV.yld 9,VV.ptr (VA.own 8 0),VV.slice (VA.el 1 [] (0:Int) 0) p.T.length c2,I (↑p.T.length:Int),I (i+(1:Int))] [arD p,arT p,arS p,pnB p c1 c2 c3,VB.map kU (PK.int IntKind.i64) (esOf (List.foldl stepL s (List.flatMap (lkI p (getI p i)) p.T)).fst),VB.fam [VV.mp 4] 4225 (List.foldl stepL s (List.flatMap (lkI p (getI p i)) p.T)).snd (93:TypeId),p5,VB.cells [VV.ptr (VA.own 3 0)] (104:TypeId),recT]
 else False
 else False
 else False
 else False
 else False
 else X (VEx.exit 0) [VV.yld 9,VV.ptr (VA.own 8 0),VV.slice (VA.el 1 [] (0:Int) 0) p.T.length c2,I (↑p.T.length:Int),I i] [arD p,arT p,arS p,pnB p c1 c2 c3,maB N,faB 4 d,p5,VB.cells [VV.ptr (VA.own 3 0)] (104:TypeId),recT]):=by kernel_rfl
end Go.Sx.Nos
namespace Go.Sx.Nos
open Go Go.Sx Go.Proofs
set_option maxRecDepth 1000000
def stp (l:List Lk) (s:St):St:=l.foldl stepL s
theorem stp_app (a b:List Lk) (s:St):stp (a ++ b) s=stp b (stp a s):=List.foldl_append ..
section
variable {p:Pn} {c1 c2 c3:Nat}
def lOut (p:Pn) (c1 c2 c3:Nat) (s:St):LT:=fun lock tt h K=>
 FitP lock h tt ⟨10,nsO.zip (BO p c1 c2 c3 s.1 s.2)⟩ (dsO.zip (VO p c2 0))/\(PnOk p/\Gd p s.1) /\
  K .normal (dsO.zip (VO p c2 p.T.length)) ⟨10,nsO.zip (BO p c1 c2 c3 (stp (p.T.flatMap (lkT p)) s).1 (stp (p.T.flatMap (lkT p)) s).2)⟩
def oOut (p:Pn) (c1 c2 c3:Nat) (s:Nat × St) (e:VEx) (vs:List VV) (bs:List VB):Prop:=
 e=.exit 0/\vs=VO p c2 p.T.length/\bs=BO p c1 c2 c3 (stp ((p.T.drop s.1).flatMap (lkT p)) s.2).1 (stp ((p.T.drop s.1).flatMap (lkT p)) s.2).2
theorem lsp_inn {t:Ts} {i:Int} {s:St}:∀ id T,tabB [(2,lInn p c1 c2 c3 t i s)] id=some T->∀ b' ∈ blocksOf id (loopB 0 (bodyOf Try.prog 70)),LSound Try.prog true (.block id b') 147 T:=by
 intro id T hT b' hb
 simp only [tabB] at hT
 cases hid:Nat.beq id 2 with
 | false=>rw [hid] at hT; cases hT
 | true=>
  rw [hid] at hT
  have:=Nat.eq_of_beq_eq_true hid
  subst this
  cases hT
  have h2:blocksOf 2 (loopB 0 (bodyOf Try.prog 70))=[.loop (loopB 2 (bodyOf Try.prog 70))]:=by kernel_rfl
  rw [h2] at hb
  simp only [List.mem_singleton] at hb
  subst hb
  exact lInn_ok
theorem lOut_ok {s:St}:LSound Try.prog true (.block 0 (.loop (loopB 0 (bodyOf Try.prog 70)))) 147 (lOut p c1 c2 c3 s):=by
 by_cases hp:PnOk p
 ·refine loop_rowD hmix (tab_good hmix tLi_ok (unroll:=10) 20) (un:=10) (ds:=dsO) (ns:=nsO) (nx:=10) (lsp:=fun s:Nat × St=>tabB [(2,lInn p c1 c2 c3 (getI p s.1) s.1 (stp (lkH (getI p s.1)) s.2))]) (fun s=>VO p c2 s.1) (fun s=>BO p c1 c2 c3 s.2.1 s.2.2) (fun s=>s.1<=p.T.length/\Gd p s.2.1) (fun s=>p.T.length - s.1)
   (oOut p c1 c2 c3) (fun _ _=>lsp_inn) ?_ ?_
  ·rintro ⟨k,N,d⟩ ⟨hk,hg⟩
   dsimp only at hk hg ⊢
   refine cast (out_ev p c1 c2 c3 N d _ k _).symm ?_
   by_cases h:k<p.T.length
   ·obtain ⟨ht,hdrop⟩:=getT h
    have hT:=hp.t
    have hgi:getI p k=p.T.getD k t0:=by unfold getI; rw [zero_toNat]
    rw [<- hgi] at ht hdrop
    obtain ⟨_,⟨s0,s1⟩,_,⟨e0,e1⟩,⟨o0,o1⟩⟩:=hp.ts _ ht
    have g1:=hg.lim (uni_v p ⟨s0,s1⟩) (uni_c p ht)
    have g2:=g1.lim (uni_c p ht) (uni_v p ⟨s0,s1⟩)
    refine cond_dk (by omega) (cond_dk ⟨by omega,by omega⟩ ⟨⟨rfl,by omega,by omega⟩,cond_r (by omega) (cond_r (by omega) ⟨N,⟨rfl,g1.le hT⟩,cond_r (by omega) ⟨_,⟨rfl,g2.le hT⟩,?_⟩⟩)⟩)
    refine ⟨⟨⟨rfl,rfl,VB.fit_refl _,VB.fit_refl _,VB.fit_refl _,VB.fit_refl _,VB.fit_refl _,VB.fit_refl _,VB.fit_refl _,VB.fit_refl _,VB.fit_refl _,VB.fit_refl _,VB.fit_refl _,VB.fit_refl _,trivial⟩,rfl,rfl,rfl,rfl,rfl,rfl,rfl,rfl,rfl,rfl,rfl,trivial⟩,⟨hp,ht,g2⟩,cond_r (by omega) ?_⟩
    refine ⟨(k+1,stp (p.T.flatMap (lkI p (getI p k))) (stp (lkH (getI p k)) (N,d))),⟨by dsimp only; omega,?_⟩,by dsimp only; omega,vst (V:=VO p c2) k,fitBs_refl _,fun e vs bs ho=>?_⟩
    ·exact Gd.fold g2 fun x hx=>by
      obtain ⟨u,hu,hx⟩:=List.mem_flatMap.1 hx
      exact lkI_uni ht hu x hx
    ·unfold oOut at ho ⊢
     dsimp only at ho ⊢
     rw [hdrop,List.flatMap_cons,stp_app]
     show _/\_/\bs=BO p c1 c2 c3 (stp _ (stp (lkH (getI p k) ++ p.T.flatMap (lkI p (getI p k))) (N,d))).1 (stp _ (stp (lkH (getI p k) ++ p.T.flatMap (lkI p (getI p k))) (N,d))).2
     rw [stp_app]
     exact ho
   ·have:k=p.T.length:=by omega
    subst this
    refine cond_d (fun h=>by omega) (fun _=>⟨rfl,rfl,?_⟩)
    dsimp only
    rw [List.drop_length]
    rfl
  ·rintro lock tt h K ⟨hf,⟨_,hg⟩,hK⟩
   refine ⟨(0,s),hf,⟨Nat.zero_le _,hg⟩,?_⟩
   rintro x vs bs ⟨rfl,rfl,rfl⟩
   exact hK
 ·rintro lock tt h K ⟨_,hc,_⟩
  exact (hp hc.1).elim
def lStd (p:Pn) (c1 c2 c3:Nat) (s:St):LT:=fun lock tt h K=>
 FitP lock h tt ⟨10,nsO.zip (BO p c1 c2 c3 s.1 s.2)⟩ (dsS.zip (VS p c3 0))/\(PnOk p/\Gd p s.1) /\
  K .normal (dsS.zip (VS p c3 p.S.length)) ⟨10,nsO.zip (BO p c1 c2 c3 (stp (p.S.flatMap lkS) s).1 (stp (p.S.flatMap lkS) s).2)⟩
def oStd (p:Pn) (c1 c2 c3:Nat) (s:Nat × St) (e:VEx) (vs:List VV) (bs:List VB):Prop:=
 e=.exit 4/\vs=VS p c3 p.S.length/\bs=BO p c1 c2 c3 (stp ((p.S.drop s.1).flatMap lkS) s.2).1 (stp ((p.S.drop s.1).flatMap lkS) s.2).2
theorem lStd_ok {s:St}:LSound Try.prog true (.block 4 (.loop (loopB 4 (bodyOf Try.prog 70)))) 147 (lStd p c1 c2 c3 s):=by
 by_cases hp:PnOk p
 ·refine loop_row hmix (tab_good hmix tLi_ok (unroll:=10) 20) (un:=10) (ds:=dsS) (ns:=nsO) (nx:=10) (fun s:Nat × St=>VS p c3 s.1) (fun s=>BO p c1 c2 c3 s.2.1 s.2.2) (fun s=>s.1<=p.S.length/\Gd p s.2.1) (fun s=>p.S.length - s.1)
   (oStd p c1 c2 c3) noL_ok ?_ ?_
  ·rintro ⟨k,N,d⟩ ⟨hk,hg⟩
   dsimp only at hk hg ⊢
   refine cast (std_ev p c1 c2 c3 N d k _).symm ?_
   by_cases h:k<p.S.length
   ·obtain ⟨hs,hdrop⟩:=getS h
    have hT:=hp.t
    have hS:=hp.s
    obtain ⟨⟨s0,s1⟩,l0,l1,l2⟩:=hp.sd _ hs
    have g1:=hg.lim (uni_v p ⟨s0,s1⟩) (uni_z p)
    have g2:=g1.lim (uni_z p) (uni_v p ⟨s0,s1⟩)
    refine cond_dk (by omega) (cond_dk ⟨by omega,by omega⟩ ⟨⟨rfl,by omega,by omega⟩,?_⟩)
    rw [zero_toNat]
    refine cond_r (by omega) ⟨N,⟨rfl,g1.le hT⟩,cond_r (by omega) (cond_r (by omega) ⟨_,⟨rfl,g2.le hT⟩,cond_r (by omega) ?_⟩)⟩
    refine ⟨(k+1,stp (lkS (p.S.getD k Nos.s0)) (N,d)),⟨by dsimp only; omega,g2⟩,by dsimp only; omega,vst (V:=VS p c3) k,fitBs_refl _,fun e vs bs ho=>?_⟩
    unfold oStd at ho ⊢
    dsimp only at ho ⊢
    rw [hdrop,List.flatMap_cons,stp_app]
    exact ho
   ·have:k=p.S.length:=by omega
    subst this
    refine cond_d (fun h=>by omega) (fun _=>⟨rfl,rfl,?_⟩)
    dsimp only
    rw [List.drop_length]
    rfl
  ·rintro lock tt h K ⟨hf,⟨_,hg⟩,hK⟩
   refine ⟨(0,s),hf,⟨Nat.zero_le _,hg⟩,?_⟩
   rintro x vs bs ⟨rfl,rfl,rfl⟩
   exact hK
 ·rintro lock tt h K ⟨_,hc,_⟩
  exact (hp hc.1).elim
end
end Go.Sx.Nos
namespace Go.Sx.Nos
open Go Go.Sx Go.Proofs
set_option maxRecDepth 1000000
def dsK:List Nat:=[3,9,60,61,10,64,65,11,12,78,79]
def VK (n m i f k:Int):List VV:=[.ptr (.own 6 0),I n,I n,I m,I m,I n,I i,I i,I f,I n,I k]
def nsK:List Nat:=[0,1,2,3,4,5,6]
def BK (p:Pn) (c1 c2 c3:Nat) (N:List Nd) (d:Nat->Int):List VB:=BP p c1 c2 c3 ++ [maB N,faB 4 d,p5]
def dsC:List Nat:=[3,9,60,61,10,113,114]
def VC (n m i:Int):List VV:=[.ptr (.own 6 0),I n,I n,I m,I m,I n,I i]
theorem k_ev (p:Pn) (c1 c2 c3:Nat) (N:List Nd) (d:Nat->Int) (n m i f k:Int) (X:VEx->List VV->List VB->Prop):codeE Try.prog (callN Try.prog noSpec noL 10 20) (fun _=>none) true 10 131 0 (loopB 10 (bodyOf Try.prog 63)) (dsK.zip (VK n m i f k)) ⟨10,nsK.zip (BK p c1 c2 c3 N d)⟩ (obs 10 dsK nsK X) =
 (bif decide (k<n) then
 bif decide ((0:Int)<=m/\m<(↑65:Int)) then
 bif decide ((0:Int)<=k/\k<(↑65:Int)) then
 bif decide (m.toNat*(65)+k.toNat*(1)<4225) then
 bif decide (d (m.toNat*(65)+k.toNat*(1))<(1125899906842624:Int)) then
 bif decide ((0:Int)<=i/\i<(↑65:Int)) then
 bif decide ((0:Int)<=k/\k<(↑65:Int)) then
 bif decide (i.toNat*(65)+k.toNat*(1)<4225) then
 bif inK IntKind.i64 (f+d (m.toNat*(65)+k.toNat*(1))) then
 bif decide ((0:Int)<=i/\i<(↑65:Int)) then
 bif decide ((0:Int)<=k/\k<(↑65:Int)) then
 bif decide (i.toNat*(65)+k.toNat*(1)+(1)<=4225) then
 bif inK IntKind.i64 (k+(1:Int)) then
 X VEx.normal [VV.ptr (VA.own 6 0),I n,I n,I m,I m,I n,I i,I i,I f,I n,I (k+(1:Int))] [arD p,arT p,arS p,pnB p c1 c2 c3,maB N,VB.fam [VV.mp 4] 4225 (setF d (i.toNat*(65)+k.toNat*(1)) [min (d (i.toNat*(65)+k.toNat*(1))) (f+d (m.toNat*(65)+k.toNat*(1)))]) (93:TypeId),p5]
 else False
 else False
 else False
 else False
 else False
 else False
 else False
 else False
 else bif inK IntKind.i64 (k+(1:Int)) then
 X VEx.normal [VV.ptr (VA.own 6 0),I n,I n,I m,I m,I n,I i,I i,I f,I n,I (k+(1:Int))] [arD p,arT p,arS p,pnB p c1 c2 c3,maB N,faB 4 d,p5]
 else False
 else False
 else False
 else False
 else X (VEx.exit 10) [VV.ptr (VA.own 6 0),I n,I n,I m,I m,I n,I i,I i,I f,I n,I k] [arD p,arT p,arS p,pnB p c1 c2 c3,maB N,faB 4 d,p5]):=by kernel_rfl
theorem c_ev (p:Pn) (c1 c2 c3:Nat) (N:List Nd) (d:Nat->Int) (n m i:Int) (X:VEx->List VV->List VB->Prop):codeE Try.prog (callN Try.prog noSpec noL 10 20) (fun _=>none) true 10 131 0 (loopB 12 (bodyOf Try.prog 63)) (dsC.zip (VC n m i)) ⟨10,nsK.zip (BK p c1 c2 c3 N d)⟩ (obs 10 dsC nsK X) =
 (bif decide (i<n) then
 bif decide ((0:Int)<=i/\i<(↑65:Int)) then
 bif decide ((0:Int)<=i/\i<(↑65:Int)) then
 bif decide (i.toNat*(65)+i.toNat*(1)<4225) then
 bif decide (d (i.toNat*(65)+i.toNat*(1))<(0:Int)) then
 X (VEx.panic (VV.iface 108 (VV.agg []))) [VV.ptr (VA.own 6 0),I n,I n,I m,I m,I n,I i] [arD p,arT p,arS p,pnB p c1 c2 c3,maB N,faB 4 d,p5]
 else bif inK IntKind.i64 (i+(1:Int)) then
 X VEx.normal [VV.ptr (VA.own 6 0),I n,I n,I m,I m,I n,I (i+(1:Int))] [arD p,arT p,arS p,pnB p c1 c2 c3,maB N,faB 4 d,p5]
 else False
 else False
 else False
 else False
 else X (VEx.exit 12) [VV.ptr (VA.own 6 0),I n,I n,I m,I m,I n,I i] [arD p,arT p,arS p,pnB p c1 c2 c3,maB N,faB 4 d,p5]):=by kernel_rfl
end Go.Sx.Nos
namespace Go.Sx.Nos
open Go Go.Sx Go.Proofs
set_option maxRecDepth 1000000
def kF (m i:Nat) (f:Int) (c:Nat) (d:Nat->Int):Nat->Int:=fun x=>
 if i*65<=x/\x<i*65+c then (if d (m*65+(x - i*65))<WW then min (d x) (f+d (m*65+(x - i*65))) else d x) else d x
def iF (n m:Nat) (c:Nat) (d:Nat->Int):Nat->Int:=fun x=>
 if x / 65<c/\x % 65<n then (if d (x / 65*65+m) ≠ WW/\d (m*65+x % 65)<WW then min (d x) (d (x / 65*65+m)+d (m*65+x % 65)) else d x) else d x
def fwN (n:Nat):Nat->(Nat->Int)->Nat->Int
 | 0,d=>d
 | m+1,d=>iF n m n (fwN n m d)
def badD (n:Nat) (d:Nat->Int):Prop:=∃ i,i<n/\d (i*65+i)<0
structure i64 (x:Int):Prop where
 lo : -9223372036854775808<=x
 hi:x<=9223372036854775807
theorem kF_0 (m i:Nat) (f:Int) (d:Nat->Int):kF m i f 0 d=d:=by
 funext x
 unfold kF
 rw [if_neg (by omega)]
theorem kF_s {m i k:Nat} {f:Int} {d:Nat->Int} (hk:k<65) (h:d (m*65+k)<WW) :
  setF (kF m i f k d) (i*65+k) [min (kF m i f k d (i*65+k)) (f+kF m i f k d (m*65+k))]=kF m i f (k+1) d:=by
 have e1:kF m i f k d (i*65+k)=d (i*65+k):=by unfold kF; rw [if_neg (by omega)]
 have e2:kF m i f k d (m*65+k)=d (m*65+k):=by unfold kF; rw [if_neg (by omega)]
 funext x
 rw [e1,e2,setF_eq]
 simp only [List.length_singleton]
 by_cases hx:x=i*65+k
 ·subst hx
  rw [if_pos (by omega)]
  unfold kF
  rw [if_pos (by omega),show i*65+k - i*65=k by omega,if_pos h]
  simp
 ·rw [if_neg (by omega)]
  unfold kF
  by_cases h2:i*65<=x/\x<i*65+k
  ·rw [if_pos h2,if_pos (show i*65<=x/\x<i*65+(k+1) by omega)]
  ·rw [if_neg h2,if_neg (show ¬ (i*65<=x/\x<i*65+(k+1)) by omega)]
theorem kF_n {m i k:Nat} {f:Int} {d:Nat->Int} (h:¬ d (m*65+k)<WW):kF m i f k d=kF m i f (k+1) d:=by
 funext x
 unfold kF
 by_cases hx:x=i*65+k
 ·subst hx
  rw [if_neg (by omega),if_pos (by omega),show i*65+k - i*65=k by omega,if_neg h]
 ·by_cases h2:i*65<=x/\x<i*65+k
  ·rw [if_pos h2,if_pos (show i*65<=x/\x<i*65+(k+1) by omega)]
  ·rw [if_neg h2,if_neg (show ¬ (i*65<=x/\x<i*65+(k+1)) by omega)]
theorem kF_at {m i k:Nat} {f:Int} {d:Nat->Int} (hk:k<65):kF m i f k d (m*65+k)=d (m*65+k):=by
 unfold kF; rw [if_neg (by omega)]
theorem iF_0 (n m:Nat) (d:Nat->Int):iF n m 0 d=d:=by
 funext x
 unfold iF
 rw [if_neg (by omega)]
theorem iF_row {n m c k:Nat} {d:Nat->Int} (hn:n<=65) (_:m<n) (hz:d (m*65+m)=0) (hk:k<n):iF n m c d (m*65+k)=d (m*65+k):=by
 have e1:(m*65+k) / 65=m:=by omega
 have e2:(m*65+k) % 65=k:=by omega
 unfold iF
 rw [e1,e2,hz]
 split
 ·split
  ·omega
  ·rfl
 ·rfl
theorem iF_s {n m i:Nat} {d:Nat->Int} (hn:n<=65) (hm:m<n) (_:i<n) (hz:d (m*65+m)=0) :
  (if iF n m i d (i*65+m)=WW then iF n m i d else kF m i (iF n m i d (i*65+m)) n (iF n m i d))=iF n m (i+1) d:=by
 have e0:∀ k,k<n->iF n m i d (i*65+k)=d (i*65+k):=fun k hk=>by unfold iF; rw [if_neg (by omega)]
 rw [e0 m hm]
 have rest:∀ x,¬ (i*65<=x/\x<i*65+n)->iF n m i d x=iF n m (i+1) d x:=fun x hx=>by
  unfold iF
  by_cases h:x / 65<i/\x % 65<n
  ·rw [if_pos h,if_pos (show x / 65<i+1/\x % 65<n by omega)]
  ·rw [if_neg h,if_neg (show ¬ (x / 65<i+1/\x % 65<n) by omega)]
 have row:∀ k,k<n->iF n m (i+1) d (i*65+k)=if d (i*65+m) ≠ WW/\d (m*65+k)<WW then min (d (i*65+k)) (d (i*65+m)+d (m*65+k)) else d (i*65+k):=fun k hk=>by
  have e1:(i*65+k) / 65=i:=by omega
  have e2:(i*65+k) % 65=k:=by omega
  unfold iF
  rw [e1,e2,if_pos (by omega)]
 by_cases hw:d (i*65+m)=WW
 ·rw [if_pos hw]
  funext x
  by_cases hx:i*65<=x/\x<i*65+n
  ·obtain ⟨k,hk,rfl⟩:∃ k,k<n/\x=i*65+k:=⟨x - i*65,by omega,by omega⟩
   rw [row k hk,e0 k hk,if_neg (fun h=>h.1 hw)]
  ·exact rest x hx
 ·rw [if_neg hw]
  funext x
  by_cases hx:i*65<=x/\x<i*65+n
  ·obtain ⟨k,hk,rfl⟩:∃ k,k<n/\x=i*65+k:=⟨x - i*65,by omega,by omega⟩
   rw [row k hk]
   unfold kF
   rw [if_pos hx,show i*65+k - i*65=k by omega,iF_row hn hm hz hk,e0 k hk]
   by_cases h2:d (m*65+k)<WW
   ·rw [if_pos h2,if_pos ⟨hw,h2⟩]
   ·rw [if_neg h2,if_neg (fun h=>h2 h.2)]
  ·rw [<- rest x hx]
   unfold kF
   rw [if_neg hx]
section
variable {p:Pn} {c1 c2 c3:Nat} {N:List Nd} {n m:Nat}
def lK (p:Pn) (c1 c2 c3:Nat) (N:List Nd) (n m i:Nat) (f:Int) (d:Nat->Int):LT:=fun lock tt h K=>
 FitP lock h tt ⟨10,nsK.zip (BK p c1 c2 c3 N d)⟩ (dsK.zip (VK n m i f 0))/\(n<=65/\m<n/\i<n/\∀ k,k<n->d (m*65+k)<WW->i64 (f+d (m*65+k))) /\
  K .normal (dsK.zip (VK n m i f n)) ⟨10,nsK.zip (BK p c1 c2 c3 N (kF m i f n d))⟩
theorem lK_ok {i:Nat} {f:Int} {d:Nat->Int}:LSound Try.prog true (.block 10 (.loop (loopB 10 (bodyOf Try.prog 63)))) 131 (lK p c1 c2 c3 N n m i f d):=by
 by_cases hh:n<=65/\m<n/\i<n/\∀ k,k<n->d (m*65+k)<WW->i64 (f+d (m*65+k))
 ·obtain ⟨hn,hm,hi,hs⟩:=hh
  refine loop_row hmix good0 (un:=10) (ds:=dsK) (ns:=nsK) (nx:=10) (fun k:Nat=>VK n m i f k) (fun k=>BK p c1 c2 c3 N (kF m i f k d)) (fun k=>k<=n) (fun k=>n - k)
   (fun _ e vs bs=>e=.exit 10/\vs=VK n m i f n/\bs=BK p c1 c2 c3 N (kF m i f n d)) noL_ok ?_ ?_
  ·intro k hk
   refine cast (k_ev p c1 c2 c3 N _ n m i f k _).symm ?_
   by_cases h:k<n
   ·have b1:(0:Int)<=(m:Int)/\(m:Int)<((65:Nat):Int):=⟨by omega,by omega⟩
    have b2:(0:Int)<=(k:Int)/\(k:Int)<((65:Nat):Int):=⟨by omega,by omega⟩
    have b3:(0:Int)<=(i:Int)/\(i:Int)<((65:Nat):Int):=⟨by omega,by omega⟩
    refine cond_dk (by omega) (cond_dk b1 (cond_dk b2 ?_))
    simp only [Int.toNat_natCast,Nat.mul_one]
    have ha:=kF_at (m:=m) (i:=i) (f:=f) (d:=d) (show k<65 by omega)
    refine cond_dk (by omega) (cond_d (fun hw=>?_) (fun hw=>cond_r (by omega) ?_))
    ·rw [ha] at hw
     have h64:=hs k h hw
     have h64:=And.intro h64.lo h64.hi
     refine cond_dk b3 (cond_dk b2 (cond_dk (by omega) (cond_r (by rw [ha]; exact h64) (cond_dk b3 (cond_dk b2 (cond_dk (by omega) (cond_r (by omega) ?_)))))))
     refine ⟨k+1,by omega,by dsimp only; omega,vst (V:=VK n m i f) k,?_,fun e vs bs ho=>ho⟩
     rw [kF_s (by omega) hw]
     exact fitBs_refl _
    ·rw [ha] at hw
     refine ⟨k+1,by omega,by dsimp only; omega,vst (V:=VK n m i f) k,?_,fun e vs bs ho=>ho⟩
     show fitBs (BK p c1 c2 c3 N (kF m i f (k+1) d)) _
     rw [<- kF_n hw]
     exact fitBs_refl _
   ·have:k=n:=by omega
    subst this
    exact cond_d (fun h=>by omega) (fun _=>⟨rfl,rfl,rfl⟩)
  ·rintro lock tt h K ⟨hf,_,hK⟩
   refine ⟨0,?_,Nat.zero_le _,?_⟩
   ·rw [kF_0]
    exact hf
   ·rintro x vs bs ⟨rfl,rfl,rfl⟩
    exact hK
 ·rintro lock tt h K ⟨_,hc,_⟩
  exact (hh hc).elim
def lC (p:Pn) (c1 c2 c3:Nat) (N:List Nd) (n m:Nat) (d:Nat->Int):LT:=fun lock tt h K=>
 FitP lock h tt ⟨10,nsK.zip (BK p c1 c2 c3 N d)⟩ (dsC.zip (VC n m 0))/\n<=65/\(¬ badD n d->K .normal (dsC.zip (VC n m n)) ⟨10,nsK.zip (BK p c1 c2 c3 N d)⟩) /\
  (badD n d->∀ i:Nat,K (.panic (.iface 108 (.agg []))) (dsC.zip (VC n m i)) ⟨10,nsK.zip (BK p c1 c2 c3 N d)⟩)
theorem lC_ok {d:Nat->Int}:LSound Try.prog true (.block 12 (.loop (loopB 12 (bodyOf Try.prog 63)))) 131 (lC p c1 c2 c3 N n m d):=by
 by_cases hn:n<=65
 ·refine loop_row hmix good0 (un:=10) (ds:=dsC) (ns:=nsK) (nx:=10) (fun i:Nat=>VC n m i) (fun _=>BK p c1 c2 c3 N d) (fun i=>i<=n/\∀ j,j<i->¬ d (j*65+j)<0) (fun i=>n - i)
   (fun _ e vs bs=>(e=.exit 12/\¬ badD n d/\vs=VC n m n/\bs=BK p c1 c2 c3 N d) ∨ (e=.panic (.iface 108 (.agg []))/\badD n d/\(∃ i:Nat,vs=VC n m i)/\bs=BK p c1 c2 c3 N d)) noL_ok ?_ ?_
  ·rintro i ⟨hi,hg⟩
   refine cast (c_ev p c1 c2 c3 N d n m i _).symm ?_
   by_cases h:i<n
   ·have b1:(0:Int)<=(i:Int)/\(i:Int)<((65:Nat):Int):=⟨by omega,by omega⟩
    refine cond_dk (by omega) (cond_dk b1 (cond_dk b1 ?_))
    simp only [Int.toNat_natCast,Nat.mul_one]
    refine cond_dk (by omega) (cond_d (fun hb=>?_) (fun hb=>cond_r (by omega) ?_))
    ·exact .inr ⟨rfl,⟨i,h,hb⟩,⟨i,rfl⟩,rfl⟩
    ·refine ⟨i+1,⟨by omega,fun j hj=>?_⟩,by dsimp only; omega,vst (V:=VC n m) i,fitBs_refl _,fun e vs bs ho=>ho⟩
     by_cases hji:j=i
     ·rw [hji]; exact hb
     ·exact hg j (by omega)
   ·have:i=n:=by omega
    subst this
    exact cond_d (fun h=>by omega) (fun _=>.inl ⟨rfl,fun ⟨j,h1,h2⟩=>hg j h1 h2,rfl,rfl⟩)
  ·rintro lock tt h K ⟨hf,_,h1,h2⟩
   refine ⟨0,hf,⟨Nat.zero_le _,fun j hj=>by omega⟩,?_⟩
   rintro x vs bs (⟨rfl,he,rfl,rfl⟩ | ⟨rfl,he,⟨i,rfl⟩,rfl⟩)
   ·exact h1 he
   ·exact h2 he i
 ·rintro lock tt h K ⟨_,hc,_⟩
  exact (hn hc).elim
end
end Go.Sx.Nos
namespace Go.Sx.Nos
open Go Go.Sx Go.Proofs
set_option maxRecDepth 1000000
def dsR:List Nat:=[3,9,60,61,10,64,65]
def VR (n m i:Int):List VV:=[.ptr (.own 6 0),I n,I n,I m,I m,I n,I i]
theorem i_ev (p:Pn) (c1 c2 c3:Nat) (N:List Nd) (d:Nat->Int) (n m i:Nat) (f:Int) (X:VEx->List VV->List VB->Prop):codeE Try.prog (callN Try.prog noSpec noL 10 20) (tabB [(10,lK p c1 c2 c3 N n m i f d)]) true 10 131 0 (loopB 8 (bodyOf Try.prog 63)) (dsR.zip (VR n m i)) ⟨10,nsK.zip (BK p c1 c2 c3 N d)⟩ (obs 10 dsR nsK X) =
 (bif decide ((↑i:Int)<(↑n:Int)) then
 bif decide ((0:Int)<=(↑i:Int)/\(↑i:Int)<(↑65:Int)) then
 bif decide ((0:Int)<=(↑m:Int)/\(↑m:Int)<(↑65:Int)) then
 bif decide ((↑i:Int).toNat*(65)+(↑m:Int).toNat*(1)<4225) then
 bif decide (d ((↑i:Int).toNat*(65)+(↑m:Int).toNat*(1))=(1125899906842624:Int)) then
 bif inK IntKind.i64 ((↑i:Int)+(1:Int)) then
 X VEx.normal [VV.ptr (VA.own 6 0),I (↑n:Int),I (↑n:Int),I (↑m:Int),I (↑m:Int),I (↑n:Int),I ((↑i:Int)+(1:Int))] [arD p,arT p,arS p,pnB p c1 c2 c3,maB N,faB 4 d,p5]
 else False
 else FitP 0 (VH.mk 10 (nsK.zip (BK p c1 c2 c3 N d))) ((79,I 0)::(78,I (↑n:Int))::(77,VV.bool false)::(77,VV.bool (decide (d ((↑i:Int).toNat*(65)+(↑m:Int).toNat*(1))=(1125899906842624:Int))))::(76,I (d ((↑i:Int).toNat*(65)+(↑m:Int).toNat*(1))))::(12,I (d ((↑i:Int).toNat*(65)+(↑m:Int).toNat*(1))))::(75,I (d ((↑i:Int).toNat*(65)+(↑m:Int).toNat*(1))))::(74,VV.ptr (VA.fa 5 (1) ((↑i:Int).toNat*(65)+(↑m:Int).toNat*(1))))::(73,VV.ptr (VA.fa 5 (1) ((↑i:Int).toNat*(65))))::(72,VV.ptr (VA.own 5 (1)))::(71,VV.ptr (VA.own 5 0))::(70,I (↑m:Int))::(69,I (↑i:Int))::(68,VV.ptr (VA.own 5 0))::(11,I (↑i:Int))::(67,I (↑i:Int))::(66,VV.bool true)::(66,VV.bool (decide ((↑i:Int)<(↑n:Int))))::dsR.zip (VR (↑n:Int) (↑m:Int) (↑i:Int))) (VH.mk 10 (nsK.zip (BK p c1 c2 c3 N d))) (dsK.zip (VK (↑n:Int) (↑m:Int) (↑i:Int) f (0:Int)))/\(n<=65/\m<n/\i<n/\∀ (k:Nat),k<n->d (m*65+k)<WW->i64 (f+d (m*65+k)))/\bif inK IntKind.i64 ((↑i:Int)+(1:Int)) then
 X VEx.normal [VV.ptr (VA.own 6 0),I (↑n:Int),I (↑n:Int),I (↑m:Int),I (↑m:Int),I (↑n:Int),I ((↑i:Int)+(1:Int))] [arD p,arT p,arS p,pnB p c1 c2 c3,maB N,VB.fam [VV.mp 4] 4225 (kF m i f n d) (93:TypeId),p5]
 else False
 else False
 else False
 else False
 else X (VEx.exit 8) [VV.ptr (VA.own 6 0),I (↑n:Int),I (↑n:Int),I (↑m:Int),I (↑m:Int),I (↑n:Int),I (↑i:Int)] [arD p,arT p,arS p,pnB p c1 c2 c3,maB N,faB 4 d,p5]):=by kernel_rfl
end Go.Sx.Nos
namespace Go.Sx.Nos
open Go Go.Sx Go.Proofs
set_option maxRecDepth 1000000
section
variable {p:Pn} {c1 c2 c3:Nat} {N:List Nd} {n m:Nat}
structure RdOk (n m:Nat) (d:Nat->Int):Prop where
 hn:n<=65
 hm:m<n
 z:d (m*65+m)=0
 s:∀ i k,i<n->k<n->d (i*65+m) ≠ WW->d (m*65+k)<WW->i64 (d (i*65+m)+d (m*65+k))
def lI (p:Pn) (c1 c2 c3:Nat) (N:List Nd) (n m:Nat) (d:Nat->Int):LT:=fun lock tt h K=>
 FitP lock h tt ⟨10,nsK.zip (BK p c1 c2 c3 N d)⟩ (dsR.zip (VR n m 0))/\RdOk n m d/\K .normal (dsR.zip (VR n m n)) ⟨10,nsK.zip (BK p c1 c2 c3 N (iF n m n d))⟩
theorem lsp_k {i:Nat} {f:Int} {d:Nat->Int}:∀ id T,tabB [(10,lK p c1 c2 c3 N n m i f d)] id=some T->∀ b' ∈ blocksOf id (loopB 8 (bodyOf Try.prog 63)),LSound Try.prog true (.block id b') 131 T:=by
 intro id T hT b' hb
 simp only [tabB] at hT
 cases hid:Nat.beq id 10 with
 | false=>rw [hid] at hT; cases hT
 | true=>
  rw [hid] at hT
  have:=Nat.eq_of_beq_eq_true hid
  subst this
  cases hT
  have h2:blocksOf 10 (loopB 8 (bodyOf Try.prog 63))=[.loop (loopB 10 (bodyOf Try.prog 63))]:=by kernel_rfl
  rw [h2] at hb
  simp only [List.mem_singleton] at hb
  subst hb
  exact lK_ok
theorem lI_ok {d:Nat->Int}:LSound Try.prog true (.block 8 (.loop (loopB 8 (bodyOf Try.prog 63)))) 131 (lI p c1 c2 c3 N n m d):=by
 by_cases hh:RdOk n m d
 ·obtain ⟨hn,hm,hz,hs⟩:=hh
  refine loop_rowD hmix good0 (un:=10) (ds:=dsR) (ns:=nsK) (nx:=10) (lsp:=fun i:Nat=>tabB [(10,lK p c1 c2 c3 N n m i (iF n m i d ((i:Int).toNat*65+(m:Int).toNat*1)) (iF n m i d))]) (fun i:Nat=>VR n m i) (fun i=>BK p c1 c2 c3 N (iF n m i d)) (fun i=>i<=n) (fun i=>n - i)
   (fun _ e vs bs=>e=.exit 8/\vs=VR n m n/\bs=BK p c1 c2 c3 N (iF n m n d)) (fun _ _=>lsp_k) ?_ ?_
  ·intro i hi
   refine cast (i_ev p c1 c2 c3 N _ n m i _ _).symm ?_
   by_cases h:i<n
   ·have b1:(0:Int)<=(m:Int)/\(m:Int)<((65:Nat):Int):=⟨by omega,by omega⟩
    have b3:(0:Int)<=(i:Int)/\(i:Int)<((65:Nat):Int):=⟨by omega,by omega⟩
    have hs':=iF_s hn hm h hz
    have e0:iF n m i d (i*65+m)=d (i*65+m):=by unfold iF; rw [if_neg (by omega)]
    have ei:(i:Int).toNat*65+(m:Int).toNat*1=i*65+m:=by simp
    refine cond_dk (by omega) (cond_dk b3 (cond_dk b1 (cond_dk (by rw [ei]; omega) (cond_d (fun hw=>cond_r (by omega) ?_) (fun hw=>?_)))))
    ·rw [ei] at hw
     rw [if_pos hw] at hs'
     refine ⟨i+1,by omega,by dsimp only; omega,vst (V:=VR n m) i,?_,fun e vs bs ho=>ho⟩
     show fitBs (BK p c1 c2 c3 N (iF n m (i+1) d)) _
     rw [<- hs']
     exact fitBs_refl _
    ·refine ⟨⟨⟨rfl,rfl,VB.fit_refl _,VB.fit_refl _,VB.fit_refl _,VB.fit_refl _,VB.fit_refl _,VB.fit_refl _,VB.fit_refl _,trivial⟩,rfl,rfl,rfl,rfl,rfl,rfl,rfl,rfl,rfl,rfl,rfl,trivial⟩,⟨hn,hm,h,fun k hk hw2=>?_⟩,cond_r (by omega) ?_⟩
     ·rw [iF_row hn hm hz hk] at hw2 ⊢
      rw [ei,e0]
      rw [ei,e0] at hw
      exact hs i k h hk hw hw2
     ·rw [ei] at hw ⊢
      rw [if_neg hw] at hs'
      refine ⟨i+1,by omega,by dsimp only; omega,vst (V:=VR n m) i,?_,fun e vs bs ho=>ho⟩
      show fitBs (BK p c1 c2 c3 N (iF n m (i+1) d)) _
      rw [<- hs']
      exact fitBs_refl _
   ·have:i=n:=by omega
    subst this
    exact cond_d (fun h=>by omega) (fun _=>⟨rfl,rfl,rfl⟩)
  ·rintro lock tt h K ⟨hf,_,hK⟩
   refine ⟨0,?_,Nat.zero_le _,?_⟩
   ·rw [iF_0]
    exact hf
   ·rintro x vs bs ⟨rfl,rfl,rfl⟩
    exact hK
 ·rintro lock tt h K ⟨_,hc,_⟩
  exact (hh hc).elim
end
end Go.Sx.Nos
namespace Go.Sx.Nos
open Go Go.Sx Go.Proofs
set_option maxRecDepth 1000000
def dsM:List Nat:=[3,9,60,61]
def VM (n m:Int):List VV:=[.ptr (.own 6 0),I n,I n,I m]
theorem m_ev (p:Pn) (c1 c2 c3:Nat) (N:List Nd) (d:Nat->Int) (n m:Nat) (X:VEx->List VV->List VB->Prop):codeE Try.prog (callN Try.prog noSpec noL 10 20) (tabB [(8,lI p c1 c2 c3 N n m d),(12,lC p c1 c2 c3 N n m (iF n m n d))]) true 10 131 0 (loopB 6 (bodyOf Try.prog 63)) (dsM.zip (VM n m)) ⟨10,nsK.zip (BK p c1 c2 c3 N d)⟩ (obs 10 dsM nsK X) =
 (bif decide ((↑m:Int)<(↑n:Int)) then
 FitP 0 (VH.mk 10 (nsK.zip (BK p c1 c2 c3 N d))) (dsR.zip (VR (↑n:Int) (↑m:Int) (0:Int))) (VH.mk 10 (nsK.zip (BK p c1 c2 c3 N d))) (dsR.zip (VR (↑n:Int) (↑m:Int) (0:Int)))/\RdOk n m d/\FitP 0 (VH.mk 10 (nsK.zip (BK p c1 c2 c3 N (iF n m n d)))) (dsC.zip (VC (↑n:Int) (↑m:Int) (0:Int))) (VH.mk 10 (nsK.zip (BK p c1 c2 c3 N (iF n m n d)))) (dsC.zip (VC (↑n:Int) (↑m:Int) (0:Int)))/\n<=65/\(¬badD n (iF n m n d)->bif inK IntKind.i64 ((↑m:Int)+(1:Int)) then
 X VEx.normal [VV.ptr (VA.own 6 0),I (↑n:Int),I (↑n:Int),I ((↑m:Int)+(1:Int))] [arD p,arT p,arS p,pnB p c1 c2 c3,maB N,VB.fam [VV.mp 4] 4225 (iF n m n d) (93:TypeId),p5]
 else False)/\(badD n (iF n m n d)->∀ (i:Nat),X (VEx.panic (VV.iface (108:TypeId) (VV.agg []))) [VV.ptr (VA.own 6 0),I (↑n:Int),I (↑n:Int),I (↑m:Int)] [arD p,arT p,arS p,pnB p c1 c2 c3,maB N,VB.fam [VV.mp 4] 4225 (iF n m n d) (93:TypeId),p5])
 else X (VEx.exit 6) [VV.ptr (VA.own 6 0),I (↑n:Int),I (↑n:Int),I (↑m:Int)] [arD p,arT p,arS p,pnB p c1 c2 c3,maB N,faB 4 d,p5]):=by kernel_rfl
end Go.Sx.Nos
namespace Go.Sx.Nos
open Go Go.Sx Go.Proofs
set_option maxRecDepth 1000000
structure Safe (n:Nat) (d:Nat->Int):Prop where
 hn:n<=65
 rd:∀ m,m<n->(∀ j,j<m->¬ badD n (fwN n (j+1) d))->RdOk n m (fwN n m d)
def goodF (n:Nat) (d:Nat->Int):Prop:=∀ m,m<n->¬ badD n (fwN n (m+1) d)
abbrev misV:VV:=.iface 108 (.agg [])
section
variable {p:Pn} {c1 c2 c3:Nat} {N:List Nd} {n:Nat}
def lM (p:Pn) (c1 c2 c3:Nat) (N:List Nd) (n:Nat) (d:Nat->Int):LT:=fun lock tt h K=>
 FitP lock h tt ⟨10,nsK.zip (BK p c1 c2 c3 N d)⟩ (dsM.zip (VM n 0))/\Safe n d/\(goodF n d->K .normal (dsM.zip (VM n n)) ⟨10,nsK.zip (BK p c1 c2 c3 N (fwN n n d))⟩) /\
  (¬ goodF n d->∀ (m:Nat) (d':Nat->Int),K (.panic misV) (dsM.zip (VM n m)) ⟨10,nsK.zip (BK p c1 c2 c3 N d')⟩)
theorem lsp_m {m:Nat} {d:Nat->Int}:∀ id T,tabB [(8,lI p c1 c2 c3 N n m d),(12,lC p c1 c2 c3 N n m (iF n m n d))] id=some T->∀ b' ∈ blocksOf id (loopB 6 (bodyOf Try.prog 63)),LSound Try.prog true (.block id b') 131 T:=by
 intro id T hT b' hb
 simp only [tabB] at hT
 cases hid:Nat.beq id 8 with
 | true=>
  rw [hid] at hT
  have:=Nat.eq_of_beq_eq_true hid
  subst this
  cases hT
  have h2:blocksOf 8 (loopB 6 (bodyOf Try.prog 63))=[.loop (loopB 8 (bodyOf Try.prog 63))]:=by kernel_rfl
  rw [h2] at hb
  simp only [List.mem_singleton] at hb
  subst hb
  exact lI_ok
 | false=>
  rw [hid] at hT
  simp only [cond_false] at hT
  cases hid2:Nat.beq id 12 with
  | false=>rw [hid2] at hT; cases hT
  | true=>
   rw [hid2] at hT
   have:=Nat.eq_of_beq_eq_true hid2
   subst this
   cases hT
   have h2:blocksOf 12 (loopB 6 (bodyOf Try.prog 63))=[.loop (loopB 12 (bodyOf Try.prog 63))]:=by kernel_rfl
   rw [h2] at hb
   simp only [List.mem_singleton] at hb
   subst hb
   exact lC_ok
theorem lM_ok {d:Nat->Int}:LSound Try.prog true (.block 6 (.loop (loopB 6 (bodyOf Try.prog 63)))) 131 (lM p c1 c2 c3 N n d):=by
 by_cases hs:Safe n d
 ·refine loop_rowD hmix good0 (un:=10) (ds:=dsM) (ns:=nsK) (nx:=10) (lsp:=fun m:Nat=>tabB [(8,lI p c1 c2 c3 N n m (fwN n m d)),(12,lC p c1 c2 c3 N n m (iF n m n (fwN n m d)))]) (fun m:Nat=>VM n m) (fun m=>BK p c1 c2 c3 N (fwN n m d)) (fun m=>m<=n/\∀ j,j<m->¬ badD n (fwN n (j+1) d)) (fun m=>n - m)
   (fun _ e vs bs=>(e=.exit 6/\goodF n d/\vs=VM n n/\bs=BK p c1 c2 c3 N (fwN n n d)) ∨ (e=.panic misV/\¬ goodF n d/\∃ (m:Nat) (d':Nat->Int),vs=VM n m/\bs=BK p c1 c2 c3 N d')) (fun _ _=>lsp_m) ?_ ?_
  ·rintro m ⟨hm,hg⟩
   refine cast (m_ev p c1 c2 c3 N _ n m _).symm ?_
   have hn:=hs.hn
   by_cases h:m<n
   ·refine cond_dk (by omega) ⟨fitP_self rfl,hs.rd m h hg,fitP_self rfl,hn,fun hb=>cond_r (by omega) ?_,fun hb i=>.inr ⟨rfl,fun hh=>hh m h hb,m,_,rfl,rfl⟩⟩
    refine ⟨m+1,⟨by omega,fun j hj=>?_⟩,by dsimp only; omega,vst (V:=VM n) m,fitBs_refl _,fun e vs bs ho=>ho⟩
    by_cases hjm:j=m
    ·rw [hjm]; exact hb
    ·exact hg j (by omega)
   ·have:m=n:=by omega
    subst this
    exact cond_d (fun h=>by omega) (fun _=>.inl ⟨rfl,hg,rfl,rfl⟩)
  ·rintro lock tt h K ⟨hf,_,h1,h2⟩
   refine ⟨0,hf,⟨Nat.zero_le _,fun j hj=>by omega⟩,?_⟩
   rintro x vs bs (⟨rfl,he,rfl,rfl⟩ | ⟨rfl,he,m,d',rfl,rfl⟩)
   ·exact h1 he
   ·exact h2 he m d'
 ·rintro lock tt h K ⟨_,hc,_⟩
  exact (hs hc).elim
end
end Go.Sx.Nos
namespace Go.Sx.Nos
open Go Go.Sx Go.Proofs
set_option maxRecDepth 1000000
def at2 (f g:FuncId) (lf lg:List (Nat × LT)):FuncId->Nat->Option LT:=fun x id=>bif Nat.beq x f then tabB lf id else bif Nat.beq x g then tabB lg id else none
def sIni:St:=([zeroN],dIni)
def sT (p:Pn):St:=stp (p.T.flatMap (lkT p)) sIni
def sAll (p:Pn):St:=stp (links p) sIni
def taL (p:Pn) (c1 c2 c3:Nat) (s:St):List (Nat × LT):=[(0,lIni p c1 c2 c3 [zeroN] (fun _=>0)),(2,lFar p c1 c2 c3 [zeroN]),(6,lM p c1 c2 c3 s.1 s.1.length s.2)]
def lkL (p:Pn) (c1 c2 c3:Nat):List (Nat × LT):=[(0,lOut p c1 c2 c3 sIni),(4,lStd p c1 c2 c3 (sT p))]
def tastH (p:Pn) (c1 c2 c3:Nat):VH:=⟨4,[(0,arD p),(1,arT p),(2,arS p),(3,pnB p c1 c2 c3)]⟩
def taR (Q:VRes->List VB->Prop):VRes->VH->Prop:=fun r h=>Q r [h.at 0,h.at 1,h.at 2,h.at 3,h.at 4,h.at 5]
theorem taste_ev (p:Pn) (c1 c2 c3:Nat) (s:St) (Q:VRes->List VB->Prop):callN Try.prog noSpec (at2 63 70 (taL p c1 c2 c3 s) (lkL p c1 c2 c3)) 10 20 0 (.fn 63) [.ptr (.own 3 0)] (tastH p c1 c2 c3) (taR Q) =
 (KeyLaw Try.prog 73 (kU) /\ FitP 0 (VH.mk 8 (ns0.zip (B0 p c1 c2 c3 [zeroN] (fun x => (0 : Int)) fun x => (0 : Int)))) (ds0.zip (V0 (0 : Int))) (VH.mk 8 (ns0.zip (B0 p c1 c2 c3 [zeroN] (fun x => (0 : Int)) fun x => (0 : Int)))) (ds0.zip (V0 (0 : Int))) /\ ∀ (g : Nat -> Int), (∀ (k : Nat), k < 65 -> g k = WW) -> FitP 0 (VH.mk 8 (ns0.zip (B0 p c1 c2 c3 [zeroN] (fun x => (0 : Int)) g))) ((27, I 0) :: ds0.zip (V0 (65 : Int))) (VH.mk 8 (ns0.zip (B0 p c1 c2 c3 [zeroN] (fun x => (0 : Int)) fun x => WW))) (ds2.zip (V0 (0 : Int))) /\ ∀ (d : Nat -> Int), (∀ (k : Nat), k < 4225 -> d k = dIni k) -> FitP 0 (VH.mk (10) ((9, VB.loop true none ((45, VV.func 70 [] [VV.ptr (VA.own (8) 0)]) :: (44, VV.ptr (VA.own 3 0)) :: ds2.zip (V0 (65 : Int))) (131) #[46, 47].toList ((Code.region 15 #[Oper.mk (some 7) (Op.alloc 117) 0 "nose.go:114" #[] none, Oper.mk none (Op.store 117 (Operand.tmp 7) (Operand.tmp 46)) 0 "nose.go:114" #[Edge.mk 0 Ground.data, Edge.mk 0 Ground.phase] none] false).seq (Code.region 16 #[Oper.mk (some 8) (Op.assign (Operand.tmp 47)) 3 "nose.go:114" #[] none] false)) (Code.block 5 (Code.region 17 #[Oper.mk (some 48) (Op.load 79 (Operand.tmp 3)) 79 "nose.go:115" #[] none, Oper.mk (some 49) (Op.indexAddr 117 (Operand.tmp 7) (Operand.const (Value.int IntKind.i64 (0 : Int)))) 0 "nose.go:115" #[] none, Oper.mk (some 50) (Op.load 73 (Operand.tmp 49)) 73 "nose.go:115" #[Edge.mk 1 Ground.data] none, Oper.mk (some 51) (Op.indexAddr 117 (Operand.tmp 7) (Operand.const (Value.int IntKind.i64 (1 : Int)))) 0 "nose.go:115" #[] none, Oper.mk (some 52) (Op.load 73 (Operand.tmp 51)) 73 "nose.go:115" #[Edge.mk 3 Ground.data] none, Oper.mk (some 53) (Op.move (Operand.tmp 8)) 3 "nose.go:115" #[] none, Oper.mk (some 54) (Op.call (Call.mk (Callee.value (Operand.func 69)) #[Operand.tmp 48, Operand.tmp 50, Operand.tmp 52, Operand.tmp 53] #[79, 73, 73, 3])) 0 "nose.go:115" #[Edge.mk 0 Ground.data, Edge.mk 2 Ground.data, Edge.mk 4 Ground.data, Edge.mk 5 Ground.data] none] false))) :: (8, VB.cells [VV.ptr (VA.own 3 0)] 104) :: ns0.zip (B0 p c1 c2 c3 [zeroN] d fun x => WW))) [(18, I 0), (17, I (↑p.T.length : Int)), (16, VV.slice (VA.el 1 [] (0 : Int) 0) p.T.length c2), (15, VV.ptr (VA.own 3 (1))), (14, VV.ptr (VA.own 3 0)), (13, VV.ptr (VA.own 3 0)), (0, VV.yld (9)), (1, VV.ptr (VA.own (8) 0))] (VH.mk 10 (nsO.zip (BO p c1 c2 c3 sIni.fst sIni.snd))) (dsO.zip (VO p c2 (0 : Int))) /\ (PnOk p /\ Gd p sIni.fst) /\ FitP 0 (VH.mk 10 (nsO.zip (BO p c1 c2 c3 (sT p).fst (sT p).snd))) (dsS.zip (VS p c3 (0 : Int))) (VH.mk 10 (nsO.zip (BO p c1 c2 c3 (sT p).fst (sT p).snd))) (dsS.zip (VS p c3 (0 : Int))) /\ (PnOk p /\ Gd p (sT p).fst) /\ FitP 0 (VH.mk 10 ((9, VB.gone) :: nsO.zip (BO p c1 c2 c3 (stp (List.flatMap lkS p.S) (sT p)).fst (stp (List.flatMap lkS p.S) (sT p)).snd))) ((61, I 0) :: (60, I (↑(esOf (stp (List.flatMap lkS p.S) (sT p)).fst).length : Int)) :: (9, I (↑(esOf (stp (List.flatMap lkS p.S) (sT p)).fst).length : Int)) :: (59, I (↑(esOf (stp (List.flatMap lkS p.S) (sT p)).fst).length : Int)) :: (58, VV.mp 4) :: (57, VV.ptr (VA.own 5 0)) :: (56, VV.ptr (VA.own 5 0)) :: (55, VV.ptr (VA.own 5 0)) :: (45, VV.func 70 [] [VV.ptr (VA.own (8) 0)]) :: (44, VV.ptr (VA.own 3 0)) :: ds2.zip (V0 (65 : Int))) (VH.mk 10 (nsK.zip (BK p c1 c2 c3 s.fst s.snd))) (dsM.zip (VM (↑s.fst.length : Int) (0 : Int))) /\ Safe s.fst.length s.snd /\ (goodF s.fst.length s.snd -> Q (VRes.ret (VV.ptr (VA.own 5 0))) [arD p, arT p, arS p, pnB p c1 c2 c3, VB.map kU (PK.int IntKind.i64) (esOf s.fst), VB.fam [VV.mp 4] 4225 (fwN s.fst.length s.fst.length s.snd) (93 : TypeId)]) /\ (¬goodF s.fst.length s.snd -> ∀ (m : Nat) (d' : Nat -> Int), Q (VRes.panic (VV.iface (108 : TypeId) (VV.agg []))) [arD p, arT p, arS p, pnB p c1 c2 c3, VB.map kU (PK.int IntKind.i64) (esOf s.fst), VB.fam [VV.mp 4] 4225 d' (93 : TypeId)])) := by kernel_rfl
end Go.Sx.Nos
namespace Go.Sx.Nos
open Go Go.Sx Go.Proofs
set_option maxRecDepth 1000000
theorem callL2_good {f g:FuncId} (hne:Nat.beq g f=false) {lf lg:List (Nat × LT)} (hf':LoopsOk Try.prog f lf) (hg':LoopsOk Try.prog g lg) {sp:FuncId->Option Spec1} (hsp:∀ f S,sp f=some S->SpOk Try.prog f S) {un:Nat} (m:Nat):Good Try.prog (callN Try.prog sp (at2 f g lf lg) un m):=by
 refine callN_good hmix hsp (fun x fn c hf hc id T hT b hb=>?_) m
 unfold at2 at hT
 cases hx:Nat.beq x f with
 | true=>
  rw [hx] at hT
  have:=Nat.eq_of_beq_eq_true hx
  subst this
  exact loops_use hf' hf c hc id T hT b hb
 | false=>
  rw [hx] at hT
  cases hx2:Nat.beq x g with
  | true=>
   rw [hx2] at hT
   have:=Nat.eq_of_beq_eq_true hx2
   subst this
   exact loops_use hg' hf c hc id T hT b hb
  | false=>rw [hx2] at hT; cases hT
theorem noSp:∀ (f:FuncId) (S:Spec1),noSpec f=some S->SpOk Try.prog f S:=fun _ _ h=>absurd h (by simp [noSpec])
section
variable {p:Pn} {c1 c2 c3:Nat}
theorem taL_ok {s:St}:LoopsOk Try.prog 63 (taL p c1 c2 c3 s):=by
 intro x hx
 simp only [taL,List.mem_cons,List.not_mem_nil,or_false] at hx
 rcases hx with rfl | rfl | rfl
 ·exact ⟨by kernel_rfl,lIni_ok⟩
 ·exact ⟨by kernel_rfl,lFar_ok⟩
 ·exact ⟨by kernel_rfl,lM_ok⟩
theorem lkL_ok:LoopsOk Try.prog 70 (lkL p c1 c2 c3):=by
 intro x hx
 simp only [lkL,List.mem_cons,List.not_mem_nil,or_false] at hx
 rcases hx with rfl | rfl
 ·exact ⟨by kernel_rfl,lOut_ok⟩
 ·exact ⟨by kernel_rfl,lStd_ok⟩
theorem gd_ini:Gd p sIni.1:=⟨by simp [sIni],fun x hx=>by simp only [sIni,List.mem_singleton] at hx; subst hx; exact uni_z p⟩
theorem gd_T (hp:PnOk p):Gd p (sT p).1:=gd_ini.fold fun x hx=>by
 obtain ⟨t,ht,hx⟩:=List.mem_flatMap.1 hx
 exact lkT_uni hp ht x hx
theorem links_uni (hp:PnOk p):∀ x ∈ links p,x.1 ∈ uni p/\x.2.1 ∈ uni p:=by
 intro x hx
 rcases List.mem_append.1 hx with hx | hx
 ·obtain ⟨t,ht,hx⟩:=List.mem_flatMap.1 hx
  exact lkT_uni hp ht x hx
 ·obtain ⟨s,hs,hx⟩:=List.mem_flatMap.1 hx
  exact lkS_uni hp hs x hx
theorem gd_all (hp:PnOk p):Gd p (sAll p).1:=gd_ini.fold (links_uni hp)
theorem sAll_eq:sAll p=stp (p.S.flatMap lkS) (sT p):=stp_app _ _ _
def farF (p:Pn):Nat->Int:=fwN (sAll p).1.length (sAll p).1.length (sAll p).2
def fitF (p:Pn):Prop:=goodF (sAll p).1.length (sAll p).2
theorem taste_v (hp:PnOk p) (hs:Safe (sAll p).1.length (sAll p).2) :
  (fitF p->CallsV Try.prog 63 [.ptr (.own 3 0)] (tastH p c1 c2 c3) (.ret (.ptr (.own 5 0))) ⟨6,[(0,arD p),(1,arT p),(2,arS p),(3,pnB p c1 c2 c3),(4,maB (sAll p).1),(5,faB 4 (farF p))]⟩) /\
  (¬ fitF p->CallsV Try.prog 63 [.ptr (.own 3 0)] (tastH p c1 c2 c3) (.panic misV) (tastH p c1 c2 c3)):=by
 obtain ⟨r,h',hQ,hc⟩:=of_callN (callL2_good (f:=63) (g:=70) (by decide) (taL_ok (p:=p) (c1:=c1) (c2:=c2) (c3:=c3) (s:=sAll p)) (lkL_ok (p:=p) (c1:=c1) (c2:=c2) (c3:=c3)) (sp:=noSpec) noSp (un:=10) 20)
  (f:=63) (args:=[.ptr (.own 3 0)]) (h:=tastH p c1 c2 c3)
  (K:=taR fun r bs=>(fitF p/\r=.ret (.ptr (.own 5 0))/\bs=[arD p,arT p,arS p,pnB p c1 c2 c3,maB (sAll p).1,faB 4 (farF p)]) ∨ (¬ fitF p/\r=.panic misV/\∃ x y,bs=[arD p,arT p,arS p,pnB p c1 c2 c3,x,y]))
  (by
   refine cast (taste_ev p c1 c2 c3 (sAll p) _).symm ?_
   refine ⟨key73,fitP_self rfl,fun g hg=>⟨⟨⟨rfl,rfl,VB.fit_refl _,VB.fit_refl _,VB.fit_refl _,VB.fit_refl _,VB.fit_refl _,VB.fit_refl _,VB.fit_refl _,⟨rfl,rfl,rfl,fun k hk=>hg k hk⟩,trivial⟩,rfl,rfl,rfl,rfl,trivial⟩,fun d hd=>⟨?_,⟨hp,gd_ini⟩,fitP_self rfl,⟨hp,gd_T hp⟩,?_,hs,fun h=>.inl ⟨h,rfl,rfl⟩,fun h m d'=>.inr ⟨h,rfl,_,_,rfl⟩⟩⟩⟩
   ·refine ⟨⟨rfl,rfl,VB.fit_refl _,VB.fit_refl _,VB.fit_refl _,VB.fit_refl _,VB.fit_refl _,⟨rfl,rfl,rfl,fun k hk=>hd k hk⟩,VB.fit_refl _,VB.fit_refl _,?_,trivial⟩,rfl,rfl,rfl,rfl,rfl,trivial⟩
    show _=recT
    kernel_rfl
   ·rw [<- sAll_eq,esOf_len]
    exact ⟨⟨rfl,rfl,VB.fit_refl _,VB.fit_refl _,VB.fit_refl _,VB.fit_refl _,VB.fit_refl _,VB.fit_refl _,VB.fit_refl _,trivial⟩,rfl,rfl,rfl,rfl,trivial⟩)
 rcases hQ with ⟨hf,rfl,hb⟩ | ⟨hf,rfl,x,y,hb⟩
 ·refine ⟨fun _=>?_,fun h=>absurd hf h⟩
  injection hb with g0 hb
  injection hb with g1 hb
  injection hb with g2 hb
  injection hb with g3 hb
  injection hb with g4 hb
  injection hb with g5 hb
  exact calls_weak hc (show 4<=6 by decide) ⟨by rw [g0]; exact VB.fit_refl _,by rw [g1]; exact VB.fit_refl _,by rw [g2]; exact VB.fit_refl _,by rw [g3]; exact VB.fit_refl _,by rw [g4]; exact VB.fit_refl _,by rw [g5]; exact VB.fit_refl _,trivial⟩ rfl rfl
 ·refine ⟨fun h=>absurd h hf,fun _=>?_⟩
  injection hb with g0 hb
  injection hb with g1 hb
  injection hb with g2 hb
  injection hb with g3 hb
  exact calls_weak hc (show 4<=4 by decide) ⟨by rw [g0]; exact VB.fit_refl _,by rw [g1]; exact VB.fit_refl _,by rw [g2]; exact VB.fit_refl _,by rw [g3]; exact VB.fit_refl _,trivial⟩ rfl rfl
end
end Go.Sx.Nos
namespace Go.Sx.Nos
open Go Go.Sx Go.Proofs
set_option maxRecDepth 1000000
def SafeP (p:Pn):Prop:=Safe (sAll p).1.length (sAll p).2
def tasT (p:Pn) (c1 c2 c3:Nat):FuncId × Spec1:=(63,fun _ args h K=>match args with
 | [.ptr (.own 3 0)]=>(h.at 0=arD p/\h.at 1=arT p/\h.at 2=arS p/\h.at 3=pnB p c1 c2 c3)/\(PnOk p/\SafeP p) /\
  (match h with
   | ⟨nx,bs⟩=>(fitF p->K (.ret (.ptr (.own (nx+1) 0))) ⟨nx+2,(nx+1,faB nx (farF p))::(nx,maB (sAll p).1)::bs⟩)/\(¬ fitF p->K (.panic misV) ⟨nx,bs⟩))
 | _=>False)
theorem lt_nx {h:VH} {n:Nat} (hn:h.at n ≠ .free):n<h.nx:=by
 by_cases hh:n<h.nx
 ·exact hh
 ·exact (hn (at_geA hh)).elim
theorem tasT_ok {p:Pn} {c1 c2 c3:Nat}:SpOk Try.prog (tasT p c1 c2 c3).1 (tasT p c1 c2 c3).2:=by
 intro lock args h K hK
 simp only [tasT] at hK
 split at hK
 ·obtain ⟨⟨g0,g1,g2,g3⟩,⟨hp,hs⟩,hK⟩:=hK
  obtain ⟨t1,t2⟩:=taste_v (c1:=c1) (c2:=c2) (c3:=c3) hp hs
  have hnx:(tastH p c1 c2 c3).nx<=h.nx:=lt_nx (n:=3) (by rw [g3]; simp)
  have hat:∀ n,n<(tastH p c1 c2 c3).nx->h.at n=(tastH p c1 c2 c3).at n:=fun n hn=>by
   match n,hn with
   | 0,_=>exact g0
   | 1,_=>exact g1
   | 2,_=>exact g2
   | 3,_=>exact g3
  have hnf:∀ n,n<(tastH p c1 c2 c3).nx->(tastH p c1 c2 c3).at n ≠ .free:=fun n hn=>by
   match n,hn with
   | 0,_=>exact fun h=>VB.noConfusion h
   | 1,_=>exact fun h=>VB.noConfusion h
   | 2,_=>exact fun h=>VB.noConfusion h
   | 3,_=>exact fun h=>VB.noConfusion h
  have hbel:∀ n,n<(tastH p c1 c2 c3).nx->((tastH p c1 c2 c3).at n).bel (tastH p c1 c2 c3).nx=true:=fun n hn=>by
   match n,hn with
   | 0,_=>rfl
   | 1,_=>rfl
   | 2,_=>rfl
   | 3,_=>rfl
  by_cases hf:fitF p
  ·have h1:=calls_lift_new (bl:=[maB (sAll p).1,faB 4 (farF p)]) (h:=h) (t1 hf) hnx hat (fun n hn=>by
    match n,hn with
    | 0,_=>rfl
    | 1,_=>rfl
    | 2,_=>rfl
    | 3,_=>rfl) hnf hbel rfl (fun i=>by
    match i with
    | 0=>rfl
    | 1=>rfl
    | i+2=>
     rw [at_geA (by show ¬ 4+(i+2)<6; omega)]
     rfl)
   obtain ⟨nx,bs⟩:=h
   refine ⟨_,_,hK.1 hf,?_,?_⟩
   ·have:=lockP_push (lock:=lock) (VH.mk nx bs) [maB (sAll p).1,faB nx (farF p)]
    exact this
   ·have s5:shN 4 nx 5=nx+1:=by unfold shN; rw [if_neg (by decide)]; omega
    have s4:shN 4 nx 4=nx:=by unfold shN; rw [if_neg (by decide)]; omega
    have e1:(VRes.ret (.ptr (.own 5 0))).sh (tastH p c1 c2 c3).nx nx=.ret (.ptr (.own (nx+1) 0)):=congrArg (fun n=>VRes.ret (.ptr (.own n 0))) s5
    have e2:([maB (sAll p).1,faB 4 (farF p)]:List VB).map (VB.sh (tastH p c1 c2 c3).nx nx)=[maB (sAll p).1,faB nx (farF p)]:=congrArg (fun n=>[maB (sAll p).1,VB.fam [.mp n] 4225 (farF p) 93]) s4
    rw [e1,e2] at h1
    exact h1
  ·have h1:=calls_lift (h:=h) (t2 hf) hnx hat (fun n hn=>rfl) hnf hbel rfl rfl
   exact ⟨_,h,by cases h; exact hK.2 hf,lockP_refl _ _,h1⟩
 ·exact hK.elim
end Go.Sx.Nos
namespace Go.Sx.Nos
open Go Go.Sx Go.Proofs
abbrev CC:Int:=1000000
theorem eWW:WW=1125899906842624:=rfl
theorem eCC:CC=1000000:=rfl
def wt (w:Nat->Nat->Int):Nat->List Nat->Nat->Int
 | i,[],k=>w i k
 | i,v::r,k=>w i v+wt w v r k
def okp (w:Nat->Nat->Int):Nat->List Nat->Nat->Prop
 | i,[],k=>w i k<WW
 | i,v::r,k=>w i v<WW/\okp w v r k
theorem wt_app (w:Nat->Nat->Int) (v k:Nat) (b:List Nat):∀ (a:List Nat) (i:Nat),wt w i (a ++ v::b) k=wt w i a v+wt w v b k
 | [],i=>rfl
 | u::r,i=>by
  show w i u+wt w u (r ++ v::b) k=_
  rw [wt_app w v k b r u]
  show _=w i u+wt w u r v+wt w v b k
  omega
theorem okp_app (w:Nat->Nat->Int) (v k:Nat) (b:List Nat):∀ (a:List Nat) (i:Nat),okp w i (a ++ v::b) k ↔ okp w i a v/\okp w v b k
 | [],i=>Iff.rfl
 | u::r,i=>by
  show w i u<WW/\okp w u (r ++ v::b) k ↔ (w i u<WW/\okp w u r v)/\_
  rw [okp_app w v k b r u,and_assoc]
structure Wg (n:Nat) (w:Nat->Nat->Int):Prop where
 z:∀ i,i<n->w i i=0
 b:∀ i k,i<n->k<n->w i k=WW ∨ (-CC<=w i k/\w i k<=CC)
theorem wt_le {n:Nat} {w:Nat->Nat->Int} (hw:Wg n w):∀ (l:List Nat) (i k:Nat),i<n->k<n->(∀ v ∈ l,v<n)->okp w i l k->-(CC*(l.length+1))<=wt w i l k/\wt w i l k<=CC*(l.length+1)
 | [],i,k,hi,hk,_,ho=>by
  have ho:w i k<WW:=ho
  rcases hw.b i k hi hk with h | h
  ·rw [h] at ho; exact absurd ho (Int.lt_irrefl _)
  ·simp only [wt,List.length_nil,CC] at *; omega
 | v::r,i,k,hi,hk,hl,ho=>by
  obtain ⟨h1,h2⟩:=ho
  have hv:=hl v (by simp)
  have ih:=wt_le hw r v k hv hk (fun u hu=>hl u (by simp [hu])) h2
  rcases hw.b i v hi hv with h | h
  ·rw [h] at h1; exact absurd h1 (Int.lt_irrefl _)
  ·simp only [wt,List.length_cons]
   have:=eCC
   rw [Int.natCast_add]
   simp only [CC] at *
   omega
structure FI (n m:Nat) (w d:Nat->Nat->Int):Prop where
 opt:∀ i k l,i<n->k<n->(∀ v ∈ l,v<m)->okp w i l k->d i k<WW/\d i k<=wt w i l k
 real:∀ i k,i<n->k<n->d i k=WW ∨ ∃ l:List Nat,l.Nodup/\(∀ v ∈ l,v<m)/\okp w i l k/\wt w i l k=d i k
theorem FI.bd {n m:Nat} {w d:Nat->Nat->Int} (h:FI n m w d) (hw:Wg n w) (hn:n<=65) (hm:m<=n) {i k:Nat} (hi:i<n) (hk:k<n):d i k=WW ∨ (-66000000<=d i k/\d i k<=66000000):=by
 rcases h.real i k hi hk with h1 | ⟨l,h1,h2,h3,h4⟩
 ·exact .inl h1
 ·have h5:=wt_le hw l i k hi hk (fun v hv=>Nat.lt_of_lt_of_le (h2 v hv) hm) h3
  have h6:=nodup_le (m:=List.range m) h1 (fun v hv=>List.mem_range.2 (h2 v hv))
  rw [List.length_range] at h6
  right
  rw [<- h4]
  have:CC*((l.length:Int)+1)<=66000000:=by
   have:(l.length:Int)+1<=66:=by omega
   show 1000000*((l.length:Int)+1)<=_
   omega
  omega
def rnd (m:Nat) (d:Nat->Nat->Int):Nat->Nat->Int:=fun i k=>if d i m ≠ WW/\d m k<WW then min (d i k) (d i m+d m k) else d i k
theorem rnd_le (m:Nat) (d:Nat->Nat->Int) (i k:Nat):rnd m d i k<=d i k:=by
 unfold rnd; split <;> omega
theorem FI.zero {n m:Nat} {w d:Nat->Nat->Int} (h:FI n m w d) (hw:Wg n w) {i:Nat} (hi:i<n):d i i<=0:=by
 have h1:=(h.opt i i [] hi hi (by simp) (by show w i i<WW; rw [hw.z i hi]; decide)).2
 simp only [wt,hw.z i hi] at h1
 exact h1
theorem nodup_split:∀ {l:List Nat} {m:Nat},m ∈ l->∃ a b,l=a ++ m::b/\m ∉ a
 | v::r,m,h=>by
  by_cases hv:v=m
  ·exact ⟨[],r,by rw [hv]; rfl,by simp⟩
  ·obtain ⟨a,b,h1,h2⟩:=nodup_split (l:=r) ((List.mem_cons.1 h).resolve_left fun e=>hv e.symm)
   exact ⟨v::a,b,by rw [h1]; rfl,by simp [h2,Ne.symm hv]⟩
theorem FI.optS {n m:Nat} {w d:Nat->Nat->Int} (h:FI n m w d) (hw:Wg n w) (hn:n<=65) (hm:m<n) (hz:d m m=0):∀ (c:Nat) (l:List Nat) (i k:Nat),l.length<=c->i<n->k<n->(∀ v ∈ l,v<m+1)->okp w i l k->rnd m d i k<WW/\rnd m d i k<=wt w i l k:=by
 intro c
 induction c with
 | zero=>
  intro l i k hc hi hk _ ho
  obtain rfl:l=[]:=List.length_eq_zero_iff.1 (by omega)
  have h1:=h.opt i k [] hi hk (by simp) ho
  have:=rnd_le m d i k
  omega
 | succ c ih=>
  intro l i k hc hi hk hl ho
  by_cases hml:m ∈ l
  ·obtain ⟨a,b,rfl,ha⟩:=nodup_split hml
   obtain ⟨o1,o2⟩:=(okp_app w m k b a i).1 ho
   rw [wt_app]
   have ham:∀ v ∈ a,v<m:=fun v hv=>by
    have:=hl v (by simp [hv])
    have:v ≠ m:=fun e=>ha (e ▸ hv)
    omega
   have h1:=h.opt i m a hi hm ham o1
   have h2:=ih b m k (by simp at hc; omega) hm hk (fun v hv=>hl v (by simp [hv])) o2
   have e2:rnd m d m k=d m k:=by unfold rnd; rw [hz]; split <;> omega
   rw [e2] at h2
   have b1:=h.bd hw hn (by omega) hi hm
   have b2:=h.bd hw hn (by omega) hm hk
   have hW:=eWW
   have:rnd m d i k<=d i m+d m k:=by
    unfold rnd
    rw [if_pos ⟨by omega,h2.1⟩]
    omega
   omega
  ·have h1:=h.opt i k l hi hk (fun v hv=>by
    have:=hl v hv
    have:v ≠ m:=fun e=>hml (e ▸ hv)
    omega) ho
   have:=rnd_le m d i k
   omega
theorem FI.walk {n m:Nat} {w d:Nat->Nat->Int} (h:FI n m w d) (hm:m<n) {i k:Nat} (hi:i<n) (hk:k<n):rnd m d i k=WW ∨ ∃ l:List Nat,(∀ v ∈ l,v<m+1)/\okp w i l k/\wt w i l k=rnd m d i k:=by
 by_cases hc:d i m ≠ WW/\d m k<WW/\d i m+d m k<d i k
 ·obtain ⟨c1,c2,c3⟩:=hc
  obtain ⟨l1,a1,a2,a3,a4⟩:=(h.real i m hi hm).resolve_left c1
  obtain ⟨l2,b1,b2,b3,b4⟩:=(h.real m k hm hk).resolve_left (by omega)
  refine .inr ⟨l1 ++ m::l2,fun v hv=>?_,(okp_app w m k l2 l1 i).2 ⟨a3,b3⟩,?_⟩
  ·simp only [List.mem_append,List.mem_cons] at hv
   rcases hv with hv | rfl | hv
   ·have:=a2 v hv; omega
   ·omega
   ·have:=b2 v hv; omega
  ·rw [wt_app,a4,b4]
   unfold rnd
   rw [if_pos ⟨c1,c2⟩]
   omega
 ·have he:rnd m d i k=d i k:=by
   unfold rnd
   split
   ·rename_i h1; omega
   ·rfl
  rw [he]
  rcases h.real i k hi hk with h1 | ⟨l,h1,h2,h3,h4⟩
  ·exact .inl h1
  ·exact .inr ⟨l,fun v hv=>by have:=h2 v hv; omega,h3,h4⟩
theorem FI.step {n m:Nat} {w d:Nat->Nat->Int} (h:FI n m w d) (hw:Wg n w) (hn:n<=65) (hm:m<n) (hz:d m m=0) (hg:∀ i,i<n->0<=rnd m d i i):FI n (m+1) w (rnd m d):=by
 have ho:=fun l i k=>h.optS hw hn hm hz l.length l i k (Nat.le_refl _)
 refine ⟨fun i k l hi hk hl hp=>ho l i k hi hk hl hp,fun i k hi hk=>?_⟩
 by_cases hc:d i m ≠ WW/\d m k<WW/\d i m+d m k<d i k
 ·obtain ⟨c1,c2,c3⟩:=hc
  obtain ⟨l1,a1,a2,a3,a4⟩:=(h.real i m hi hm).resolve_left c1
  obtain ⟨l2,b1,b2,b3,b4⟩:=(h.real m k hm hk).resolve_left (by omega)
  have hr:rnd m d i k=d i m+d m k:=by unfold rnd; rw [if_pos ⟨c1,c2⟩]; omega
  refine .inr ⟨l1 ++ m::l2,?_,fun v hv=>?_,(okp_app w m k l2 l1 i).2 ⟨a3,b3⟩,by rw [wt_app,a4,b4,hr]⟩
  ·refine List.nodup_append.2 ⟨a1,List.nodup_cons.2 ⟨fun hv=>by have:=b2 m hv; omega,b1⟩,fun v hv u hu e=>?_⟩
   subst e
   rcases List.mem_cons.1 hu with rfl | hu
   ·have:=a2 v hv; omega
   ·obtain ⟨a,b,rfl,_⟩:=nodup_split hv
    obtain ⟨c,e,rfl,_⟩:=nodup_split hu
    have hvn:v<n:=by have:=a2 v hv; omega
    obtain ⟨o1,o2⟩:=(okp_app w v m b a i).1 a3
    obtain ⟨o3,o4⟩:=(okp_app w v k e c m).1 b3
    rw [wt_app] at a4 b4
    have lp:=ho (b ++ m::c) v v hvn hvn (fun u hu=>by
     simp only [List.mem_append,List.mem_cons] at hu
     rcases hu with hu | rfl | hu
     ·have:=a2 u (by simp [hu]); omega
     ·omega
     ·have:=b2 u (by simp [hu]); omega) ((okp_app w m v c b v).2 ⟨o2,o3⟩)
    rw [wt_app] at lp
    have:=hg v hvn
    have sh:=h.opt i k (a ++ v::e) hi hk (fun u hu=>by
     simp only [List.mem_append,List.mem_cons] at hu
     rcases hu with hu | rfl | hu
     ·exact a2 u (by simp [hu])
     ·exact a2 u (by simp)
     ·exact b2 u (by simp [hu])) ((okp_app w v k e a i).2 ⟨o1,o4⟩)
    rw [wt_app] at sh
    omega
  ·simp only [List.mem_append,List.mem_cons] at hv
   rcases hv with hv | rfl | hv
   ·have:=a2 v hv; omega
   ·omega
   ·have:=b2 v hv; omega
 ·have he:rnd m d i k=d i k:=by
   unfold rnd
   split
   ·rename_i h1; omega
   ·rfl
  rw [he]
  rcases h.real i k hi hk with h1 | ⟨l,h1,h2,h3,h4⟩
  ·exact .inl h1
  ·exact .inr ⟨l,h1,fun v hv=>by have:=h2 v hv; omega,h3,h4⟩
theorem FI.start {n:Nat} {w:Nat->Nat->Int} (hw:Wg n w):FI n 0 w w:=by
 refine ⟨fun i k l _ _ hl ho=>?_,fun i k hi hk=>?_⟩
 ·match l,hl,ho with
  | [],_,ho=>exact ⟨ho,Int.le_refl _⟩
  | v::r,hl,_=>have:=hl v (by simp); omega
 ·have hW:=eWW
  have hC:=eCC
  rcases hw.b i k hi hk with h | h
  ·exact .inl h
  ·exact .inr ⟨[],List.nodup_nil,by simp,show w i k<WW by omega,rfl⟩
end Go.Sx.Nos
namespace Go.Sx.Nos
open Go Go.Sx Go.Proofs
def rd (d:Nat->Int):Nat->Nat->Int:=fun i k=>d (i*65+k)
theorem FI.ext {n m:Nat} {w d d':Nat->Nat->Int} (h:FI n m w d) (he:∀ i k,i<n->k<n->d' i k=d i k):FI n m w d':=
 ⟨fun i k l hi hk hl ho=>by rw [he i k hi hk]; exact h.opt i k l hi hk hl ho,fun i k hi hk=>by rw [he i k hi hk]; exact h.real i k hi hk⟩
theorem iF_rnd {n m:Nat} {d:Nat->Int} (hn:n<=65) (_:m<n) {i k:Nat} (hi:i<n) (hk:k<n):rd (iF n m n d) i k=rnd m (rd d) i k:=by
 have e1:(i*65+k) / 65=i:=by omega
 have e2:(i*65+k) % 65=k:=by omega
 unfold rd iF rnd
 rw [e1,e2,if_pos ⟨hi,hk⟩]
section
variable {n:Nat} {d:Nat->Int}
theorem fw_z {m:Nat} (hw:Wg n (rd d)) (h:FI n m (rd d) (rd (fwN n m d))) (hg:∀ j,j<m->¬ badD n (fwN n (j+1) d)) {i:Nat} (hi:i<n):rd (fwN n m d) i i=0:=by
 cases m with
 | zero=>exact hw.z i hi
 | succ m=>
  have h1:=h.zero hw hi
  have h2:¬ rd (fwN n (m+1) d) i i<0:=fun hb=>hg m (by omega) ⟨i,hi,hb⟩
  omega
theorem fw_FI (hw:Wg n (rd d)) (hn:n<=65):∀ (m:Nat),m<=n->(∀ j,j<m->¬ badD n (fwN n (j+1) d))->FI n m (rd d) (rd (fwN n m d)):=by
 intro m
 induction m with
 | zero=>exact fun _ _=>FI.start hw
 | succ m ih=>
  intro hm hg
  have h:=ih (by omega) (fun j hj=>hg j (by omega))
  have hz:=fw_z hw h (fun j hj=>hg j (by omega)) (show m<n by omega)
  refine (h.step hw hn (by omega) hz (fun i hi=>?_)).ext (fun i k hi hk=>iF_rnd hn (by omega) hi hk)
  have h2:¬ rd (fwN n (m+1) d) i i<0:=fun hb=>hg m (by omega) ⟨i,hi,hb⟩
  have h3:rd (fwN n (m+1) d) i i=rnd m (rd (fwN n m d)) i i:=iF_rnd hn (by omega) hi hi
  omega
theorem fw_safe (hw:Wg n (rd d)) (hn:n<=65):Safe n d:=by
 refine ⟨hn,fun m hm hg=>?_⟩
 have h:=fw_FI hw hn m (by omega) hg
 refine ⟨hn,hm,fw_z hw h hg hm,fun i k hi hk h1 h2=>?_⟩
 have b1:=h.bd hw hn (by omega) hi hm
 have b2:=h.bd hw hn (by omega) hm hk
 have b1:=b1.resolve_left h1
 have b2:=b2.resolve_left (by intro e; have e:fwN n m d (m*65+k)=WW:=e; omega)
 unfold rd at b1 b2
 exact ⟨by omega,by omega⟩
def solW (n:Nat) (w:Nat->Nat->Int) (y:Nat->Int):Prop:=∀ i k,i<n->k<n->w i k<WW->y i - y k<=w i k
theorem solW_wt {w:Nat->Nat->Int} {y:Nat->Int} (h:solW n w y):∀ (l:List Nat) (i k:Nat),i<n->k<n->(∀ v ∈ l,v<n)->okp w i l k->y i - y k<=wt w i l k
 | [],i,k,hi,hk,_,ho=>h i k hi hk ho
 | v::r,i,k,hi,hk,hl,ho=>by
  have hv:=hl v (by simp)
  have h1:=h i v hi hv ho.1
  have h2:=solW_wt h r v k hv hk (fun u hu=>hl u (by simp [hu])) ho.2
  simp only [wt]
  omega
theorem FI.sol {w D:Nat->Nat->Int} {m:Nat} (h:FI n m w D) (hm:m<=n) {y:Nat->Int} (hy:solW n w y) {i k:Nat} (hi:i<n) (hk:k<n) (hd:D i k ≠ WW):y i - y k<=D i k:=by
 obtain ⟨l,h1,h2,h3,h4⟩:=(h.real i k hi hk).resolve_left hd
 rw [<- h4]
 exact solW_wt hy l i k hi hk (fun v hv=>Nat.lt_of_lt_of_le (h2 v hv) hm) h3
theorem FI.tri {w D:Nat->Nat->Int} (h:FI n n w D) {i m k:Nat} (hi:i<n) (hm:m<n) (hk:k<n) (h1:D i m ≠ WW) (h2:D m k ≠ WW):D i k<WW/\D i k<=D i m+D m k:=by
 obtain ⟨l1,a1,a2,a3,a4⟩:=(h.real i m hi hm).resolve_left h1
 obtain ⟨l2,b1,b2,b3,b4⟩:=(h.real m k hm hk).resolve_left h2
 have:=h.opt i k (l1 ++ m::l2) hi hk (fun v hv=>by
  simp only [List.mem_append,List.mem_cons] at hv
  rcases hv with hv | rfl | hv
  ·exact a2 v hv
  ·exact hm
  ·exact b2 v hv) ((okp_app w m k l2 l1 i).2 ⟨a3,b3⟩)
 rw [wt_app,a4,b4] at this
 exact this
theorem fw_no (hw:Wg n (rd d)) (hn:n<=65) {y:Nat->Int} (hy:solW n (rd d) y):goodF n d:=by
 have key:∀ m,m<=n->∀ j,j<m->¬ badD n (fwN n (j+1) d):=by
  intro m
  induction m with
  | zero=>intro _ j hj; omega
  | succ m ih=>
   intro hm j hj hb
   have hg:=ih (by omega)
   by_cases hjm:j<m
   ·exact hg j hjm hb
   ·obtain rfl:j=m:=by omega
    have h:=fw_FI hw hn j (by omega) hg
    obtain ⟨i,hi,hb⟩:=hb
    have hr:rd (fwN n (j+1) d) i i=rnd j (rd (fwN n j d)) i i:=iF_rnd hn (by omega) hi hi
    have hb:rd (fwN n (j+1) d) i i<0:=hb
    have hW:=eWW
    obtain ⟨l,l1,l2,l3⟩:=(h.walk (show j<n by omega) hi hi).resolve_left (by omega)
    have:=solW_wt hy l i i hi hi (fun v hv=>by have:=l1 v hv; omega) l2
    omega
 exact fun m hm=>key n (Nat.le_refl _) m hm
theorem least {f:Nat->Int} {q:Nat->Prop}:∀ {n:Nat},(∃ u,u<n/\q u)->∃ y,(∀ u,u<n->q u->y<=f u)/\∃ u,u<n/\q u/\y=f u:=by
 intro n
 induction n with
 | zero=>rintro ⟨u,h,_⟩; omega
 | succ n ih=>
  intro h
  by_cases h1:∃ u,u<n/\q u
  ·obtain ⟨y,a1,u,a2,a3,a4⟩:=ih h1
   by_cases h2:q n/\f n<y
   ·refine ⟨f n,fun v hv hq=>?_,n,by omega,h2.1,rfl⟩
    by_cases hvn:v=n
    ·rw [hvn]; omega
    ·have:=a1 v (by omega) hq; omega
   ·refine ⟨y,fun v hv hq=>?_,u,by omega,a3,a4⟩
    by_cases hvn:v=n
    ·subst hvn
     by_cases h3:f v<y
     ·exact (h2 ⟨hq,h3⟩).elim
     ·omega
    ·exact a1 v (by omega) hq
  ·obtain ⟨u,hu,hq⟩:=h
   have hun:u=n:=by
    by_cases hun:u=n
    ·exact hun
    ·exact (h1 ⟨u,by omega,hq⟩).elim
   subst hun
   refine ⟨f u,fun v hv hq'=>?_,u,by omega,hq,rfl⟩
   by_cases hvn:v=u
   ·rw [hvn]; omega
   ·exact (h1 ⟨v,by omega,hq'⟩).elim
theorem FI.pot {w D:Nat->Nat->Int} (h:FI n n w D) (hw:Wg n w) (hn:n<=65) (hz:∀ i,i<n->D i i=0) {b:Nat} (hb:b<n) {K:Int} (hK:200000000<=K) :
  ∃ y,solW n w y/\y b=0/\∀ a,a<n->(D a b ≠ WW->y a=D a b)/\(D a b=WW->K - 66000000<=y a):=by
 have hW:=eWW
 have ex:∀ v,∃ y,v<n->(∀ u,u<n->D v u ≠ WW->y<=D v u+if u=b then 0 else K)/\∃ u,u<n/\D v u ≠ WW/\y=D v u+if u=b then 0 else K:=fun v=>by
  by_cases hv:v<n
  ·obtain ⟨y,h1,h2⟩:=least (f:=fun u=>D v u+if u=b then 0 else K) (q:=fun u=>D v u ≠ WW) (n:=n) ⟨v,hv,by rw [hz v hv]; decide⟩
   exact ⟨y,fun _=>⟨h1,h2⟩⟩
  ·exact ⟨0,fun h=>absurd h hv⟩
 let y:Nat->Int:=fun v=>Classical.choose (ex v)
 have hy:∀ v,v<n->(∀ u,u<n->D v u ≠ WW->y v<=D v u+if u=b then 0 else K)/\∃ u,u<n/\D v u ≠ WW/\y v=D v u+if u=b then 0 else K:=fun v hv=>Classical.choose_spec (ex v) hv
 have bd:=fun i k (hi:i<n) (hk:k<n)=>h.bd hw hn (Nat.le_refl _) hi hk
 refine ⟨y,fun i k hi hk hlt=>?_,?_,fun a ha=>⟨fun hf=>?_,fun hf=>?_⟩⟩
 ·obtain ⟨_,u,hu,u1,u2⟩:=hy k hk
  have o:=h.opt i k [] hi hk (by simp) hlt
  have t:=h.tri hi hk hu (by omega) u1
  have:=(hy i hi).1 u hu (by omega)
  simp only [wt] at o
  omega
 ·obtain ⟨h1,u,hu,u1,u2⟩:=hy b hb
  have h1:=h1 b hb (by rw [hz b hb]; decide)
  rw [hz b hb,if_pos rfl] at h1
  by_cases hub:u=b
  ·rw [if_pos hub,hub,hz b hb] at u2; omega
  ·rw [if_neg hub] at u2
   have:=(bd b u hb hu).resolve_left u1
   omega
 ·obtain ⟨h1,u,hu,u1,u2⟩:=hy a ha
  have h1:=h1 b hb hf
  rw [if_pos rfl] at h1
  by_cases hub:u=b
  ·rw [if_pos hub,hub] at u2; omega
  ·rw [if_neg hub] at u2
   have:=(bd a u ha hu).resolve_left u1
   have:=(bd a b ha hb).resolve_left hf
   omega
 ·obtain ⟨h1,u,hu,u1,u2⟩:=hy a ha
  by_cases hub:u=b
  ·rw [hub] at u1; exact absurd hf u1
  ·rw [if_neg hub] at u2
   have:=(bd a u ha hu).resolve_left u1
   omega
theorem fw_yes (hw:Wg n (rd d)) (hn:n<=65) (hg:goodF n d):FI n n (rd d) (rd (fwN n n d))/\∀ i,i<n->rd (fwN n n d) i i=0:=by
 have h:=fw_FI hw hn n (Nat.le_refl _) hg
 exact ⟨h,fun i hi=>fw_z hw h hg hi⟩
end
end Go.Sx.Nos
