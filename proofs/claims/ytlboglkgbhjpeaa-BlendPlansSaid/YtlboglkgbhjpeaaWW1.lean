/- stream: Ba1 BbN1 BbN2 BbP1 BbP2 Bc1 Bc2 BbS1 BbS2 Bd1 Bd2 Be1 BfSV1 BfSV2 BfSC1 BfSC2 BfSL1 BfSL2 BfSH1 BfSH2 Bg1 Bg2 Bh1 Bh2 Bh3 Bi1 Bi2 Bi3 Bj1 Bj2 Bk1 Bk2 Bl1 Bl2 Bm1 Bm2 Bn1 Bn2 Bn3 Bn4 Bn5 Bo1 Bo2 Bp1 Bo3 Bp2 Bp3 Bp4, in one text. -/
import Derived.Test.YtlboglkgbhjpeaaSxO
import Derived.Test.YtlboglkgbhjpeaaSxJ
import Derived.Test.YtlboglkgbhjpeaaSxK
import Derived.Test.YtlboglkgbhjpeaaSxN
import Derived.Test.YtlboglkgbhjpeaaSxU
import Derived.Test.YtlboglkgbhjpeaaSxY
import Derived.Test.YtlboglkgbhjpeaaProg
namespace Go.Sx.Bln
open Go Go.Sx Go.Proofs
set_option maxRecDepth 1000000
theorem hmix:Try.prog.follows .mixedOrders=true:=by kernel_rfl
theorem none_good {un:Nat} (m:Nat):Good Try.prog (callN Try.prog noSpec noL un m):=
 callN_good hmix (fun _ _ h=>by cases h) (fun _ _ _ _ _ _ _ h=>by cases h) m
theorem good0:Good Try.prog (callN Try.prog noSpec noL 10 20):=none_good 20
theorem noL_ok {b:Code} {n:Nat}:∀ id T,(fun _:Nat=>(none:Option LT)) id=some T->∀ b' ∈ blocksOf id b,LSound Try.prog true (.block id b') n T:=fun _ _ h=>by cases h
theorem noSp:∀ f T,noSpec f=some T->SpOk Try.prog f T:=fun _ _ h=>by cases h
theorem noL_good {sp:SpecT} (h:∀ f T,sp f=some T->SpOk Try.prog f T):Good Try.prog (callN Try.prog sp noL 10 20):=callN_good hmix h (fun _ _ _ _ _ _ _ h=>by cases h) 20
@[reducible] def I (n:Int):VV:=.int .i64 n
structure Sp where
 lo:Int
 hi:Int
def s0:Sp:=⟨0,0⟩
def spG (l:List Sp) (j:Nat):List VV:=[I (l.getD j s0).lo,I (l.getD j s0).hi]
def spD (l:List Sp):VV:=.tl l.length 2 (spG l)
structure Stk where
 casks:Int
 vol:Int
 age:Int
 cost:Int
 prof:List Sp
def k0:Stk:=⟨0,0,0,0,[]⟩
def stL (s:Stk):List VV:=[I s.casks,I s.vol,I s.age,I s.cost,spD s.prof]
def stG (l:List Stk) (j:Nat):List VV:=stL (l.getD j k0)
def stD (l:List Stk):VV:=.tl l.length 5 (stG l)
def dG (D:List Int) (j:Nat):List VV:=[I (D.getD j 0)]
def inD (D:List Int):VV:=.tl D.length 1 (dG D)
structure Tst where
 T:List Int
 far:Int
 least:Int
def tsL (t:Tst):List VV:=[inD t.T,I t.far,I t.least]
abbrev oneL (s:Nat) (q:List VV):Nat->List VV:=fun j=>List.take s (List.drop (j*s) q)
def okN (n:Int):Bool:=decide (0<=n/\n<=1000)
def rowN:FuncId × Spec1:=(82,fun _ args h K=>match args with
 | [.int .i64 n]=>K (.ret (.bool (!okN n))) h
 | _=>False)
def dsN:List Nat:=[8,7,6,4,0,1]
def VN (D:List Int) (i:Int):List VV:=[I i,I D.length,inD D,I 0,inD D,.func 82 [] []]
theorem N_ev (D:List Int) (i:Int) (X:VEx->List VV->List VB->Prop):codeE Try.prog (callN Try.prog (tabS [rowN]) noL 10 20) (fun _=>none) true 10 19 0 (loopB 0 (bodyOf Try.prog 81)) (dsN.zip (VN D i)) ⟨0,([]:List Nat).zip []⟩ (obs 0 dsN [] X) =
 (bif decide (i<(↑D.length:Int)) then
 bif decide ((0:Int)<=i/\i<(↑D.length:Int)) then
 bif !okN (D.getD i.toNat (0:Int)) then
 X .ret [I i,I (↑D.length:Int),VV.tl D.length 1 (dG D),I i,VV.tl D.length 1 (dG D),VV.func 82 [] []] []
 else bif inK .i64 (i+(1:Int)) then
 X .normal [I (i+(1:Int)),I (↑D.length:Int),VV.tl D.length 1 (dG D),I 0,VV.tl D.length 1 (dG D),VV.func 82 [] []] []
 else False
 else False
 else X (.exit 0) [I i,I (↑D.length:Int),VV.tl D.length 1 (dG D),I 0,VV.tl D.length 1 (dG D),VV.func 82 [] []] []):=by kernel_rfl
def qN (D:List Int) (i:Nat):Bool:=!okN (D.getD i 0)
def anyN (D:List Int):Bool:=(List.range D.length).any (qN D)
def lN (D:List Int):LT:=fun lock t h K=>
 FitP lock h t ⟨0,([]:List Nat).zip []⟩ (dsN.zip (VN D 0))/\D.length<=100000/\(anyN D=false->K .normal (dsN.zip (VN D D.length)) ⟨0,([]:List Nat).zip []⟩)/\(anyN D=true->∀ i:Nat,K .ret (dsN.zip [I i,I D.length,inD D,I i,inD D,.func 82 [] []]) ⟨0,([]:List Nat).zip []⟩)
theorem Nf_ev (D:List Int) (Q:VRes->Prop):callN Try.prog noSpec (atF 81 [(0,lN D)]) 10 20 0 (.fn 60) [inD D,.func 82 [] []] ⟨0,[]⟩ (fun r _=>Q r) =
 (FitP 0 (VH.mk 0 ([].zip [])) (dsN.zip (VN D (0:Int))) (VH.mk 0 ([].zip [])) (dsN.zip (VN D (0:Int)))/\D.length<=100000/\(anyN D=false->Q (.ret (.bool (decide ((-1:Int) ≥ (0:Int))))))/\(anyN D=true->∀ (i:Nat),Q (.ret (.bool (decide ((↑i:Int) ≥ (0:Int))))))):=by kernel_rfl
section
variable {D:List Int}
def ON (D:List Int) (_:Nat) (e:VEx) (vs:List VV) (bs:List VB):Prop:=
 bs=[]/\((anyN D=false/\e=.exit 0/\vs=VN D D.length) ∨ (anyN D=true/\e=.ret/\∃ i:Nat,vs=[I i,I D.length,inD D,I i,inD D,.func 82 [] []]))
theorem lN_ok (hrow:SpOk Try.prog rowN.1 rowN.2):LSound Try.prog true (.block 0 (.loop (loopB 0 (bodyOf Try.prog 81)))) 19 (lN D):=by
 by_cases hn:D.length<=100000
 ·refine loop_row hmix (noL_good (tab_ok [rowN] (fun x hx=>by
   simp only [List.mem_singleton] at hx
   subst hx
   exact hrow))) (un:=10) (ds:=dsN) (ns:=[]) (nx:=0) (fun i:Nat=>VN D i) (fun _=>[]) (fun i=>i<=D.length/\∀ j,j<i->qN D j=false) (fun i=>D.length - i) (ON D) noL_ok ?_ ?_
  ·rintro i ⟨h0,h1⟩
   refine cast (N_ev D i _).symm ?_
   by_cases hlt:i<D.length
   ·refine cond_dk (by omega) (cond_dk ⟨by omega,by omega⟩ ?_)
    rw [show (i:Int).toNat=i by omega]
    have key:∀ b:Bool,b=qN D i->(bif b then RoundQ (fun i:Nat=>VN D i) (fun _=>[]) (fun i=>i<=D.length/\∀ j,j<i->qN D j=false) (fun i=>D.length - i) (ON D) i .ret [I i,I D.length,inD D,I i,inD D,.func 82 [] []] [] else bif inK .i64 ((i:Int)+1) then RoundQ (fun i:Nat=>VN D i) (fun _=>[]) (fun i=>i<=D.length/\∀ j,j<i->qN D j=false) (fun i=>D.length - i) (ON D) i .normal (VN D (i+1)) [] else False):=by
     rintro b rfl
     refine cond_i (fun h=>⟨rfl,.inr ⟨?_,rfl,i,rfl⟩⟩) (fun h=>cond_r (by omega) ⟨i+1,⟨by omega,fun j hj=>?_⟩,by dsimp only; omega,rfl,fitBs_refl _,fun _ _ _ h=>h⟩)
     ·unfold anyN
      rw [List.any_eq_true]
      exact ⟨i,List.mem_range.2 hlt,h⟩
     ·by_cases e:j=i
      ·subst e; exact h
      ·exact h1 j (by omega)
    exact key _ rfl
   ·obtain rfl:i=D.length:=by omega
    refine cond_d (fun h=>by omega) (fun _=>⟨rfl,.inl ⟨?_,rfl,rfl⟩⟩)
    unfold anyN
    rw [List.any_eq_false]
    intro j hj
    rw [h1 j (List.mem_range.1 hj)]
    simp
  ·rintro lock t h K ⟨hf,_,k1,k2⟩
   refine ⟨0,hf,⟨Nat.zero_le _,fun j hj=>by omega⟩,?_⟩
   rintro e vs bs ⟨rfl,⟨g,rfl,rfl⟩ | ⟨g,rfl,i,rfl⟩⟩
   ·exact k1 g
   ·exact k2 g i
 ·rintro lock t h K ⟨hf,hc,_⟩
  exact (hn hc).elim
theorem anyN_v (hrow:SpOk Try.prog rowN.1 rowN.2) (hn:D.length<=100000):∃ h',CallsV Try.prog 60 [inD D,.func 82 [] []] ⟨0,[]⟩ (.ret (.bool (anyN D))) h':=by
 have hall:LoopsOk Try.prog 81 [(0,lN D)]:=fun x hx=>by
  simp only [List.mem_singleton] at hx
  subst hx
  exact ⟨by kernel_rfl,lN_ok hrow⟩
 obtain ⟨r,h',rfl,hc⟩:=of_callN (callL_good hmix noSp hall (un:=10) 20) (f:=60) (args:=[inD D,.func 82 [] []]) (h:=⟨0,[]⟩) (K:=fun r _=>r=.ret (.bool (anyN D))) (by
  refine cast (Nf_ev D _).symm ?_
  refine ⟨fitP_self rfl,hn,fun h=>by rw [h]; rfl,fun h i=>by rw [h,decide_eq_true (by omega)]⟩)
 exact ⟨h',hc⟩
end
def okP (n:Sp):Bool:=decide (0<=n.lo/\n.lo<=n.hi/\n.hi<=1000)
def rowP:FuncId × Spec1:=(84,fun _ args h K=>match args with
 | [.agg [.int .i64 a,.int .i64 b]]=>K (.ret (.bool (!okP ⟨a,b⟩))) h
 | _=>False)
def dsP:List Nat:=[8,7,6,4,0,1]
def VP (D:List Sp) (i:Int):List VV:=[I i,I D.length,spD D,I 0,spD D,.func 84 [] []]
theorem P_ev (D:List Sp) (i:Int) (X:VEx->List VV->List VB->Prop):codeE Try.prog (callN Try.prog (tabS [rowP]) noL 10 20) (fun _=>none) true 10 19 0 (loopB 0 (bodyOf Try.prog 90)) (dsP.zip (VP D i)) ⟨0,([]:List Nat).zip []⟩ (obs 0 dsP [] X) =
 (bif decide (i<(↑D.length:Int)) then
 bif decide ((0:Int)<=i/\i<(↑D.length:Int)) then
 bif !okP (Sp.mk (D.getD i.toNat s0).lo (D.getD i.toNat s0).hi) then
 X .ret [I i,I (↑D.length:Int),VV.tl D.length 2 (spG D),I i,VV.tl D.length 2 (spG D),VV.func 84 [] []] []
 else bif inK .i64 (i+(1:Int)) then
 X .normal [I (i+(1:Int)),I (↑D.length:Int),VV.tl D.length 2 (spG D),I 0,VV.tl D.length 2 (spG D),VV.func 84 [] []] []
 else False
 else False
 else X (.exit 0) [I i,I (↑D.length:Int),VV.tl D.length 2 (spG D),I 0,VV.tl D.length 2 (spG D),VV.func 84 [] []] []):=by kernel_rfl
def qP (D:List Sp) (i:Nat):Bool:=!okP (D.getD i s0)
def anyP (D:List Sp):Bool:=(List.range D.length).any (qP D)
def lP (D:List Sp):LT:=fun lock t h K=>
 FitP lock h t ⟨0,([]:List Nat).zip []⟩ (dsP.zip (VP D 0))/\D.length<=100000/\(anyP D=false->K .normal (dsP.zip (VP D D.length)) ⟨0,([]:List Nat).zip []⟩)/\(anyP D=true->∀ i:Nat,K .ret (dsP.zip [I i,I D.length,spD D,I i,spD D,.func 84 [] []]) ⟨0,([]:List Nat).zip []⟩)
theorem Pf_ev (D:List Sp) (Q:VRes->Prop):callN Try.prog noSpec (atF 90 [(0,lP D)]) 10 20 0 (.fn 85) [spD D,.func 84 [] []] ⟨0,[]⟩ (fun r _=>Q r) =
 (FitP 0 (VH.mk 0 ([].zip [])) (dsP.zip (VP D (0:Int))) (VH.mk 0 ([].zip [])) (dsP.zip (VP D (0:Int)))/\D.length<=100000/\(anyP D=false->Q (.ret (.bool (decide ((-1:Int) ≥ (0:Int))))))/\(anyP D=true->∀ (i:Nat),Q (.ret (.bool (decide ((↑i:Int) ≥ (0:Int))))))):=by kernel_rfl
section
variable {D:List Sp}
def OP (D:List Sp) (_:Nat) (e:VEx) (vs:List VV) (bs:List VB):Prop:=
 bs=[]/\((anyP D=false/\e=.exit 0/\vs=VP D D.length) ∨ (anyP D=true/\e=.ret/\∃ i:Nat,vs=[I i,I D.length,spD D,I i,spD D,.func 84 [] []]))
theorem lP_ok (hrow:SpOk Try.prog rowP.1 rowP.2):LSound Try.prog true (.block 0 (.loop (loopB 0 (bodyOf Try.prog 90)))) 19 (lP D):=by
 by_cases hn:D.length<=100000
 ·refine loop_row hmix (noL_good (tab_ok [rowP] (fun x hx=>by
   simp only [List.mem_singleton] at hx
   subst hx
   exact hrow))) (un:=10) (ds:=dsP) (ns:=[]) (nx:=0) (fun i:Nat=>VP D i) (fun _=>[]) (fun i=>i<=D.length/\∀ j,j<i->qP D j=false) (fun i=>D.length - i) (OP D) noL_ok ?_ ?_
  ·rintro i ⟨h0,h1⟩
   refine cast (P_ev D i _).symm ?_
   by_cases hlt:i<D.length
   ·refine cond_dk (by omega) (cond_dk ⟨by omega,by omega⟩ ?_)
    rw [show (i:Int).toNat=i by omega]
    have key:∀ b:Bool,b=qP D i->(bif b then RoundQ (fun i:Nat=>VP D i) (fun _=>[]) (fun i=>i<=D.length/\∀ j,j<i->qP D j=false) (fun i=>D.length - i) (OP D) i .ret [I i,I D.length,spD D,I i,spD D,.func 84 [] []] [] else bif inK .i64 ((i:Int)+1) then RoundQ (fun i:Nat=>VP D i) (fun _=>[]) (fun i=>i<=D.length/\∀ j,j<i->qP D j=false) (fun i=>D.length - i) (OP D) i .normal (VP D (i+1)) [] else False):=by
     rintro b rfl
     refine cond_i (fun h=>⟨rfl,.inr ⟨?_,rfl,i,rfl⟩⟩) (fun h=>cond_r (by omega) ⟨i+1,⟨by omega,fun j hj=>?_⟩,by dsimp only; omega,rfl,fitBs_refl _,fun _ _ _ h=>h⟩)
     ·unfold anyP
      rw [List.any_eq_true]
      exact ⟨i,List.mem_range.2 hlt,h⟩
     ·by_cases e:j=i
      ·subst e; exact h
      ·exact h1 j (by omega)
    exact key _ rfl
   ·obtain rfl:i=D.length:=by omega
    refine cond_d (fun h=>by omega) (fun _=>⟨rfl,.inl ⟨?_,rfl,rfl⟩⟩)
    unfold anyP
    rw [List.any_eq_false]
    intro j hj
    rw [h1 j (List.mem_range.1 hj)]
    simp
  ·rintro lock t h K ⟨hf,_,k1,k2⟩
   refine ⟨0,hf,⟨Nat.zero_le _,fun j hj=>by omega⟩,?_⟩
   rintro e vs bs ⟨rfl,⟨g,rfl,rfl⟩ | ⟨g,rfl,i,rfl⟩⟩
   ·exact k1 g
   ·exact k2 g i
 ·rintro lock t h K ⟨hf,hc,_⟩
  exact (hn hc).elim
theorem anyP_v (hrow:SpOk Try.prog rowP.1 rowP.2) (hn:D.length<=100000):∃ h',CallsV Try.prog 85 [spD D,.func 84 [] []] ⟨0,[]⟩ (.ret (.bool (anyP D))) h':=by
 have hall:LoopsOk Try.prog 90 [(0,lP D)]:=fun x hx=>by
  simp only [List.mem_singleton] at hx
  subst hx
  exact ⟨by kernel_rfl,lP_ok hrow⟩
 obtain ⟨r,h',rfl,hc⟩:=of_callN (callL_good hmix noSp hall (un:=10) 20) (f:=85) (args:=[spD D,.func 84 [] []]) (h:=⟨0,[]⟩) (K:=fun r _=>r=.ret (.bool (anyP D))) (by
  refine cast (Pf_ev D _).symm ?_
  refine ⟨fitP_self rfl,hn,fun h=>by rw [h]; rfl,fun h i=>by rw [h,decide_eq_true (by omega)]⟩)
 exact ⟨h',hc⟩
end
theorem n82_ev (n:Int) (Q:VRes->Prop):callN Try.prog noSpec noL 10 20 0 (.fn 82) [I n] ⟨0,[]⟩ (fun r _=>Q r) =
 (bif decide ((0:Int)<=n) then
 Q (.ret (.bool !decide (n<=(1000:Int))))
 else Q (.ret (.bool !false))):=by kernel_rfl
theorem n84_ev (n:Sp) (Q:VRes->Prop):callN Try.prog noSpec noL 10 20 0 (.fn 84) [.agg [I n.lo,I n.hi]] ⟨0,[]⟩ (fun r _=>Q r) =
 (bif decide (n.lo<(0:Int)) then
 Q (.ret (.bool true))
 else bif decide (n.lo > n.hi) then
 Q (.ret (.bool true))
 else Q (.ret (.bool (decide (n.hi > (1000:Int)))))):=by kernel_rfl
def cfN:FuncId × Spec1:=(60,fun _ args h K=>match args with
 | [x,.func 82 [] []]=>∃ D:List Int,isD h 1 x (inD D)/\D.length<=100000/\K (.ret (.bool (anyN D))) h
 | _=>False)
def cfP:FuncId × Spec1:=(85,fun _ args h K=>match args with
 | [x,.func 84 [] []]=>∃ D:List Sp,isD h 1 x (spD D)/\D.length<=100000/\K (.ret (.bool (anyP D))) h
 | _=>False)
theorem ta_ev (t:Tst) (Q:VRes->Prop):callN Try.prog (tabS [cfN]) noL 10 20 0 (.fn 67) [.agg (tsL t)] ⟨0,[]⟩ (fun r _=>Q r) =
 (bif decide ((1:Int)<=(↑t.T.length:Int)) then
 bif decide ((↑t.T.length:Int)<=(4:Int)) then
 ∃ D,isD (VH.mk (0+1) [(0,VB.cells [VV.tl t.T.length 1 (dG t.T),I t.far,I t.least] 25)]) 1 (VV.tl t.T.length 1 (dG t.T)) (inD D)/\D.length<=100000/\bif !anyN D then
 bif decide ((0:Int)<=t.far) then
 bif decide (t.far<=(1000:Int)) then
 bif decide ((0:Int)<=t.least) then
 Q (.ret (.bool (decide (t.least<=(100:Int)))))
 else Q (.ret (.bool false))
 else Q (.ret (.bool false))
 else Q (.ret (.bool false))
 else Q (.ret (.bool false))
 else Q (.ret (.bool false))
 else Q (.ret (.bool false))):=by kernel_rfl
theorem sk_ev (s:Stk) (t:Tst) (Q:VRes->Prop):callN Try.prog (tabS [cfP]) noL 10 20 0 (.fn 69) [.agg (stL s),.tp (tsL t)] ⟨0,[]⟩ (fun r _=>Q r) =
 (bif decide ((0:Int)<=s.casks) then
 bif decide (s.casks<=(6:Int)) then
 bif decide ((1:Int)<=s.vol) then
 bif decide (s.vol<=(65536:Int)) then
 bif decide ((0:Int)<=s.age) then
 bif decide (s.age<=(100:Int)) then
 bif decide ((0:Int)<=s.cost) then
 bif decide (s.cost<=(1048576:Int)) then
 bif decide ((↑s.prof.length:Int)=(↑t.T.length:Int)) then
 ∃ D,isD (VH.mk (3) [(2,VB.cells [VV.tl t.T.length 1 (dG t.T),I t.far,I t.least] 25),(1,VB.cells [I s.casks,I s.vol,I s.age,I s.cost,VV.tl s.prof.length 2 (spG s.prof)] 32),(0,VB.cells [I s.casks,I s.vol,I s.age,I s.cost,VV.tl s.prof.length 2 (spG s.prof)] 32)]) 1 (VV.tl s.prof.length 2 (spG s.prof)) (spD D)/\D.length<=100000/\Q (.ret (.bool !!anyP D))
 else Q (.ret (.bool !false))
 else Q (.ret (.bool !false))
 else Q (.ret (.bool !false))
 else Q (.ret (.bool !false))
 else Q (.ret (.bool !false))
 else Q (.ret (.bool !false))
 else Q (.ret (.bool !false))
 else Q (.ret (.bool !false))
 else Q (.ret (.bool !false))):=by kernel_rfl
theorem rowN_ok:SpOk Try.prog rowN.1 rowN.2:=by
 intro lock args h K hK
 simp only [rowN] at hK
 split at hK
 ·rename_i n
  obtain ⟨r,h',rfl,hc⟩:=of_callN good0 (f:=82) (args:=[I n]) (h:=⟨0,[]⟩) (K:=fun r _=>r=.ret (.bool (!okN n))) (by
   refine cast (n82_ev n _).symm ?_
   unfold okN
   refine cond_d (fun h1=>?_) (fun h1=>?_)
   ·by_cases h2:n<=1000
    ·rw [decide_eq_true h2,decide_eq_true ⟨h1,h2⟩]
    ·rw [decide_eq_false h2,decide_eq_false (fun h=>h2 h.2)]
   ·rw [decide_eq_false (fun h=>h1 h.1)])
  exact ⟨_,h,hK,lockP_refl _ _,calls_lendDP 1 hc rfl ⟨⟨rfl,rfl⟩,trivial⟩⟩
 ·exact hK.elim
theorem rowP_ok:SpOk Try.prog rowP.1 rowP.2:=by
 intro lock args h K hK
 simp only [rowP] at hK
 split at hK
 ·rename_i a b
  obtain ⟨r,h',rfl,hc⟩:=of_callN good0 (f:=84) (args:=[.agg [I a,I b]]) (h:=⟨0,[]⟩) (K:=fun r _=>r=.ret (.bool (!okP ⟨a,b⟩))) (by
   refine cast (n84_ev ⟨a,b⟩ _).symm ?_
   unfold okP
   refine cond_d (fun h1=>?_) (fun h1=>cond_d (fun h2=>?_) (fun h2=>?_)) <;> dsimp only at *
   ·rw [decide_eq_false (by omega)]; rfl
   ·rw [decide_eq_false (by omega)]; rfl
   ·by_cases h3:b > 1000
    ·rw [decide_eq_true h3,decide_eq_false (by omega)]; rfl
    ·rw [decide_eq_false h3,decide_eq_true (by omega)]; rfl)
  exact ⟨_,h,hK,lockP_refl _ _,calls_lendDP 2 hc rfl ⟨⟨⟨rfl,rfl⟩,⟨rfl,rfl⟩,trivial⟩,trivial⟩⟩
 ·exact hK.elim
theorem cfN_ok:SpOk Try.prog cfN.1 cfN.2:=by
 intro lock args h K hK
 simp only [cfN] at hK
 split at hK
 ·obtain ⟨D,hx,hn,hK⟩:=hK
  obtain ⟨h',hc⟩:=anyN_v rowN_ok hn
  exact ⟨_,h,hK,lockP_refl _ _,calls_lendDP 1 hc rfl ⟨hx,⟨rfl,trivial,trivial⟩,trivial⟩⟩
 ·exact hK.elim
theorem cfP_ok:SpOk Try.prog cfP.1 cfP.2:=by
 intro lock args h K hK
 simp only [cfP] at hK
 split at hK
 ·obtain ⟨D,hx,hn,hK⟩:=hK
  obtain ⟨h',hc⟩:=anyP_v rowP_ok hn
  exact ⟨_,h,hK,lockP_refl _ _,calls_lendDP 1 hc rfl ⟨hx,⟨rfl,trivial,trivial⟩,trivial⟩⟩
 ·exact hK.elim
theorem tab1 {T:FuncId × Spec1} (h:SpOk Try.prog T.1 T.2):∀ f U,tabS [T] f=some U->SpOk Try.prog f U:=tab_ok _ (fun x hx=>by
 simp only [List.mem_singleton] at hx
 subst hx
 exact h)
def okT (t:Tst):Bool:=decide (1<=t.T.length/\t.T.length<=4) && !anyN t.T && decide (0<=t.far/\t.far<=1000) && decide (0<=t.least/\t.least<=100)
def okS (t:Tst) (s:Stk):Bool:=decide ((0<=s.casks/\s.casks<=6)/\(1<=s.vol/\s.vol<=65536)/\(0<=s.age/\s.age<=100)/\(0<=s.cost/\s.cost<=1048576)/\s.prof.length=t.T.length) && !anyP s.prof
theorem taste_v (t:Tst):∃ h',CallsV Try.prog 67 [.agg (tsL t)] ⟨0,[]⟩ (.ret (.bool (okT t))) h':=by
 obtain ⟨r,h',rfl,hc⟩:=of_callN (noL_good (tab1 cfN_ok)) (f:=67) (args:=[.agg (tsL t)]) (h:=⟨0,[]⟩) (K:=fun r _=>r=.ret (.bool (okT t))) (by
  refine cast (ta_ev t _).symm ?_
  have e:∀ x:Bool,okT t=x->VRes.ret (VV.bool x)=VRes.ret (VV.bool (okT t)):=fun x hx=>by rw [hx]
  unfold okT at e ⊢
  refine cond_d (fun h1=>cond_d (fun h2=>⟨t.T,⟨rfl,rfl,fun _ _=>rfl⟩,by omega,cond_i (fun h3=>cond_d (fun h4=>cond_d (fun h5=>cond_d (fun h6=>e _ ?_) (fun h6=>e _ ?_)) (fun h5=>e _ ?_)) (fun h4=>e _ ?_)) (fun h3=>e _ ?_)⟩) (fun h2=>e _ ?_)) (fun h1=>e _ ?_)
  ·rw [h3,decide_eq_true (p:=1<=t.T.length/\_) (by omega),decide_eq_true (p:=0<=t.far/\_) (by omega),Bool.true_and,Bool.true_and,Bool.true_and,decide_eq_decide]
   omega
  ·rw [decide_eq_false (p:=0<=t.least/\_) (by omega),Bool.and_false]
  ·rw [decide_eq_false (p:=0<=t.far/\_) (by omega),Bool.and_false,Bool.false_and]
  ·rw [decide_eq_false (p:=0<=t.far/\_) (by omega),Bool.and_false,Bool.false_and]
  ·rw [h3,Bool.and_false,Bool.false_and,Bool.false_and]
  ·rw [decide_eq_false (p:=1<=t.T.length/\_) (by omega)]; rfl
  ·rw [decide_eq_false (p:=1<=t.T.length/\_) (by omega)]; rfl)
 exact ⟨h',hc⟩
theorem stock_v (s:Stk) (t:Tst) (ht:t.T.length<=4):∃ h',CallsV Try.prog 69 [.agg (stL s),.tp (tsL t)] ⟨0,[]⟩ (.ret (.bool (!okS t s))) h':=by
 obtain ⟨r,h',rfl,hc⟩:=of_callN (noL_good (tab1 cfP_ok)) (f:=69) (args:=[.agg (stL s),.tp (tsL t)]) (h:=⟨0,[]⟩) (K:=fun r _=>r=.ret (.bool (!okS t s))) (by
  refine cast (sk_ev s t _).symm ?_
  have e:¬ ((0<=s.casks/\s.casks<=6)/\(1<=s.vol/\s.vol<=65536)/\(0<=s.age/\s.age<=100)/\(0<=s.cost/\s.cost<=1048576)/\s.prof.length=t.T.length)->VRes.ret (VV.bool (!false))=VRes.ret (VV.bool (!okS t s)):=fun h=>by
   unfold okS; rw [decide_eq_false h]; rfl
  refine cond_d (fun h1=>cond_d (fun h2=>cond_d (fun h3=>cond_d (fun h4=>cond_d (fun h5=>cond_d (fun h6=>cond_d (fun h7=>cond_d (fun h8=>cond_d (fun h9=>⟨s.prof,⟨rfl,rfl,fun _ _=>rfl⟩,by omega,?_⟩) (fun h=>e (by omega))) (fun h=>e (by omega))) (fun h=>e (by omega))) (fun h=>e (by omega))) (fun h=>e (by omega))) (fun h=>e (by omega))) (fun h=>e (by omega))) (fun h=>e (by omega))) (fun h=>e (by omega))
  unfold okS
  rw [decide_eq_true (p:=(0<=s.casks/\_)/\_) (by omega),Bool.true_and])
 exact ⟨h',hc⟩
def taT:FuncId × Spec1:=(67,fun _ args h K=>match args with
 | [x]=>∃ t:Tst,isD h 2 x (.agg (tsL t))/\K (.ret (.bool (okT t))) h
 | _=>False)
theorem taT_ok:SpOk Try.prog taT.1 taT.2:=by
 intro lock args h K hK
 simp only [taT] at hK
 split at hK
 ·obtain ⟨t,hx,hK⟩:=hK
  obtain ⟨h',hc⟩:=taste_v t
  exact ⟨_,h,hK,lockP_refl _ _,calls_lendDP 2 hc rfl ⟨hx,trivial⟩⟩
 ·exact hK.elim
def rowS:FuncId × Spec1:=(69,fun _ args h K=>match args with
 | [.agg cs,.tp ts]=>∃ (s:Stk) (t:Tst),cs=stL s/\ts=tsL t/\t.T.length<=4/\K (.ret (.bool (!okS t s))) h
 | _=>False)
def dsS:List Nat:=[8,7,6,4,0,1]
def VS (l:List Stk) (tt:Tst) (i:Int):List VV:=[I i,I l.length,stD l,I 0,stD l,.func 69 [] [.tp (tsL tt)]]
theorem S_ev (l:List Stk) (tt:Tst) (i:Int) (X:VEx->List VV->List VB->Prop):codeE Try.prog (callN Try.prog (tabS [rowS]) noL 10 20) (fun _=>none) true 10 19 0 (loopB 0 (bodyOf Try.prog 83)) (dsS.zip (VS l tt i)) ⟨0,([]:List Nat).zip []⟩ (obs 0 dsS [] X) =
 (bif decide (i<(↑l.length:Int)) then
 bif decide ((0:Int)<=i/\i<(↑l.length:Int)) then
 ∃ (s:Stk) (t:Tst),[I (l.getD i.toNat k0).casks,I (l.getD i.toNat k0).vol,I (l.getD i.toNat k0).age,I (l.getD i.toNat k0).cost,VV.tl (l.getD i.toNat k0).prof.length 2 (spG (l.getD i.toNat k0).prof)]=stL s/\tsL tt=tsL t/\t.T.length<=4/\bif !okS t s then
 X .ret [I i,I (↑l.length:Int),VV.tl l.length 5 (stG l),I i,VV.tl l.length 5 (stG l),VV.func 69 [] [VV.tp [VV.tl tt.T.length 1 (dG tt.T),I tt.far,I tt.least]]] []
 else bif inK .i64 (i+(1:Int)) then
 X .normal [I (i+(1:Int)),I (↑l.length:Int),VV.tl l.length 5 (stG l),I 0,VV.tl l.length 5 (stG l),VV.func 69 [] [VV.tp [VV.tl tt.T.length 1 (dG tt.T),I tt.far,I tt.least]]] []
 else False
 else False
 else X (.exit 0) [I i,I (↑l.length:Int),VV.tl l.length 5 (stG l),I 0,VV.tl l.length 5 (stG l),VV.func 69 [] [VV.tp [VV.tl tt.T.length 1 (dG tt.T),I tt.far,I tt.least]]] []):=by kernel_rfl
def qS (l:List Stk) (tt:Tst) (i:Nat):Bool:=!okS tt (l.getD i k0)
def anyS (l:List Stk) (tt:Tst):Bool:=(List.range l.length).any (qS l tt)
def lS (l:List Stk) (tt:Tst):LT:=fun lock t h K=>
 FitP lock h t ⟨0,([]:List Nat).zip []⟩ (dsS.zip (VS l tt 0))/\l.length<=100000/\(anyS l tt=false->K .normal (dsS.zip (VS l tt l.length)) ⟨0,([]:List Nat).zip []⟩)/\(anyS l tt=true->∀ i:Nat,K .ret (dsS.zip [I i,I l.length,stD l,I i,stD l,.func 69 [] [.tp (tsL tt)]]) ⟨0,([]:List Nat).zip []⟩)
theorem Sf_ev (l:List Stk) (tt:Tst) (Q:VRes->Prop):callN Try.prog noSpec (atF 83 [(0,lS l tt)]) 10 20 0 (.fn 68) [stD l,.func 69 [] [.tp (tsL tt)]] ⟨0,[]⟩ (fun r _=>Q r) =
 (FitP 0 (VH.mk 0 ([].zip [])) (dsS.zip (VS l tt (0:Int))) (VH.mk 0 ([].zip [])) (dsS.zip (VS l tt (0:Int)))/\l.length<=100000/\(anyS l tt=false->Q (.ret (.bool (decide ((-1:Int) ≥ (0:Int))))))/\(anyS l tt=true->∀ (i:Nat),Q (.ret (.bool (decide ((↑i:Int) ≥ (0:Int))))))):=by kernel_rfl
section
variable {l:List Stk} {tt:Tst}
def OS (l:List Stk) (tt:Tst) (_:Nat) (e:VEx) (vs:List VV) (bs:List VB):Prop:=
 bs=[]/\((anyS l tt=false/\e=.exit 0/\vs=VS l tt l.length) ∨ (anyS l tt=true/\e=.ret/\∃ i:Nat,vs=[I i,I l.length,stD l,I i,stD l,.func 69 [] [.tp (tsL tt)]]))
theorem lS_ok (ht:tt.T.length<=4) (hrow:SpOk Try.prog rowS.1 rowS.2):LSound Try.prog true (.block 0 (.loop (loopB 0 (bodyOf Try.prog 83)))) 19 (lS l tt):=by
 by_cases hn:l.length<=100000
 ·refine loop_row hmix (noL_good (tab_ok [rowS] (fun x hx=>by
   simp only [List.mem_singleton] at hx
   subst hx
   exact hrow))) (un:=10) (ds:=dsS) (ns:=[]) (nx:=0) (fun i:Nat=>VS l tt i) (fun _=>[]) (fun i=>i<=l.length/\∀ j,j<i->qS l tt j=false) (fun i=>l.length - i) (OS l tt) noL_ok ?_ ?_
  ·rintro i ⟨h0,h1⟩
   refine cast (S_ev l tt i _).symm ?_
   by_cases hlt:i<l.length
   ·refine cond_dk (by omega) (cond_dk ⟨by omega,by omega⟩ ?_)
    rw [show (i:Int).toNat=i by omega]
    have key:∀ b:Bool,b=qS l tt i->(bif b then RoundQ (fun i:Nat=>VS l tt i) (fun _=>[]) (fun i=>i<=l.length/\∀ j,j<i->qS l tt j=false) (fun i=>l.length - i) (OS l tt) i .ret [I i,I l.length,stD l,I i,stD l,.func 69 [] [.tp (tsL tt)]] [] else bif inK .i64 ((i:Int)+1) then RoundQ (fun i:Nat=>VS l tt i) (fun _=>[]) (fun i=>i<=l.length/\∀ j,j<i->qS l tt j=false) (fun i=>l.length - i) (OS l tt) i .normal (VS l tt (i+1)) [] else False):=by
     rintro b rfl
     refine cond_i (fun h=>⟨rfl,.inr ⟨?_,rfl,i,rfl⟩⟩) (fun h=>cond_r (by omega) ⟨i+1,⟨by omega,fun j hj=>?_⟩,by dsimp only; omega,rfl,fitBs_refl _,fun _ _ _ h=>h⟩)
     ·unfold anyS
      rw [List.any_eq_true]
      exact ⟨i,List.mem_range.2 hlt,h⟩
     ·by_cases e:j=i
      ·subst e; exact h
      ·exact h1 j (by omega)
    exact ⟨l.getD i k0,tt,rfl,rfl,ht,key _ rfl⟩
   ·obtain rfl:i=l.length:=by omega
    refine cond_d (fun h=>by omega) (fun _=>⟨rfl,.inl ⟨?_,rfl,rfl⟩⟩)
    unfold anyS
    rw [List.any_eq_false]
    intro j hj
    rw [h1 j (List.mem_range.1 hj)]
    simp
  ·rintro lock t h K ⟨hf,_,k1,k2⟩
   refine ⟨0,hf,⟨Nat.zero_le _,fun j hj=>by omega⟩,?_⟩
   rintro e vs bs ⟨rfl,⟨g,rfl,rfl⟩ | ⟨g,rfl,i,rfl⟩⟩
   ·exact k1 g
   ·exact k2 g i
 ·rintro lock t h K ⟨hf,hc,_⟩
  exact (hn hc).elim
theorem anyS_v (ht:tt.T.length<=4) (hrow:SpOk Try.prog rowS.1 rowS.2) (hn:l.length<=100000):∃ h',CallsV Try.prog 68 [stD l,.func 69 [] [.tp (tsL tt)]] ⟨0,[]⟩ (.ret (.bool (anyS l tt))) h':=by
 have hall:LoopsOk Try.prog 83 [(0,lS l tt)]:=fun x hx=>by
  simp only [List.mem_singleton] at hx
  subst hx
  exact ⟨by kernel_rfl,lS_ok ht hrow⟩
 obtain ⟨r,h',rfl,hc⟩:=of_callN (callL_good hmix noSp hall (un:=10) 20) (f:=68) (args:=[stD l,.func 69 [] [.tp (tsL tt)]]) (h:=⟨0,[]⟩) (K:=fun r _=>r=.ret (.bool (anyS l tt))) (by
  refine cast (Sf_ev l tt _).symm ?_
  refine ⟨fitP_self rfl,hn,fun h=>by rw [h]; rfl,fun h i=>by rw [h,decide_eq_true (by omega)]⟩)
 exact ⟨h',hc⟩
end
def cfS:FuncId × Spec1:=(68,fun _ args h K=>match args with
 | [x,.func 69 [] [c]]=>∃ (l:List Stk) (t:Tst),isD h 3 x (stD l)/\isD h 2 c (.tp (tsL t))/\(l.length<=6/\t.T.length<=4)/\K (.ret (.bool (anyS l t))) h
 | _=>False)
theorem as_ev (l:List Stk) (t:Tst) (Q:VRes->Prop):callN Try.prog (tabS [taT,cfS]) noL 10 20 0 (.fn 38) [stD l,.agg (tsL t)] ⟨0,[]⟩ (fun r _=>Q r) =
 (∃ (t_1:Tst),isD (VH.mk (0+1) [(0,VB.cells [VV.tl t.T.length 1 (dG t.T),I t.far,I t.least] 25)]) 2 (VV.agg [VV.tl t.T.length 1 (dG t.T),I t.far,I t.least]) (VV.agg (tsL t_1))/\bif okT t_1 then
 bif decide ((↑l.length:Int)<=(6:Int)) then
 ∃ (l_1:List Stk) (t_2:Tst),isD (VH.mk (0+1) [(0,VB.cells [VV.tl t.T.length 1 (dG t.T),I t.far,I t.least] 25)]) 3 (VV.tl l.length 5 (stG l)) (stD l_1)/\isD (VH.mk (0+1) [(0,VB.cells [VV.tl t.T.length 1 (dG t.T),I t.far,I t.least] 25)]) 2 (VV.ptr (.own 0 0)) (VV.tp (tsL t_2))/\(l_1.length<=6/\t_2.T.length<=4)/\Q (.ret (.bool !anyS l_1 t_2))
 else Q (.ret (.bool false))
 else Q (.ret (.bool false))):=by kernel_rfl
theorem rowS_ok:SpOk Try.prog rowS.1 rowS.2:=by
 intro lock args h K hK
 simp only [rowS] at hK
 split at hK
 ·obtain ⟨s,t,rfl,rfl,ht,hK⟩:=hK
  obtain ⟨h',hc⟩:=stock_v s t ht
  exact ⟨_,h,hK,lockP_refl _ _,calls_lendDP 2 hc rfl ⟨⟨⟨rfl,rfl⟩,⟨rfl,rfl⟩,⟨rfl,rfl⟩,⟨rfl,rfl⟩,⟨rfl,rfl,fun _ _=>rfl⟩,trivial⟩,rfl,trivial⟩⟩
 ·exact hK.elim
theorem cfS_ok:SpOk Try.prog cfS.1 cfS.2:=by
 intro lock args h K hK
 simp only [cfS] at hK
 split at hK
 ·obtain ⟨l,t,hx,hc,⟨h1,h2⟩,hK⟩:=hK
  obtain ⟨h',hv⟩:=anyS_v (l:=l) h2 rowS_ok (by omega)
  exact ⟨_,h,hK,lockP_refl _ _,calls_lendDP 3 hv rfl ⟨hx,⟨rfl,trivial,hc,trivial⟩,trivial⟩⟩
 ·exact hK.elim
def okAll (l:List Stk) (t:Tst):Bool:=okT t && decide (l.length<=6) && !anyS l t
theorem stocks_v (l:List Stk) (t:Tst):∃ h',CallsV Try.prog 38 [stD l,.agg (tsL t)] ⟨0,[]⟩ (.ret (.bool (okAll l t))) h':=by
 obtain ⟨r,h',rfl,hc⟩:=of_callN (noL_good (tab_ok [taT,cfS] (fun x hx=>by
  simp only [List.mem_cons,List.not_mem_nil,or_false] at hx
  rcases hx with rfl | rfl
  ·exact taT_ok
  ·exact cfS_ok))) (f:=38) (args:=[stD l,.agg (tsL t)]) (h:=⟨0,[]⟩) (K:=fun r _=>r=.ret (.bool (okAll l t))) (by
  refine cast (as_ev l t _).symm ⟨t,⟨⟨rfl,rfl,fun _ _=>rfl⟩,⟨rfl,rfl⟩,⟨rfl,rfl⟩,trivial⟩,?_⟩
  unfold okAll
  refine cond_i (fun h1=>cond_d (fun h2=>?_) (fun h2=>?_)) (fun h1=>by rw [h1]; rfl)
  ·refine ⟨l,t,⟨rfl,rfl,fun _ _=>rfl⟩,⟨_,_,rfl,⟨rfl,rfl,fun _ _=>rfl⟩,⟨rfl,rfl⟩,⟨rfl,rfl⟩,trivial⟩,⟨by omega,?_⟩,?_⟩
   ·unfold okT at h1
    simp only [Bool.and_eq_true,decide_eq_true_eq] at h1
    omega
   ·rw [h1,decide_eq_true (show l.length<=6 by omega)]; rfl
  ·rw [decide_eq_false (show ¬ l.length<=6 by omega),Bool.and_false]; rfl)
 exact ⟨h',hc⟩
def asT:FuncId × Spec1:=(38,fun _ args h K=>match args with
 | [x,y]=>∃ (l:List Stk) (t:Tst),isD h 2 x (stD l)/\isD h 2 y (.agg (tsL t))/\K (.ret (.bool (okAll l t))) h
 | _=>False)
theorem asT_ok:SpOk Try.prog asT.1 asT.2:=by
 intro lock args h K hK
 simp only [asT] at hK
 split at hK
 ·obtain ⟨l,t,hx,hy,hK⟩:=hK
  obtain ⟨h',hc⟩:=stocks_v l t
  exact ⟨_,h,hK,lockP_refl _ _,calls_lendDP 2 hc rfl ⟨hx,hy,trivial⟩⟩
 ·exact hK.elim
abbrev ch (n:Nat->Int):List Int:=[n 0,n 1,n 2,n 3,n 4,n 5]
def nL (n:Nat->Int):List VV:=[I (n 0),I (n 1),I (n 2),I (n 3),I (n 4),I (n 5)]
theorem ch_get {n:Nat->Int}:∀ {i:Nat},i<6->(ch n).getD i 0=n i
 | 0,_=>rfl
 | 1,_=>rfl
 | 2,_=>rfl
 | 3,_=>rfl
 | 4,_=>rfl
 | 5,_=>rfl
 | _+6,h=>by omega
def nB (n:Nat->Int):Prop:=∀ i,i<6->0<=n i/\n i<=6
def stB (s:Stk):Prop:=(0<=s.casks/\s.casks<=6)/\(1<=s.vol/\s.vol<=65536)/\(0<=s.age/\s.age<=100)/\(0<=s.cost/\s.cost<=1048576)
def lB (l:List Stk):Prop:=l.length<=6/\∀ i,i<l.length->stB (l.getD i k0)
def pB (l:List Stk) (m:Nat):Prop:=∀ i,i<l.length->(l.getD i k0).prof.length=m/\∀ k,k<m->0<=((l.getD i k0).prof.getD k s0).lo/\((l.getD i k0).prof.getD k s0).lo<=((l.getD i k0).prof.getD k s0).hi/\((l.getD i k0).prof.getD k s0).hi<=1000
def sumF (f:Nat->Int):Nat->Int
 | 0=>0
 | k+1=>sumF f k+f k
theorem sumF_bd {f:Nat->Int} {M:Int}:∀ k:Nat,(∀ i,i<k->0<=f i/\f i<=M)->0<=sumF f k/\sumF f k<=k*M
 | 0,_=>by simp [sumF]
 | k+1,h=>by
  obtain ⟨h1,h2⟩:=sumF_bd (M:=M) k (fun i hi=>h i (by omega))
  obtain ⟨h3,h4⟩:=h k (by omega)
  unfold sumF
  have e:((k+1:Nat):Int)*M=(k:Int)*M+M:=by rw [Int.natCast_add,Int.add_mul]; simp
  rw [e]
  omega
theorem sumF_congr {f g:Nat->Int}:∀ k:Nat,(∀ i,i<k->f i=g i)->sumF f k=sumF g k
 | 0,_=>rfl
 | k+1,h=>by
  unfold sumF
  rw [sumF_congr k (fun i hi=>h i (by omega)),h k (by omega)]
theorem mul_bd {a b A B:Int} (h1:0<=a/\a<=A) (h2:0<=b/\b<=B):0<=a*b/\a*b<=A*B:=⟨Int.mul_nonneg h1.1 h2.1,by
 calc a*b<=A*b:=Int.mul_le_mul_of_nonneg_right h1.2 h2.1
  _<=A*B:=Int.mul_le_mul_of_nonneg_left h2.2 (by omega)⟩
theorem okAll_l {l:List Stk} {t:Tst} (h:okAll l t=true):lB l/\pB l t.T.length/\okT t=true/\1<=t.T.length/\t.T.length<=4:=by
 unfold okAll at h
 simp only [Bool.and_eq_true,decide_eq_true_eq,Bool.not_eq_true'] at h
 obtain ⟨⟨h1,h2⟩,h3⟩:=h
 have hs:∀ i,i<l.length->okS t (l.getD i k0)=true:=fun i hi=>by
  unfold anyS at h3
  rw [List.any_eq_false] at h3
  have:=h3 i (List.mem_range.2 hi)
  unfold qS at this
  simpa using this
 have h4:=h1
 unfold okT at h4
 simp only [Bool.and_eq_true,decide_eq_true_eq,Bool.not_eq_true'] at h4
 refine ⟨⟨h2,fun i hi=>?_⟩,fun i hi=>?_,h1,h4.1.1.1.1,h4.1.1.1.2⟩
 ·have:=hs i hi
  unfold okS at this
  simp only [Bool.and_eq_true,decide_eq_true_eq] at this
  obtain ⟨⟨a,b,c,d,_⟩,_⟩:=this
  exact ⟨a,b,c,d⟩
 ·have:=hs i hi
  unfold okS at this
  simp only [Bool.and_eq_true,decide_eq_true_eq,Bool.not_eq_true'] at this
  obtain ⟨⟨_,_,_,_,hl⟩,hp⟩:=this
  refine ⟨hl,fun k hk=>?_⟩
  unfold anyP at hp
  rw [List.any_eq_false] at hp
  have:=hp k (List.mem_range.2 (by omega))
  unfold qP okP at this
  simpa using this
abbrev tmV (l:List Stk) (n:Nat->Int) (i:Nat):Int:=n i*(l.getD i k0).vol
abbrev tmC (l:List Stk) (n:Nat->Int) (i:Nat):Int:=n i*(l.getD i k0).cost
abbrev tmL (l:List Stk) (n:Nat->Int) (k i:Nat):Int:=n i*(l.getD i k0).vol*((l.getD i k0).prof.getD k s0).lo
abbrev tmH (l:List Stk) (n:Nat->Int) (k i:Nat):Int:=n i*(l.getD i k0).vol*((l.getD i k0).prof.getD k s0).hi
def cloSV (l:List Stk) (n:Nat->Int):VV:=.func 87 [] [.tp (nL n)]
def dsSV:List Nat:=[9,8,7,4,0,1]
def VSV (l:List Stk) (n:Nat->Int) (i a:Int):List VV:=[I i,I l.length,stD l,I a,stD l,cloSV l n]
theorem SV_ev (l:List Stk) (n:Nat->Int) (i a:Int) (X:VEx->List VV->List VB->Prop):codeE Try.prog (callN Try.prog noSpec noL 10 20) (fun _=>none) true 10 22 0 (loopB 0 (bodyOf Try.prog 64)) (dsSV.zip (VSV l n i a)) ⟨0,([]:List Nat).zip []⟩ (obs 0 dsSV [] X) =
 (bif decide (i<(↑l.length:Int)) then
 bif decide ((0:Int)<=i/\i<(↑l.length:Int)) then
 bif decide ((0:Int)<=i/\i<(↑6:Int)) then
 bif inK .i64 ([n 0,n 1,n 2,n 3,n 4,n 5].getD i.toNat (0:Int)*(l.getD i.toNat k0).vol) then
 bif inK .i64 (a + [n 0,n 1,n 2,n 3,n 4,n 5].getD i.toNat (0:Int)*(l.getD i.toNat k0).vol) then
 bif inK .i64 (i+(1:Int)) then
 X .normal [I (i+(1:Int)),I (↑l.length:Int),VV.tl l.length 5 (stG l),I (a + [n 0,n 1,n 2,n 3,n 4,n 5].getD i.toNat (0:Int)*(l.getD i.toNat k0).vol),VV.tl l.length 5 (stG l),VV.func 87 [] [VV.tp [I (n 0),I (n 1),I (n 2),I (n 3),I (n 4),I (n 5)]]] []
 else False
 else False
 else False
 else False
 else False
 else X (.exit 0) [I i,I (↑l.length:Int),VV.tl l.length 5 (stG l),I a,VV.tl l.length 5 (stG l),VV.func 87 [] [VV.tp [I (n 0),I (n 1),I (n 2),I (n 3),I (n 4),I (n 5)]]] []):=by kernel_rfl
def lSV (l:List Stk) (n:Nat->Int):LT:=fun lock t h K=>
 FitP lock h t ⟨0,([]:List Nat).zip []⟩ (dsSV.zip (VSV l n 0 0))/\(nB n/\lB l)/\K .normal (dsSV.zip (VSV l n l.length (sumF (tmV l n) l.length))) ⟨0,([]:List Nat).zip []⟩
theorem SVf_ev (l:List Stk) (n:Nat->Int) (Q:VRes->Prop):callN Try.prog noSpec (atF 64 [(0,lSV l n)]) 10 20 0 (.fn 64) [stD l,cloSV l n] ⟨0,[]⟩ (fun r _=>Q r) =
 (FitP 0 (VH.mk 0 ([].zip [])) (dsSV.zip (VSV l n (0:Int) (0:Int))) (VH.mk 0 ([].zip [])) (dsSV.zip (VSV l n (0:Int) (0:Int)))/\(nB n/\lB l)/\Q (VRes.ret (I (sumF (tmV l n) l.length)))):=by kernel_rfl
section
variable {l:List Stk} {n:Nat->Int}
theorem bdSV (h:nB n/\lB l) {i:Nat} (hi:i<l.length):0<=(tmV l n) i/\(tmV l n) i<=6*65536:=by
 obtain ⟨hn,hl⟩:=h
 have h1:=hn i (by have:=hl.1; omega)
 obtain ⟨h2,h3,h4,h5⟩:=hl.2 i hi
 exact mul_bd h1 (show 0<=(l.getD i k0).vol/\(l.getD i k0).vol<=65536 by omega)
theorem lSV_ok:LSound Try.prog true (.block 0 (.loop (loopB 0 (bodyOf Try.prog 64)))) 22 (lSV l n):=by
 by_cases hh:nB n/\lB l
 ·have hh2:=hh
  obtain ⟨hn,hl⟩:=hh2
  have hl6:=hl.1
  refine loop_row hmix good0 (un:=10) (ds:=dsSV) (ns:=[]) (nx:=0) (fun i:Nat=>VSV l n i (sumF (tmV l n) i)) (fun _=>[]) (fun i=>i<=l.length) (fun i=>l.length - i) (fun _ e vs bs=>e=.exit 0/\bs=[]/\vs=VSV l n l.length (sumF (tmV l n) l.length)) noL_ok ?_ ?_
  ·rintro i h0
   refine cast (SV_ev l n i _ _).symm ?_
   by_cases hlt:i<l.length
   ·have hb:=sumF_bd (f:=tmV l n) (M:=6*65536) i (fun j hj=>bdSV hh (by omega))
    have hc:=bdSV hh hlt
    have hi6:((i:Nat):Int)*(6*65536)<=6*(6*65536):=Int.mul_le_mul_of_nonneg_right (by omega) (by decide)
    have h1:=hn i (by omega)
    obtain ⟨h2,h3,h4,h5⟩:=hl.2 i hlt
    have hs:sumF (tmV l n) (i+1)=sumF (tmV l n) i+(tmV l n) i:=rfl
    refine cond_dk (by omega) (cond_dk ⟨by omega,by omega⟩ ?_)
    rw [show (i:Int).toNat=i by omega,ch_get (by omega)]
    unfold tmV at hc
    refine cond_dk ⟨by omega,by omega⟩ (cond_r (by omega) ?_)
    refine cond_r (by omega) (cond_r (by omega) ⟨i+1,by omega,by dsimp only; omega,?_,fitBs_refl _,fun _ _ _ h=>h⟩)
    dsimp only
    rw [hs]
    rfl
   ·obtain rfl:i=l.length:=by omega
    exact cond_d (fun h=>by omega) (fun _=>⟨rfl,rfl,rfl⟩)
  ·rintro lock t h K ⟨hf,_,k1⟩
   refine ⟨0,hf,Nat.zero_le _,?_⟩
   rintro e vs bs ⟨rfl,rfl,rfl⟩
   exact k1
 ·rintro lock t h K ⟨hf,hc,_⟩
  exact (hh hc).elim
theorem sumSV_v (hh:nB n/\lB l):∃ h',CallsV Try.prog 64 [stD l,cloSV l n] ⟨0,[]⟩ (.ret (I (sumF (tmV l n) l.length))) h':=by
 have hall:LoopsOk Try.prog 64 [(0,lSV l n)]:=fun x hx=>by
  simp only [List.mem_singleton] at hx
  subst hx
  exact ⟨by kernel_rfl,lSV_ok⟩
 obtain ⟨r,h',rfl,hc⟩:=of_callN (callL_good hmix noSp hall (un:=10) 20) (f:=64) (args:=[stD l,cloSV l n]) (h:=⟨0,[]⟩) (K:=fun r _=>r=.ret (I (sumF (tmV l n) l.length))) (by
  refine cast (SVf_ev l n _).symm ?_
  exact ⟨fitP_self rfl,hh,rfl⟩)
 exact ⟨h',hc⟩
end
def cloSC (l:List Stk) (n:Nat->Int):VV:=.func 77 [] [.tp (nL n)]
def dsSC:List Nat:=[9,8,7,4,0,1]
def VSC (l:List Stk) (n:Nat->Int) (i a:Int):List VV:=[I i,I l.length,stD l,I a,stD l,cloSC l n]
theorem SC_ev (l:List Stk) (n:Nat->Int) (i a:Int) (X:VEx->List VV->List VB->Prop):codeE Try.prog (callN Try.prog noSpec noL 10 20) (fun _=>none) true 10 22 0 (loopB 0 (bodyOf Try.prog 64)) (dsSC.zip (VSC l n i a)) ⟨0,([]:List Nat).zip []⟩ (obs 0 dsSC [] X) =
 (bif decide (i<(↑l.length:Int)) then
 bif decide ((0:Int)<=i/\i<(↑l.length:Int)) then
 bif decide ((0:Int)<=i/\i<(↑6:Int)) then
 bif inK .i64 ([n 0,n 1,n 2,n 3,n 4,n 5].getD i.toNat (0:Int)*(l.getD i.toNat k0).cost) then
 bif inK .i64 (a + [n 0,n 1,n 2,n 3,n 4,n 5].getD i.toNat (0:Int)*(l.getD i.toNat k0).cost) then
 bif inK .i64 (i+(1:Int)) then
 X .normal [I (i+(1:Int)),I (↑l.length:Int),VV.tl l.length 5 (stG l),I (a + [n 0,n 1,n 2,n 3,n 4,n 5].getD i.toNat (0:Int)*(l.getD i.toNat k0).cost),VV.tl l.length 5 (stG l),VV.func 77 [] [VV.tp [I (n 0),I (n 1),I (n 2),I (n 3),I (n 4),I (n 5)]]] []
 else False
 else False
 else False
 else False
 else False
 else X (.exit 0) [I i,I (↑l.length:Int),VV.tl l.length 5 (stG l),I a,VV.tl l.length 5 (stG l),VV.func 77 [] [VV.tp [I (n 0),I (n 1),I (n 2),I (n 3),I (n 4),I (n 5)]]] []):=by kernel_rfl
def lSC (l:List Stk) (n:Nat->Int):LT:=fun lock t h K=>
 FitP lock h t ⟨0,([]:List Nat).zip []⟩ (dsSC.zip (VSC l n 0 0))/\(nB n/\lB l)/\K .normal (dsSC.zip (VSC l n l.length (sumF (tmC l n) l.length))) ⟨0,([]:List Nat).zip []⟩
theorem SCf_ev (l:List Stk) (n:Nat->Int) (Q:VRes->Prop):callN Try.prog noSpec (atF 64 [(0,lSC l n)]) 10 20 0 (.fn 64) [stD l,cloSC l n] ⟨0,[]⟩ (fun r _=>Q r) =
 (FitP 0 (VH.mk 0 ([].zip [])) (dsSC.zip (VSC l n (0:Int) (0:Int))) (VH.mk 0 ([].zip [])) (dsSC.zip (VSC l n (0:Int) (0:Int)))/\(nB n/\lB l)/\Q (VRes.ret (I (sumF (tmC l n) l.length)))):=by kernel_rfl
section
variable {l:List Stk} {n:Nat->Int}
theorem bdSC (h:nB n/\lB l) {i:Nat} (hi:i<l.length):0<=(tmC l n) i/\(tmC l n) i<=6*1048576:=by
 obtain ⟨hn,hl⟩:=h
 have h1:=hn i (by have:=hl.1; omega)
 obtain ⟨h2,h3,h4,h5⟩:=hl.2 i hi
 exact mul_bd h1 (show 0<=(l.getD i k0).cost/\(l.getD i k0).cost<=1048576 by omega)
theorem lSC_ok:LSound Try.prog true (.block 0 (.loop (loopB 0 (bodyOf Try.prog 64)))) 22 (lSC l n):=by
 by_cases hh:nB n/\lB l
 ·have hh2:=hh
  obtain ⟨hn,hl⟩:=hh2
  have hl6:=hl.1
  refine loop_row hmix good0 (un:=10) (ds:=dsSC) (ns:=[]) (nx:=0) (fun i:Nat=>VSC l n i (sumF (tmC l n) i)) (fun _=>[]) (fun i=>i<=l.length) (fun i=>l.length - i) (fun _ e vs bs=>e=.exit 0/\bs=[]/\vs=VSC l n l.length (sumF (tmC l n) l.length)) noL_ok ?_ ?_
  ·rintro i h0
   refine cast (SC_ev l n i _ _).symm ?_
   by_cases hlt:i<l.length
   ·have hb:=sumF_bd (f:=tmC l n) (M:=6*1048576) i (fun j hj=>bdSC hh (by omega))
    have hc:=bdSC hh hlt
    have hi6:((i:Nat):Int)*(6*1048576)<=6*(6*1048576):=Int.mul_le_mul_of_nonneg_right (by omega) (by decide)
    have h1:=hn i (by omega)
    obtain ⟨h2,h3,h4,h5⟩:=hl.2 i hlt
    have hs:sumF (tmC l n) (i+1)=sumF (tmC l n) i+(tmC l n) i:=rfl
    refine cond_dk (by omega) (cond_dk ⟨by omega,by omega⟩ ?_)
    rw [show (i:Int).toNat=i by omega,ch_get (by omega)]
    unfold tmC at hc
    refine cond_dk ⟨by omega,by omega⟩ (cond_r (by omega) ?_)
    refine cond_r (by omega) (cond_r (by omega) ⟨i+1,by omega,by dsimp only; omega,?_,fitBs_refl _,fun _ _ _ h=>h⟩)
    dsimp only
    rw [hs]
    rfl
   ·obtain rfl:i=l.length:=by omega
    exact cond_d (fun h=>by omega) (fun _=>⟨rfl,rfl,rfl⟩)
  ·rintro lock t h K ⟨hf,_,k1⟩
   refine ⟨0,hf,Nat.zero_le _,?_⟩
   rintro e vs bs ⟨rfl,rfl,rfl⟩
   exact k1
 ·rintro lock t h K ⟨hf,hc,_⟩
  exact (hh hc).elim
theorem sumSC_v (hh:nB n/\lB l):∃ h',CallsV Try.prog 64 [stD l,cloSC l n] ⟨0,[]⟩ (.ret (I (sumF (tmC l n) l.length))) h':=by
 have hall:LoopsOk Try.prog 64 [(0,lSC l n)]:=fun x hx=>by
  simp only [List.mem_singleton] at hx
  subst hx
  exact ⟨by kernel_rfl,lSC_ok⟩
 obtain ⟨r,h',rfl,hc⟩:=of_callN (callL_good hmix noSp hall (un:=10) 20) (f:=64) (args:=[stD l,cloSC l n]) (h:=⟨0,[]⟩) (K:=fun r _=>r=.ret (I (sumF (tmC l n) l.length))) (by
  refine cast (SCf_ev l n _).symm ?_
  exact ⟨fitP_self rfl,hh,rfl⟩)
 exact ⟨h',hc⟩
end
def cloSL (l:List Stk) (n:Nat->Int) (k:Nat):VV:=.func 88 [] [.tp (nL n),.tp [I k]]
def dsSL:List Nat:=[9,8,7,4,0,1]
def VSL (l:List Stk) (n:Nat->Int) (k:Nat) (i a:Int):List VV:=[I i,I l.length,stD l,I a,stD l,cloSL l n k]
theorem SL_ev (l:List Stk) (n:Nat->Int) (k:Nat) (i a:Int) (X:VEx->List VV->List VB->Prop):codeE Try.prog (callN Try.prog noSpec noL 10 20) (fun _=>none) true 10 22 0 (loopB 0 (bodyOf Try.prog 64)) (dsSL.zip (VSL l n k i a)) ⟨0,([]:List Nat).zip []⟩ (obs 0 dsSL [] X) =
 (bif decide (i<(↑l.length:Int)) then
 bif decide ((0:Int)<=i/\i<(↑l.length:Int)) then
 bif decide ((0:Int)<=i/\i<(↑6:Int)) then
 bif inK .i64 ([n 0,n 1,n 2,n 3,n 4,n 5].getD i.toNat (0:Int)*(l.getD i.toNat k0).vol) then
 bif decide ((0:Int)<=(↑k:Int)/\(↑k:Int)<(↑(l.getD i.toNat k0).prof.length:Int)) then
 bif inK .i64 ([n 0,n 1,n 2,n 3,n 4,n 5].getD i.toNat (0:Int)*(l.getD i.toNat k0).vol*((l.getD i.toNat k0).prof.getD (↑k:Int).toNat s0).lo) then
 bif inK .i64 (a + [n 0,n 1,n 2,n 3,n 4,n 5].getD i.toNat (0:Int)*(l.getD i.toNat k0).vol*((l.getD i.toNat k0).prof.getD (↑k:Int).toNat s0).lo) then
 bif inK .i64 (i+(1:Int)) then
 X .normal [I (i+(1:Int)),I (↑l.length:Int),VV.tl l.length 5 (stG l),I (a + [n 0,n 1,n 2,n 3,n 4,n 5].getD i.toNat (0:Int)*(l.getD i.toNat k0).vol*((l.getD i.toNat k0).prof.getD (↑k:Int).toNat s0).lo),VV.tl l.length 5 (stG l),VV.func 88 [] [VV.tp [I (n 0),I (n 1),I (n 2),I (n 3),I (n 4),I (n 5)],VV.tp [I (↑k:Int)]]] []
 else False
 else False
 else False
 else False
 else False
 else False
 else False
 else X (.exit 0) [I i,I (↑l.length:Int),VV.tl l.length 5 (stG l),I a,VV.tl l.length 5 (stG l),VV.func 88 [] [VV.tp [I (n 0),I (n 1),I (n 2),I (n 3),I (n 4),I (n 5)],VV.tp [I (↑k:Int)]]] []):=by kernel_rfl
def lSL (l:List Stk) (n:Nat->Int) (k:Nat):LT:=fun lock t h K=>
 FitP lock h t ⟨0,([]:List Nat).zip []⟩ (dsSL.zip (VSL l n k 0 0))/\(nB n/\lB l/\∃ m,pB l m/\k<m)/\K .normal (dsSL.zip (VSL l n k l.length (sumF (tmL l n k) l.length))) ⟨0,([]:List Nat).zip []⟩
theorem SLf_ev (l:List Stk) (n:Nat->Int) (k:Nat) (Q:VRes->Prop):callN Try.prog noSpec (atF 64 [(0,lSL l n k)]) 10 20 0 (.fn 64) [stD l,cloSL l n k] ⟨0,[]⟩ (fun r _=>Q r) =
 (FitP 0 (VH.mk 0 ([].zip [])) (dsSL.zip (VSL l n k (0:Int) (0:Int))) (VH.mk 0 ([].zip [])) (dsSL.zip (VSL l n k (0:Int) (0:Int)))/\(nB n/\lB l/\∃ m,pB l m/\k<m)/\Q (VRes.ret (I (sumF (tmL l n k) l.length)))):=by kernel_rfl
section
variable {l:List Stk} {n:Nat->Int} {k:Nat}
theorem bdSL (h:nB n/\lB l/\∃ m,pB l m/\k<m) {i:Nat} (hi:i<l.length):0<=(tmL l n k) i/\(tmL l n k) i<=6*65536*1000:=by
 obtain ⟨hn,hl,m,hp,hk⟩:=h
 have h1:=hn i (by have:=hl.1; omega)
 obtain ⟨h2,h3,h4,h5⟩:=hl.2 i hi
 obtain ⟨p1,p2⟩:=hp i hi
 obtain ⟨p3,p4,p5⟩:=p2 k hk
 exact mul_bd (mul_bd h1 (show 0<=(l.getD i k0).vol/\(l.getD i k0).vol<=65536 by omega)) (show 0<=((l.getD i k0).prof.getD k s0).lo/\((l.getD i k0).prof.getD k s0).lo<=1000 by omega)
theorem lSL_ok:LSound Try.prog true (.block 0 (.loop (loopB 0 (bodyOf Try.prog 64)))) 22 (lSL l n k):=by
 by_cases hh:nB n/\lB l/\∃ m,pB l m/\k<m
 ·have hh2:=hh
  obtain ⟨hn,hl,m,hp,hkm⟩:=hh2
  have hl6:=hl.1
  refine loop_row hmix good0 (un:=10) (ds:=dsSL) (ns:=[]) (nx:=0) (fun i:Nat=>VSL l n k i (sumF (tmL l n k) i)) (fun _=>[]) (fun i=>i<=l.length) (fun i=>l.length - i) (fun _ e vs bs=>e=.exit 0/\bs=[]/\vs=VSL l n k l.length (sumF (tmL l n k) l.length)) noL_ok ?_ ?_
  ·rintro i h0
   refine cast (SL_ev l n k i _ _).symm ?_
   by_cases hlt:i<l.length
   ·have hb:=sumF_bd (f:=tmL l n k) (M:=6*65536*1000) i (fun j hj=>bdSL hh (by omega))
    have hc:=bdSL hh hlt
    have hi6:((i:Nat):Int)*(6*65536*1000)<=6*(6*65536*1000):=Int.mul_le_mul_of_nonneg_right (by omega) (by decide)
    have h1:=hn i (by omega)
    obtain ⟨h2,h3,h4,h5⟩:=hl.2 i hlt
    have hs:sumF (tmL l n k) (i+1)=sumF (tmL l n k) i+(tmL l n k) i:=rfl
    refine cond_dk (by omega) (cond_dk ⟨by omega,by omega⟩ ?_)
    rw [show (i:Int).toNat=i by omega,ch_get (by omega),show ((k:Nat):Int).toNat=k by omega]
    obtain ⟨p1,p2⟩:=hp i hlt
    obtain ⟨p3,p4,p5⟩:=p2 k hkm
    have hm1:=mul_bd h1 (show 0<=(l.getD i k0).vol/\(l.getD i k0).vol<=65536 by omega)
    unfold tmL at hc
    refine cond_dk ⟨by omega,by omega⟩ (cond_r (by omega) (cond_dk ⟨by omega,by omega⟩ (cond_r (by omega) ?_)))
    refine cond_r (by omega) (cond_r (by omega) ⟨i+1,by omega,by dsimp only; omega,?_,fitBs_refl _,fun _ _ _ h=>h⟩)
    dsimp only
    rw [hs]
    rfl
   ·obtain rfl:i=l.length:=by omega
    exact cond_d (fun h=>by omega) (fun _=>⟨rfl,rfl,rfl⟩)
  ·rintro lock t h K ⟨hf,_,k1⟩
   refine ⟨0,hf,Nat.zero_le _,?_⟩
   rintro e vs bs ⟨rfl,rfl,rfl⟩
   exact k1
 ·rintro lock t h K ⟨hf,hc,_⟩
  exact (hh hc).elim
theorem sumSL_v (hh:nB n/\lB l/\∃ m,pB l m/\k<m):∃ h',CallsV Try.prog 64 [stD l,cloSL l n k] ⟨0,[]⟩ (.ret (I (sumF (tmL l n k) l.length))) h':=by
 have hall:LoopsOk Try.prog 64 [(0,lSL l n k)]:=fun x hx=>by
  simp only [List.mem_singleton] at hx
  subst hx
  exact ⟨by kernel_rfl,lSL_ok⟩
 obtain ⟨r,h',rfl,hc⟩:=of_callN (callL_good hmix noSp hall (un:=10) 20) (f:=64) (args:=[stD l,cloSL l n k]) (h:=⟨0,[]⟩) (K:=fun r _=>r=.ret (I (sumF (tmL l n k) l.length))) (by
  refine cast (SLf_ev l n k _).symm ?_
  exact ⟨fitP_self rfl,hh,rfl⟩)
 exact ⟨h',hc⟩
end
def cloSH (l:List Stk) (n:Nat->Int) (k:Nat):VV:=.func 89 [] [.tp (nL n),.tp [I k]]
def dsSH:List Nat:=[9,8,7,4,0,1]
def VSH (l:List Stk) (n:Nat->Int) (k:Nat) (i a:Int):List VV:=[I i,I l.length,stD l,I a,stD l,cloSH l n k]
theorem SH_ev (l:List Stk) (n:Nat->Int) (k:Nat) (i a:Int) (X:VEx->List VV->List VB->Prop):codeE Try.prog (callN Try.prog noSpec noL 10 20) (fun _=>none) true 10 22 0 (loopB 0 (bodyOf Try.prog 64)) (dsSH.zip (VSH l n k i a)) ⟨0,([]:List Nat).zip []⟩ (obs 0 dsSH [] X) =
 (bif decide (i<(↑l.length:Int)) then
 bif decide ((0:Int)<=i/\i<(↑l.length:Int)) then
 bif decide ((0:Int)<=i/\i<(↑6:Int)) then
 bif inK .i64 ([n 0,n 1,n 2,n 3,n 4,n 5].getD i.toNat (0:Int)*(l.getD i.toNat k0).vol) then
 bif decide ((0:Int)<=(↑k:Int)/\(↑k:Int)<(↑(l.getD i.toNat k0).prof.length:Int)) then
 bif inK .i64 ([n 0,n 1,n 2,n 3,n 4,n 5].getD i.toNat (0:Int)*(l.getD i.toNat k0).vol*((l.getD i.toNat k0).prof.getD (↑k:Int).toNat s0).hi) then
 bif inK .i64 (a + [n 0,n 1,n 2,n 3,n 4,n 5].getD i.toNat (0:Int)*(l.getD i.toNat k0).vol*((l.getD i.toNat k0).prof.getD (↑k:Int).toNat s0).hi) then
 bif inK .i64 (i+(1:Int)) then
 X .normal [I (i+(1:Int)),I (↑l.length:Int),VV.tl l.length 5 (stG l),I (a + [n 0,n 1,n 2,n 3,n 4,n 5].getD i.toNat (0:Int)*(l.getD i.toNat k0).vol*((l.getD i.toNat k0).prof.getD (↑k:Int).toNat s0).hi),VV.tl l.length 5 (stG l),VV.func 89 [] [VV.tp [I (n 0),I (n 1),I (n 2),I (n 3),I (n 4),I (n 5)],VV.tp [I (↑k:Int)]]] []
 else False
 else False
 else False
 else False
 else False
 else False
 else False
 else X (.exit 0) [I i,I (↑l.length:Int),VV.tl l.length 5 (stG l),I a,VV.tl l.length 5 (stG l),VV.func 89 [] [VV.tp [I (n 0),I (n 1),I (n 2),I (n 3),I (n 4),I (n 5)],VV.tp [I (↑k:Int)]]] []):=by kernel_rfl
def lSH (l:List Stk) (n:Nat->Int) (k:Nat):LT:=fun lock t h K=>
 FitP lock h t ⟨0,([]:List Nat).zip []⟩ (dsSH.zip (VSH l n k 0 0))/\(nB n/\lB l/\∃ m,pB l m/\k<m)/\K .normal (dsSH.zip (VSH l n k l.length (sumF (tmH l n k) l.length))) ⟨0,([]:List Nat).zip []⟩
theorem SHf_ev (l:List Stk) (n:Nat->Int) (k:Nat) (Q:VRes->Prop):callN Try.prog noSpec (atF 64 [(0,lSH l n k)]) 10 20 0 (.fn 64) [stD l,cloSH l n k] ⟨0,[]⟩ (fun r _=>Q r) =
 (FitP 0 (VH.mk 0 ([].zip [])) (dsSH.zip (VSH l n k (0:Int) (0:Int))) (VH.mk 0 ([].zip [])) (dsSH.zip (VSH l n k (0:Int) (0:Int)))/\(nB n/\lB l/\∃ m,pB l m/\k<m)/\Q (VRes.ret (I (sumF (tmH l n k) l.length)))):=by kernel_rfl
section
variable {l:List Stk} {n:Nat->Int} {k:Nat}
theorem bdSH (h:nB n/\lB l/\∃ m,pB l m/\k<m) {i:Nat} (hi:i<l.length):0<=(tmH l n k) i/\(tmH l n k) i<=6*65536*1000:=by
 obtain ⟨hn,hl,m,hp,hk⟩:=h
 have h1:=hn i (by have:=hl.1; omega)
 obtain ⟨h2,h3,h4,h5⟩:=hl.2 i hi
 obtain ⟨p1,p2⟩:=hp i hi
 obtain ⟨p3,p4,p5⟩:=p2 k hk
 exact mul_bd (mul_bd h1 (show 0<=(l.getD i k0).vol/\(l.getD i k0).vol<=65536 by omega)) (show 0<=((l.getD i k0).prof.getD k s0).hi/\((l.getD i k0).prof.getD k s0).hi<=1000 by omega)
theorem lSH_ok:LSound Try.prog true (.block 0 (.loop (loopB 0 (bodyOf Try.prog 64)))) 22 (lSH l n k):=by
 by_cases hh:nB n/\lB l/\∃ m,pB l m/\k<m
 ·have hh2:=hh
  obtain ⟨hn,hl,m,hp,hkm⟩:=hh2
  have hl6:=hl.1
  refine loop_row hmix good0 (un:=10) (ds:=dsSH) (ns:=[]) (nx:=0) (fun i:Nat=>VSH l n k i (sumF (tmH l n k) i)) (fun _=>[]) (fun i=>i<=l.length) (fun i=>l.length - i) (fun _ e vs bs=>e=.exit 0/\bs=[]/\vs=VSH l n k l.length (sumF (tmH l n k) l.length)) noL_ok ?_ ?_
  ·rintro i h0
   refine cast (SH_ev l n k i _ _).symm ?_
   by_cases hlt:i<l.length
   ·have hb:=sumF_bd (f:=tmH l n k) (M:=6*65536*1000) i (fun j hj=>bdSH hh (by omega))
    have hc:=bdSH hh hlt
    have hi6:((i:Nat):Int)*(6*65536*1000)<=6*(6*65536*1000):=Int.mul_le_mul_of_nonneg_right (by omega) (by decide)
    have h1:=hn i (by omega)
    obtain ⟨h2,h3,h4,h5⟩:=hl.2 i hlt
    have hs:sumF (tmH l n k) (i+1)=sumF (tmH l n k) i+(tmH l n k) i:=rfl
    refine cond_dk (by omega) (cond_dk ⟨by omega,by omega⟩ ?_)
    rw [show (i:Int).toNat=i by omega,ch_get (by omega),show ((k:Nat):Int).toNat=k by omega]
    obtain ⟨p1,p2⟩:=hp i hlt
    obtain ⟨p3,p4,p5⟩:=p2 k hkm
    have hm1:=mul_bd h1 (show 0<=(l.getD i k0).vol/\(l.getD i k0).vol<=65536 by omega)
    unfold tmH at hc
    refine cond_dk ⟨by omega,by omega⟩ (cond_r (by omega) (cond_dk ⟨by omega,by omega⟩ (cond_r (by omega) ?_)))
    refine cond_r (by omega) (cond_r (by omega) ⟨i+1,by omega,by dsimp only; omega,?_,fitBs_refl _,fun _ _ _ h=>h⟩)
    dsimp only
    rw [hs]
    rfl
   ·obtain rfl:i=l.length:=by omega
    exact cond_d (fun h=>by omega) (fun _=>⟨rfl,rfl,rfl⟩)
  ·rintro lock t h K ⟨hf,_,k1⟩
   refine ⟨0,hf,Nat.zero_le _,?_⟩
   rintro e vs bs ⟨rfl,rfl,rfl⟩
   exact k1
 ·rintro lock t h K ⟨hf,hc,_⟩
  exact (hh hc).elim
theorem sumSH_v (hh:nB n/\lB l/\∃ m,pB l m/\k<m):∃ h',CallsV Try.prog 64 [stD l,cloSH l n k] ⟨0,[]⟩ (.ret (I (sumF (tmH l n k) l.length))) h':=by
 have hall:LoopsOk Try.prog 64 [(0,lSH l n k)]:=fun x hx=>by
  simp only [List.mem_singleton] at hx
  subst hx
  exact ⟨by kernel_rfl,lSH_ok⟩
 obtain ⟨r,h',rfl,hc⟩:=of_callN (callL_good hmix noSp hall (un:=10) 20) (f:=64) (args:=[stD l,cloSH l n k]) (h:=⟨0,[]⟩) (K:=fun r _=>r=.ret (I (sumF (tmH l n k) l.length))) (by
  refine cast (SHf_ev l n k _).symm ?_
  exact ⟨fitP_self rfl,hh,rfl⟩)
 exact ⟨h',hc⟩
end
def smT:FuncId × Spec1:=(64,fun _ args h K=>match args with
 | [x,.func 87 [] [c]]=>∃ (l:List Stk) (n:Nat->Int),isD h 3 x (stD l)/\isD h 2 c (.tp (nL n))/\(nB n/\lB l)/\K (.ret (I (sumF (tmV l n) l.length))) h
 | [x,.func 77 [] [c]]=>∃ (l:List Stk) (n:Nat->Int),isD h 3 x (stD l)/\isD h 2 c (.tp (nL n))/\(nB n/\lB l)/\K (.ret (I (sumF (tmC l n) l.length))) h
 | [x,.func 88 [] [c,d]]=>∃ (l:List Stk) (n:Nat->Int) (k:Nat),isD h 3 x (stD l)/\isD h 2 c (.tp (nL n))/\isD h 2 d (.tp [I k])/\(nB n/\lB l/\∃ m,pB l m/\k<m)/\K (.ret (I (sumF (tmL l n k) l.length))) h
 | [x,.func 89 [] [c,d]]=>∃ (l:List Stk) (n:Nat->Int) (k:Nat),isD h 3 x (stD l)/\isD h 2 c (.tp (nL n))/\isD h 2 d (.tp [I k])/\(nB n/\lB l/\∃ m,pB l m/\k<m)/\K (.ret (I (sumF (tmH l n k) l.length))) h
 | _=>False)
theorem vo_ev (l:List Stk) (t:Tst) (n:Nat->Int) (Q:VRes->Prop):callN Try.prog (tabS [smT]) noL 10 20 0 (.fn 75) [.tp (stD l::tsL t),.agg (nL n)] ⟨0,[]⟩ (fun r h=>Q r) =
 (∃ (l_1:List Stk) (n_1:Nat->Int),isD (VH.mk (0+1) [(0,VB.fam [] (6) (fun k=>[n 0,n 1,n 2,n 3,n 4,n 5].getD k (0:Int)) 80)]) 3 (VV.tl l.length 5 (stG l)) (stD l_1)/\isD (VH.mk (0+1) [(0,VB.fam [] (6) (fun k=>[n 0,n 1,n 2,n 3,n 4,n 5].getD k (0:Int)) 80)]) 2 (VV.ptr (.own 0 0)) (VV.tp (nL n_1))/\(nB n_1/\lB l_1)/\Q (VRes.ret (I (sumF (tmV l_1 n_1) l_1.length)))):=by kernel_rfl
theorem co_ev (l:List Stk) (t:Tst) (n:Nat->Int) (Q:VRes->Prop):callN Try.prog (tabS [smT]) noL 10 20 0 (.fn 49) [.tp (stD l::tsL t),.agg (nL n)] ⟨0,[]⟩ (fun r h=>Q r) =
 (∃ (l_1:List Stk) (n_1:Nat->Int),isD (VH.mk (0+1) [(0,VB.fam [] (6) (fun k=>[n 0,n 1,n 2,n 3,n 4,n 5].getD k (0:Int)) 80)]) 3 (VV.tl l.length 5 (stG l)) (stD l_1)/\isD (VH.mk (0+1) [(0,VB.fam [] (6) (fun k=>[n 0,n 1,n 2,n 3,n 4,n 5].getD k (0:Int)) 80)]) 2 (VV.ptr (.own 0 0)) (VV.tp (nL n_1))/\(nB n_1/\lB l_1)/\Q (VRes.ret (I (sumF (tmC l_1 n_1) l_1.length)))):=by kernel_rfl
theorem no_ev (l:List Stk) (t:Tst) (n:Nat->Int) (k:Nat) (Q:VRes->Prop):callN Try.prog (tabS [smT]) noL 10 20 0 (.fn 80) [.tp (stD l::tsL t),.agg (nL n),I k] ⟨0,[]⟩ (fun r h=>Q r) =
 (∃ (l_1:List Stk) (n_1:Nat->Int) (k_1:Nat),isD (VH.mk (3) [(2,VB.cells [I 0,I 0] 34),(1,VB.cells [I (↑k:Int)] 3),(0,VB.fam [] (6) (fun k=>[n 0,n 1,n 2,n 3,n 4,n 5].getD k (0:Int)) 80)]) 3 (VV.tl l.length 5 (stG l)) (stD l_1)/\isD (VH.mk (3) [(2,VB.cells [I 0,I 0] 34),(1,VB.cells [I (↑k:Int)] 3),(0,VB.fam [] (6) (fun k=>[n 0,n 1,n 2,n 3,n 4,n 5].getD k (0:Int)) 80)]) 2 (VV.ptr (.own 0 0)) (VV.tp (nL n_1))/\isD (VH.mk (3) [(2,VB.cells [I 0,I 0] 34),(1,VB.cells [I (↑k:Int)] 3),(0,VB.fam [] (6) (fun k=>[n 0,n 1,n 2,n 3,n 4,n 5].getD k (0:Int)) 80)]) 2 (VV.ptr (.own (1) 0)) (VV.tp [I (↑k_1:Int)])/\(nB n_1/\lB l_1/\∃ m,pB l_1 m/\k_1<m)/\∃ (l_2:List Stk) (n_2:Nat->Int) (k_2:Nat),isD (VH.mk (3) [(2,VB.cells [I 0,I 0] 34),(1,VB.cells [I (↑k:Int)] 3),(0,VB.fam [] (6) (fun k=>[n 0,n 1,n 2,n 3,n 4,n 5].getD k (0:Int)) 80)]) 3 (VV.tl l.length 5 (stG l)) (stD l_2)/\isD (VH.mk (3) [(2,VB.cells [I 0,I 0] 34),(1,VB.cells [I (↑k:Int)] 3),(0,VB.fam [] (6) (fun k=>[n 0,n 1,n 2,n 3,n 4,n 5].getD k (0:Int)) 80)]) 2 (VV.ptr (.own 0 0)) (VV.tp (nL n_2))/\isD (VH.mk (3) [(2,VB.cells [I 0,I 0] 34),(1,VB.cells [I (↑k:Int)] 3),(0,VB.fam [] (6) (fun k=>[n 0,n 1,n 2,n 3,n 4,n 5].getD k (0:Int)) 80)]) 2 (VV.ptr (.own (1) 0)) (VV.tp [I (↑k_2:Int)])/\(nB n_2/\lB l_2/\∃ m,pB l_2 m/\k_2<m)/\Q (.ret (.agg [I (sumF (tmL l_1 n_1 k_1) l_1.length),I (sumF (tmH l_2 n_2 k_2) l_2.length)]))):=by kernel_rfl
def faN (n:Nat->Int):VB:=.fam [] 6 (fun k=>(ch n).getD k 0) 80
def dsA:List Nat:=[15,14,13,12,11,10,7,6,4,0,1,2]
def VA (l:List Stk) (t:Tst) (n:Nat->Int) (y i a:Int):List VV:=[I i,I l.length,stD l,.tp (stD l::tsL t),.tp (stD l::tsL t),.tp (stD l::tsL t),I a,I 0,.ptr (.own 0 0),.tp (stD l::tsL t),.agg (nL n),I y]
theorem ag_ev (l:List Stk) (t:Tst) (n:Nat->Int) (y i a:Int) (X:VEx->List VV->List VB->Prop):codeE Try.prog (callN Try.prog noSpec noL 10 20) (fun _=>none) true 10 42 0 (loopB 0 (bodyOf Try.prog 79)) (dsA.zip (VA l t n y i a)) ⟨1,[0].zip [faN n]⟩ (obs 1 dsA [0] X) =
 (let z1:=[VV.tl l.length 5 (stG l),VV.tl t.T.length 1 (dG t.T),I t.far,I t.least];
 let z2:=[I (i+(1:Int)),I (↑l.length:Int),VV.tl l.length 5 (stG l),VV.tp z1,VV.tp z1,VV.tp z1,I ((l.getD i.toNat k0).age+y),I 0,VV.ptr (.own 0 0),VV.tp z1,VV.agg [I (n 0),I (n 1),I (n 2),I (n 3),I (n 4),I (n 5)],I y];
 let z3:=[I (i+(1:Int)),I (↑l.length:Int),VV.tl l.length 5 (stG l),VV.tp z1,VV.tp z1,VV.tp z1,I a,I 0,VV.ptr (.own 0 0),VV.tp z1,VV.agg [I (n 0),I (n 1),I (n 2),I (n 3),I (n 4),I (n 5)],I y];
 let z4:=[VB.fam [] 6 (fun k=>(ch n).getD k (0:Int)) 80];
 (bif decide (i<(↑l.length:Int)) then
 bif decide ((0:Int)<=i/\i<(↑l.length:Int)) then
 bif decide ((0:Int)<=i/\i<(↑6:Int)) then
 bif decide (i.toNat*(1)<6) then
 bif decide ((fun k=>(ch n).getD k (0:Int)) (i.toNat*(1)) > (0:Int)) then
 bif decide (a<(0:Int)) then
 bif inK .i64 ((l.getD i.toNat k0).age+y) then
 bif inK .i64 (i+(1:Int)) then
 X .normal z2 z4
 else False
 else False
 else bif inK .i64 ((l.getD i.toNat k0).age+y) then
 bif decide ((l.getD i.toNat k0).age+y<a) then
 bif inK .i64 ((l.getD i.toNat k0).age+y) then
 bif inK .i64 (i+(1:Int)) then
 X .normal z2 z4
 else False
 else False
 else bif inK .i64 (i+(1:Int)) then
 X .normal z3 z4
 else False
 else False
 else bif inK .i64 (i+(1:Int)) then
 X .normal z3 z4
 else False
 else False
 else False
 else False
 else X (.exit 0) [I i,I (↑l.length:Int),VV.tl l.length 5 (stG l),VV.tp z1,VV.tp z1,VV.tp z1,I a,I 0,VV.ptr (.own 0 0),VV.tp z1,VV.agg [I (n 0),I (n 1),I (n 2),I (n 3),I (n 4),I (n 5)],I y] z4)):=by kernel_rfl
def ageF (l:List Stk) (n:Nat->Int) (y:Int):Nat->Int
 | 0=>-1
 | k+1=>if n k > 0/\(ageF l n y k<0 ∨ (l.getD k k0).age+y<ageF l n y k) then (l.getD k k0).age+y else ageF l n y k
def lAg (l:List Stk) (t:Tst) (n:Nat->Int) (y:Int):LT:=fun lock tt h K=>
 FitP lock h tt ⟨1,[0].zip [faN n]⟩ (dsA.zip (VA l t n y 0 (-1)))/\(nB n/\lB l/\0<=y/\y<=1000)/\K .normal (dsA.zip (VA l t n y l.length (ageF l n y l.length))) ⟨1,[0].zip [faN n]⟩
theorem agf_ev (l:List Stk) (t:Tst) (n:Nat->Int) (y:Int) (Q:VRes->Prop):callN Try.prog noSpec (atF 79 [(0,lAg l t n y)]) 10 20 0 (.fn 79) [.tp (stD l::tsL t),.agg (nL n),I y] ⟨0,[]⟩ (fun r h=>Q r) =
 (FitP 0 (VH.mk 1 ([0].zip [faN n])) (dsA.zip (VA l t n y (0:Int) (-1:Int))) (VH.mk 1 ([0].zip [faN n])) (dsA.zip (VA l t n y (0:Int) (-1:Int)))/\(nB n/\lB l/\(0:Int)<=y/\y<=(1000:Int))/\Q (VRes.ret (I (ageF l n y l.length)))):=by kernel_rfl
theorem smT_ok:SpOk Try.prog smT.1 smT.2:=by
 intro lock args h K hK
 simp only [smT] at hK
 split at hK
 ·obtain ⟨l,n,hx,hc,hh,hK⟩:=hK
  obtain ⟨h',hv⟩:=sumSV_v hh
  exact ⟨_,h,hK,lockP_refl _ _,calls_lendDP 3 hv rfl ⟨hx,⟨rfl,trivial,hc,trivial⟩,trivial⟩⟩
 ·obtain ⟨l,n,hx,hc,hh,hK⟩:=hK
  obtain ⟨h',hv⟩:=sumSC_v hh
  exact ⟨_,h,hK,lockP_refl _ _,calls_lendDP 3 hv rfl ⟨hx,⟨rfl,trivial,hc,trivial⟩,trivial⟩⟩
 ·obtain ⟨l,n,k,hx,hc,hd,hh,hK⟩:=hK
  obtain ⟨h',hv⟩:=sumSL_v hh
  exact ⟨_,h,hK,lockP_refl _ _,calls_lendDP 3 hv rfl ⟨hx,⟨rfl,trivial,hc,hd,trivial⟩,trivial⟩⟩
 ·obtain ⟨l,n,k,hx,hc,hd,hh,hK⟩:=hK
  obtain ⟨h',hv⟩:=sumSH_v hh
  exact ⟨_,h,hK,lockP_refl _ _,calls_lendDP 3 hv rfl ⟨hx,⟨rfl,trivial,hc,hd,trivial⟩,trivial⟩⟩
 ·exact hK.elim
section
variable {l:List Stk} {t:Tst} {n:Nat->Int}
theorem isD_n {h:VH} {m:Nat} (hm:h.at m=faN n):isD h 2 (.ptr (.own m 0)) (.tp (nL n)):=
 ⟨nL n,80,by rw [hm]; rfl,⟨rfl,rfl⟩,⟨rfl,rfl⟩,⟨rfl,rfl⟩,⟨rfl,rfl⟩,⟨rfl,rfl⟩,⟨rfl,rfl⟩,trivial⟩
theorem isD_l {h:VH} {k:Nat}:isD h (k+1) (.tl l.length 5 (stG l)) (stD l):=⟨rfl,rfl,fun _ _=>rfl⟩
theorem vol_v (hn:nB n) (hl:lB l):∃ h',CallsV Try.prog 75 [.tp (stD l::tsL t),.agg (nL n)] ⟨0,[]⟩ (.ret (I (sumF (tmV l n) l.length))) h':=by
 obtain ⟨r,h',rfl,hc⟩:=of_callN (noL_good (tab1 smT_ok)) (f:=75) (args:=[.tp (stD l::tsL t),.agg (nL n)]) (h:=⟨0,[]⟩) (K:=fun r _=>r=.ret (I (sumF (tmV l n) l.length))) (by
  refine cast (vo_ev l t n _).symm ⟨l,n,isD_l,isD_n rfl,⟨hn,hl⟩,rfl⟩)
 exact ⟨h',hc⟩
theorem cost_v (hn:nB n) (hl:lB l):∃ h',CallsV Try.prog 49 [.tp (stD l::tsL t),.agg (nL n)] ⟨0,[]⟩ (.ret (I (sumF (tmC l n) l.length))) h':=by
 obtain ⟨r,h',rfl,hc⟩:=of_callN (noL_good (tab1 smT_ok)) (f:=49) (args:=[.tp (stD l::tsL t),.agg (nL n)]) (h:=⟨0,[]⟩) (K:=fun r _=>r=.ret (I (sumF (tmC l n) l.length))) (by
  refine cast (co_ev l t n _).symm ⟨l,n,isD_l,isD_n rfl,⟨hn,hl⟩,rfl⟩)
 exact ⟨h',hc⟩
theorem notes_v {k m:Nat} (hn:nB n) (hl:lB l) (hp:pB l m) (hk:k<m):∃ h',CallsV Try.prog 80 [.tp (stD l::tsL t),.agg (nL n),I k] ⟨0,[]⟩ (.ret (.agg [I (sumF (tmL l n k) l.length),I (sumF (tmH l n k) l.length)])) h':=by
 obtain ⟨r,h',rfl,hc⟩:=of_callN (noL_good (tab1 smT_ok)) (f:=80) (args:=[.tp (stD l::tsL t),.agg (nL n),I k]) (h:=⟨0,[]⟩) (K:=fun r _=>r=.ret (.agg [I (sumF (tmL l n k) l.length),I (sumF (tmH l n k) l.length)])) (by
  refine cast (no_ev l t n k _).symm ⟨l,n,k,isD_l,isD_n rfl,⟨_,_,rfl,⟨rfl,rfl⟩,trivial⟩,⟨hn,hl,m,hp,hk⟩,l,n,k,isD_l,isD_n rfl,⟨_,_,rfl,⟨rfl,rfl⟩,trivial⟩,⟨hn,hl,m,hp,hk⟩,rfl⟩)
 exact ⟨h',hc⟩
theorem ageF_bd {y:Int} (hl:lB l) (hy:0<=y/\y<=1000):∀ k,k<=l.length->-1<=ageF l n y k/\ageF l n y k<=1100
 | 0,_=>by simp [ageF]
 | k+1,h=>by
  have h1:=ageF_bd hl hy k (by omega)
  obtain ⟨_,_,h4,_⟩:=hl.2 k (by omega)
  unfold ageF
  split <;> omega
theorem lAg_ok {y:Int}:LSound Try.prog true (.block 0 (.loop (loopB 0 (bodyOf Try.prog 79)))) 42 (lAg l t n y):=by
 by_cases hh:nB n/\lB l/\0<=y/\y<=1000
 ·obtain ⟨hn,hl,hy⟩:=hh
  have hl6:=hl.1
  refine loop_row hmix good0 (un:=10) (ds:=dsA) (ns:=[0]) (nx:=1) (fun i:Nat=>VA l t n y i (ageF l n y i)) (fun _=>[faN n]) (fun i=>i<=l.length) (fun i=>l.length - i) (fun _ e vs bs=>e=.exit 0/\bs=[faN n]/\vs=VA l t n y l.length (ageF l n y l.length)) noL_ok ?_ ?_
  ·rintro i h0
   refine cast (ag_ev l t n y i _ _).symm ?_
   by_cases hlt:i<l.length
   ·obtain ⟨_,_,h4,_⟩:=hl.2 i hlt
    have hb:=ageF_bd (n:=n) hl hy i (by omega)
    have fin:∀ a,a=ageF l n y (i+1)->RoundQ (fun i:Nat=>VA l t n y i (ageF l n y i)) (fun _=>[faN n]) (fun i=>i<=l.length) (fun i=>l.length - i) (fun _ e vs bs=>e=.exit 0/\bs=[faN n]/\vs=VA l t n y l.length (ageF l n y l.length)) i .normal (VA l t n y (i+1) a) [faN n]:=by
     rintro a rfl
     exact ⟨i+1,by omega,by dsimp only; omega,rfl,fitBs_refl _,fun _ _ _ h=>h⟩
    have hs:ageF l n y (i+1)=if n i > 0/\(ageF l n y i<0 ∨ (l.getD i k0).age+y<ageF l n y i) then (l.getD i k0).age+y else ageF l n y i:=rfl
    refine cond_dk (by omega) (cond_dk ⟨by omega,by omega⟩ (cond_dk ⟨by omega,by omega⟩ (cond_dk (by omega) ?_)))
    rw [show (i:Int).toNat=i by omega]
    have e2:(fun k=>(ch n).getD k 0) (i*1)=n i:=by
     rw [Nat.mul_one]
     exact ch_get (by omega)
    refine cond_d (fun g1=>cond_d (fun g2=>cond_r (by omega) (cond_r (by omega) (fin _ ?_))) (fun g2=>cond_r (by omega) (cond_d (fun g3=>cond_r (by omega) (cond_r (by omega) (fin _ ?_))) (fun g3=>cond_r (by omega) (fin _ ?_))))) (fun g1=>cond_r (by omega) (fin _ ?_))
    all_goals rw [e2] at g1
    ·rw [hs,if_pos ⟨g1,.inl g2⟩]
    ·rw [hs,if_pos ⟨g1,.inr g3⟩]
    ·rw [hs,if_neg (by omega)]
    ·rw [hs,if_neg (by omega)]
   ·obtain rfl:i=l.length:=by omega
    exact cond_d (fun h=>by omega) (fun _=>⟨rfl,rfl,rfl⟩)
  ·rintro lock tt h K ⟨hf,_,k1⟩
   refine ⟨0,hf,Nat.zero_le _,?_⟩
   rintro e vs bs ⟨rfl,rfl,rfl⟩
   exact k1
 ·rintro lock tt h K ⟨hf,hc,_⟩
  exact (hh hc).elim
theorem age_v {y:Int} (hn:nB n) (hl:lB l) (hy:0<=y/\y<=1000):∃ h',CallsV Try.prog 79 [.tp (stD l::tsL t),.agg (nL n),I y] ⟨0,[]⟩ (.ret (I (ageF l n y l.length))) h':=by
 have hall:LoopsOk Try.prog 79 [(0,lAg l t n y)]:=fun x hx=>by
  simp only [List.mem_singleton] at hx
  subst hx
  exact ⟨by kernel_rfl,lAg_ok⟩
 obtain ⟨r,h',rfl,hc⟩:=of_callN (callL_good hmix noSp hall (un:=10) 20) (f:=79) (args:=[.tp (stD l::tsL t),.agg (nL n),I y]) (h:=⟨0,[]⟩) (K:=fun r _=>r=.ret (I (ageF l n y l.length))) (by
  refine cast (agf_ev l t n y _).symm ?_
  exact ⟨⟨⟨rfl,rfl,VB.fit_refl _,trivial⟩,rfl,rfl,rfl,rfl,rfl,rfl,rfl,rfl,rfl,rfl,rfl,rfl,trivial⟩,⟨hn,hl,hy⟩,rfl⟩)
 exact ⟨h',hc⟩
end
def volT:FuncId × Spec1:=(75,fun _ args h K=>match args with
 | [c,.agg ns]=>∃ (l:List Stk) (t:Tst) (n:Nat->Int),isD h 4 c (.tp (stD l::tsL t))/\ns=nL n/\nB n/\lB l/\K (.ret (I (sumF (tmV l n) l.length))) h
 | _=>False)
def costT:FuncId × Spec1:=(49,fun _ args h K=>match args with
 | [c,.agg ns]=>∃ (l:List Stk) (t:Tst) (n:Nat->Int),isD h 4 c (.tp (stD l::tsL t))/\ns=nL n/\nB n/\lB l/\K (.ret (I (sumF (tmC l n) l.length))) h
 | _=>False)
def notesT:FuncId × Spec1:=(80,fun _ args h K=>match args with
 | [c,.agg ns,.int .i64 k']=>∃ (l:List Stk) (t:Tst) (n:Nat->Int) (k m:Nat),isD h 4 c (.tp (stD l::tsL t))/\ns=nL n/\k'=k/\(nB n/\lB l/\pB l m/\k<m)/\K (.ret (.agg [I (sumF (tmL l n k) l.length),I (sumF (tmH l n k) l.length)])) h
 | _=>False)
def ageT:FuncId × Spec1:=(79,fun _ args h K=>match args with
 | [c,.agg ns,.int .i64 y]=>∃ (l:List Stk) (t:Tst) (n:Nat->Int),isD h 4 c (.tp (stD l::tsL t))/\ns=nL n/\(nB n/\lB l/\0<=y/\y<=1000)/\K (.ret (I (ageF l n y l.length))) h
 | _=>False)
theorem isD_nL {h:VH} {n:Nat->Int} {k:Nat}:isD h (k+2) (.agg (nL n)) (.agg (nL n)):=⟨⟨rfl,rfl⟩,⟨rfl,rfl⟩,⟨rfl,rfl⟩,⟨rfl,rfl⟩,⟨rfl,rfl⟩,⟨rfl,rfl⟩,trivial⟩
theorem volT_ok:SpOk Try.prog volT.1 volT.2:=by
 intro lock args h K hK
 simp only [volT] at hK
 split at hK
 ·obtain ⟨l,t,n,hc,rfl,hn,hl,hK⟩:=hK
  obtain ⟨h',hv⟩:=vol_v (t:=t) hn hl
  exact ⟨_,h,hK,lockP_refl _ _,calls_lendDP 4 hv rfl ⟨hc,isD_nL,trivial⟩⟩
 ·exact hK.elim
theorem costT_ok:SpOk Try.prog costT.1 costT.2:=by
 intro lock args h K hK
 simp only [costT] at hK
 split at hK
 ·obtain ⟨l,t,n,hc,rfl,hn,hl,hK⟩:=hK
  obtain ⟨h',hv⟩:=cost_v (t:=t) hn hl
  exact ⟨_,h,hK,lockP_refl _ _,calls_lendDP 4 hv rfl ⟨hc,isD_nL,trivial⟩⟩
 ·exact hK.elim
theorem notesT_ok:SpOk Try.prog notesT.1 notesT.2:=by
 intro lock args h K hK
 simp only [notesT] at hK
 split at hK
 ·obtain ⟨l,t,n,k,m,hc,rfl,rfl,⟨hn,hl,hp,hk⟩,hK⟩:=hK
  obtain ⟨h',hv⟩:=notes_v (t:=t) hn hl hp hk
  exact ⟨_,h,hK,lockP_refl _ _,calls_lendDP 4 hv rfl ⟨hc,isD_nL,⟨rfl,rfl⟩,trivial⟩⟩
 ·exact hK.elim
theorem ageT_ok:SpOk Try.prog ageT.1 ageT.2:=by
 intro lock args h K hK
 simp only [ageT] at hK
 split at hK
 ·obtain ⟨l,t,n,hc,rfl,⟨hn,hl,hy⟩,hK⟩:=hK
  obtain ⟨h',hv⟩:=age_v (t:=t) hn hl hy
  exact ⟨_,h,hK,lockP_refl _ _,calls_lendDP 4 hv rfl ⟨hc,isD_nL,⟨rfl,rfl⟩,trivial⟩⟩
 ·exact hK.elim
def dsB:List Nat:=[45,44,43,9,8,7,6,4,0,1,2]
def VB4 (l:List Stk) (t:Tst) (n:Nat->Int) (y v a i:Int):List VV:=[I i,I t.T.length,inD t.T,.ptr (.own 2 0),I a,I v,.ptr (.own 1 0),.ptr (.own 0 0),.tp (stD l::tsL t),.agg (nL n),I y]
abbrev zB:VB:=.cells [I 0,I 0,I 0,.nils,.bool false] 49
def BB (n:Nat->Int) (v c a:Int) (P:List Sp) (b:Bool):List VB:=[faN n,zB,.cells [I v,I c,I a,.sl 3 P.length,.bool b] 49,.vec P.length (spG P) 2 34]
theorem br_ev (l:List Stk) (t:Tst) (n:Nat->Int) (y v c a1 a2 i:Int) (P:List Sp) (b:Bool) (X:VEx->List VV->List VB->Prop):codeE Try.prog (callN Try.prog (tabS [notesT]) noL 10 20) (fun _=>none) true 10 104 0 (loopB 0 (bodyOf Try.prog 54)) (dsB.zip (VB4 l t n y v a1 i)) ⟨4,[0,1,2,3].zip (BB n v c a2 P b)⟩ (obs 4 dsB [0,1,2,3] X) =
 (let z1:=[I (i+(1:Int)),I (↑t.T.length:Int),VV.tl t.T.length 1 (dG t.T),VV.ptr (.own 2 0),I a1,I v,VV.ptr (.own 1 0),VV.ptr (.own 0 0),VV.tp [VV.tl l.length 5 (stG l),VV.tl t.T.length 1 (dG t.T),I t.far,I t.least],VV.agg [I (n 0),I (n 1),I (n 2),I (n 3),I (n 4),I (n 5)],I y];
 let z2:=[I 0,I 0,I 0,VV.nils,VV.bool false];
 (bif decide (i<(↑t.T.length:Int)) then
 bif decide ((0:Int)<=i/\i<(↑t.T.length:Int)) then
 ∃ (l_1:List Stk) (t_1:Tst) (n_1:Nat->Int) (k m:Nat),isD (VH.mk 4 ([0,1,2,3].zip (BB n v c a2 P b))) 4 (VV.tp (stD l::tsL t)) (VV.tp (stD l_1::tsL t_1))/\[I ((fun k=>(ch n).getD k (0:Int)) (0+0)),I ((fun k=>(ch n).getD k (0:Int)) (0+1)),I ((fun k=>(ch n).getD k (0:Int)) (0+2)),I ((fun k=>(ch n).getD k (0:Int)) (0+3)),I ((fun k=>(ch n).getD k (0:Int)) (0+4)),I ((fun k=>(ch n).getD k (0:Int)) (0+5))]=nL n_1/\i=(↑k:Int)/\(nB n_1/\lB l_1/\pB l_1 m/\k<m)/\bif inK .i64 (t.T.getD i.toNat (0:Int)+t.far) then
 bif inK .i64 ((t.T.getD i.toNat (0:Int)+t.far)*v) then
 bif decide (sumF (tmH l_1 n_1 k) l_1.length > (t.T.getD i.toNat (0:Int)+t.far)*v) then
 bif decide (v > (0:Int)) then
 bif decide (v=(0:Int)) then
 False
 else bif inK .i64 (quoZ (sumF (tmL l_1 n_1 k) l_1.length) v) then
 bif inK .i64 (sumF (tmH l_1 n_1 k) l_1.length+v) then
 bif inK .i64 (sumF (tmH l_1 n_1 k) l_1.length+v - (1:Int)) then
 bif decide (v=(0:Int)) then
 False
 else bif inK .i64 (quoZ (sumF (tmH l_1 n_1 k) l_1.length+v - (1:Int)) v) then
 bif P.length.beq P.length then
 bif roomB (P.length+1) (16) then
 bif inK .i64 (i+(1:Int)) then
 X .normal z1 [VB.fam [] 6 (fun k=>(ch n).getD k (0:Int)) 80,VB.cells z2 49,VB.cells [I v,I c,I a2,VV.sl 3 (P.length+1),VV.bool false] 49,VB.vec (P.length+1) (catG P.length (spG P) fun j=>List.take (2) (List.drop (j*(2)) [I (quoZ (sumF (tmL l_1 n_1 k) l_1.length) v),I (quoZ (sumF (tmH l_1 n_1 k) l_1.length+v - (1:Int)) v)])) (2) 34]
 else False
 else False
 else False
 else False
 else False
 else False
 else False
 else bif P.length.beq P.length then
 bif roomB (P.length+1) (16) then
 bif inK .i64 (i+(1:Int)) then
 X .normal z1 [VB.fam [] 6 (fun k=>(ch n).getD k (0:Int)) 80,VB.cells z2 49,VB.cells [I v,I c,I a2,VV.sl 3 (P.length+1),VV.bool false] 49,VB.vec (P.length+1) (catG P.length (spG P) fun j=>List.take (2) (List.drop (j*(2)) [I 0,I 0])) (2) 34]
 else False
 else False
 else False
 else bif inK .i64 (t.T.getD i.toNat (0:Int) - t.far) then
 bif inK .i64 ((t.T.getD i.toNat (0:Int) - t.far)*v) then
 bif decide (sumF (tmL l_1 n_1 k) l_1.length<(t.T.getD i.toNat (0:Int) - t.far)*v) then
 bif decide (v > (0:Int)) then
 bif decide (v=(0:Int)) then
 False
 else bif inK .i64 (quoZ (sumF (tmL l_1 n_1 k) l_1.length) v) then
 bif inK .i64 (sumF (tmH l_1 n_1 k) l_1.length+v) then
 bif inK .i64 (sumF (tmH l_1 n_1 k) l_1.length+v - (1:Int)) then
 bif decide (v=(0:Int)) then
 False
 else bif inK .i64 (quoZ (sumF (tmH l_1 n_1 k) l_1.length+v - (1:Int)) v) then
 bif P.length.beq P.length then
 bif roomB (P.length+1) (16) then
 bif inK .i64 (i+(1:Int)) then
 X .normal z1 [VB.fam [] 6 (fun k=>(ch n).getD k (0:Int)) 80,VB.cells z2 49,VB.cells [I v,I c,I a2,VV.sl 3 (P.length+1),VV.bool false] 49,VB.vec (P.length+1) (catG P.length (spG P) fun j=>List.take (2) (List.drop (j*(2)) [I (quoZ (sumF (tmL l_1 n_1 k) l_1.length) v),I (quoZ (sumF (tmH l_1 n_1 k) l_1.length+v - (1:Int)) v)])) (2) 34]
 else False
 else False
 else False
 else False
 else False
 else False
 else False
 else bif P.length.beq P.length then
 bif roomB (P.length+1) (16) then
 bif inK .i64 (i+(1:Int)) then
 X .normal z1 [VB.fam [] 6 (fun k=>(ch n).getD k (0:Int)) 80,VB.cells z2 49,VB.cells [I v,I c,I a2,VV.sl 3 (P.length+1),VV.bool false] 49,VB.vec (P.length+1) (catG P.length (spG P) fun j=>List.take (2) (List.drop (j*(2)) [I 0,I 0])) (2) 34]
 else False
 else False
 else False
 else bif decide (v > (0:Int)) then
 bif decide (v=(0:Int)) then
 False
 else bif inK .i64 (quoZ (sumF (tmL l_1 n_1 k) l_1.length) v) then
 bif inK .i64 (sumF (tmH l_1 n_1 k) l_1.length+v) then
 bif inK .i64 (sumF (tmH l_1 n_1 k) l_1.length+v - (1:Int)) then
 bif decide (v=(0:Int)) then
 False
 else bif inK .i64 (quoZ (sumF (tmH l_1 n_1 k) l_1.length+v - (1:Int)) v) then
 bif P.length.beq P.length then
 bif roomB (P.length+1) (16) then
 bif inK .i64 (i+(1:Int)) then
 X .normal z1 [VB.fam [] 6 (fun k=>(ch n).getD k (0:Int)) 80,VB.cells z2 49,VB.cells [I v,I c,I a2,VV.sl 3 (P.length+1),VV.bool b] 49,VB.vec (P.length+1) (catG P.length (spG P) fun j=>List.take (2) (List.drop (j*(2)) [I (quoZ (sumF (tmL l_1 n_1 k) l_1.length) v),I (quoZ (sumF (tmH l_1 n_1 k) l_1.length+v - (1:Int)) v)])) (2) 34]
 else False
 else False
 else False
 else False
 else False
 else False
 else False
 else bif P.length.beq P.length then
 bif roomB (P.length+1) (16) then
 bif inK .i64 (i+(1:Int)) then
 X .normal z1 [VB.fam [] 6 (fun k=>(ch n).getD k (0:Int)) 80,VB.cells z2 49,VB.cells [I v,I c,I a2,VV.sl 3 (P.length+1),VV.bool b] 49,VB.vec (P.length+1) (catG P.length (spG P) fun j=>List.take (2) (List.drop (j*(2)) [I 0,I 0])) (2) 34]
 else False
 else False
 else False
 else False
 else False
 else False
 else False
 else False
 else X (.exit 0) [I i,I (↑t.T.length:Int),VV.tl t.T.length 1 (dG t.T),VV.ptr (.own 2 0),I a1,I v,VV.ptr (.own 1 0),VV.ptr (.own 0 0),VV.tp [VV.tl l.length 5 (stG l),VV.tl t.T.length 1 (dG t.T),I t.far,I t.least],VV.agg [I (n 0),I (n 1),I (n 2),I (n 3),I (n 4),I (n 5)],I y] [VB.fam [] 6 (fun k=>(ch n).getD k (0:Int)) 80,VB.cells z2 49,VB.cells [I v,I c,I a2,VV.sl 3 P.length,VV.bool b] 49,VB.vec P.length (spG P) 2 34])):=by kernel_rfl
def tB (t:Tst):Prop:=(1<=t.T.length/\t.T.length<=4)/\(∀ k,k<t.T.length->0<=t.T.getD k 0/\t.T.getD k 0<=1000)/\(0<=t.far/\t.far<=1000)/\0<=t.least/\t.least<=100
abbrev volF (l:List Stk) (n:Nat->Int):Int:=sumF (tmV l n) l.length
abbrev costF (l:List Stk) (n:Nat->Int):Int:=sumF (tmC l n) l.length
abbrev loF (l:List Stk) (n:Nat->Int) (k:Nat):Int:=sumF (tmL l n k) l.length
abbrev hiF (l:List Stk) (n:Nat->Int) (k:Nat):Int:=sumF (tmH l n k) l.length
def okF (l:List Stk) (t:Tst) (n:Nat->Int) (k:Nat):Bool:=!decide (hiF l n k > (t.T.getD k 0+t.far)*volF l n) && !decide (loF l n k<(t.T.getD k 0 - t.far)*volF l n)
def ownF (l:List Stk) (n:Nat->Int) (k:Nat):Sp:=if volF l n > 0 then ⟨quoZ (loF l n k) (volF l n),quoZ (hiF l n k+volF l n - 1) (volF l n)⟩ else ⟨0,0⟩
def PF (l:List Stk) (n:Nat->Int):Nat->List Sp
 | 0=>[]
 | k+1=>PF l n k ++ [ownF l n k]
def KF (l:List Stk) (t:Tst) (n:Nat->Int) (b:Bool):Nat->Bool
 | 0=>b
 | k+1=>KF l t n b k && okF l t n k
abbrev conB (l:List Stk) (t:Tst) (n:Nat->Int):Prop:=nB n/\lB l/\pB l t.T.length/\tB t
def lBs (l:List Stk) (t:Tst) (n:Nat->Int) (y c a1 a2:Int) (b:Bool):LT:=fun lock tt h K=>
 FitP lock h tt ⟨4,[0,1,2,3].zip (BB n (volF l n) c a2 [] b)⟩ (dsB.zip (VB4 l t n y (volF l n) a1 0))/\conB l t n/\K .normal (dsB.zip (VB4 l t n y (volF l n) a1 t.T.length)) ⟨4,[0,1,2,3].zip (BB n (volF l n) c a2 (PF l n t.T.length) (KF l t n b t.T.length))⟩
def lBl (l:List Stk) (t:Tst) (n:Nat->Int) (y c a1 a2:Int) (b:Bool):LT:=fun lock tt h K=>
 FitP lock h tt ⟨3,[0,1,2].zip [faN n,zB,.cells [I (volF l n),I c,I a2,.nils,.bool b] 49]⟩ (dsB.zip (VB4 l t n y (volF l n) a1 0))/\conB l t n/\K .normal (dsB.zip (VB4 l t n y (volF l n) a1 t.T.length)) ⟨4,[0,1,2,3].zip (BB n (volF l n) c a2 (PF l n t.T.length) (KF l t n b t.T.length))⟩
theorem blf_ev (l:List Stk) (t:Tst) (n:Nat->Int) (y c a1 a2:Int) (b:Bool) (Q:VRes->VH->Prop):callN Try.prog (tabS [volT,costT,notesT,ageT]) (atF 54 [(0,lBl l t n y c a1 a2 b)]) 10 20 0 (.fn 54) [.tp (stD l::tsL t),.agg (nL n),I y] ⟨0,[]⟩ (fun r h=>Q r h) =
 (let z2:=(fun k=>[n 0,n 1,n 2,n 3,n 4,n 5].getD k (0:Int));
 let z1:=[I (z2 (0+0)),I (z2 (0+1)),I (z2 (0+2)),I (z2 (0+3)),I (z2 (0+4)),I (z2 (0+5))];
 let z3:=[I (volF l n),I c,I a2,VV.sl 3 (PF l n t.T.length).length,VV.bool (KF l t n b t.T.length)];
 let z4:=(1,VB.cells [I 0,I 0,I 0,VV.nils,VV.bool false] 49);
 let z5:=(VH.mk 4 [(1,VB.cells z3 49),(0,VB.fam [] 6 (fun k=>(ch n).getD k (0:Int)) 80),z4,(2,VB.cells z3 49),(3,VB.vec (PF l n t.T.length).length (spG (PF l n t.T.length)) 2 34)]);
 let z6:=[VV.tl t.T.length 1 (dG t.T),I t.far,I t.least];
 (∃ (l_1:List Stk) (t_1:Tst) (n_1:Nat->Int),isD (maskH [0,1] (VH.mk (2) [z4,(0,VB.fam [] (6) z2 80)])) 4 (VV.tp (stD l::tsL t)) (VV.tp (stD l_1::tsL t_1))/\z1=nL n_1/\nB n_1/\lB l_1/\∃ (l_2:List Stk) (t_2:Tst) (n_2:Nat->Int),isD (VH.mk (2) [z4,(0,VB.fam [] (6) z2 80)]) 4 (VV.tp (stD l::tsL t)) (VV.tp (stD l_2::tsL t_2))/\z1=nL n_2/\(nB n_2/\lB l_2/\(0:Int)<=y/\y<=(1000:Int))/\∃ (l_3:List Stk) (t_3:Tst) (n_3:Nat->Int),isD (VH.mk (2) [z4,(0,VB.fam [] (6) z2 80)]) 4 (VV.tp (stD l::tsL t)) (VV.tp (stD l_3::tsL t_3))/\z1=nL n_3/\nB n_3/\lB l_3/\bif decide (sumF (tmV l_1 n_1) l_1.length > (0:Int)) then
 FitP 0 (VH.mk (3) [(2,VB.cells [I (sumF (tmV l_1 n_1) l_1.length),I (sumF (tmC l_3 n_3) l_3.length),I (max (0:Int) (ageF l_2 n_2 y l_2.length)),VV.nils,VV.bool (decide (ageF l_2 n_2 y l_2.length ≥ t.least))] 49),(2,VB.cells [I 0,I 0,I 0,VV.nils,VV.bool false] 49),z4,(0,VB.fam [] (6) z2 80)]) [(45,I 0),(44,I (↑t.T.length:Int)),(43,VV.tl t.T.length 1 (dG t.T)),(42,VV.tp z6),(41,VV.tp z6),(40,VV.tp (stD l::tsL t)),(39,VV.tp (stD l::tsL t)),(9,VV.ptr (.own (2) 0)),(38,VV.agg [I (sumF (tmV l_1 n_1) l_1.length),I (sumF (tmC l_3 n_3) l_3.length),I (max (0:Int) (ageF l_2 n_2 y l_2.length)),VV.nils,VV.bool (decide (ageF l_2 n_2 y l_2.length ≥ t.least))]),(37,VV.bool (decide (ageF l_2 n_2 y l_2.length ≥ t.least))),(36,VV.bool (decide (ageF l_2 n_2 y l_2.length ≥ t.least))),(29,VV.bool true),(35,I t.least),(29,VV.bool true),(34,VV.tp [I t.least]),(29,VV.bool true),(33,VV.tp z6),(29,VV.bool true),(32,VV.tp (stD l::tsL t)),(29,VV.bool true),(31,VV.tp (stD l::tsL t)),(29,VV.bool true),(30,I (ageF l_2 n_2 y l_2.length)),(29,VV.bool true),(29,VV.bool (decide (sumF (tmV l_1 n_1) l_1.length > (0:Int)))),(28,VV.bool (decide (sumF (tmV l_1 n_1) l_1.length > (0:Int)))),(27,I (sumF (tmV l_1 n_1) l_1.length)),(26,I (max (0:Int) (ageF l_2 n_2 y l_2.length))),(25,I (ageF l_2 n_2 y l_2.length)),(24,I (sumF (tmC l_3 n_3) l_3.length)),(23,VV.agg z1),(22,VV.tp (stD l::tsL t)),(21,I (sumF (tmV l_1 n_1) l_1.length)),(8,I (ageF l_2 n_2 y l_2.length)),(7,I (sumF (tmV l_1 n_1) l_1.length)),(20,I (ageF l_2 n_2 y l_2.length)),(19,I y),(18,VV.agg z1),(17,VV.tp (stD l::tsL t)),(16,I (sumF (tmV l_1 n_1) l_1.length)),(15,VV.agg z1),(14,VV.tp (stD l::tsL t)),(6,VV.ptr (.own (1) 0)),(4,VV.ptr (.own 0 0)),(0,VV.tp (stD l::tsL t)),(1,VV.agg (nL n)),(2,I y)] (VH.mk 3 ([0,1,2].zip [faN n,zB,VB.cells [I (volF l n),I c,I a2,VV.nils,VV.bool b] 49])) (dsB.zip (VB4 l t n y (volF l n) a1 (0:Int)))/\conB l t n/\Q (.ret (.agg z3)) z5
 else FitP 0 (VH.mk (3) [(2,VB.cells [I (sumF (tmV l_1 n_1) l_1.length),I (sumF (tmC l_3 n_3) l_3.length),I (max (0:Int) (ageF l_2 n_2 y l_2.length)),VV.nils,VV.bool false] 49),(2,VB.cells [I 0,I 0,I 0,VV.nils,VV.bool false] 49),z4,(0,VB.fam [] (6) z2 80)]) [(45,I 0),(44,I (↑t.T.length:Int)),(43,VV.tl t.T.length 1 (dG t.T)),(42,VV.tp z6),(41,VV.tp z6),(40,VV.tp (stD l::tsL t)),(39,VV.tp (stD l::tsL t)),(9,VV.ptr (.own (2) 0)),(38,VV.agg [I (sumF (tmV l_1 n_1) l_1.length),I (sumF (tmC l_3 n_3) l_3.length),I (max (0:Int) (ageF l_2 n_2 y l_2.length)),VV.nils,VV.bool false]),(37,VV.bool false),(36,udf),(29,VV.bool false),(35,udf),(29,VV.bool false),(34,udf),(29,VV.bool false),(33,udf),(29,VV.bool false),(32,udf),(29,VV.bool false),(31,udf),(29,VV.bool false),(30,udf),(29,VV.bool false),(29,VV.bool (decide (sumF (tmV l_1 n_1) l_1.length > (0:Int)))),(28,VV.bool (decide (sumF (tmV l_1 n_1) l_1.length > (0:Int)))),(27,I (sumF (tmV l_1 n_1) l_1.length)),(26,I (max (0:Int) (ageF l_2 n_2 y l_2.length))),(25,I (ageF l_2 n_2 y l_2.length)),(24,I (sumF (tmC l_3 n_3) l_3.length)),(23,VV.agg z1),(22,VV.tp (stD l::tsL t)),(21,I (sumF (tmV l_1 n_1) l_1.length)),(8,I (ageF l_2 n_2 y l_2.length)),(7,I (sumF (tmV l_1 n_1) l_1.length)),(20,I (ageF l_2 n_2 y l_2.length)),(19,I y),(18,VV.agg z1),(17,VV.tp (stD l::tsL t)),(16,I (sumF (tmV l_1 n_1) l_1.length)),(15,VV.agg z1),(14,VV.tp (stD l::tsL t)),(6,VV.ptr (.own (1) 0)),(4,VV.ptr (.own 0 0)),(0,VV.tp (stD l::tsL t)),(1,VV.agg (nL n)),(2,I y)] (VH.mk 3 ([0,1,2].zip [faN n,zB,VB.cells [I (volF l n),I c,I a2,VV.nils,VV.bool b] 49])) (dsB.zip (VB4 l t n y (volF l n) a1 (0:Int)))/\conB l t n/\Q (.ret (.agg z3)) z5)):=by kernel_rfl
theorem room16 {n:Nat} (h:n<=100000):roomB n 16=true:=by
 unfold roomB
 simp only [Bool.and_eq_true,Nat.ble_eq]
 omega
theorem fit_sp {P:List Sp} {x:Sp}:(VB.vec (P ++ [x]).length (spG (P ++ [x])) 2 34).fit (.vec (P.length+1) (catG P.length (spG P) fun j=>List.take 2 (List.drop (j*2) [I x.lo,I x.hi])) 2 34):=by
 refine ⟨by simp,rfl,rfl,fun j hj=>?_⟩
 rw [List.length_append,List.length_singleton] at hj
 unfold catG
 by_cases hjk:j<P.length
 ·rw [blt_t hjk]
  unfold spG
  rw [List.getD_eq_getElem?_getD (l:=P ++ [x]),List.getElem?_append_left hjk,<- List.getD_eq_getElem?_getD]
  rfl
 ·rw [blt_f (by omega)]
  obtain rfl:j=P.length:=by omega
  unfold spG
  rw [List.getD_eq_getElem?_getD (l:=P ++ [x]),List.getElem?_append_right (Nat.le_refl _),Nat.sub_self]
  rfl
section
variable {l:List Stk} {t:Tst} {n:Nat->Int} {y c a1 a2:Int} {b:Bool}
theorem vol_bd (hn:nB n) (hl:lB l):0<=volF l n/\volF l n<=2359296:=by
 have h:=sumF_bd (f:=tmV l n) (M:=6*65536) l.length (fun i hi=>bdSV ⟨hn,hl⟩ hi)
 have hl6:=hl.1
 have:((l.length:Nat):Int)*(6*65536)<=6*(6*65536):=Int.mul_le_mul_of_nonneg_right (by omega) (by decide)
 unfold volF
 omega
theorem cost_bd (hn:nB n) (hl:lB l):0<=costF l n/\costF l n<=37748736:=by
 have h:=sumF_bd (f:=tmC l n) (M:=6*1048576) l.length (fun i hi=>bdSC ⟨hn,hl⟩ hi)
 have hl6:=hl.1
 have:((l.length:Nat):Int)*(6*1048576)<=6*(6*1048576):=Int.mul_le_mul_of_nonneg_right (by omega) (by decide)
 unfold costF
 omega
theorem note_bd {m k:Nat} (hn:nB n) (hl:lB l) (hp:pB l m) (hk:k<m):(0<=loF l n k/\loF l n k<=2359296000)/\0<=hiF l n k/\hiF l n k<=2359296000:=by
 have h:=sumF_bd (f:=tmL l n k) (M:=6*65536*1000) l.length (fun i hi=>bdSL ⟨hn,hl,m,hp,hk⟩ hi)
 have h':=sumF_bd (f:=tmH l n k) (M:=6*65536*1000) l.length (fun i hi=>bdSH ⟨hn,hl,m,hp,hk⟩ hi)
 have hl6:=hl.1
 have:((l.length:Nat):Int)*(6*65536*1000)<=6*(6*65536*1000):=Int.mul_le_mul_of_nonneg_right (by omega) (by decide)
 unfold loF hiF
 omega
theorem quo_bd {a b M:Int} (ha:0<=a/\a<=M) (hb:0<b):0<=quoZ a b/\quoZ a b<=M:=by
 rw [quoZ_nn ha.1]
 exact ⟨Int.ediv_nonneg ha.1 (by omega),Int.le_trans (Int.ediv_le_self _ ha.1) ha.2⟩
theorem PF_len:∀ k,(PF l n k).length=k
 | 0=>rfl
 | k+1=>by
  unfold PF
  rw [List.length_append,List.length_singleton,PF_len k]
def outB (l:List Stk) (t:Tst) (n:Nat->Int) (y c a1 a2:Int) (b:Bool) (_:Nat) (e:VEx) (vs:List VV) (bs:List VB):Prop:=
 e=.exit 0/\bs=BB n (volF l n) c a2 (PF l n t.T.length) (KF l t n b t.T.length)/\vs=VB4 l t n y (volF l n) a1 t.T.length
theorem nt_good:Good Try.prog (callN Try.prog (tabS [notesT]) noL 10 20):=noL_good (tab1 notesT_ok)
theorem lBs_ok:LSound Try.prog true (.block 0 (.loop (loopB 0 (bodyOf Try.prog 54)))) 104 (lBs l t n y c a1 a2 b):=by
 by_cases hh:conB l t n
 ·obtain ⟨hn,hl,hp,⟨ht1,ht2⟩,htn,htf,_⟩:=hh
  refine loop_row hmix nt_good (un:=10) (ds:=dsB) (ns:=[0,1,2,3]) (nx:=4) (fun k:Nat=>VB4 l t n y (volF l n) a1 k) (fun k=>BB n (volF l n) c a2 (PF l n k) (KF l t n b k)) (fun k=>k<=t.T.length) (fun k=>t.T.length - k) (outB l t n y c a1 a2 b) noL_ok ?_ ?_
  ·rintro k h0
   refine cast (br_ev l t n y _ c a1 a2 k _ _ _).symm ?_
   by_cases hlt:k<t.T.length
   ·obtain ⟨t1,t2⟩:=htn k hlt
    obtain ⟨⟨b1,b2⟩,b3,b4⟩:=note_bd hn hl hp hlt
    have hv:=vol_bd hn hl
    have m1:=mul_bd (show 0<=t.T.getD k 0+t.far/\t.T.getD k 0+t.far<=2000 by omega) hv
    have m2 : -2359296000<=(t.T.getD k 0 - t.far)*volF l n/\(t.T.getD k 0 - t.far)*volF l n<=2359296000:=by
     have e1:=mul_bd (show 0<=t.T.getD k 0/\t.T.getD k 0<=1000 by omega) hv
     have e2:=mul_bd (show 0<=t.far/\t.far<=1000 by omega) hv
     rw [Int.sub_mul]
     omega
    have hlen:=PF_len (l:=l) (n:=n) k
    have fin:∀ (b':Bool) (x:Sp),b'=KF l t n b (k+1)->x=ownF l n k->RoundQ (fun k:Nat=>VB4 l t n y (volF l n) a1 k) (fun k=>BB n (volF l n) c a2 (PF l n k) (KF l t n b k)) (fun k=>k<=t.T.length) (fun k=>t.T.length - k) (outB l t n y c a1 a2 b) k .normal (VB4 l t n y (volF l n) a1 (k+1)) [faN n,zB,.cells [I (volF l n),I c,I a2,.sl 3 ((PF l n k).length+1),.bool b'] 49,.vec ((PF l n k).length+1) (catG (PF l n k).length (spG (PF l n k)) fun j=>List.take 2 (List.drop (j*2) [I x.lo,I x.hi])) 2 34]:=by
     rintro b' x rfl rfl
     refine ⟨k+1,by omega,by dsimp only; omega,rfl,?_,fun _ _ _ h=>h⟩
     have e:PF l n (k+1)=PF l n k ++ [ownF l n k]:=rfl
     dsimp only
     unfold BB
     rw [e]
     refine ⟨VB.fit_refl _,VB.fit_refl _,?_,fit_sp,trivial⟩
     show _=_
     rw [List.length_append]
     rfl
    have tail:∀ b',b'=KF l t n b (k+1)->(bif decide (volF l n > 0) then (bif decide (volF l n=0) then False else bif inK .i64 (quoZ (loF l n k) (volF l n)) then (bif inK .i64 (hiF l n k+volF l n) then (bif inK .i64 (hiF l n k+volF l n - 1) then (bif decide (volF l n=0) then False else bif inK .i64 (quoZ (hiF l n k+volF l n - 1) (volF l n)) then (bif (PF l n k).length.beq (PF l n k).length then (bif roomB ((PF l n k).length+1) 16 then (bif inK .i64 ((k:Int)+1) then RoundQ (fun k:Nat=>VB4 l t n y (volF l n) a1 k) (fun k=>BB n (volF l n) c a2 (PF l n k) (KF l t n b k)) (fun k=>k<=t.T.length) (fun k=>t.T.length - k) (outB l t n y c a1 a2 b) k .normal (VB4 l t n y (volF l n) a1 (k+1)) [faN n,zB,.cells [I (volF l n),I c,I a2,.sl 3 ((PF l n k).length+1),.bool b'] 49,.vec ((PF l n k).length+1) (catG (PF l n k).length (spG (PF l n k)) fun j=>List.take 2 (List.drop (j*2) [I (quoZ (loF l n k) (volF l n)),I (quoZ (hiF l n k+volF l n - 1) (volF l n))])) 2 34] else False) else False) else False) else False) else False) else False) else False)
      else bif (PF l n k).length.beq (PF l n k).length then (bif roomB ((PF l n k).length+1) 16 then (bif inK .i64 ((k:Int)+1) then RoundQ (fun k:Nat=>VB4 l t n y (volF l n) a1 k) (fun k=>BB n (volF l n) c a2 (PF l n k) (KF l t n b k)) (fun k=>k<=t.T.length) (fun k=>t.T.length - k) (outB l t n y c a1 a2 b) k .normal (VB4 l t n y (volF l n) a1 (k+1)) [faN n,zB,.cells [I (volF l n),I c,I a2,.sl 3 ((PF l n k).length+1),.bool b'] 49,.vec ((PF l n k).length+1) (catG (PF l n k).length (spG (PF l n k)) fun j=>List.take 2 (List.drop (j*2) [I 0,I 0])) 2 34] else False) else False) else False):=by
     intro b' hb'
     refine cond_d (fun hv0=>cond_d (fun h=>by omega) (fun _=>?_)) (fun hv0=>cond_k (Nat.beq_refl _) (cond_k (room16 (by omega)) (cond_r (by omega) (fin b' ⟨0,0⟩ hb' (by unfold ownF; rw [if_neg hv0])))))
     have q1:=quo_bd (a:=loF l n k) (b:=volF l n) ⟨b1,b2⟩ (by omega)
     have q2:=quo_bd (a:=hiF l n k+volF l n - 1) (b:=volF l n) (M:=2361655296) ⟨by omega,by omega⟩ (by omega)
     exact cond_r (by omega) (cond_r (by omega) (cond_r (by omega) (cond_d (fun h=>by omega) (fun _=>cond_r (by omega) (cond_k (Nat.beq_refl _) (cond_k (room16 (by omega)) (cond_r (by omega) (fin b' ⟨quoZ (loF l n k) (volF l n),quoZ (hiF l n k+volF l n - 1) (volF l n)⟩ hb' (by unfold ownF; rw [if_pos hv0])))))))))
    refine cond_dk (by omega) (cond_dk ⟨by omega,by omega⟩ ⟨l,t,n,k,t.T.length,rfl,rfl,rfl,⟨hn,hl,hp,hlt⟩,?_⟩)
    rw [show (k:Int).toNat=k by omega]
    have hK:KF l t n b (k+1)=(KF l t n b k && okF l t n k):=rfl
    refine cond_r (by omega) (cond_r (by omega) (cond_d (fun g1=>tail _ ?_) (fun g1=>cond_r (by omega) (cond_r (by omega) (cond_d (fun g2=>tail _ ?_) (fun g2=>tail _ ?_))))))
    ·rw [hK]; unfold okF; rw [decide_eq_true g1]; simp
    ·rw [hK]; unfold okF; rw [decide_eq_true g2]; simp
    ·rw [hK]; unfold okF; rw [decide_eq_false g1,decide_eq_false g2]; simp
   ·obtain rfl:k=t.T.length:=by omega
    exact cond_d (fun h=>by omega) (fun _=>⟨rfl,rfl,rfl⟩)
  ·rintro lock tt h K ⟨hf,_,k1⟩
   refine ⟨0,hf,Nat.zero_le _,?_⟩
   rintro e vs bs ⟨rfl,rfl,rfl⟩
   exact k1
 ·rintro lock tt h K ⟨hf,hc,_⟩
  exact (hh hc).elim
theorem lBl_ok:LSound Try.prog true (.block 0 (.loop (loopB 0 (bodyOf Try.prog 54)))) 104 (lBl l t n y c a1 a2 b):=
 ghost_cells_row (m:=2) (nx:=3) (cs:=[I (volF l n),I c,I a2,.nils,.bool b]) (cs':=[I (volF l n),I c,I a2,.sl 3 0,.bool b]) (ty:=49)
  (bs:=[0,1,2].zip [faN n,zB,.cells [I (volF l n),I c,I a2,.nils,.bool b] 49]) (t0:=dsB.zip (VB4 l t n y (volF l n) a1 0))
  (spG []) 2 34 lBs_ok rfl (fun R xs hv hx=>by
   obtain ⟨a0,_,k0,⟨x1,_,k1,⟨x2,_,k2,⟨x3,_,k3,k4,rfl⟩,rfl⟩,rfl⟩,rfl⟩:=hx
   exact ⟨_,_,k0,⟨_,_,k1,⟨_,_,k2,⟨_,_,nil_ghost hv k3,k4,rfl⟩,rfl⟩,rfl⟩,rfl⟩) (by
   rintro lock tt h K ⟨hf,hi,hK⟩
   exact ⟨hf,⟨⟨rfl,rfl,VB.fit_refl _,VB.fit_refl _,VB.fit_refl _,VB.fit_refl _,trivial⟩,rfl,rfl,rfl,rfl,rfl,rfl,rfl,rfl,rfl,rfl,rfl,trivial⟩,hi,hK⟩)
end
structure Vt where
 v:Int
 c:Int
 a:Int
 P:List Sp
 k:Bool
def vtF (l:List Stk) (t:Tst) (n:Nat->Int) (y:Int):Vt:=
 ⟨volF l n,costF l n,max 0 (ageF l n y l.length),PF l n t.T.length,KF l t n (decide (volF l n > 0) && decide (ageF l n y l.length ≥ t.least)) t.T.length⟩
def vtV (V:Vt) (m:Nat):VV:=.agg [I V.v,I V.c,I V.a,.sl m V.P.length,.bool V.k]
def vtB (V:Vt):VB:=.vec V.P.length (spG V.P) 2 34
theorem c4_tab:∀ f T,tabS [volT,costT,notesT,ageT] f=some T->SpOk Try.prog f T:=tab_ok _ (fun x hx=>by
 simp only [List.mem_cons,List.not_mem_nil,or_false] at hx
 rcases hx with rfl | rfl | rfl | rfl
 ·exact volT_ok
 ·exact costT_ok
 ·exact notesT_ok
 ·exact ageT_ok)
theorem calls_lendDO {P:Program} {f:FuncId} {args args':List VV} {h hm':VH} {r:VRes} {b:VB} (n o:Nat) (hs:CallsV P f args ⟨0,[]⟩ r hm') (h0:hm'.at o=b) (h1:∀ i,hm'.at (o+(i+1))=.free) (hr:r.flat o=true) (hbl:b.flat) (ha:isDL h n args' args) :
  CallsV P f args' h (r.sh o h.nx) (h.new b):=
 calls_lendD n o hs (bl:=[b]) (fun i=>by
  match i with
  | 0=>exact h0
  | i+1=>exact h1 i) hr (fun c hc=>by
  simp only [List.mem_singleton] at hc
  subst hc
  exact hbl) ha
theorem blend_v {l:List Stk} {t:Tst} {n:Nat->Int} {y:Int} (hh:conB l t n) (hy:0<=y/\y<=1000):∃ h',CallsV Try.prog 54 [.tp (stD l::tsL t),.agg (nL n),I y] ⟨0,[]⟩ (.ret (vtV (vtF l t n y) 3)) h'/\h'.at 3=vtB (vtF l t n y)/\∀ i,h'.at (3+(i+1))=.free:=by
 have hall:LoopsOk Try.prog 54 [(0,lBl l t n y (costF l n) (ageF l n y l.length) (max 0 (ageF l n y l.length)) (decide (volF l n > 0) && decide (ageF l n y l.length ≥ t.least)))]:=fun x hx=>by
  simp only [List.mem_singleton] at hx
  subst hx
  exact ⟨by kernel_rfl,lBl_ok⟩
 obtain ⟨r,h',⟨rfl,h1,h2⟩,hc⟩:=of_callN (callL_good hmix c4_tab hall (un:=10) 20) (f:=54) (args:=[.tp (stD l::tsL t),.agg (nL n),I y]) (h:=⟨0,[]⟩) (K:=fun r h'=>r=.ret (vtV (vtF l t n y) 3)/\h'.at 3=vtB (vtF l t n y)/\∀ i,h'.at (3+(i+1))=.free) (by
  refine cast (blf_ev l t n y _ _ _ _ _).symm ?_
  refine ⟨l,t,n,rfl,rfl,hh.1,hh.2.1,l,t,n,rfl,rfl,⟨hh.1,hh.2.1,hy⟩,l,t,n,rfl,rfl,hh.1,hh.2.1,?_⟩
  refine cond_d (fun hv=>?_) (fun hv=>?_)
  ·refine ⟨⟨⟨rfl,rfl,VB.fit_refl _,VB.fit_refl _,?_,trivial⟩,rfl,rfl,rfl,rfl,rfl,rfl,rfl,rfl,rfl,rfl,rfl,trivial⟩,hh,rfl,rfl,fun i=>at_ge (by show ¬ 3+(i+1)<4; omega)⟩
   have hv:decide (volF l n > 0)=true:=decide_eq_true hv
   rw [hv]
   exact VB.fit_refl _
  ·refine ⟨⟨⟨rfl,rfl,VB.fit_refl _,VB.fit_refl _,?_,trivial⟩,rfl,rfl,rfl,rfl,rfl,rfl,rfl,rfl,rfl,rfl,rfl,trivial⟩,hh,rfl,rfl,fun i=>at_ge (by show ¬ 3+(i+1)<4; omega)⟩
   have hv:decide (volF l n > 0)=false:=decide_eq_false hv
   rw [hv]
   exact VB.fit_refl _)
 exact ⟨h',hc,h1,h2⟩
def blT:FuncId × Spec1:=(54,fun _ args h K=>match args with
 | [c,.agg ns,.int .i64 y]=>∃ (l:List Stk) (t:Tst) (n:Nat->Int),isD h 4 c (.tp (stD l::tsL t))/\ns=nL n/\(conB l t n/\0<=y/\y<=1000)/\∀ V,V=vtF l t n y->K (.ret (vtV V h.nx)) (h.new (vtB V))
 | _=>False)
theorem blT_ok:SpOk Try.prog blT.1 blT.2:=by
 intro lock args h K hK
 simp only [blT] at hK
 split at hK
 ·rename_i c ns y
  obtain ⟨l,t,n,hc,rfl,⟨hh,hy⟩,hK⟩:=hK
  obtain ⟨h',hv,h1,h2⟩:=blend_v hh hy
  have:=calls_lendDO (args':=[c,.agg (nL n),I y]) (h:=h) 4 3 hv h1 h2 rfl (fun i hi=>rfl) ⟨hc,isD_nL,⟨rfl,rfl⟩,trivial⟩
  have e:(VRes.ret (vtV (vtF l t n y) 3)).sh 3 h.nx=.ret (vtV (vtF l t n y) h.nx):=by
   simp [VRes.sh,vtV,VV.sh,shL,shN]
  rw [e] at this
  exact ⟨_,_,hK _ rfl,lockP_new _ _ _,this⟩
 ·exact hK.elim
theorem setF_get (g:Nat->Int) (o:Nat) (ns:List Int) (k:Nat):setF g o ns k=if o<=k/\k<o+ns.length then ns.getD (k - o) 0 else g k:=by
 match ns with
 | []=>
  show (bif (Nat.ble o k && Nat.blt k (o+0)) then _ else g k)=_
  rw [if_neg (by simp only [List.length_nil]; omega)]
  by_cases h1:o<=k
  ·rw [Nat.ble_eq_true_of_le h1,blt_f (by omega)]
   rfl
  ·have:Nat.ble o k=false:=by
    cases hb:Nat.ble o k with
    | false=>rfl
    | true=>exact (h1 (Nat.le_of_ble_eq_true hb)).elim
   rw [this]
   rfl
 | [x]=>
  show (bif Nat.beq k o then x else g k)=_
  by_cases h:k=o
  ·subst h
   rw [Nat.beq_refl,if_pos (by simp)]
   simp
  ·rw [beq_f h,if_neg (by simp; omega)]
   rfl
 | x::y::r=>
  show (bif (Nat.ble o k && Nat.blt k (o+(x::y::r).length)) then (x::y::r).getD (k - o) 0 else g k)=_
  by_cases h:o<=k/\k<o+(x::y::r).length
  ·rw [if_pos h,Nat.ble_eq_true_of_le h.1,blt_t h.2]
   rfl
  ·rw [if_neg h]
   by_cases h1:o<=k
   ·rw [Nat.ble_eq_true_of_le h1,blt_f (by omega)]
    rfl
   ·have:Nat.ble o k=false:=by
     cases hb:Nat.ble o k with
     | false=>rfl
     | true=>exact (h1 (Nat.le_of_ble_eq_true hb)).elim
    rw [this]
    rfl
theorem okT_tB {t:Tst} (h:okT t=true):tB t:=by
 unfold okT at h
 simp only [Bool.and_eq_true,decide_eq_true_eq,Bool.not_eq_true'] at h
 obtain ⟨⟨⟨h1,h2⟩,h3⟩,h4⟩:=h
 refine ⟨h1,fun k hk=>?_,h3,h4⟩
 unfold anyN at h2
 rw [List.any_eq_false] at h2
 have:=h2 k (List.mem_range.2 hk)
 unfold qN okN at this
 simpa using this
section
variable {l:List Stk} {t:Tst} {y:Int} {D:List Int}
end
abbrev chD (D:List Int):Nat->Int:=fun i=>D.getD i 0
section
variable {l:List Stk} {t:Tst} {y:Int} {D:List Int}
end
def dsJ:List Nat:=[3,2,1,0]
def VJ (t:Tst) (i:Int):List VV:=[I i,.bool false,.ptr (.own 0 0),.agg (tsL t)]
def BJ (t:Tst):List VB:=[.cells (tsL t) 25]
theorem rt_ev (t:Tst) (i:Int) (X:VEx->List VV->List VB->Prop):codeE Try.prog (callN Try.prog noSpec noL 10 20) (fun _=>none) true 10 (ntOf Try.prog 27) 0 (loopB 0 (bodyOf Try.prog 27)) (dsJ.zip (VJ t i)) ⟨1,[0].zip (BJ t)⟩ (obs 1 dsJ [0] X) =
 (bif decide (i<(↑t.T.length:Int)) then
 bif decide ((0:Int)<=i/\i<(↑t.T.length:Int)) then
 bif decide ((0:Int)<=t.T.getD i.toNat (0:Int)) then
 bif !decide (t.T.getD i.toNat (0:Int)<=(1000:Int)) then
 X .ret [I i,VV.bool false,VV.ptr (.own 0 0),VV.agg [VV.tl t.T.length 1 (dG t.T),I t.far,I t.least]] [VB.cells [VV.tl t.T.length 1 (dG t.T),I t.far,I t.least] 25]
 else bif inK .i64 (i+(1:Int)) then
 X .normal [I (i+(1:Int)),VV.bool false,VV.ptr (.own 0 0),VV.agg [VV.tl t.T.length 1 (dG t.T),I t.far,I t.least]] [VB.cells [VV.tl t.T.length 1 (dG t.T),I t.far,I t.least] 25]
 else False
 else X .ret [I i,VV.bool false,VV.ptr (.own 0 0),VV.agg [VV.tl t.T.length 1 (dG t.T),I t.far,I t.least]] [VB.cells [VV.tl t.T.length 1 (dG t.T),I t.far,I t.least] 25]
 else False
 else X (.exit 0) [I i,VV.bool false,VV.ptr (.own 0 0),VV.agg [VV.tl t.T.length 1 (dG t.T),I t.far,I t.least]] [VB.cells [VV.tl t.T.length 1 (dG t.T),I t.far,I t.least] 25]):=by kernel_rfl
def lJ (t:Tst):LT:=fun lock tt h K=>
 FitP lock h tt ⟨1,[0].zip (BJ t)⟩ (dsJ.zip (VJ t 0))/\t.T.length<=100000/\(anyN t.T=false->K .normal (dsJ.zip (VJ t t.T.length)) ⟨1,[0].zip (BJ t)⟩)/\(anyN t.T=true->∀ i:Int,K .ret (dsJ.zip (VJ t i)) ⟨1,[0].zip (BJ t)⟩)
theorem rtf_ev (t:Tst) (Q:VRes->Prop):callN Try.prog noSpec (atF 27 [(0,lJ t)]) 10 20 0 (.fn 27) [.agg (tsL t)] ⟨0,[]⟩ (fun r h=>Q r) =
 (FitP 0 (VH.mk 1 ([0].zip (BJ t))) (dsJ.zip (VJ t (0:Int))) (VH.mk 1 ([0].zip (BJ t))) (dsJ.zip (VJ t (0:Int)))/\t.T.length<=100000/\(anyN t.T=false->bif decide ((1:Int)<=(↑t.T.length:Int)) then
 bif decide ((↑t.T.length:Int)<=(4:Int)) then
 bif decide ((0:Int)<=t.far) then
 bif decide (t.far<=(1000:Int)) then
 bif decide ((0:Int)<=t.least) then
 Q (.ret (.bool (decide (t.least<=(100:Int)))))
 else Q (.ret (.bool false))
 else Q (.ret (.bool false))
 else Q (.ret (.bool false))
 else Q (.ret (.bool false))
 else Q (.ret (.bool false)))/\(anyN t.T=true->∀ (i:Int),Q (.ret (.bool false)))):=by kernel_rfl
section
variable {l:List Stk} {t:Tst} {D:List Int}
theorem anyN_true {D:List Int} {i:Nat} (hi:i<D.length) (h:okN (D.getD i 0)=false):anyN D=true:=by
 unfold anyN
 rw [List.any_eq_true]
 exact ⟨i,List.mem_range.2 hi,by unfold qN; rw [h]; rfl⟩
theorem anyN_false {D:List Int} (h:∀ i,i<D.length->okN (D.getD i 0)=true):anyN D=false:=by
 unfold anyN
 rw [List.any_eq_false]
 intro j hj
 unfold qN
 rw [h j (List.mem_range.1 hj)]
 simp
def oJ (t:Tst) (_:Nat) (e:VEx) (vs:List VV) (bs:List VB):Prop:=
 bs=BJ t/\((anyN t.T=false/\e=.exit 0/\vs=VJ t t.T.length) ∨ (anyN t.T=true/\e=.ret/\∃ i:Int,vs=VJ t i))
theorem lJ_ok:LSound Try.prog true (.block 0 (.loop (loopB 0 (bodyOf Try.prog 27)))) (ntOf Try.prog 27) (lJ t):=by
 by_cases hn:t.T.length<=100000
 ·refine loop_row hmix good0 (un:=10) (ds:=dsJ) (ns:=[0]) (nx:=1) (fun i:Nat=>VJ t i) (fun _=>BJ t) (fun i=>i<=t.T.length/\∀ j,j<i->okN (t.T.getD j 0)=true) (fun i=>t.T.length - i) (oJ t) noL_ok ?_ ?_
  ·rintro i ⟨h0,h1⟩
   refine cast (rt_ev t i _).symm ?_
   by_cases hlt:i<t.T.length
   ·refine cond_dk (by omega) (cond_dk ⟨by omega,by omega⟩ ?_)
    rw [show (i:Int).toNat=i by omega]
    refine cond_d (fun g1=>cond_nd (fun g2=>⟨rfl,.inr ⟨anyN_true hlt ?_,rfl,_,rfl⟩⟩) (fun g2=>cond_r (by omega) ⟨i+1,⟨by omega,fun j hj=>?_⟩,by dsimp only; omega,rfl,fitBs_refl _,fun _ _ _ h=>h⟩)) (fun g1=>⟨rfl,.inr ⟨anyN_true hlt ?_,rfl,_,rfl⟩⟩)
    ·unfold okN; exact decide_eq_false (by omega)
    ·by_cases e:j=i
     ·subst e
      unfold okN; exact decide_eq_true ⟨g1,g2⟩
     ·exact h1 j (by omega)
    ·unfold okN; exact decide_eq_false (by omega)
   ·obtain rfl:i=t.T.length:=by omega
    exact cond_d (fun h=>by omega) (fun _=>⟨rfl,.inl ⟨anyN_false h1,rfl,rfl⟩⟩)
  ·rintro lock tt h K ⟨hf,_,k1,k2⟩
   refine ⟨0,hf,⟨Nat.zero_le _,fun j hj=>by omega⟩,?_⟩
   rintro e vs bs ⟨rfl,⟨g,rfl,rfl⟩ | ⟨g,rfl,i,rfl⟩⟩
   ·exact k1 g
   ·exact k2 g i
 ·rintro lock tt h K ⟨hf,hc,_⟩
  exact (hn hc).elim
theorem rtaste_v (hn:t.T.length<=100000):∃ h',CallsV Try.prog 27 [.agg (tsL t)] ⟨0,[]⟩ (.ret (.bool (okT t))) h':=by
 have hall:LoopsOk Try.prog 27 [(0,lJ t)]:=fun x hx=>by
  simp only [List.mem_singleton] at hx
  subst hx
  exact ⟨by kernel_rfl,lJ_ok⟩
 obtain ⟨r,h',rfl,hc⟩:=of_callN (callL_good hmix noSp hall (un:=10) 20) (f:=27) (args:=[.agg (tsL t)]) (h:=⟨0,[]⟩) (K:=fun r _=>r=.ret (.bool (okT t))) (by
  refine cast (rtf_ev t _).symm ⟨fitP_self rfl,hn,fun hN=>?_,fun hN i=>?_⟩
  ·have e:∀ x:Bool,okT t=x->VRes.ret (VV.bool x)=VRes.ret (VV.bool (okT t)):=fun x hx=>by rw [hx]
   unfold okT at e ⊢
   rw [hN] at e ⊢
   refine cond_d (fun h1=>cond_d (fun h2=>cond_d (fun h4=>cond_d (fun h5=>cond_d (fun h6=>e _ ?_) (fun h6=>e _ ?_)) (fun h5=>e _ ?_)) (fun h4=>e _ ?_)) (fun h2=>e _ ?_)) (fun h1=>e _ ?_)
   ·rw [decide_eq_true (p:=1<=t.T.length/\_) (by omega),decide_eq_true (p:=0<=t.far/\_) (by omega),Bool.not_false,Bool.true_and,Bool.true_and,Bool.true_and,decide_eq_decide]
    omega
   ·rw [decide_eq_false (p:=0<=t.least/\_) (by omega),Bool.and_false]
   ·rw [decide_eq_false (p:=0<=t.far/\_) (by omega),Bool.and_false,Bool.false_and]
   ·rw [decide_eq_false (p:=0<=t.far/\_) (by omega),Bool.and_false,Bool.false_and]
   ·rw [decide_eq_false (p:=1<=t.T.length/\_) (by omega)]; rfl
   ·rw [decide_eq_false (p:=1<=t.T.length/\_) (by omega)]; rfl
  ·unfold okT
   rw [hN]
   simp)
 exact ⟨h',hc⟩
end
def rtT:FuncId × Spec1:=(27,fun _ args h K=>match args with
 | [x]=>∃ t:Tst,isD h 3 x (.agg (tsL t))/\t.T.length<=100000/\K (.ret (.bool (okT t))) h
 | _=>False)
theorem rtT_ok:SpOk Try.prog rtT.1 rtT.2:=by
 intro lock args h K hK
 simp only [rtT] at hK
 split at hK
 ·obtain ⟨t,hx,hn,hK⟩:=hK
  obtain ⟨h',hv⟩:=rtaste_v hn
  exact ⟨_,h,hK,lockP_refl _ _,calls_lendDP 3 hv rfl ⟨hx,trivial⟩⟩
 ·exact hK.elim
def dsS2:List Nat:=[5,4,3,0,1]
def VS2 (l:List Stk) (t:Tst) (i:Int):List VV:=[I i,.bool false,.ptr (.own 0 0),stD l,.agg (tsL t)]
def dsS3:List Nat:=[7,6,5,4,3,0,1]
def VS3 (l:List Stk) (t:Tst) (i k:Int):List VV:=I k::.ptr (.own 1 0)::VS2 l t i
def BS3 (t:Tst) (s:Stk):List VB:=[.cells (tsL t) 25,.cells (stL s) 32]
theorem ri_ev (l:List Stk) (t:Tst) (s:Stk) (i k:Int) (X:VEx->List VV->List VB->Prop):codeE Try.prog (callN Try.prog noSpec noL 10 20) (fun _=>none) true 10 90 0 (loopB 2 (bodyOf Try.prog 28)) (dsS3.zip (VS3 l t i k)) ⟨2,[0,1].zip (BS3 t s)⟩ (obs 2 dsS3 [0,1] X) =
 (let z1:=[VB.cells [VV.tl t.T.length 1 (dG t.T),I t.far,I t.least] 25,VB.cells [I s.casks,I s.vol,I s.age,I s.cost,VV.tl s.prof.length 2 (spG s.prof)] 32];
 let z2:=[I k,VV.ptr (.own 1 0),I i,VV.bool false,VV.ptr (.own 0 0),VV.tl l.length 5 (stG l),VV.agg [VV.tl t.T.length 1 (dG t.T),I t.far,I t.least]];
 (bif decide (k<(↑s.prof.length:Int)) then
 bif decide ((0:Int)<=k/\k<(↑s.prof.length:Int)) then
 bif decide ((s.prof.getD k.toNat s0).lo<(0:Int)) then
 X .ret z2 z1
 else bif decide ((0:Int)<=k/\k<(↑s.prof.length:Int)) then
 bif decide ((0:Int)<=k/\k<(↑s.prof.length:Int)) then
 bif decide ((s.prof.getD k.toNat s0).lo > (s.prof.getD k.toNat s0).hi) then
 X .ret z2 z1
 else bif decide ((0:Int)<=k/\k<(↑s.prof.length:Int)) then
 bif decide ((s.prof.getD k.toNat s0).hi > (1000:Int)) then
 X .ret z2 z1
 else bif inK .i64 (k+(1:Int)) then
 X .normal [I (k+(1:Int)),VV.ptr (.own 1 0),I i,VV.bool false,VV.ptr (.own 0 0),VV.tl l.length 5 (stG l),VV.agg [VV.tl t.T.length 1 (dG t.T),I t.far,I t.least]] z1
 else False
 else False
 else False
 else False
 else False
 else X (.exit 2) z2 z1)):=by kernel_rfl
def lS3 (l:List Stk) (t:Tst) (s:Stk) (i:Nat):LT:=fun lock tt h K=>
 FitP lock h tt ⟨2,[0,1].zip (BS3 t s)⟩ (dsS3.zip (VS3 l t i 0))/\s.prof.length<=100000/\(anyP s.prof=false->K .normal (dsS3.zip (VS3 l t i s.prof.length)) ⟨2,[0,1].zip (BS3 t s)⟩)/\(anyP s.prof=true->∀ k:Int,K .ret (dsS3.zip (VS3 l t i k)) ⟨2,[0,1].zip (BS3 t s)⟩)
theorem ro_ev (l:List Stk) (t:Tst) (s:Stk) (i:Nat) (X:VEx->List VV->List VB->Prop):codeE Try.prog (callN Try.prog noSpec noL 10 20) (tabB [(2,lS3 l t s i)]) true 10 90 0 (loopB 0 (bodyOf Try.prog 28)) (dsS2.zip (VS2 l t i)) ⟨1,[0].zip (BJ t)⟩ (obs 1 dsS2 [0] X) =
 (let z1:=[I (↑i:Int),VV.bool false,VV.ptr (.own 0 0),VV.tl l.length 5 (stG l),VV.agg [VV.tl t.T.length 1 (dG t.T),I t.far,I t.least]];
 let z2:=[VB.cells [VV.tl t.T.length 1 (dG t.T),I t.far,I t.least] 25];
 let z3:=[I (l.getD (↑i:Int).toNat k0).casks,I (l.getD (↑i:Int).toNat k0).vol,I (l.getD (↑i:Int).toNat k0).age,I (l.getD (↑i:Int).toNat k0).cost,VV.tl (l.getD (↑i:Int).toNat k0).prof.length 2 (spG (l.getD (↑i:Int).toNat k0).prof)];
 let z4:=((l.getD (↑i:Int).toNat k0).cost<=(1048576:Int));
 let z5:=((l.getD (↑i:Int).toNat k0).vol<=(65536:Int));
 let z6:=((l.getD (↑i:Int).toNat k0).age<=(100:Int));
 (bif decide ((↑i:Int)<(↑l.length:Int)) then
 bif decide ((0:Int)<=(↑i:Int)/\(↑i:Int)<(↑l.length:Int)) then
 bif decide ((0:Int)<=(l.getD (↑i:Int).toNat k0).casks) then
 bif !decide ((l.getD (↑i:Int).toNat k0).casks<=(6:Int)) then
 X .ret z1 z2
 else bif decide ((1:Int)<=(l.getD (↑i:Int).toNat k0).vol) then
 bif !decide z5 then
 X .ret z1 z2
 else bif decide ((0:Int)<=(l.getD (↑i:Int).toNat k0).age) then
 bif !decide z6 then
 X .ret z1 z2
 else bif decide ((0:Int)<=(l.getD (↑i:Int).toNat k0).cost) then
 bif !decide z4 then
 X .ret z1 z2
 else bif !decide ((↑(l.getD (↑i:Int).toNat k0).prof.length:Int)=(↑t.T.length:Int)) then
 X .ret z1 z2
 else FitP 0 (VH.mk (2) ((1,VB.cells z3 32)::(1,VB.cells [I 0,I 0,I 0,I 0,VV.nils] 32)::[0].zip (BJ t))) ((7,I 0)::(48,VV.bool false)::(48,VV.bool !decide ((↑(l.getD (↑i:Int).toNat k0).prof.length:Int)=(↑t.T.length:Int)))::(47,VV.bool !decide ((↑(l.getD (↑i:Int).toNat k0).prof.length:Int)=(↑t.T.length:Int)))::(40,VV.bool false)::(46,I (↑t.T.length:Int))::(40,VV.bool false)::(45,VV.tl t.T.length 1 (dG t.T))::(40,VV.bool false)::(44,VV.ptr (.own 0 0))::(40,VV.bool false)::(43,I (↑(l.getD (↑i:Int).toNat k0).prof.length:Int))::(40,VV.bool false)::(42,VV.tl (l.getD (↑i:Int).toNat k0).prof.length 2 (spG (l.getD (↑i:Int).toNat k0).prof))::(40,VV.bool false)::(41,VV.ptr (.own (1) (4)))::(40,VV.bool false)::(40,VV.bool !decide z4)::(39,VV.bool !decide z4)::(38,VV.bool !decide z4)::(34,VV.bool false)::(37,VV.bool (decide z4))::(34,VV.bool false)::(36,I (l.getD (↑i:Int).toNat k0).cost)::(34,VV.bool false)::(35,VV.ptr (.own (1) (3)))::(34,VV.bool false)::(34,VV.bool !decide z6)::(33,VV.bool !decide z6)::(32,VV.bool !decide z6)::(28,VV.bool false)::(31,VV.bool (decide z6))::(28,VV.bool false)::(30,I (l.getD (↑i:Int).toNat k0).age)::(28,VV.bool false)::(29,VV.ptr (.own (1) (2)))::(28,VV.bool false)::(28,VV.bool !decide z5)::(27,VV.bool !decide z5)::(26,VV.bool !decide z5)::(22,VV.bool false)::(25,VV.bool (decide z5))::(22,VV.bool false)::(24,I (l.getD (↑i:Int).toNat k0).vol)::(22,VV.bool false)::(23,VV.ptr (.own (1) (1)))::(22,VV.bool false)::(22,VV.bool !decide ((l.getD (↑i:Int).toNat k0).casks<=(6:Int)))::(21,VV.bool !decide ((l.getD (↑i:Int).toNat k0).casks<=(6:Int)))::(20,VV.bool (decide ((l.getD (↑i:Int).toNat k0).casks<=(6:Int))))::(19,I (l.getD (↑i:Int).toNat k0).casks)::(18,VV.ptr (.own (1) 0))::(6,VV.ptr (.own (1) 0))::(17,VV.agg z3)::(16,VV.tp z3)::(15,I (↑i:Int))::(14,VV.tl l.length 5 (stG l))::(11,VV.bool true)::(11,VV.bool (decide ((↑i:Int)<(↑l.length:Int))))::(10,I (↑l.length:Int))::(9,VV.tl l.length 5 (stG l))::(8,I (↑i:Int))::dsS2.zip (VS2 l t (↑i:Int))) (VH.mk 2 ([0,1].zip (BS3 t s))) (dsS3.zip (VS3 l t (↑i:Int) (0:Int)))/\s.prof.length<=100000/\(anyP s.prof=false->bif inK .i64 ((↑i:Int)+(1:Int)) then
 X .normal [I ((↑i:Int)+(1:Int)),VV.bool false,VV.ptr (.own 0 0),VV.tl l.length 5 (stG l),VV.agg [VV.tl t.T.length 1 (dG t.T),I t.far,I t.least]] z2
 else False)/\(anyP s.prof=true->∀ (k:Int),X .ret z1 z2)
 else X .ret z1 z2
 else X .ret z1 z2
 else X .ret z1 z2
 else X .ret z1 z2
 else False
 else X (.exit 0) z1 z2)):=by kernel_rfl
def lS2 (l:List Stk) (t:Tst):LT:=fun lock tt h K=>
 FitP lock h tt ⟨1,[0].zip (BJ t)⟩ (dsS2.zip (VS2 l t 0))/\(l.length<=100000/\t.T.length<=100000)/\(anyS l t=false->K .normal (dsS2.zip (VS2 l t l.length)) ⟨1,[0].zip (BJ t)⟩)/\(anyS l t=true->∀ i:Int,K .ret (dsS2.zip (VS2 l t i)) ⟨1,[0].zip (BJ t)⟩)
theorem rs_ev (l:List Stk) (t:Tst) (Q:VRes->Prop):callN Try.prog noSpec (atF 28 [(0,lS2 l t)]) 10 20 0 (.fn 28) [stD l,.agg (tsL t)] ⟨0,[]⟩ (fun r h=>Q r) =
 (FitP 0 (VH.mk 1 ([0].zip (BJ t))) (dsS2.zip (VS2 l t (0:Int))) (VH.mk 1 ([0].zip (BJ t))) (dsS2.zip (VS2 l t (0:Int)))/\(l.length<=100000/\t.T.length<=100000)/\(anyS l t=false->Q (.ret (.bool (decide ((↑l.length:Int)<=(6:Int))))))/\(anyS l t=true->∀ (i:Int),Q (.ret (.bool false)))):=by kernel_rfl
theorem anyP_true {D:List Sp} {i:Nat} (hi:i<D.length) (h:okP (D.getD i s0)=false):anyP D=true:=by
 unfold anyP
 rw [List.any_eq_true]
 exact ⟨i,List.mem_range.2 hi,by unfold qP; rw [h]; rfl⟩
theorem anyP_false {D:List Sp} (h:∀ i,i<D.length->okP (D.getD i s0)=true):anyP D=false:=by
 unfold anyP
 rw [List.any_eq_false]
 intro j hj
 unfold qP
 rw [h j (List.mem_range.1 hj)]
 simp
theorem anyS_true {l:List Stk} {t:Tst} {i:Nat} (hi:i<l.length) (h:okS t (l.getD i k0)=false):anyS l t=true:=by
 unfold anyS
 rw [List.any_eq_true]
 exact ⟨i,List.mem_range.2 hi,by unfold qS; rw [h]; rfl⟩
theorem anyS_false {l:List Stk} {t:Tst} (h:∀ i,i<l.length->okS t (l.getD i k0)=true):anyS l t=false:=by
 unfold anyS
 rw [List.any_eq_false]
 intro j hj
 unfold qS
 rw [h j (List.mem_range.1 hj)]
 simp
section
variable {l:List Stk} {t:Tst} {s:Stk} {i:Nat}
def oS3 (l:List Stk) (t:Tst) (s:Stk) (i:Nat) (_:Nat) (e:VEx) (vs:List VV) (bs:List VB):Prop:=
 bs=BS3 t s/\((anyP s.prof=false/\e=.exit 2/\vs=VS3 l t i s.prof.length) ∨ (anyP s.prof=true/\e=.ret/\∃ k:Int,vs=VS3 l t i k))
theorem lS3_ok:LSound Try.prog true (.block 2 (.loop (loopB 2 (bodyOf Try.prog 28)))) 90 (lS3 l t s i):=by
 by_cases hn:s.prof.length<=100000
 ·refine loop_row hmix good0 (un:=10) (ds:=dsS3) (ns:=[0,1]) (nx:=2) (fun k:Nat=>VS3 l t i k) (fun _=>BS3 t s) (fun k=>k<=s.prof.length/\∀ j,j<k->okP (s.prof.getD j s0)=true) (fun k=>s.prof.length - k) (oS3 l t s i) noL_ok ?_ ?_
  ·rintro k ⟨h0,h1⟩
   refine cast (ri_ev l t s i k _).symm ?_
   by_cases hlt:k<s.prof.length
   ·have hin:(0:Int)<=k/\(k:Int)<s.prof.length:=⟨by omega,by omega⟩
    refine cond_dk (by omega) (cond_dk hin ?_)
    rw [show (k:Int).toNat=k by omega]
    refine cond_d (fun g1=>⟨rfl,.inr ⟨anyP_true hlt ?_,rfl,_,rfl⟩⟩) (fun g1=>cond_dk hin (cond_dk hin (cond_d (fun g2=>⟨rfl,.inr ⟨anyP_true hlt ?_,rfl,_,rfl⟩⟩) (fun g2=>cond_dk hin (cond_d (fun g3=>⟨rfl,.inr ⟨anyP_true hlt ?_,rfl,_,rfl⟩⟩) (fun g3=>cond_r (by omega) ⟨k+1,⟨by omega,fun j hj=>?_⟩,by dsimp only; omega,rfl,fitBs_refl _,fun _ _ _ h=>h⟩))))))
    ·unfold okP; exact decide_eq_false (by omega)
    ·unfold okP; exact decide_eq_false (by omega)
    ·unfold okP; exact decide_eq_false (by omega)
    ·by_cases e:j=k
     ·subst e
      unfold okP; exact decide_eq_true (by omega)
     ·exact h1 j (by omega)
   ·obtain rfl:k=s.prof.length:=by omega
    exact cond_d (fun h=>by omega) (fun _=>⟨rfl,.inl ⟨anyP_false h1,rfl,rfl⟩⟩)
  ·rintro lock tt h K ⟨hf,_,k1,k2⟩
   refine ⟨0,hf,⟨Nat.zero_le _,fun j hj=>by omega⟩,?_⟩
   rintro e vs bs ⟨rfl,⟨g,rfl,rfl⟩ | ⟨g,rfl,k,rfl⟩⟩
   ·exact k1 g
   ·exact k2 g k
 ·rintro lock tt h K ⟨hf,hc,_⟩
  exact (hn hc).elim
theorem lsp_S3:∀ id T,tabB [(2,lS3 l t s i)] id=some T->∀ b' ∈ blocksOf id (loopB 0 (bodyOf Try.prog 28)),LSound Try.prog true (.block id b') 90 T:=by
 intro id T hT b' hb
 simp only [tabB] at hT
 cases hid:Nat.beq id 2 with
 | false=>rw [hid] at hT; cases hT
 | true=>
  rw [hid] at hT
  have:=Nat.eq_of_beq_eq_true hid
  subst this
  cases hT
  have h2:blocksOf 2 (loopB 0 (bodyOf Try.prog 28))=[.loop (loopB 2 (bodyOf Try.prog 28))]:=by kernel_rfl
  rw [h2] at hb
  simp only [List.mem_singleton] at hb
  subst hb
  exact lS3_ok
def oS2 (l:List Stk) (t:Tst) (_:Nat) (e:VEx) (vs:List VV) (bs:List VB):Prop:=
 bs=BJ t/\((anyS l t=false/\e=.exit 0/\vs=VS2 l t l.length) ∨ (anyS l t=true/\e=.ret/\∃ i:Int,vs=VS2 l t i))
theorem lS2_ok:LSound Try.prog true (.block 0 (.loop (loopB 0 (bodyOf Try.prog 28)))) 90 (lS2 l t):=by
 by_cases hn:l.length<=100000/\t.T.length<=100000
 ·refine loop_rowD hmix good0 (un:=10) (ds:=dsS2) (ns:=[0]) (nx:=1) (lsp:=fun i:Nat=>tabB [(2,lS3 l t (l.getD i k0) i)]) (fun i:Nat=>VS2 l t i) (fun _=>BJ t) (fun i=>i<=l.length/\∀ j,j<i->okS t (l.getD j k0)=true) (fun i=>l.length - i) (oS2 l t) (fun _ _=>lsp_S3) ?_ ?_
  ·rintro i ⟨h0,h1⟩
   refine cast (ro_ev l t (l.getD i k0) i _).symm ?_
   by_cases hlt:i<l.length
   ·refine cond_dk (by omega) (cond_dk ⟨by omega,by omega⟩ ?_)
    rw [show (i:Int).toNat=i by omega]
    have bad:∀ k:Int,okS t (l.getD i k0)=false->oS2 l t i .ret (VS2 l t k) (BJ t):=fun k h=>⟨rfl,.inr ⟨anyS_true hlt h,rfl,_,rfl⟩⟩
    have e:¬ ((0<=(l.getD i k0).casks/\(l.getD i k0).casks<=6)/\(1<=(l.getD i k0).vol/\(l.getD i k0).vol<=65536)/\(0<=(l.getD i k0).age/\(l.getD i k0).age<=100)/\(0<=(l.getD i k0).cost/\(l.getD i k0).cost<=1048576)/\(l.getD i k0).prof.length=t.T.length)->okS t (l.getD i k0)=false:=fun h=>by
     unfold okS; rw [decide_eq_false h]; rfl
    refine cond_d (fun a1=>cond_nd (fun a2=>bad _ (e (by omega))) (fun a2=>cond_d (fun a3=>cond_nd (fun a4=>bad _ (e (by omega))) (fun a4=>cond_d (fun a5=>cond_nd (fun a6=>bad _ (e (by omega))) (fun a6=>cond_d (fun a7=>cond_nd (fun a8=>bad _ (e (by omega))) (fun a8=>cond_nd (fun a9=>bad _ (e (by omega))) (fun a9=>⟨⟨⟨rfl,rfl,VB.fit_refl _,VB.fit_refl _,trivial⟩,rfl,rfl,rfl,rfl,rfl,rfl,rfl,trivial⟩,by omega,fun hp=>?_,fun hp k=>bad _ ?_⟩))) (fun a7=>bad _ (e (by omega))))) (fun a5=>bad _ (e (by omega))))) (fun a3=>bad _ (e (by omega))))) (fun a1=>bad _ (e (by omega)))
    ·refine cond_r (by omega) ⟨i+1,⟨by omega,fun j hj=>?_⟩,by dsimp only; omega,rfl,fitBs_refl _,fun _ _ _ h=>h⟩
     by_cases ej:j=i
     ·subst ej
      unfold okS
      rw [hp,decide_eq_true (by omega)]
      rfl
     ·exact h1 j (by omega)
    ·unfold okS; rw [hp]; simp
   ·obtain rfl:i=l.length:=by omega
    exact cond_d (fun h=>by omega) (fun _=>⟨rfl,.inl ⟨anyS_false h1,rfl,rfl⟩⟩)
  ·rintro lock tt h K ⟨hf,_,k1,k2⟩
   refine ⟨0,hf,⟨Nat.zero_le _,fun j hj=>by omega⟩,?_⟩
   rintro e vs bs ⟨rfl,⟨g,rfl,rfl⟩ | ⟨g,rfl,i,rfl⟩⟩
   ·exact k1 g
   ·exact k2 g i
 ·rintro lock tt h K ⟨hf,hc,_⟩
  exact (hn hc).elim
theorem rstocks_v (hl:l.length<=100000) (ht:t.T.length<=100000):∃ h',CallsV Try.prog 28 [stD l,.agg (tsL t)] ⟨0,[]⟩ (.ret (.bool (decide (l.length<=6) && !anyS l t))) h':=by
 have hall:LoopsOk Try.prog 28 [(0,lS2 l t)]:=fun x hx=>by
  simp only [List.mem_singleton] at hx
  subst hx
  exact ⟨by kernel_rfl,lS2_ok⟩
 obtain ⟨r,h',rfl,hc⟩:=of_callN (callL_good hmix noSp hall (un:=10) 20) (f:=28) (args:=[stD l,.agg (tsL t)]) (h:=⟨0,[]⟩) (K:=fun r _=>r=.ret (.bool (decide (l.length<=6) && !anyS l t))) (by
  refine cast (rs_ev l t _).symm ⟨fitP_self rfl,⟨hl,ht⟩,fun h=>?_,fun h _=>?_⟩
  ·rw [h,Bool.not_false,Bool.and_true]
   congr 2
   rw [decide_eq_decide]
   omega
  ·rw [h]; simp)
 exact ⟨h',hc⟩
end
def rsT:FuncId × Spec1:=(28,fun _ args h K=>match args with
 | [x,z]=>∃ (l:List Stk) (t:Tst),isD h 3 x (stD l)/\isD h 3 z (.agg (tsL t))/\(l.length<=100000/\t.T.length<=100000)/\K (.ret (.bool (decide (l.length<=6) && !anyS l t))) h
 | _=>False)
theorem rsT_ok:SpOk Try.prog rsT.1 rsT.2:=by
 intro lock args h K hK
 simp only [rsT] at hK
 split at hK
 ·obtain ⟨l,t,hx,hz,⟨h1,h2⟩,hK⟩:=hK
  obtain ⟨h',hv⟩:=rstocks_v h1 h2
  exact ⟨_,h,hK,lockP_refl _ _,calls_lendDP 3 hv rfl ⟨hx,hz,trivial⟩⟩
 ·exact hK.elim
section
variable {V:Vt}
end
def dsD:List Nat:=[10,9,8,5,0,1,2,3]
def VD (l:List Stk) (t:Tst) (y:Int) (D:List Int) (i:Int):List VV:=[I i,.ptr (.own 2 0),.ptr (.own 1 0),.ptr (.own 0 0),stD l,.agg (tsL t),I y,inD D]
def BD (t:Tst) (v c a:Int) (b:Bool):List VB:=[.cells (tsL t) 25,zB,.cells [I v,I c,I a,.nils,.bool b] 49]
theorem d0_ev (l:List Stk) (t:Tst) (y i v c a:Int) (b:Bool) (D:List Int) (X:VEx->List VV->List VB->Prop):codeE Try.prog (callN Try.prog noSpec noL 10 20) (fun _=>none) true 10 (ntOf Try.prog 56) 0 (loopB 0 (bodyOf Try.prog 56)) (dsD.zip (VD l t y D i)) ⟨3,[0,1,2].zip (BD t v c a b)⟩ (obs 3 dsD [0,1,2] X) =
 (bif decide (i<(↑l.length:Int)) then
 bif decide ((0:Int)<=i/\i<(↑D.length:Int)) then
 bif decide ((0:Int)<=i/\i<(↑l.length:Int)) then
 bif inK .i64 (D.getD i.toNat (0:Int)*(l.getD i.toNat k0).vol) then
 bif inK .i64 (v+D.getD i.toNat (0:Int)*(l.getD i.toNat k0).vol) then
 bif decide ((0:Int)<=i/\i<(↑D.length:Int)) then
 bif decide ((0:Int)<=i/\i<(↑l.length:Int)) then
 bif inK .i64 (D.getD i.toNat (0:Int)*(l.getD i.toNat k0).cost) then
 bif inK .i64 (c+D.getD i.toNat (0:Int)*(l.getD i.toNat k0).cost) then
 bif inK .i64 (i+(1:Int)) then
 X .normal [I (i+(1:Int)),VV.ptr (.own 2 0),VV.ptr (.own 1 0),VV.ptr (.own 0 0),VV.tl l.length 5 (stG l),VV.agg [VV.tl t.T.length 1 (dG t.T),I t.far,I t.least],I y,VV.tl D.length 1 (dG D)] [VB.cells [VV.tl t.T.length 1 (dG t.T),I t.far,I t.least] 25,VB.cells [I 0,I 0,I 0,VV.nils,VV.bool false] 49,VB.cells [I (v+D.getD i.toNat (0:Int)*(l.getD i.toNat k0).vol),I (c+D.getD i.toNat (0:Int)*(l.getD i.toNat k0).cost),I a,VV.nils,VV.bool b] 49]
 else False
 else False
 else False
 else False
 else False
 else False
 else False
 else False
 else False
 else X (.exit 0) [I i,VV.ptr (.own 2 0),VV.ptr (.own 1 0),VV.ptr (.own 0 0),VV.tl l.length 5 (stG l),VV.agg [VV.tl t.T.length 1 (dG t.T),I t.far,I t.least],I y,VV.tl D.length 1 (dG D)] [VB.cells [VV.tl t.T.length 1 (dG t.T),I t.far,I t.least] 25,VB.cells [I 0,I 0,I 0,VV.nils,VV.bool false] 49,VB.cells [I v,I c,I a,VV.nils,VV.bool b] 49]):=by kernel_rfl
def lD0 (l:List Stk) (t:Tst) (y:Int) (D:List Int):LT:=fun lock tt h K=>
 FitP lock h tt ⟨3,[0,1,2].zip (BD t 0 0 0 false)⟩ (dsD.zip (VD l t y D 0))/\(nB (chD D)/\lB l/\D.length=l.length)/\K .normal (dsD.zip (VD l t y D l.length)) ⟨3,[0,1,2].zip (BD t (volF l (chD D)) (costF l (chD D)) 0 false)⟩
def dsD2:List Nat:=[11,9,8,5,0,1,2,3]
theorem d2_ev (l:List Stk) (t:Tst) (y i v c a:Int) (b:Bool) (D:List Int) (X:VEx->List VV->List VB->Prop):codeE Try.prog (callN Try.prog noSpec noL 10 20) (fun _=>none) true 10 (ntOf Try.prog 56) 0 (loopB 2 (bodyOf Try.prog 56)) (dsD2.zip (VD l t y D i)) ⟨3,[0,1,2].zip (BD t v c a b)⟩ (obs 3 dsD2 [0,1,2] X) =
 (let z1:=[I (i+(1:Int)),VV.ptr (.own 2 0),VV.ptr (.own 1 0),VV.ptr (.own 0 0),VV.tl l.length 5 (stG l),VV.agg [VV.tl t.T.length 1 (dG t.T),I t.far,I t.least],I y,VV.tl D.length 1 (dG D)];
 let z2:=[VB.cells [VV.tl t.T.length 1 (dG t.T),I t.far,I t.least] 25,VB.cells [I 0,I 0,I 0,VV.nils,VV.bool false] 49,VB.cells [I v,I c,I a,VV.nils,VV.bool b] 49];
 let z3:=[VB.cells [VV.tl t.T.length 1 (dG t.T),I t.far,I t.least] 25,VB.cells [I 0,I 0,I 0,VV.nils,VV.bool false] 49,VB.cells [I v,I c,I ((l.getD i.toNat k0).age+y),VV.nils,VV.bool b] 49];
 (bif decide (i<(↑l.length:Int)) then
 bif decide ((0:Int)<=i/\i<(↑D.length:Int)) then
 bif decide (D.getD i.toNat (0:Int) > (0:Int)) then
 bif decide (a<(0:Int)) then
 bif decide ((0:Int)<=i/\i<(↑l.length:Int)) then
 bif inK .i64 ((l.getD i.toNat k0).age+y) then
 bif inK .i64 (i+(1:Int)) then
 X .normal z1 z3
 else False
 else False
 else False
 else bif decide ((0:Int)<=i/\i<(↑l.length:Int)) then
 bif inK .i64 ((l.getD i.toNat k0).age+y) then
 bif decide ((l.getD i.toNat k0).age+y<a) then
 bif decide ((0:Int)<=i/\i<(↑l.length:Int)) then
 bif inK .i64 ((l.getD i.toNat k0).age+y) then
 bif inK .i64 (i+(1:Int)) then
 X .normal z1 z3
 else False
 else False
 else False
 else bif inK .i64 (i+(1:Int)) then
 X .normal z1 z2
 else False
 else False
 else False
 else bif inK .i64 (i+(1:Int)) then
 X .normal z1 z2
 else False
 else False
 else X (.exit 2) [I i,VV.ptr (.own 2 0),VV.ptr (.own 1 0),VV.ptr (.own 0 0),VV.tl l.length 5 (stG l),VV.agg [VV.tl t.T.length 1 (dG t.T),I t.far,I t.least],I y,VV.tl D.length 1 (dG D)] z2)):=by kernel_rfl
def lD2 (l:List Stk) (t:Tst) (y:Int) (D:List Int) (v c:Int):LT:=fun lock tt h K=>
 FitP lock h tt ⟨3,[0,1,2].zip (BD t v c (-1) false)⟩ (dsD2.zip (VD l t y D 0))/\(nB (chD D)/\lB l/\D.length=l.length/\0<=y/\y<=1000)/\K .normal (dsD2.zip (VD l t y D l.length)) ⟨3,[0,1,2].zip (BD t v c (ageF l (chD D) y l.length) false)⟩
section
variable {l:List Stk} {t:Tst} {y v c:Int} {D:List Int}
theorem lD0_ok:LSound Try.prog true (.block 0 (.loop (loopB 0 (bodyOf Try.prog 56)))) (ntOf Try.prog 56) (lD0 l t y D):=by
 by_cases hh:nB (chD D)/\lB l/\D.length=l.length
 ·obtain ⟨hn,hl,hD⟩:=hh
  have hl6:=hl.1
  refine loop_row hmix good0 (un:=10) (ds:=dsD) (ns:=[0,1,2]) (nx:=3) (fun i:Nat=>VD l t y D i) (fun i=>BD t (sumF (tmV l (chD D)) i) (sumF (tmC l (chD D)) i) 0 false) (fun i=>i<=l.length) (fun i=>l.length - i) (fun _ e vs bs=>e=.exit 0/\bs=BD t (volF l (chD D)) (costF l (chD D)) 0 false/\vs=VD l t y D l.length) noL_ok ?_ ?_
  ·rintro i h0
   refine cast (d0_ev l t y i _ _ _ _ D _).symm ?_
   by_cases hlt:i<l.length
   ·have b1:=sumF_bd (f:=tmV l (chD D)) (M:=6*65536) i (fun j hj=>bdSV ⟨hn,hl⟩ (by omega))
    have b2:=sumF_bd (f:=tmC l (chD D)) (M:=6*1048576) i (fun j hj=>bdSC ⟨hn,hl⟩ (by omega))
    have c1:=bdSV ⟨hn,hl⟩ hlt
    have c2:=bdSC ⟨hn,hl⟩ hlt
    have e1:((i:Nat):Int)*(6*65536)<=6*(6*65536):=Int.mul_le_mul_of_nonneg_right (by omega) (by decide)
    have e2:((i:Nat):Int)*(6*1048576)<=6*(6*1048576):=Int.mul_le_mul_of_nonneg_right (by omega) (by decide)
    unfold tmV chD at c1
    unfold tmC chD at c2
    refine cond_dk (by omega) (cond_dk ⟨by omega,by omega⟩ (cond_dk ⟨by omega,by omega⟩ ?_))
    rw [show (i:Int).toNat=i by omega]
    refine cond_r (by omega) (cond_r (by omega) (cond_dk ⟨by omega,by omega⟩ (cond_dk ⟨by omega,by omega⟩ (cond_r (by omega) (cond_r (by omega) (cond_r (by omega) ⟨i+1,by omega,by dsimp only; omega,rfl,fitBs_refl _,fun _ _ _ h=>h⟩))))))
   ·obtain rfl:i=l.length:=by omega
    exact cond_d (fun h=>by omega) (fun _=>⟨rfl,rfl,rfl⟩)
  ·rintro lock tt h K ⟨hf,_,k1⟩
   refine ⟨0,hf,Nat.zero_le _,?_⟩
   rintro e vs bs ⟨rfl,rfl,rfl⟩
   exact k1
 ·rintro lock tt h K ⟨hf,hc,_⟩
  exact (hh hc).elim
theorem lD2_ok:LSound Try.prog true (.block 2 (.loop (loopB 2 (bodyOf Try.prog 56)))) (ntOf Try.prog 56) (lD2 l t y D v c):=by
 by_cases hh:nB (chD D)/\lB l/\D.length=l.length/\0<=y/\y<=1000
 ·obtain ⟨hn,hl,hD,hy⟩:=hh
  have hl6:=hl.1
  refine loop_row hmix good0 (un:=10) (ds:=dsD2) (ns:=[0,1,2]) (nx:=3) (fun i:Nat=>VD l t y D i) (fun i=>BD t v c (ageF l (chD D) y i) false) (fun i=>i<=l.length) (fun i=>l.length - i) (fun _ e vs bs=>e=.exit 2/\bs=BD t v c (ageF l (chD D) y l.length) false/\vs=VD l t y D l.length) noL_ok ?_ ?_
  ·rintro i h0
   refine cast (d2_ev l t y i _ _ _ _ D _).symm ?_
   by_cases hlt:i<l.length
   ·obtain ⟨_,_,h4,_⟩:=hl.2 i hlt
    have hb:=ageF_bd (n:=chD D) hl hy i (by omega)
    have hs:ageF l (chD D) y (i+1)=if D.getD i 0 > 0/\(ageF l (chD D) y i<0 ∨ (l.getD i k0).age+y<ageF l (chD D) y i) then (l.getD i k0).age+y else ageF l (chD D) y i:=rfl
    have fin:∀ a,a=ageF l (chD D) y (i+1)->RoundQ (fun i:Nat=>VD l t y D i) (fun i=>BD t v c (ageF l (chD D) y i) false) (fun i=>i<=l.length) (fun i=>l.length - i) (fun _ e vs bs=>e=.exit 2/\bs=BD t v c (ageF l (chD D) y l.length) false/\vs=VD l t y D l.length) i .normal (VD l t y D (i+1)) (BD t v c a false):=by
     rintro a rfl
     exact ⟨i+1,by omega,by dsimp only; omega,rfl,fitBs_refl _,fun _ _ _ h=>h⟩
    refine cond_dk (by omega) (cond_dk ⟨by omega,by omega⟩ ?_)
    rw [show (i:Int).toNat=i by omega]
    have hin:(0:Int)<=i/\(i:Int)<l.length:=⟨by omega,by omega⟩
    refine cond_d (fun g1=>cond_d (fun g2=>cond_dk hin (cond_r (by omega) (cond_r (by omega) (fin _ ?_)))) (fun g2=>cond_dk hin (cond_r (by omega) (cond_d (fun g3=>cond_dk hin (cond_r (by omega) (cond_r (by omega) (fin _ ?_)))) (fun g3=>cond_r (by omega) (fin _ ?_)))))) (fun g1=>cond_r (by omega) (fin _ ?_))
    ·rw [hs,if_pos ⟨g1,.inl g2⟩]
    ·rw [hs,if_pos ⟨g1,.inr g3⟩]
    ·rw [hs,if_neg (by omega)]
    ·rw [hs,if_neg (by omega)]
   ·obtain rfl:i=l.length:=by omega
    exact cond_d (fun h=>by omega) (fun _=>⟨rfl,rfl,rfl⟩)
  ·rintro lock tt h K ⟨hf,_,k1⟩
   refine ⟨0,hf,Nat.zero_le _,?_⟩
   rintro e vs bs ⟨rfl,rfl,rfl⟩
   exact k1
 ·rintro lock tt h K ⟨hf,hc,_⟩
  exact (hh hc).elim
end
def dsD4:List Nat:=[12,9,8,5,0,1,2,3]
def BD4 (t:Tst) (v c a:Int) (P:List Sp) (b:Bool):List VB:=[.cells (tsL t) 25,zB,.cells [I v,I c,I a,.sl 3 P.length,.bool b] 49,.vec P.length (spG P) 2 34]
def dsD6:List Nat:=[15,14,13,12,9,8,5,0,1,2,3]
def VD6 (l:List Stk) (t:Tst) (y:Int) (D:List Int) (k i:Int):List VV:=I i::.ptr (.own 5 0)::.ptr (.own 4 0)::VD l t y D k
def BD6 (t:Tst) (v c a:Int) (P:List Sp) (b:Bool) (lo hi:Int):List VB:=[.cells (tsL t) 25,zB,.cells [I v,I c,I a,.sl 3 P.length,.bool b] 49,.vec P.length (spG P) 2 34,.cells [I lo,I hi] 34,.cells [I 0,I 0] 34]
theorem d6_ev (l:List Stk) (t:Tst) (y v c a:Int) (P:List Sp) (b:Bool) (D:List Int) (k:Nat) (i lo hi:Int) (X:VEx->List VV->List VB->Prop):codeE Try.prog (callN Try.prog noSpec noL 10 20) (fun _=>none) true 10 (ntOf Try.prog 56) 0 (loopB 6 (bodyOf Try.prog 56)) (dsD6.zip (VD6 l t y D k i)) ⟨6,[0,1,2,3,4,5].zip (BD6 t v c a P b lo hi)⟩ (obs 6 dsD6 [0,1,2,3,4,5] X) =
 (let z1:=((l.getD i.toNat k0).prof.getD (↑k:Int).toNat s0);
 (bif decide (i<(↑l.length:Int)) then
 bif decide ((0:Int)<=i/\i<(↑D.length:Int)) then
 bif decide ((0:Int)<=i/\i<(↑l.length:Int)) then
 bif inK .i64 (D.getD i.toNat (0:Int)*(l.getD i.toNat k0).vol) then
 bif decide ((0:Int)<=i/\i<(↑l.length:Int)) then
 bif decide ((0:Int)<=(↑k:Int)/\(↑k:Int)<(↑(l.getD i.toNat k0).prof.length:Int)) then
 bif inK .i64 (D.getD i.toNat (0:Int)*(l.getD i.toNat k0).vol*z1.lo) then
 bif inK .i64 (lo+D.getD i.toNat (0:Int)*(l.getD i.toNat k0).vol*z1.lo) then
 bif decide ((0:Int)<=i/\i<(↑D.length:Int)) then
 bif decide ((0:Int)<=i/\i<(↑l.length:Int)) then
 bif inK .i64 (D.getD i.toNat (0:Int)*(l.getD i.toNat k0).vol) then
 bif decide ((0:Int)<=i/\i<(↑l.length:Int)) then
 bif decide ((0:Int)<=(↑k:Int)/\(↑k:Int)<(↑(l.getD i.toNat k0).prof.length:Int)) then
 bif inK .i64 (D.getD i.toNat (0:Int)*(l.getD i.toNat k0).vol*z1.hi) then
 bif inK .i64 (hi+D.getD i.toNat (0:Int)*(l.getD i.toNat k0).vol*z1.hi) then
 bif inK .i64 (i+(1:Int)) then
 X .normal [I (i+(1:Int)),VV.ptr (.own 5 0),VV.ptr (.own 4 0),I (↑k:Int),VV.ptr (.own 2 0),VV.ptr (.own 1 0),VV.ptr (.own 0 0),VV.tl l.length 5 (stG l),VV.agg [VV.tl t.T.length 1 (dG t.T),I t.far,I t.least],I y,VV.tl D.length 1 (dG D)] [VB.cells [VV.tl t.T.length 1 (dG t.T),I t.far,I t.least] 25,VB.cells [I 0,I 0,I 0,VV.nils,VV.bool false] 49,VB.cells [I v,I c,I a,VV.sl 3 P.length,VV.bool b] 49,VB.vec P.length (spG P) 2 34,VB.cells [I (lo+D.getD i.toNat (0:Int)*(l.getD i.toNat k0).vol*z1.lo),I (hi+D.getD i.toNat (0:Int)*(l.getD i.toNat k0).vol*z1.hi)] 34,VB.cells [I 0,I 0] 34]
 else False
 else False
 else False
 else False
 else False
 else False
 else False
 else False
 else False
 else False
 else False
 else False
 else False
 else False
 else False
 else X (.exit 6) [I i,VV.ptr (.own 5 0),VV.ptr (.own 4 0),I (↑k:Int),VV.ptr (.own 2 0),VV.ptr (.own 1 0),VV.ptr (.own 0 0),VV.tl l.length 5 (stG l),VV.agg [VV.tl t.T.length 1 (dG t.T),I t.far,I t.least],I y,VV.tl D.length 1 (dG D)] [VB.cells [VV.tl t.T.length 1 (dG t.T),I t.far,I t.least] 25,VB.cells [I 0,I 0,I 0,VV.nils,VV.bool false] 49,VB.cells [I v,I c,I a,VV.sl 3 P.length,VV.bool b] 49,VB.vec P.length (spG P) 2 34,VB.cells [I lo,I hi] 34,VB.cells [I 0,I 0] 34])):=by kernel_rfl
def lD6 (l:List Stk) (t:Tst) (y v c a:Int) (P:List Sp) (b:Bool) (D:List Int) (k:Nat):LT:=fun lock tt h K=>
 FitP lock h tt ⟨6,[0,1,2,3,4,5].zip (BD6 t v c a P b 0 0)⟩ (dsD6.zip (VD6 l t y D k 0))/\(conB l t (chD D)/\D.length=l.length/\k<t.T.length)/\K .normal (dsD6.zip (VD6 l t y D k l.length)) ⟨6,[0,1,2,3,4,5].zip (BD6 t v c a P b (loF l (chD D) k) (hiF l (chD D) k))⟩
theorem d4_ev (l:List Stk) (t:Tst) (y c a:Int) (P:List Sp) (b:Bool) (D:List Int) (k:Nat) (X:VEx->List VV->List VB->Prop):codeE Try.prog (callN Try.prog noSpec noL 10 20) (tabB [(6,lD6 l t y (volF l (chD D)) c a P b D k)]) true 10 (ntOf Try.prog 56) 0 (loopB 4 (bodyOf Try.prog 56)) (dsD4.zip (VD l t y D k)) ⟨4,[0,1,2,3].zip (BD4 t (volF l (chD D)) c a P b)⟩ (obs 4 dsD4 [0,1,2,3] X) =
 (let z3:=[VV.tl t.T.length 1 (dG t.T),I t.far,I t.least];
 let z1:=[I ((↑k:Int)+(1:Int)),VV.ptr (.own 2 0),VV.ptr (.own 1 0),VV.ptr (.own 0 0),VV.tl l.length 5 (stG l),VV.agg z3,I y,VV.tl D.length 1 (dG D)];
 let z4:=[VB.cells z3 25,VB.cells [I 0,I 0,I 0,VV.nils,VV.bool false] 49,VB.cells [I (volF l (chD D)),I c,I a,VV.sl 3 (P.length+1),VV.bool false] 49,VB.vec (P.length+1) (catG P.length (spG P) fun j=>List.take (2) (List.drop (j*(2)) [I 0,I 0])) (2) 34];
 let z5:=(t.T.getD (↑k:Int).toNat (0:Int)+t.far);
 let z6:=(t.T.getD (↑k:Int).toNat (0:Int) - t.far);
 let z7:=(catG P.length (spG P) fun j=>List.take (2) (List.drop (j*(2)) [I (quoZ (loF l (chD D) k) (volF l (chD D))),I (quoZ (hiF l (chD D) k+volF l (chD D) - (1:Int)) (volF l (chD D)))]));
 let z2:=[VB.cells z3 25,VB.cells [I 0,I 0,I 0,VV.nils,VV.bool false] 49,VB.cells [I (volF l (chD D)),I c,I a,VV.sl 3 (P.length+1),VV.bool false] 49,VB.vec (P.length+1) z7 (2) 34];
 (bif decide ((↑k:Int)<(↑t.T.length:Int)) then
 FitP 0 (VH.mk 6 ([0,1,2,3,4,5].zip (BD6 t (volF l (chD D)) c a P b (0:Int) (0:Int)))) (dsD6.zip (VD6 l t y D (↑k:Int) (0:Int))) (VH.mk 6 ([0,1,2,3,4,5].zip (BD6 t (volF l (chD D)) c a P b (0:Int) (0:Int)))) (dsD6.zip (VD6 l t y D (↑k:Int) (0:Int)))/\(conB l t (chD D)/\D.length=l.length/\k<t.T.length)/\bif decide (volF l (chD D) > (0:Int)) then
 bif decide (volF l (chD D)=(0:Int)) then
 False
 else bif inK .i64 (quoZ (loF l (chD D) k) (volF l (chD D))) then
 bif inK .i64 (hiF l (chD D) k+volF l (chD D)) then
 bif inK .i64 (hiF l (chD D) k+volF l (chD D) - (1:Int)) then
 bif decide (volF l (chD D)=(0:Int)) then
 False
 else bif inK .i64 (quoZ (hiF l (chD D) k+volF l (chD D) - (1:Int)) (volF l (chD D))) then
 bif P.length.beq P.length then
 bif roomB (P.length+1) (16) then
 bif decide ((0:Int)<=(↑k:Int)/\(↑k:Int)<(↑t.T.length:Int)) then
 bif inK .i64 z5 then
 bif inK .i64 (z5*volF l (chD D)) then
 bif decide (hiF l (chD D) k > z5*volF l (chD D)) then
 bif inK .i64 ((↑k:Int)+(1:Int)) then
 X .normal z1 z2
 else False
 else bif decide ((0:Int)<=(↑k:Int)/\(↑k:Int)<(↑t.T.length:Int)) then
 bif inK .i64 z6 then
 bif inK .i64 (z6*volF l (chD D)) then
 bif decide (loF l (chD D) k<z6*volF l (chD D)) then
 bif inK .i64 ((↑k:Int)+(1:Int)) then
 X .normal z1 z2
 else False
 else bif inK .i64 ((↑k:Int)+(1:Int)) then
 X .normal z1 [VB.cells z3 25,VB.cells [I 0,I 0,I 0,VV.nils,VV.bool false] 49,VB.cells [I (volF l (chD D)),I c,I a,VV.sl 3 (P.length+1),VV.bool b] 49,VB.vec (P.length+1) z7 (2) 34]
 else False
 else False
 else False
 else False
 else False
 else False
 else False
 else False
 else False
 else False
 else False
 else False
 else False
 else bif P.length.beq P.length then
 bif roomB (P.length+1) (16) then
 bif decide ((0:Int)<=(↑k:Int)/\(↑k:Int)<(↑t.T.length:Int)) then
 bif inK .i64 z5 then
 bif inK .i64 (z5*volF l (chD D)) then
 bif decide (hiF l (chD D) k > z5*volF l (chD D)) then
 bif inK .i64 ((↑k:Int)+(1:Int)) then
 X .normal z1 z4
 else False
 else bif decide ((0:Int)<=(↑k:Int)/\(↑k:Int)<(↑t.T.length:Int)) then
 bif inK .i64 z6 then
 bif inK .i64 (z6*volF l (chD D)) then
 bif decide (loF l (chD D) k<z6*volF l (chD D)) then
 bif inK .i64 ((↑k:Int)+(1:Int)) then
 X .normal z1 z4
 else False
 else bif inK .i64 ((↑k:Int)+(1:Int)) then
 X .normal z1 [VB.cells z3 25,VB.cells [I 0,I 0,I 0,VV.nils,VV.bool false] 49,VB.cells [I (volF l (chD D)),I c,I a,VV.sl 3 (P.length+1),VV.bool b] 49,VB.vec (P.length+1) (catG P.length (spG P) fun j=>List.take (2) (List.drop (j*(2)) [I 0,I 0])) (2) 34]
 else False
 else False
 else False
 else False
 else False
 else False
 else False
 else False
 else False
 else X (.exit 4) [I (↑k:Int),VV.ptr (.own 2 0),VV.ptr (.own 1 0),VV.ptr (.own 0 0),VV.tl l.length 5 (stG l),VV.agg z3,I y,VV.tl D.length 1 (dG D)] [VB.cells z3 25,VB.cells [I 0,I 0,I 0,VV.nils,VV.bool false] 49,VB.cells [I (volF l (chD D)),I c,I a,VV.sl 3 P.length,VV.bool b] 49,VB.vec P.length (spG P) 2 34])):=by kernel_rfl
section
variable {l:List Stk} {t:Tst} {y v c a:Int} {P:List Sp} {b:Bool} {D:List Int} {k:Nat}
theorem lD6_ok:LSound Try.prog true (.block 6 (.loop (loopB 6 (bodyOf Try.prog 56)))) (ntOf Try.prog 56) (lD6 l t y v c a P b D k):=by
 by_cases hh:conB l t (chD D)/\D.length=l.length/\k<t.T.length
 ·obtain ⟨⟨hn,hl,hp,_⟩,hD,hk⟩:=hh
  have hl6:=hl.1
  refine loop_row hmix good0 (un:=10) (ds:=dsD6) (ns:=[0,1,2,3,4,5]) (nx:=6) (fun i:Nat=>VD6 l t y D k i) (fun i=>BD6 t v c a P b (sumF (tmL l (chD D) k) i) (sumF (tmH l (chD D) k) i)) (fun i=>i<=l.length) (fun i=>l.length - i) (fun _ e vs bs=>e=.exit 6/\bs=BD6 t v c a P b (loF l (chD D) k) (hiF l (chD D) k)/\vs=VD6 l t y D k l.length) noL_ok ?_ ?_
  ·rintro i h0
   refine cast (d6_ev l t y v c a P b D k i _ _ _).symm ?_
   by_cases hlt:i<l.length
   ·have b1:=sumF_bd (f:=tmL l (chD D) k) (M:=6*65536*1000) i (fun j hj=>bdSL ⟨hn,hl,_,hp,hk⟩ (by omega))
    have b2:=sumF_bd (f:=tmH l (chD D) k) (M:=6*65536*1000) i (fun j hj=>bdSH ⟨hn,hl,_,hp,hk⟩ (by omega))
    have c0:=bdSV ⟨hn,hl⟩ hlt
    have c1:=bdSL ⟨hn,hl,_,hp,hk⟩ hlt
    have c2:=bdSH ⟨hn,hl,_,hp,hk⟩ hlt
    have e1:((i:Nat):Int)*(6*65536*1000)<=6*(6*65536*1000):=Int.mul_le_mul_of_nonneg_right (by omega) (by decide)
    obtain ⟨hpl,_⟩:=hp i hlt
    unfold tmV chD at c0
    unfold tmL chD at c1
    unfold tmH chD at c2
    have h1:(0:Int)<=i/\(i:Int)<D.length:=⟨by omega,by omega⟩
    have h2:(0:Int)<=i/\(i:Int)<l.length:=⟨by omega,by omega⟩
    refine cond_dk (by omega) (cond_dk h1 (cond_dk h2 ?_))
    rw [show (i:Int).toNat=i by omega,show (k:Int).toNat=k by omega]
    have h3:(0:Int)<=k/\(k:Int)<(l.getD i k0).prof.length:=⟨by omega,by omega⟩
    exact cond_r (by omega) (cond_dk h2 (cond_dk h3 (cond_r (by omega) (cond_r (by omega) (cond_dk h1 (cond_dk h2 (cond_r (by omega) (cond_dk h2 (cond_dk h3 (cond_r (by omega) (cond_r (by omega) (cond_r (by omega) ⟨i+1,by omega,by dsimp only; omega,rfl,fitBs_refl _,fun _ _ _ h=>h⟩))))))))))))
   ·obtain rfl:i=l.length:=by omega
    exact cond_d (fun h=>by omega) (fun _=>⟨rfl,rfl,rfl⟩)
  ·rintro lock tt h K ⟨hf,_,k1⟩
   refine ⟨0,hf,Nat.zero_le _,?_⟩
   rintro e vs bs ⟨rfl,rfl,rfl⟩
   exact k1
 ·rintro lock tt h K ⟨hf,hc,_⟩
  exact (hh hc).elim
theorem lsp_D6:∀ id T,tabB [(6,lD6 l t y v c a P b D k)] id=some T->∀ b' ∈ blocksOf id (loopB 4 (bodyOf Try.prog 56)),LSound Try.prog true (.block id b') (ntOf Try.prog 56) T:=by
 intro id T hT b' hb
 simp only [tabB] at hT
 cases hid:Nat.beq id 6 with
 | false=>rw [hid] at hT; cases hT
 | true=>
  rw [hid] at hT
  have:=Nat.eq_of_beq_eq_true hid
  subst this
  cases hT
  have h2:blocksOf 6 (loopB 4 (bodyOf Try.prog 56))=[.loop (loopB 6 (bodyOf Try.prog 56))]:=by kernel_rfl
  rw [h2] at hb
  simp only [List.mem_singleton] at hb
  subst hb
  exact lD6_ok
end
section
variable {l:List Stk} {t:Tst} {y c a:Int} {b:Bool} {D:List Int}
def lD4s (l:List Stk) (t:Tst) (y c a:Int) (b:Bool) (D:List Int):LT:=fun lock tt h K=>
 FitP lock h tt ⟨4,[0,1,2,3].zip (BD4 t (volF l (chD D)) c a [] b)⟩ (dsD4.zip (VD l t y D 0))/\(conB l t (chD D)/\D.length=l.length)/\K .normal (dsD4.zip (VD l t y D t.T.length)) ⟨4,[0,1,2,3].zip (BD4 t (volF l (chD D)) c a (PF l (chD D) t.T.length) (KF l t (chD D) b t.T.length))⟩
abbrev rq4 (l:List Stk) (t:Tst) (y c a:Int) (b:Bool) (D:List Int) (k:Nat) (x:Sp) (bb:Bool):Prop:=
 RoundQ (fun k:Nat=>VD l t y D k) (fun k=>BD4 t (volF l (chD D)) c a (PF l (chD D) k) (KF l t (chD D) b k)) (fun k=>k<=t.T.length) (fun k=>t.T.length - k) (fun _ e vs bs=>e=.exit 4/\bs=BD4 t (volF l (chD D)) c a (PF l (chD D) t.T.length) (KF l t (chD D) b t.T.length)/\vs=VD l t y D t.T.length) k .normal (VD l t y D (k+1)) [.cells (tsL t) 25,zB,.cells [I (volF l (chD D)),I c,I a,.sl 3 ((PF l (chD D) k).length+1),.bool bb] 49,.vec ((PF l (chD D) k).length+1) (catG (PF l (chD D) k).length (spG (PF l (chD D) k)) fun j=>List.take 2 (List.drop (j*2) [I x.lo,I x.hi])) 2 34]
theorem lD4s_ok:LSound Try.prog true (.block 4 (.loop (loopB 4 (bodyOf Try.prog 56)))) (ntOf Try.prog 56) (lD4s l t y c a b D):=by
 by_cases hh:conB l t (chD D)/\D.length=l.length
 ·have hh2:=hh
  obtain ⟨⟨hn,hl,hp,⟨ht1,ht2⟩,htn,htf,_⟩,hD⟩:=hh2
  refine loop_rowD hmix good0 (un:=10) (ds:=dsD4) (ns:=[0,1,2,3]) (nx:=4) (lsp:=fun k:Nat=>tabB [(6,lD6 l t y (volF l (chD D)) c a (PF l (chD D) k) (KF l t (chD D) b k) D k)]) (fun k:Nat=>VD l t y D k) (fun k=>BD4 t (volF l (chD D)) c a (PF l (chD D) k) (KF l t (chD D) b k)) (fun k=>k<=t.T.length) (fun k=>t.T.length - k)
   (fun _ e vs bs=>e=.exit 4/\bs=BD4 t (volF l (chD D)) c a (PF l (chD D) t.T.length) (KF l t (chD D) b t.T.length)/\vs=VD l t y D t.T.length) (fun _ _=>lsp_D6) ?_ ?_
  ·rintro k h0
   refine cast (d4_ev l t y c a _ _ D k _).symm ?_
   by_cases hlt:k<t.T.length
   ·obtain ⟨t1,t2⟩:=htn k hlt
    obtain ⟨⟨b1,b2⟩,b3,b4⟩:=note_bd hn hl hp hlt
    have hv:=vol_bd hn hl
    have m1:=mul_bd (show 0<=t.T.getD k 0+t.far/\t.T.getD k 0+t.far<=2000 by omega) hv
    have m2 : -2359296000<=(t.T.getD k 0 - t.far)*volF l (chD D)/\(t.T.getD k 0 - t.far)*volF l (chD D)<=2359296000:=by
     have e1:=mul_bd (show 0<=t.T.getD k 0/\t.T.getD k 0<=1000 by omega) hv
     have e2:=mul_bd (show 0<=t.far/\t.far<=1000 by omega) hv
     rw [Int.sub_mul]
     omega
    have hlen:=PF_len (l:=l) (n:=chD D) k
    have hK:KF l t (chD D) b (k+1)=(KF l t (chD D) b k && okF l t (chD D) k):=rfl
    have hin:(0:Int)<=k/\(k:Int)<t.T.length:=⟨by omega,by omega⟩
    have key:∀ (R:Bool->Prop),R (KF l t (chD D) b (k+1))->(bif decide ((0:Int)<=(k:Int)/\(k:Int)<t.T.length) then (bif inK .i64 (t.T.getD (k:Int).toNat 0+t.far) then (bif inK .i64 ((t.T.getD (k:Int).toNat 0+t.far)*volF l (chD D)) then
      (bif decide (hiF l (chD D) k > (t.T.getD (k:Int).toNat 0+t.far)*volF l (chD D)) then (bif inK .i64 ((k:Int)+1) then R false else False)
      else bif decide ((0:Int)<=(k:Int)/\(k:Int)<t.T.length) then (bif inK .i64 (t.T.getD (k:Int).toNat 0 - t.far) then (bif inK .i64 ((t.T.getD (k:Int).toNat 0 - t.far)*volF l (chD D)) then
       (bif decide (loF l (chD D) k<(t.T.getD (k:Int).toNat 0 - t.far)*volF l (chD D)) then (bif inK .i64 ((k:Int)+1) then R false else False) else (bif inK .i64 ((k:Int)+1) then R (KF l t (chD D) b k) else False)) else False) else False) else False) else False) else False) else False):=by
     intro R hR
     rw [show (k:Int).toNat=k by omega]
     refine cond_dk hin (cond_r (by omega) (cond_r (by omega) (cond_d (fun g1=>cond_r (by omega) ?_) (fun g1=>cond_dk hin (cond_r (by omega) (cond_r (by omega) (cond_d (fun g2=>cond_r (by omega) ?_) (fun g2=>cond_r (by omega) ?_))))))))
     ·have e:KF l t (chD D) b (k+1)=false:=by rw [hK]; unfold okF; rw [decide_eq_true g1]; simp
      rw [e] at hR; exact hR
     ·have e:KF l t (chD D) b (k+1)=false:=by rw [hK]; unfold okF; rw [decide_eq_true g2]; simp
      rw [e] at hR; exact hR
     ·have e:KF l t (chD D) b (k+1)=KF l t (chD D) b k:=by rw [hK]; unfold okF; rw [decide_eq_false g1,decide_eq_false g2]; simp
      rw [e] at hR; exact hR
    have fin:∀ (x:Sp),x=ownF l (chD D) k->RoundQ (fun k:Nat=>VD l t y D k) (fun k=>BD4 t (volF l (chD D)) c a (PF l (chD D) k) (KF l t (chD D) b k)) (fun k=>k<=t.T.length) (fun k=>t.T.length - k) (fun _ e vs bs=>e=.exit 4/\bs=BD4 t (volF l (chD D)) c a (PF l (chD D) t.T.length) (KF l t (chD D) b t.T.length)/\vs=VD l t y D t.T.length) k .normal (VD l t y D (k+1)) [.cells (tsL t) 25,zB,.cells [I (volF l (chD D)),I c,I a,.sl 3 ((PF l (chD D) k).length+1),.bool (KF l t (chD D) b (k+1))] 49,.vec ((PF l (chD D) k).length+1) (catG (PF l (chD D) k).length (spG (PF l (chD D) k)) fun j=>List.take 2 (List.drop (j*2) [I x.lo,I x.hi])) 2 34]:=by
     rintro x rfl
     refine ⟨k+1,by omega,by dsimp only; omega,rfl,?_,fun _ _ _ h=>h⟩
     have e:PF l (chD D) (k+1)=PF l (chD D) k ++ [ownF l (chD D) k]:=rfl
     dsimp only
     unfold BD4
     rw [e]
     refine ⟨VB.fit_refl _,VB.fit_refl _,?_,fit_sp,trivial⟩
     show _=_
     rw [List.length_append]
     rfl
    refine cond_dk (by omega) ⟨⟨⟨rfl,rfl,VB.fit_refl _,VB.fit_refl _,VB.fit_refl _,VB.fit_refl _,VB.fit_refl _,VB.fit_refl _,trivial⟩,rfl,rfl,rfl,rfl,rfl,rfl,rfl,rfl,rfl,rfl,rfl,trivial⟩,⟨hh.1,hD,hlt⟩,?_⟩
    refine cond_d (fun hv0=>cond_d (fun h=>by omega) (fun _=>?_)) (fun hv0=>cond_k (Nat.beq_refl _) (cond_k (room16 (by omega)) ?_))
    ·have q1:=quo_bd (a:=loF l (chD D) k) (b:=volF l (chD D)) ⟨b1,b2⟩ (by omega)
     have q2:=quo_bd (a:=hiF l (chD D) k+volF l (chD D) - 1) (b:=volF l (chD D)) (M:=2361655296) ⟨by omega,by omega⟩ (by omega)
     refine cond_r (by omega) (cond_r (by omega) (cond_r (by omega) (cond_d (fun h=>by omega) (fun _=>cond_r (by omega) (cond_k (Nat.beq_refl _) (cond_k (room16 (by omega)) ?_))))))
     exact key (rq4 l t y c a b D k ⟨quoZ (loF l (chD D) k) (volF l (chD D)),quoZ (hiF l (chD D) k+volF l (chD D) - 1) (volF l (chD D))⟩) (fin ⟨quoZ (loF l (chD D) k) (volF l (chD D)),quoZ (hiF l (chD D) k+volF l (chD D) - 1) (volF l (chD D))⟩ (by unfold ownF; rw [if_pos hv0]))
    ·exact key (rq4 l t y c a b D k ⟨0,0⟩) (fin ⟨0,0⟩ (by unfold ownF; rw [if_neg hv0]))
   ·obtain rfl:k=t.T.length:=by omega
    exact cond_d (fun h=>by omega) (fun _=>⟨rfl,rfl,rfl⟩)
  ·rintro lock tt h K ⟨hf,_,k1⟩
   refine ⟨0,hf,Nat.zero_le _,?_⟩
   rintro e vs bs ⟨rfl,rfl,rfl⟩
   exact k1
 ·rintro lock tt h K ⟨hf,hc,_⟩
  exact (hh hc).elim
end
def lD4 (l:List Stk) (t:Tst) (y c a:Int) (b:Bool) (D:List Int):LT:=fun lock tt h K=>
 FitP lock h tt ⟨3,[0,1,2].zip (BD t (volF l (chD D)) c a b)⟩ (dsD4.zip (VD l t y D 0))/\(conB l t (chD D)/\D.length=l.length)/\K .normal (dsD4.zip (VD l t y D t.T.length)) ⟨4,[0,1,2,3].zip (BD4 t (volF l (chD D)) c a (PF l (chD D) t.T.length) (KF l t (chD D) b t.T.length))⟩
theorem rb_ev (l:List Stk) (t:Tst) (y a:Int) (b:Bool) (D:List Int) (Q:VRes->VH->Prop):callN Try.prog noSpec (atF 56 [(0,lD0 l t y D),(2,lD2 l t y D (volF l (chD D)) (costF l (chD D))),(4,lD4 l t y (costF l (chD D)) a b D)]) 10 20 0 (.fn 56) [stD l,.agg (tsL t),I y,inD D] ⟨0,[]⟩ (fun r h=>Q r h) =
 (FitP 0 (VH.mk 3 ([0,1,2].zip (BD t (0:Int) (0:Int) (0:Int) false))) (dsD.zip (VD l t y D (0:Int))) (VH.mk 3 ([0,1,2].zip (BD t (0:Int) (0:Int) (0:Int) false))) (dsD.zip (VD l t y D (0:Int)))/\(nB (chD D)/\lB l/\D.length=l.length)/\FitP 0 (VH.mk 3 ([0,1,2].zip (BD t (volF l (chD D)) (costF l (chD D)) (-1:Int) false))) (dsD2.zip (VD l t y D (0:Int))) (VH.mk 3 ([0,1,2].zip (BD t (volF l (chD D)) (costF l (chD D)) (-1:Int) false))) (dsD2.zip (VD l t y D (0:Int)))/\(nB (chD D)/\lB l/\D.length=l.length/\(0:Int)<=y/\y<=(1000:Int))/\bif decide (volF l (chD D) > (0:Int)) then
 FitP 0 (VH.mk 3 ((2,VB.cells [I (volF l (chD D)),I (costF l (chD D)),I (max (0:Int) (ageF l (chD D) y l.length)),VV.nils,VV.bool (decide (ageF l (chD D) y l.length ≥ t.least))] 49)::(2,VB.cells [I (volF l (chD D)),I (costF l (chD D)),I (ageF l (chD D) y l.length),VV.nils,VV.bool (decide (ageF l (chD D) y l.length ≥ t.least))] 49)::[0,1,2].zip (BD t (volF l (chD D)) (costF l (chD D)) (ageF l (chD D) y l.length) false))) ((12,I 0)::(101,VV.ptr (.own 2 (2)))::(100,I (max (0:Int) (ageF l (chD D) y l.length)))::(99,I (ageF l (chD D) y l.length))::(98,VV.ptr (.own 2 (2)))::(97,VV.ptr (.own 2 (4)))::(96,VV.bool (decide (ageF l (chD D) y l.length ≥ t.least)))::(95,VV.bool (decide (ageF l (chD D) y l.length ≥ t.least)))::(90,VV.bool true)::(94,I t.least)::(90,VV.bool true)::(93,VV.ptr (.own 0 (2)))::(90,VV.bool true)::(92,I (ageF l (chD D) y l.length))::(90,VV.bool true)::(91,VV.ptr (.own 2 (2)))::(90,VV.bool true)::(90,VV.bool (decide (volF l (chD D) > (0:Int))))::(89,VV.bool (decide (volF l (chD D) > (0:Int))))::(88,I (volF l (chD D)))::(87,VV.ptr (.own 2 0))::dsD2.zip (VD l t y D (↑l.length:Int))) (VH.mk 3 ([0,1,2].zip (BD t (volF l (chD D)) (costF l (chD D)) a b))) (dsD4.zip (VD l t y D (0:Int)))/\(conB l t (chD D)/\D.length=l.length)/\Q (.ret (.agg [I (volF l (chD D)),I (costF l (chD D)),I a,VV.sl 3 (PF l (chD D) t.T.length).length,VV.bool (KF l t (chD D) b t.T.length)])) (VH.mk 4 [(1,VB.cells [I (volF l (chD D)),I (costF l (chD D)),I a,VV.sl 3 (PF l (chD D) t.T.length).length,VV.bool (KF l t (chD D) b t.T.length)] 49),(0,VB.cells [VV.tl t.T.length 1 (dG t.T),I t.far,I t.least] 25),(1,VB.cells [I 0,I 0,I 0,VV.nils,VV.bool false] 49),(2,VB.cells [I (volF l (chD D)),I (costF l (chD D)),I a,VV.sl 3 (PF l (chD D) t.T.length).length,VV.bool (KF l t (chD D) b t.T.length)] 49),(3,VB.vec (PF l (chD D) t.T.length).length (spG (PF l (chD D) t.T.length)) 2 34)])
 else FitP 0 (VH.mk 3 ((2,VB.cells [I (volF l (chD D)),I (costF l (chD D)),I (max (0:Int) (ageF l (chD D) y l.length)),VV.nils,VV.bool false] 49)::(2,VB.cells [I (volF l (chD D)),I (costF l (chD D)),I (ageF l (chD D) y l.length),VV.nils,VV.bool false] 49)::[0,1,2].zip (BD t (volF l (chD D)) (costF l (chD D)) (ageF l (chD D) y l.length) false))) ((12,I 0)::(101,VV.ptr (.own 2 (2)))::(100,I (max (0:Int) (ageF l (chD D) y l.length)))::(99,I (ageF l (chD D) y l.length))::(98,VV.ptr (.own 2 (2)))::(97,VV.ptr (.own 2 (4)))::(96,VV.bool false)::(95,udf)::(90,VV.bool false)::(94,udf)::(90,VV.bool false)::(93,udf)::(90,VV.bool false)::(92,udf)::(90,VV.bool false)::(91,udf)::(90,VV.bool false)::(90,VV.bool (decide (volF l (chD D) > (0:Int))))::(89,VV.bool (decide (volF l (chD D) > (0:Int))))::(88,I (volF l (chD D)))::(87,VV.ptr (.own 2 0))::dsD2.zip (VD l t y D (↑l.length:Int))) (VH.mk 3 ([0,1,2].zip (BD t (volF l (chD D)) (costF l (chD D)) a b))) (dsD4.zip (VD l t y D (0:Int)))/\(conB l t (chD D)/\D.length=l.length)/\Q (.ret (.agg [I (volF l (chD D)),I (costF l (chD D)),I a,VV.sl 3 (PF l (chD D) t.T.length).length,VV.bool (KF l t (chD D) b t.T.length)])) (VH.mk 4 [(1,VB.cells [I (volF l (chD D)),I (costF l (chD D)),I a,VV.sl 3 (PF l (chD D) t.T.length).length,VV.bool (KF l t (chD D) b t.T.length)] 49),(0,VB.cells [VV.tl t.T.length 1 (dG t.T),I t.far,I t.least] 25),(1,VB.cells [I 0,I 0,I 0,VV.nils,VV.bool false] 49),(2,VB.cells [I (volF l (chD D)),I (costF l (chD D)),I a,VV.sl 3 (PF l (chD D) t.T.length).length,VV.bool (KF l t (chD D) b t.T.length)] 49),(3,VB.vec (PF l (chD D) t.T.length).length (spG (PF l (chD D) t.T.length)) 2 34)])):=by kernel_rfl
section
variable {l:List Stk} {t:Tst} {y a:Int} {b:Bool} {D:List Int}
theorem lD4_ok {c:Int}:LSound Try.prog true (.block 4 (.loop (loopB 4 (bodyOf Try.prog 56)))) (ntOf Try.prog 56) (lD4 l t y c a b D):=
 ghost_cells_row (m:=2) (nx:=3) (cs:=[I (volF l (chD D)),I c,I a,.nils,.bool b]) (cs':=[I (volF l (chD D)),I c,I a,.sl 3 0,.bool b]) (ty:=49)
  (bs:=[0,1,2].zip (BD t (volF l (chD D)) c a b)) (t0:=dsD4.zip (VD l t y D 0))
  (spG []) 2 34 lD4s_ok rfl (fun R xs hv hx=>by
   obtain ⟨a0,_,k0,⟨x1,_,k1,⟨x2,_,k2,⟨x3,_,k3,k4,rfl⟩,rfl⟩,rfl⟩,rfl⟩:=hx
   exact ⟨_,_,k0,⟨_,_,k1,⟨_,_,k2,⟨_,_,nil_ghost hv k3,k4,rfl⟩,rfl⟩,rfl⟩,rfl⟩) (by
   rintro lock tt h K ⟨hf,hi,hK⟩
   exact ⟨hf,⟨⟨rfl,rfl,VB.fit_refl _,VB.fit_refl _,VB.fit_refl _,VB.fit_refl _,trivial⟩,rfl,rfl,rfl,rfl,rfl,rfl,rfl,rfl,trivial⟩,hi,hK⟩)
theorem rblend_v (hh:conB l t (chD D)) (hD:D.length=l.length) (hy:0<=y/\y<=1000):∃ h',CallsV Try.prog 56 [stD l,.agg (tsL t),I y,inD D] ⟨0,[]⟩ (.ret (vtV (vtF l t (chD D) y) 3)) h'/\h'.at 3=vtB (vtF l t (chD D) y)/\∀ i,h'.at (3+(i+1))=.free:=by
 have hall:LoopsOk Try.prog 56 [(0,lD0 l t y D),(2,lD2 l t y D (volF l (chD D)) (costF l (chD D))),(4,lD4 l t y (costF l (chD D)) (max 0 (ageF l (chD D) y l.length)) (decide (volF l (chD D) > 0) && decide (ageF l (chD D) y l.length ≥ t.least)) D)]:=fun x hx=>by
  simp only [List.mem_cons,List.not_mem_nil,or_false] at hx
  rcases hx with rfl | rfl | rfl
  ·exact ⟨by kernel_rfl,lD0_ok⟩
  ·exact ⟨by kernel_rfl,lD2_ok⟩
  ·exact ⟨by kernel_rfl,lD4_ok⟩
 obtain ⟨r,h',⟨rfl,h1,h2⟩,hc⟩:=of_callN (callL_good hmix noSp hall (un:=10) 20) (f:=56) (args:=[stD l,.agg (tsL t),I y,inD D]) (h:=⟨0,[]⟩) (K:=fun r h'=>r=.ret (vtV (vtF l t (chD D) y) 3)/\h'.at 3=vtB (vtF l t (chD D) y)/\∀ i,h'.at (3+(i+1))=.free) (by
  refine cast (rb_ev l t y _ _ D _).symm ?_
  refine ⟨fitP_self rfl,⟨hh.1,hh.2.1,hD⟩,⟨⟨rfl,rfl,VB.fit_refl _,VB.fit_refl _,VB.fit_refl _,trivial⟩,rfl,rfl,rfl,rfl,rfl,rfl,rfl,rfl,trivial⟩,⟨hh.1,hh.2.1,hD,hy⟩,?_⟩
  refine cond_d (fun hv=>?_) (fun hv=>?_)
  ·refine ⟨⟨⟨rfl,rfl,VB.fit_refl _,VB.fit_refl _,?_,trivial⟩,rfl,rfl,rfl,rfl,rfl,rfl,rfl,rfl,trivial⟩,⟨hh,hD⟩,rfl,rfl,fun i=>at_ge (by show ¬ 3+(i+1)<4; omega)⟩
   have hv:decide (volF l (chD D) > 0)=true:=decide_eq_true hv
   rw [hv]
   exact VB.fit_refl _
  ·refine ⟨⟨⟨rfl,rfl,VB.fit_refl _,VB.fit_refl _,?_,trivial⟩,rfl,rfl,rfl,rfl,rfl,rfl,rfl,rfl,trivial⟩,⟨hh,hD⟩,rfl,rfl,fun i=>at_ge (by show ¬ 3+(i+1)<4; omega)⟩
   have hv:decide (volF l (chD D) > 0)=false:=decide_eq_false hv
   rw [hv]
   exact VB.fit_refl _)
 exact ⟨h',hc,h1,h2⟩
end
def rblT:FuncId × Spec1:=(56,fun _ args h K=>match args with
 | [x,z,.int .i64 y,w]=>∃ (l:List Stk) (t:Tst) (D:List Int),isD h 4 x (stD l)/\isD h 4 z (.agg (tsL t))/\isD h 4 w (inD D)/\(conB l t (chD D)/\D.length=l.length/\0<=y/\y<=1000)/\∀ V,V=vtF l t (chD D) y->K (.ret (vtV V h.nx)) (h.new (vtB V))
 | _=>False)
theorem rblT_ok:SpOk Try.prog rblT.1 rblT.2:=by
 intro lock args h K hK
 simp only [rblT] at hK
 split at hK
 ·rename_i x z y w
  obtain ⟨l,t,D,hx,hz,hw,⟨hh,hD,hy⟩,hK⟩:=hK
  obtain ⟨h',hv,h1,h2⟩:=rblend_v hh hD hy
  have:=calls_lendDO (args':=[x,z,I y,w]) (h:=h) 4 3 hv h1 h2 rfl (fun i hi=>rfl) ⟨hx,hz,⟨rfl,rfl⟩,hw,trivial⟩
  have e:(VRes.ret (vtV (vtF l t (chD D) y) 3)).sh 3 h.nx=.ret (vtV (vtF l t (chD D) y) h.nx):=by
   simp [VRes.sh,vtV,VV.sh,shL,shN]
  rw [e] at this
  exact ⟨_,_,hK _ rfl,lockP_new _ _ _,this⟩
 ·exact hK.elim
section
variable {l:List Stk} {t:Tst} {y:Int} {D:List Int}
theorem isD_t {h:VH} {k:Nat}:isD h (k+2) (.agg [.tl t.T.length 1 (dG t.T),I t.far,I t.least]) (.agg (tsL t)):=⟨⟨rfl,rfl,fun _ _=>rfl⟩,⟨rfl,rfl⟩,⟨rfl,rfl⟩,trivial⟩
theorem isD_d {h:VH} {k:Nat}:isD h (k+1) (.tl D.length 1 (dG D)) (inD D):=⟨rfl,rfl,fun _ _=>rfl⟩
end
def alT:FuncId × Spec1:=(16,fun _ args h K=>match args with
 | []=>K (.ret (.bool true)) h
 | _=>False)
def dsE:List Nat:=[21,20,19,7,6,4,0,1,2]
def VE (l:List Stk) (t:Tst) (m i p:Int):List VV:=[I i,I l.length,stD l,I p,.bool false,.ptr (.own 0 0),stD l,.agg (tsL t),I m]
theorem ge_ev (l:List Stk) (t:Tst) (m i p:Int) (X:VEx->List VV->List VB->Prop):codeE Try.prog (callN Try.prog noSpec noL 10 20) (fun _=>none) true 10 (ntOf Try.prog 14) 0 (loopB 0 (bodyOf Try.prog 14)) (dsE.zip (VE l t m i p)) ⟨1,[0].zip (BJ t)⟩ (obs 1 dsE [0] X) =
 (bif decide (i<(↑l.length:Int)) then
 bif decide ((0:Int)<=i/\i<(↑l.length:Int)) then
 bif decide ((↑(l.getD i.toNat k0).prof.length:Int) > (6:Int)) then
 X .ret [I i,I (↑l.length:Int),VV.tl l.length 5 (stG l),I p,VV.bool true,VV.ptr (.own 0 0),VV.tl l.length 5 (stG l),VV.agg [VV.tl t.T.length 1 (dG t.T),I t.far,I t.least],I m] [VB.cells [VV.tl t.T.length 1 (dG t.T),I t.far,I t.least] 25]
 else bif inK .i64 ((1:Int)+max (0:Int) (min (l.getD i.toNat k0).casks (7:Int))) then
 bif inK .i64 (p*((1:Int)+max (0:Int) (min (l.getD i.toNat k0).casks (7:Int)))) then
 bif inK .i64 (i+(1:Int)) then
 X .normal [I (i+(1:Int)),I (↑l.length:Int),VV.tl l.length 5 (stG l),I (p*((1:Int)+max (0:Int) (min (l.getD i.toNat k0).casks (7:Int)))),VV.bool false,VV.ptr (.own 0 0),VV.tl l.length 5 (stG l),VV.agg [VV.tl t.T.length 1 (dG t.T),I t.far,I t.least],I m] [VB.cells [VV.tl t.T.length 1 (dG t.T),I t.far,I t.least] 25]
 else False
 else False
 else False
 else False
 else X (.exit 0) [I i,I (↑l.length:Int),VV.tl l.length 5 (stG l),I p,VV.bool false,VV.ptr (.own 0 0),VV.tl l.length 5 (stG l),VV.agg [VV.tl t.T.length 1 (dG t.T),I t.far,I t.least],I m] [VB.cells [VV.tl t.T.length 1 (dG t.T),I t.far,I t.least] 25]):=by kernel_rfl
def pF (l:List Stk):Nat->Int
 | 0=>1
 | k+1=>pF l k*(1+max 0 (min (l.getD k k0).casks 7))
def anyG (l:List Stk):Bool:=(List.range l.length).any fun i=>decide ((l.getD i k0).prof.length > 6)
def greatF (l:List Stk) (t:Tst) (m:Int):Bool:=decide (l.length > 8 ∨ t.T.length > 6) || anyG l || decide (pF l l.length > m)
def lE (l:List Stk) (t:Tst) (m:Int):LT:=fun lock tt h K=>
 FitP lock h tt ⟨1,[0].zip (BJ t)⟩ (dsE.zip (VE l t m 0 1))/\l.length<=8/\(anyG l=false->K .normal (dsE.zip (VE l t m l.length (pF l l.length))) ⟨1,[0].zip (BJ t)⟩)/\(anyG l=true->∀ i p:Int,K .ret (dsE.zip [I i,I l.length,stD l,I p,.bool true,.ptr (.own 0 0),stD l,.agg (tsL t),I m]) ⟨1,[0].zip (BJ t)⟩)
theorem gef_ev (l:List Stk) (t:Tst) (m:Int) (Q:VRes->Prop):callN Try.prog noSpec (atF 14 [(0,lE l t m)]) 10 20 0 (.fn 14) [stD l,.agg (tsL t),I m] ⟨0,[]⟩ (fun r h=>Q r) =
 (bif decide ((↑l.length:Int) > (8:Int)) then
 Q (.ret (.bool true))
 else bif decide ((↑t.T.length:Int) > (6:Int)) then
 Q (.ret (.bool true))
 else FitP 0 (VH.mk 1 ([0].zip (BJ t))) (dsE.zip (VE l t m (0:Int) (1:Int))) (VH.mk 1 ([0].zip (BJ t))) (dsE.zip (VE l t m (0:Int) (1:Int)))/\l.length<=8/\(anyG l=false->Q (.ret (.bool (decide (pF l l.length > m)))))/\(anyG l=true->∀ (i p:Int),Q (.ret (.bool true)))):=by kernel_rfl
section
variable {l:List Stk} {t:Tst} {m:Int}
theorem pF_bd:∀ k,k<=8->1<=pF l k/\pF l k<=((8 ^ k:Nat):Int)
 | 0,_=>by simp [pF]
 | k+1,h=>by
  obtain ⟨h1,h2⟩:=pF_bd k (by omega)
  have h3:1<=1+max 0 (min (l.getD k k0).casks 7)/\1+max 0 (min (l.getD k k0).casks 7)<=8:=by omega
  unfold pF
  generalize 1+max 0 (min (l.getD k k0).casks 7)=q at h3
  have h4:=mul_bd (show 0<=pF l k/\pF l k<=((8 ^ k:Nat):Int) by omega) (show 0<=q/\q<=8 by omega)
  have h5:pF l k*1<=pF l k*q:=Int.mul_le_mul_of_nonneg_left h3.1 (by omega)
  rw [Nat.pow_succ]
  refine ⟨by omega,?_⟩
  rw [Int.natCast_mul]
  exact h4.2
def oE (l:List Stk) (t:Tst) (m:Int) (_:Nat) (e:VEx) (vs:List VV) (bs:List VB):Prop:=
 bs=BJ t/\((anyG l=false/\e=.exit 0/\vs=VE l t m l.length (pF l l.length)) ∨ (anyG l=true/\e=.ret/\∃ i p:Int,vs=[I i,I l.length,stD l,I p,.bool true,.ptr (.own 0 0),stD l,.agg (tsL t),I m]))
theorem lE_ok:LSound Try.prog true (.block 0 (.loop (loopB 0 (bodyOf Try.prog 14)))) (ntOf Try.prog 14) (lE l t m):=by
 by_cases hn:l.length<=8
 ·refine loop_row hmix good0 (un:=10) (ds:=dsE) (ns:=[0]) (nx:=1) (fun i:Nat=>VE l t m i (pF l i)) (fun _=>BJ t) (fun i=>i<=l.length/\∀ j,j<i->¬ (l.getD j k0).prof.length > 6) (fun i=>l.length - i) (oE l t m) noL_ok ?_ ?_
  ·rintro i ⟨h0,h1⟩
   refine cast (ge_ev l t m i _ _).symm ?_
   by_cases hlt:i<l.length
   ·obtain ⟨p1,p2⟩:=pF_bd (l:=l) (i+1) (by omega)
    have p3:(8 ^ (i+1):Nat)<=8 ^ 8:=Nat.pow_le_pow_right (by omega) (by omega)
    have p4:(((8 ^ (i+1):Nat)):Int)<=16777216:=by
     have:(8 ^ (i+1):Nat)<=16777216:=p3
     generalize 8 ^ (i+1)=q at this ⊢
     omega
    have hs:pF l (i+1)=pF l i*(1+max 0 (min (l.getD i k0).casks 7)):=rfl
    rw [hs] at p1 p2
    refine cond_dk (by omega) (cond_dk ⟨by omega,by omega⟩ ?_)
    rw [show (i:Int).toNat=i by omega]
    refine cond_d (fun g=>⟨rfl,.inr ⟨?_,rfl,_,_,rfl⟩⟩) (fun g=>cond_r (by omega) (cond_r (by omega) (cond_r (by omega) ⟨i+1,⟨by omega,fun j hj=>?_⟩,by dsimp only; omega,rfl,fitBs_refl _,fun _ _ _ h=>h⟩)))
    ·unfold anyG
     rw [List.any_eq_true]
     exact ⟨i,List.mem_range.2 hlt,decide_eq_true (by omega)⟩
    ·by_cases e:j=i
     ·subst e; omega
     ·exact h1 j (by omega)
   ·obtain rfl:i=l.length:=by omega
    refine cond_d (fun h=>by omega) (fun _=>⟨rfl,.inl ⟨?_,rfl,rfl⟩⟩)
    unfold anyG
    rw [List.any_eq_false]
    intro j hj
    rw [decide_eq_true_eq]
    exact h1 j (List.mem_range.1 hj)
  ·rintro lock tt h K ⟨hf,_,k1,k2⟩
   refine ⟨0,hf,⟨Nat.zero_le _,fun j hj=>by omega⟩,?_⟩
   rintro e vs bs ⟨rfl,⟨g,rfl,rfl⟩ | ⟨g,rfl,i,p,rfl⟩⟩
   ·exact k1 g
   ·exact k2 g i p
 ·rintro lock tt h K ⟨hf,hc,_⟩
  exact (hn hc).elim
end
theorem great_v (l:List Stk) (t:Tst) (m:Int):∃ h',CallsV Try.prog 14 [stD l,.agg (tsL t),I m] ⟨0,[]⟩ (.ret (.bool (greatF l t m))) h':=by
 have hall:LoopsOk Try.prog 14 [(0,lE l t m)]:=fun x hx=>by
  simp only [List.mem_singleton] at hx
  subst hx
  exact ⟨by kernel_rfl,lE_ok⟩
 obtain ⟨r,h',rfl,hc⟩:=of_callN (callL_good hmix noSp hall (un:=10) 20) (f:=14) (args:=[stD l,.agg (tsL t),I m]) (h:=⟨0,[]⟩) (K:=fun r _=>r=.ret (.bool (greatF l t m))) (by
  refine cast (gef_ev l t m _).symm ?_
  unfold greatF
  refine cond_d (fun h=>?_) (fun h1=>cond_d (fun h=>?_) (fun h2=>⟨fitP_self rfl,by omega,fun h=>?_,fun h _ _=>?_⟩))
  ·rw [decide_eq_true (.inl (by omega))]; rfl
  ·rw [decide_eq_true (.inr (by omega))]; rfl
  ·rw [decide_eq_false (show ¬ (l.length > 8 ∨ t.T.length > 6) by omega),h]; rfl
  ·rw [h]; simp)
 exact ⟨h',hc⟩
def greatT:FuncId × Spec1:=(14,fun _ args h K=>match args with
 | [x,z,.int .i64 m]=>∃ (l:List Stk) (t:Tst),isD h 4 x (stD l)/\isD h 4 z (.agg (tsL t))/\K (.ret (.bool (greatF l t m))) h
 | _=>False)
theorem greatT_ok:SpOk Try.prog greatT.1 greatT.2:=by
 intro lock args h K hK
 simp only [greatT] at hK
 split at hK
 ·obtain ⟨l,t,hx,hz,hK⟩:=hK
  obtain ⟨h',hv⟩:=great_v l t _
  exact ⟨_,h,hK,lockP_refl _ _,calls_lendDP 4 hv rfl ⟨hx,hz,⟨rfl,rfl⟩,trivial⟩⟩
 ·exact hK.elim
end Go.Sx.Bln
