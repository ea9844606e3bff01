/- stream: Bj2 Ta0 Oh1 Oh2 Ta1 Tb1 Ta2 Ta3 Tp1 Tp2 Ta7 Ta4 Ta5 Ta6 Ta8 Ta9, in one text. -/
import Derived.Test.YtaaaialjieojlaaWW2
import Derived.Test.YtaaaialjieojlaaWW1
import Derived.Test.YtaaaialjieojlaaSxRd
import Derived.Test.YtaaaialjieojlaaSxP
import Derived.Test.YtaaaialjieojlaaRows
import Derived.OpenShut
namespace Go.Sx.Bln
open Go Go.Sx Go.Proofs
set_option maxRecDepth 1000000
section
variable {l:List Stk} {t:Tst} {D:List Int}
theorem anyN_true {D:List Int} {i:Nat} (hi:i<D.length) (h:okN (D.getD i 0)=false):anyN D=true:=by
 unfold anyN
 rw [List.any_eq_true]
 exact ⟨i,List.mem_range.2 hi,by unfold qN; rw [h]; rfl⟩
theorem anyN_false {D:List Int} (h:∀ i,i<D.length->okN (D.getD i 0)=true):anyN D=false:=by
 unfold anyN
 rw [List.any_eq_false]
 intro j hj
 unfold qN
 rw [h j (List.mem_range.1 hj)]
 simp
def oJ (t:Tst) (_:Nat) (e:VEx) (vs:List VV) (bs:List VB):Prop:=
 bs=BJ t/\((anyN t.T=false/\e=.exit 0/\vs=VJ t t.T.length) ∨ (anyN t.T=true/\e=.ret/\∃ i:Int,vs=VJ t i))
theorem lJ_ok:LSound Try.prog true (.block 0 (.loop (loopB 0 (bodyOf Try.prog 5)))) (ntOf Try.prog 5) (lJ t):=by
 by_cases hn:t.T.length<=100000
 ·refine loop_row hmix good0 (un:=10) (ds:=dsJ) (ns:=[0]) (nx:=1) (fun i:Nat=>VJ t i) (fun _=>BJ t) (fun i=>i<=t.T.length/\∀ j,j<i->okN (t.T.getD j 0)=true) (fun i=>t.T.length - i) (oJ t) noL_ok ?_ ?_
  ·rintro i ⟨h0,h1⟩
   refine cast (rt_ev t i _).symm ?_
   by_cases hlt:i<t.T.length
   ·refine cond_dk (by omega) (cond_dk ⟨by omega,by omega⟩ ?_)
    rw [show (i:Int).toNat=i by omega]
    refine cond_d (fun g1=>cond_nd (fun g2=>⟨rfl,.inr ⟨anyN_true hlt ?_,rfl,_,rfl⟩⟩) (fun g2=>cond_r (by omega) ⟨i+1,⟨by omega,fun j hj=>?_⟩,by dsimp only; omega,rfl,fitBs_refl _,fun _ _ _ h=>h⟩)) (fun g1=>⟨rfl,.inr ⟨anyN_true hlt ?_,rfl,_,rfl⟩⟩)
    ·unfold okN; exact decide_eq_false (by omega)
    ·by_cases e:j=i
     ·subst e
      unfold okN; exact decide_eq_true ⟨g1,g2⟩
     ·exact h1 j (by omega)
    ·unfold okN; exact decide_eq_false (by omega)
   ·obtain rfl:i=t.T.length:=by omega
    exact cond_d (fun h=>by omega) (fun _=>⟨rfl,.inl ⟨anyN_false h1,rfl,rfl⟩⟩)
  ·rintro lock tt h K ⟨hf,_,k1,k2⟩
   refine ⟨0,hf,⟨Nat.zero_le _,fun j hj=>by omega⟩,?_⟩
   rintro e vs bs ⟨rfl,⟨g,rfl,rfl⟩ | ⟨g,rfl,i,rfl⟩⟩
   ·exact k1 g
   ·exact k2 g i
 ·rintro lock tt h K ⟨hf,hc,_⟩
  exact (hn hc).elim
theorem rtaste_v (hn:t.T.length<=100000):∃ h',CallsV Try.prog 5 [.agg (tsL t)] ⟨0,[]⟩ (.ret (.bool (okT t))) h':=by
 have hall:LoopsOk Try.prog 5 [(0,lJ t)]:=fun x hx=>by
  simp only [List.mem_singleton] at hx
  subst hx
  exact ⟨by kernel_rfl,lJ_ok⟩
 obtain ⟨r,h',rfl,hc⟩:=of_callN (callL_good hmix noSp hall (un:=10) 20) (f:=5) (args:=[.agg (tsL t)]) (h:=⟨0,[]⟩) (K:=fun r _=>r=.ret (.bool (okT t))) (by
  refine cast (rtf_ev t _).symm ⟨fitP_self rfl,hn,fun hN=>?_,fun hN i=>?_⟩
  ·have e:∀ x:Bool,okT t=x->VRes.ret (VV.bool x)=VRes.ret (VV.bool (okT t)):=fun x hx=>by rw [hx]
   unfold okT at e ⊢
   rw [hN] at e ⊢
   refine cond_d (fun h1=>cond_d (fun h2=>cond_d (fun h4=>cond_d (fun h5=>cond_d (fun h6=>e _ ?_) (fun h6=>e _ ?_)) (fun h5=>e _ ?_)) (fun h4=>e _ ?_)) (fun h2=>e _ ?_)) (fun h1=>e _ ?_)
   ·rw [decide_eq_true (p:=1<=t.T.length/\_) (by omega),decide_eq_true (p:=0<=t.far/\_) (by omega),Bool.not_false,Bool.true_and,Bool.true_and,Bool.true_and,decide_eq_decide]
    omega
   ·rw [decide_eq_false (p:=0<=t.least/\_) (by omega),Bool.and_false]
   ·rw [decide_eq_false (p:=0<=t.far/\_) (by omega),Bool.and_false,Bool.false_and]
   ·rw [decide_eq_false (p:=0<=t.far/\_) (by omega),Bool.and_false,Bool.false_and]
   ·rw [decide_eq_false (p:=1<=t.T.length/\_) (by omega)]; rfl
   ·rw [decide_eq_false (p:=1<=t.T.length/\_) (by omega)]; rfl
  ·unfold okT
   rw [hN]
   simp)
 exact ⟨h',hc⟩
end
def rtT:FuncId × Spec1:=(5,fun _ args h K=>match args with
 | [x]=>∃ t:Tst,isD h 3 x (.agg (tsL t))/\t.T.length<=100000/\K (.ret (.bool (okT t))) h
 | _=>False)
theorem rtT_ok:SpOk Try.prog rtT.1 rtT.2:=by
 intro lock args h K hK
 simp only [rtT] at hK
 split at hK
 ·obtain ⟨t,hx,hn,hK⟩:=hK
  obtain ⟨h',hv⟩:=rtaste_v hn
  exact ⟨_,h,hK,lockP_refl _ _,calls_lendDP 3 hv rfl ⟨hx,trivial⟩⟩
 ·exact hK.elim
end Go.Sx.Bln
namespace Go.Sx.Nod
open Go Go.Sx Go.Proofs
set_option maxRecDepth 1000000
def pnL (p:Nos.Pn):List VV:=[inD p.D,.tl p.T.length 5 (Nos.tG p.T),.tl p.S.length 3 (Nos.sG p.S)]
end Go.Sx.Nod
namespace Go.Sx.Nod
open Go Go.Sx Go.Proofs
set_option maxRecDepth 1000000
def VP (i:Nat):List VV:=[I i,.bool false,.ptr (.own 0 0)]
def BP0 (p:Nos.Pn):List VB:=[.cells (pnL p) 26]
theorem p0_ev (p:Nos.Pn) (i:Nat) (X:VEx->List VV->List VB->Prop):codeE Try.prog (callN Try.prog noSpec noL 10 20) (fun _=>none) true 10 (ntOf Try.prog 4) 0 (loopB 0 (bodyOf Try.prog 4)) ([3,2,1].zip (VP i)) ⟨1,[0].zip (BP0 p)⟩ (obs 1 [3,2,1] [0] X) =
 (bif decide ((↑i:Int)<(↑p.D.length:Int)) then
 bif decide ((0:Int)<=(↑i:Int)/\(↑i:Int)<(↑p.D.length:Int)) then
 bif decide ((0:Int)<=p.D.getD (↑i:Int).toNat (0:Int)) then
 bif !decide (p.D.getD (↑i:Int).toNat (0:Int)<=(1000:Int)) then
 X VEx.ret [I (↑i:Int),VV.bool false,VV.ptr (VA.own 0 0)] [.cells (pnL p) 26]
 else bif inK .i64 ((↑i:Int)+(1:Int)) then
 X .normal [I ((↑i:Int)+(1:Int)),VV.bool false,VV.ptr (VA.own 0 0)] [.cells (pnL p) 26]
 else False
 else X VEx.ret [I (↑i:Int),VV.bool false,VV.ptr (VA.own 0 0)] [.cells (pnL p) 26]
 else False
 else X (VEx.exit 0) [I (↑i:Int),VV.bool false,VV.ptr (VA.own 0 0)] [.cells (pnL p) 26]):=by kernel_rfl
theorem p2_ev (p:Nos.Pn) (i:Nat) (X:VEx->List VV->List VB->Prop):codeE Try.prog (callN Try.prog noSpec noL 10 20) (fun _=>none) true 10 (ntOf Try.prog 4) 0 (loopB 2 (bodyOf Try.prog 4)) ([4,2,1].zip (VP i)) ⟨1,[0].zip (BP0 p)⟩ (obs 1 [4,2,1] [0] X) =
 (bif decide ((↑i:Int)<(↑p.T.length:Int)) then
 bif decide ((0:Int)<=(↑i:Int)/\(↑i:Int)<(↑p.T.length:Int)) then
 bif inK .i64 ((↑p.D.length:Int) - (1:Int)) then
 bif decide ((0:Int)<=(p.T.getD (↑i:Int).toNat Nos.t0).j) then
 bif !decide ((p.T.getD (↑i:Int).toNat Nos.t0).j<=(↑p.D.length:Int) - (1:Int)) then
 X VEx.ret [I (↑i:Int),VV.bool false,VV.ptr (VA.own 0 0)] [.cells (pnL p) 26]
 else bif decide ((0:Int)<=(p.T.getD (↑i:Int).toNat Nos.t0).s) then
 bif !decide ((p.T.getD (↑i:Int).toNat Nos.t0).s<=(15:Int)) then
 X VEx.ret [I (↑i:Int),VV.bool false,VV.ptr (VA.own 0 0)] [.cells (pnL p) 26]
 else bif decide ((0:Int)<=(p.T.getD (↑i:Int).toNat Nos.t0).p) then
 bif !decide ((p.T.getD (↑i:Int).toNat Nos.t0).p<=(1000:Int)) then
 X VEx.ret [I (↑i:Int),VV.bool false,VV.ptr (VA.own 0 0)] [.cells (pnL p) 26]
 else bif decide ((-100000:Int)<=(p.T.getD (↑i:Int).toNat Nos.t0).c) then
 bif !decide ((p.T.getD (↑i:Int).toNat Nos.t0).c<=(100000:Int)) then
 X VEx.ret [I (↑i:Int),VV.bool false,VV.ptr (VA.own 0 0)] [.cells (pnL p) 26]
 else bif decide ((0:Int)<=(p.T.getD (↑i:Int).toNat Nos.t0).o) then
 bif !decide ((p.T.getD (↑i:Int).toNat Nos.t0).o<=(10000:Int)) then
 X VEx.ret [I (↑i:Int),VV.bool false,VV.ptr (VA.own 0 0)] [.cells (pnL p) 26]
 else bif inK .i64 ((↑i:Int)+(1:Int)) then
 X .normal [I ((↑i:Int)+(1:Int)),VV.bool false,VV.ptr (VA.own 0 0)] [.cells (pnL p) 26]
 else False
 else X VEx.ret [I (↑i:Int),VV.bool false,VV.ptr (VA.own 0 0)] [.cells (pnL p) 26]
 else X VEx.ret [I (↑i:Int),VV.bool false,VV.ptr (VA.own 0 0)] [.cells (pnL p) 26]
 else X VEx.ret [I (↑i:Int),VV.bool false,VV.ptr (VA.own 0 0)] [.cells (pnL p) 26]
 else X VEx.ret [I (↑i:Int),VV.bool false,VV.ptr (VA.own 0 0)] [.cells (pnL p) 26]
 else X VEx.ret [I (↑i:Int),VV.bool false,VV.ptr (VA.own 0 0)] [.cells (pnL p) 26]
 else False
 else False
 else X (VEx.exit 2) [I (↑i:Int),VV.bool false,VV.ptr (VA.own 0 0)] [.cells (pnL p) 26]):=by kernel_rfl
theorem p4_ev (p:Nos.Pn) (i:Nat) (X:VEx->List VV->List VB->Prop):codeE Try.prog (callN Try.prog noSpec noL 10 20) (fun _=>none) true 10 (ntOf Try.prog 4) 0 (loopB 4 (bodyOf Try.prog 4)) ([6,2,1].zip (VP i)) ⟨1,[0].zip (BP0 p)⟩ (obs 1 [6,2,1] [0] X) =
 (bif decide ((↑i:Int)<(↑p.S.length:Int)) then
 bif decide ((0:Int)<=(↑i:Int)/\(↑i:Int)<(↑p.S.length:Int)) then
 bif decide ((0:Int)<=(p.S.getD (↑i:Int).toNat Nos.s0).s) then
 bif !decide ((p.S.getD (↑i:Int).toNat Nos.s0).s<=(15:Int)) then
 X VEx.ret [I (↑i:Int),VV.bool false,VV.ptr (VA.own 0 0)] [.cells (pnL p) 26]
 else bif decide ((p.S.getD (↑i:Int).toNat Nos.s0).lo<(-100000:Int)) then
 X VEx.ret [I (↑i:Int),VV.bool false,VV.ptr (VA.own 0 0)] [.cells (pnL p) 26]
 else bif decide ((p.S.getD (↑i:Int).toNat Nos.s0).lo > (p.S.getD (↑i:Int).toNat Nos.s0).hi) then
 X VEx.ret [I (↑i:Int),VV.bool false,VV.ptr (VA.own 0 0)] [.cells (pnL p) 26]
 else bif decide ((p.S.getD (↑i:Int).toNat Nos.s0).hi > (100000:Int)) then
 X VEx.ret [I (↑i:Int),VV.bool false,VV.ptr (VA.own 0 0)] [.cells (pnL p) 26]
 else bif inK .i64 ((↑i:Int)+(1:Int)) then
 X .normal [I ((↑i:Int)+(1:Int)),VV.bool false,VV.ptr (VA.own 0 0)] [.cells (pnL p) 26]
 else False
 else X VEx.ret [I (↑i:Int),VV.bool false,VV.ptr (VA.own 0 0)] [.cells (pnL p) 26]
 else False
 else X (VEx.exit 4) [I (↑i:Int),VV.bool false,VV.ptr (VA.own 0 0)] [.cells (pnL p) 26]):=by kernel_rfl
def lPn (p:Nos.Pn) (d N:Nat) (ok:Nat->Prop):LT:=fun lock tt h K=>
 FitP lock h tt ⟨1,[0].zip (BP0 p)⟩ ([d,2,1].zip (VP 0))/\(N<=1000/\p.D.length<=1000)/\((∀ j,j<N->ok j)->K .normal ([d,2,1].zip (VP N)) ⟨1,[0].zip (BP0 p)⟩)/\((¬ ∀ j,j<N->ok j)->∀ i:Nat,K .ret ([d,2,1].zip (VP i)) ⟨1,[0].zip (BP0 p)⟩)
def okD (p:Nos.Pn) (j:Nat):Prop:=0<=p.D.getD j 0/\p.D.getD j 0<=1000
def okTs (p:Nos.Pn) (t:Nos.Ts):Prop:=(0<=t.j/\t.j<p.D.length)/\(0<=t.s/\t.s<=15)/\(0<=t.p/\t.p<=1000)/\(-100000<=t.c/\t.c<=100000)/\(0<=t.o/\t.o<=10000)
def okSd (s:Nos.Sd):Prop:=(0<=s.s/\s.s<=15)/\-100000<=s.lo/\s.lo<=s.hi/\s.hi<=100000
theorem rp_ev (p:Nos.Pn) (Q:VRes->Prop):callN Try.prog noSpec (atF 4 [(0,lPn p 3 p.D.length (okD p)),(2,lPn p 4 p.T.length fun j=>okTs p (p.T.getD j Nos.t0)),(4,lPn p 6 p.S.length fun j=>okSd (p.S.getD j Nos.s0))]) 10 20 0 (.fn 4) [.agg (pnL p)] ⟨0,[]⟩ (fun r _=>Q r) =
 (bif decide ((↑p.D.length:Int) > (8:Int)) then
 Q (VRes.ret (VV.bool false))
 else bif decide ((↑p.T.length:Int) > (48:Int)) then
 Q (VRes.ret (VV.bool false))
 else bif decide ((↑p.S.length:Int) > (16:Int)) then
 Q (VRes.ret (VV.bool false))
 else FitP 0 (VH.mk 1 ([0].zip (BP0 p))) ([3,2,1].zip (VP 0)) (VH.mk 1 ([0].zip (BP0 p))) ([3,2,1].zip (VP 0))/\(p.D.length<=1000/\p.D.length<=1000)/\((∀ (j:Nat),j<p.D.length->okD p j)->FitP 0 (VH.mk 1 ([0].zip (BP0 p))) ([4,2,1].zip (VP 0)) (VH.mk 1 ([0].zip (BP0 p))) ([4,2,1].zip (VP 0))/\(p.T.length<=1000/\p.D.length<=1000)/\((∀ (j:Nat),j<p.T.length->(fun j=>okTs p (p.T.getD j Nos.t0)) j)->FitP 0 (VH.mk 1 ([0].zip (BP0 p))) ([6,2,1].zip (VP 0)) (VH.mk 1 ([0].zip (BP0 p))) ([6,2,1].zip (VP 0))/\(p.S.length<=1000/\p.D.length<=1000)/\((∀ (j:Nat),j<p.S.length->(fun j=>okSd (p.S.getD j Nos.s0)) j)->Q (VRes.ret (VV.bool true)))/\((¬∀ (j:Nat),j<p.S.length->(fun j=>okSd (p.S.getD j Nos.s0)) j)->∀ (i:Nat),Q (VRes.ret (VV.bool false))))/\((¬∀ (j:Nat),j<p.T.length->(fun j=>okTs p (p.T.getD j Nos.t0)) j)->∀ (i:Nat),Q (VRes.ret (VV.bool false))))/\((¬∀ (j:Nat),j<p.D.length->okD p j)->∀ (i:Nat),Q (VRes.ret (VV.bool false)))):=by kernel_rfl
end Go.Sx.Nod
namespace Go.Sx.Nod
open Go Go.Sx Go.Proofs
open Go.Sx.Nos (PnOk panB panB_iff)
set_option maxRecDepth 1000000
section
variable {p:Nos.Pn}
theorem lPn_ok {lp d N:Nat} {ok:Nat->Prop} (hr:∀ i (X:VEx->List VV->List VB->Prop),i<=N->N<=1000->p.D.length<=1000->(i<N->ok i->X .normal (VP (i+1)) (BP0 p))->(i<N->¬ ok i->X .ret (VP i) (BP0 p))->(i=N->X (.exit lp) (VP i) (BP0 p)) ->
   codeE Try.prog (callN Try.prog noSpec noL 10 20) (fun _=>none) true 10 (ntOf Try.prog 4) 0 (loopB lp (bodyOf Try.prog 4)) ([d,2,1].zip (VP i)) ⟨1,[0].zip (BP0 p)⟩ (obs 1 [d,2,1] [0] X)) :
  LSound Try.prog true (.block lp (.loop (loopB lp (bodyOf Try.prog 4)))) (ntOf Try.prog 4) (lPn p d N ok):=by
 by_cases hh:N<=1000/\p.D.length<=1000
 ·obtain ⟨h1,h2⟩:=hh
  refine loop_row hmix good0 (un:=10) (ds:=[d,2,1]) (ns:=[0]) (nx:=1) (fun i:Nat=>VP i) (fun _=>BP0 p) (fun i=>i<=N/\∀ j,j<i->ok j) (fun i=>N - i) (fun _ e vs bs=>bs=BP0 p/\((e=.exit lp/\(∀ j,j<N->ok j)/\vs=VP N) ∨ (e=.ret/\(¬ ∀ j,j<N->ok j)/\∃ i:Nat,vs=VP i))) noL_ok ?_ ?_
  ·rintro i ⟨hi,hg⟩
   refine hr i _ hi h1 h2 (fun hiN ho=>?_) (fun hiN ho=>?_) (fun hiN=>?_)
   ·refine ⟨i+1,⟨by show i+1<=N; omega,fun j hj=>?_⟩,by show N - (i+1)<N - i; omega,rfl,fitBs_refl _,fun _ _ _ h=>h⟩
    by_cases hji:j=i
    ·subst hji; exact ho
    ·exact hg j (by omega)
   ·exact ⟨rfl,.inr ⟨rfl,fun h=>ho (h i hiN),i,rfl⟩⟩
   ·subst hiN
    exact ⟨rfl,.inl ⟨rfl,hg,rfl⟩⟩
  ·rintro lock tt h K ⟨hf,_,k1,k2⟩
   refine ⟨0,hf,⟨Nat.zero_le _,fun j hj=>absurd hj (Nat.not_lt_zero _)⟩,?_⟩
   rintro e vs bs ⟨rfl,⟨rfl,h1,rfl⟩ | ⟨rfl,h1,i,rfl⟩⟩
   ·rw [show exitOf lp (.exit lp)=.normal by simp [exitOf]]
    exact k1 h1
   ·exact k2 h1 i
 ·rintro lock tt h K ⟨hf,hc,_⟩
  exact (hh hc).elim
theorem lPD_ok:LSound Try.prog true (.block 0 (.loop (loopB 0 (bodyOf Try.prog 4)))) (ntOf Try.prog 4) (lPn p 3 p.D.length (okD p)):=lPn_ok fun i X hi hN hD k1 k2 k3=>by
 refine cast (p0_ev p i _).symm ?_
 have e:okD p i ↔ 0<=p.D.getD (i:Int).toNat 0/\p.D.getD (i:Int).toNat 0<=1000:=by rw [Int.toNat_natCast]; exact Iff.rfl
 refine cond_d (fun h=>cond_dk ⟨by omega,by omega⟩ (cond_d (fun c1=>cond_nd (fun c2=>k2 (by omega) fun h=>c2 (e.1 h).2) (fun c2=>cond_r (by omega) (k1 (by omega) (e.2 ⟨c1,c2⟩)))) (fun c1=>k2 (by omega) fun h=>c1 (e.1 h).1))) (fun h=>k3 (by omega))
theorem lPT_ok:LSound Try.prog true (.block 2 (.loop (loopB 2 (bodyOf Try.prog 4)))) (ntOf Try.prog 4) (lPn p 4 p.T.length fun j=>okTs p (p.T.getD j Nos.t0)):=lPn_ok fun i X hi hN hD k1 k2 k3=>by
 refine cast (p2_ev p i _).symm ?_
 refine cond_d (fun h=>cond_dk ⟨by omega,by omega⟩ (cond_r (by omega) ?_)) (fun h=>k3 (by omega))
 have k1:okTs p (p.T.getD (i:Int).toNat Nos.t0)->X .normal (VP (i+1)) (BP0 p):=fun h=>k1 (by omega) (by rw [Int.toNat_natCast] at h; exact h)
 have k2:¬ okTs p (p.T.getD (i:Int).toNat Nos.t0)->X .ret (VP i) (BP0 p):=fun h=>k2 (by omega) (by rw [Int.toNat_natCast] at h; exact h)
 generalize p.T.getD (i:Int).toNat Nos.t0=t at k1 k2 ⊢
 unfold okTs at k1 k2
 refine cond_d (fun a1=>cond_nd (fun a2=>k2 (by omega)) (fun a2=>?_)) (fun a1=>k2 (by omega))
 refine cond_d (fun b1=>cond_nd (fun b2=>k2 (by omega)) (fun b2=>?_)) (fun b1=>k2 (by omega))
 refine cond_d (fun c1=>cond_nd (fun c2=>k2 (by omega)) (fun c2=>?_)) (fun c1=>k2 (by omega))
 refine cond_d (fun d1=>cond_nd (fun d2=>k2 (by omega)) (fun d2=>?_)) (fun d1=>k2 (by omega))
 exact cond_d (fun e1=>cond_nd (fun e2=>k2 (by omega)) (fun e2=>cond_r (by omega) (k1 (by omega)))) (fun e1=>k2 (by omega))
theorem lPS_ok:LSound Try.prog true (.block 4 (.loop (loopB 4 (bodyOf Try.prog 4)))) (ntOf Try.prog 4) (lPn p 6 p.S.length fun j=>okSd (p.S.getD j Nos.s0)):=lPn_ok fun i X hi hN hD k1 k2 k3=>by
 refine cast (p4_ev p i _).symm ?_
 refine cond_d (fun h=>cond_dk ⟨by omega,by omega⟩ ?_) (fun h=>k3 (by omega))
 have k1:okSd (p.S.getD (i:Int).toNat Nos.s0)->X .normal (VP (i+1)) (BP0 p):=fun h=>k1 (by omega) (by rw [Int.toNat_natCast] at h; exact h)
 have k2:¬ okSd (p.S.getD (i:Int).toNat Nos.s0)->X .ret (VP i) (BP0 p):=fun h=>k2 (by omega) (by rw [Int.toNat_natCast] at h; exact h)
 generalize p.S.getD (i:Int).toNat Nos.s0=t at k1 k2 ⊢
 unfold okSd at k1 k2
 refine cond_d (fun a1=>cond_nd (fun a2=>k2 (by omega)) (fun a2=>?_)) (fun a1=>k2 (by omega))
 exact cond_d (fun b1=>k2 (by omega)) (fun b1=>cond_d (fun c1=>k2 (by omega)) (fun c1=>cond_d (fun d1=>k2 (by omega)) (fun d1=>cond_r (by omega) (k1 (by omega)))))
theorem getD_all {α:Type} {l:List α} {d:α} {P:α->Prop}:(∀ j,j<l.length->P (l.getD j d)) ↔ ∀ x ∈ l,P x:=by
 constructor
 ·intro h x hx
  obtain ⟨j,hj,rfl⟩:=List.mem_iff_getElem.1 hx
  have:=h j hj
  rwa [List.getD_eq_getElem?_getD,List.getElem?_eq_getElem hj] at this
 ·intro h j hj
  rw [List.getD_eq_getElem?_getD,List.getElem?_eq_getElem hj]
  exact h _ (List.getElem_mem hj)
theorem pn_t (h:PnOk p):panB p=true:=panB_iff.2 h
theorem pn_f (h:¬ PnOk p):panB p=false:=Bool.eq_false_iff.2 fun h2=>h (panB_iff.1 h2)
theorem panel_v:∃ h',CallsV Try.prog 4 [.agg (pnL p)] ⟨0,[]⟩ (.ret (.bool (panB p))) h':=by
 have hall:LoopsOk Try.prog 4 [(0,lPn p 3 p.D.length (okD p)),(2,lPn p 4 p.T.length fun j=>okTs p (p.T.getD j Nos.t0)),(4,lPn p 6 p.S.length fun j=>okSd (p.S.getD j Nos.s0))]:=fun y hy=>by
  simp only [List.mem_cons,List.not_mem_nil,or_false] at hy
  rcases hy with rfl | rfl | rfl
  ·exact ⟨by kernel_rfl,lPD_ok⟩
  ·exact ⟨by kernel_rfl,lPT_ok⟩
  ·exact ⟨by kernel_rfl,lPS_ok⟩
 obtain ⟨r,h',rfl,hc⟩:=of_callN (callL_good hmix noSp hall (un:=10) 20) (f:=4) (args:=[.agg (pnL p)]) (h:=⟨0,[]⟩) (K:=fun r _=>r=.ret (.bool (panB p))) (by
  refine cast (rp_ev p _).symm ?_
  refine cond_d (fun c=>by rw [pn_f fun h=>by have:=h.d; omega]) (fun c1=>cond_d (fun c=>by rw [pn_f fun h=>by have:=h.t; omega]) (fun c2=>cond_d (fun c=>by rw [pn_f fun h=>by have:=h.s; omega]) (fun c3=>?_)))
  refine ⟨fitP_self rfl,⟨by omega,by omega⟩,fun h1=>⟨fitP_self rfl,⟨by omega,by omega⟩,fun h2=>⟨fitP_self rfl,⟨by omega,by omega⟩,fun h3=>?_,fun h3 _=>?_⟩,fun h2 _=>?_⟩,fun h1 _=>?_⟩
  ·rw [pn_t ⟨by omega,by omega,by omega,(getD_all (P:=fun x:Int=>0<=x/\x<=1000)).1 h1,(getD_all (P:=okTs p)).1 h2,(getD_all (P:=okSd)).1 h3⟩]
  ·rw [pn_f fun h=>h3 ((getD_all (P:=okSd)).2 h.sd)]
  ·rw [pn_f fun h=>h2 ((getD_all (P:=okTs p)).2 h.ts)]
  ·rw [pn_f fun h=>h1 ((getD_all (P:=fun x:Int=>0<=x/\x<=1000)).2 h.dr)])
 exact ⟨h',hc⟩
def rpR (p:Nos.Pn):FuncId × Spec1:=(4,fun _ args h K=>match args with
 | [x]=>isD h 2 x (.agg (pnL p))/\K (.ret (.bool (panB p))) h
 | _=>False)
theorem rpR_ok:SpOk Try.prog (rpR p).1 (rpR p).2:=by
 intro lock args h K hK
 simp only [rpR] at hK
 split at hK
 ·obtain ⟨h1,hK⟩:=hK
  obtain ⟨h',hc⟩:=panel_v (p:=p)
  exact ⟨_,h,hK,lockP_refl _ _,calls_lendDP 2 hc rfl ⟨h1,trivial⟩⟩
 ·exact hK.elim
end
end Go.Sx.Nod
namespace Go.Sx.Top
open Go Go.Sx Go.Proofs
open Go.Sx.Nod (pnL inD dG I rpR)
open Go.Sx.Bln (Stk Tst stD stG tsL rtT)
set_option maxRecDepth 1000000
def vaL (v:Nat->Int):List VV:=(List.range 16).map fun i=>.int .u16 (v i)
def byD (b:List Int):VV:=.tl b.length 1 (fun j=>[.int .u16 (b.getD j 0)])
def vL (v:Nat->Int):List Int:=[v 0,v 1,v 2,v 3,v 4,v 5,v 6,v 7,v 8,v 9,v 10,v 11,v 12,v 13,v 14,v 15]
@[reducible] def tlT (p:Nos.Pn):VV:=.tl p.T.length 5 (Nos.tG p.T)
@[reducible] def tlS (p:Nos.Pn):VV:=.tl p.S.length 3 (Nos.sG p.S)
def awR:FuncId × Spec1:=(6,fun _ args h K=>match args with
 | []=>K (.ret (.bool true)) h
 | _=>False)
def tmA (b:List Int) (l:List Stk) (m:Int):List VV:=[.ptr (.own 3 0),.func 7 [] [.ptr (.own 1 0)],.bool false,.ptr (.own 2 0),.ptr (.own 1 0),.ptr (.own 0 0),byD b,stD l,I m]
def dsA:List Nat:=[14,13,12,10,7,6,2,3,5]
def blA (p:Nos.Pn) (v:Nat->Int) (t:Tst):List VB:=[.cells (pnL p) 26,.cells (vaL v) 28,.cells (tsL t) 32]
def ds0:List Nat:=78::77::76::dsA
def bl0 (p:Nos.Pn) (v:Nat->Int) (t:Tst) (T:List Nos.Ts):List VB:=blA p v t ++ [.cells [inD p.D,.sl 4 T.length,.nils] 26,.vec T.length (Nos.tG T) 5 38]
theorem r0_ev (p:Nos.Pn) (v:Nat->Int) (b:List Int) (l:List Stk) (t:Tst) (m:Int) (i:Nat) (T:List Nos.Ts) (X:VEx->List VV->List VB->Prop):codeE Try.prog (callN Try.prog (tabS [awR]) noL 10 20) (fun _=>none) true 10 (ntOf Try.prog 3) 0 (loopB 0 (bodyOf Try.prog 3)) (ds0.zip (I i::I p.T.length::.tl p.T.length 5 (Nos.tG p.T)::tmA b l m)) ⟨5,[0,1,2,3,4].zip (bl0 p v t T)⟩ (obs 5 ds0 [0,1,2,3,4] X) =
 (bif decide ((↑i:Int)<(↑p.T.length:Int)) then
 bif decide ((0:Int)<=(↑i:Int)/\(↑i:Int)<(↑p.T.length:Int)) then
 bif decide ((↑b.length:Int)=(0:Int)) then
 False
 else bif decide ((0:Int)<=remZ (p.T.getD (↑i:Int).toNat Nos.t0).j (↑b.length:Int)/\remZ (p.T.getD (↑i:Int).toNat Nos.t0).j (↑b.length:Int)<(↑b.length:Int)) then
 bif inK .i64 (b.getD (remZ (p.T.getD (↑i:Int).toNat Nos.t0).j (↑b.length:Int)).toNat (0:Int)) then
 bif inK .i64 (remZ (b.getD (remZ (p.T.getD (↑i:Int).toNat Nos.t0).j (↑b.length:Int)).toNat (0:Int)) (200:Int) - (100:Int)) then
 bif decide ((0:Int)<=(p.T.getD (↑i:Int).toNat Nos.t0).j/\(p.T.getD (↑i:Int).toNat Nos.t0).j<(↑p.D.length:Int)) then
 bif inK .i64 (p.D.getD (p.T.getD (↑i:Int).toNat Nos.t0).j.toNat (0:Int)*(p.T.getD (↑i:Int).toNat Nos.t0).p) then
 bif inK .i64 (remZ (b.getD (remZ (p.T.getD (↑i:Int).toNat Nos.t0).j (↑b.length:Int)).toNat (0:Int)) (200:Int) - (100:Int)+p.D.getD (p.T.getD (↑i:Int).toNat Nos.t0).j.toNat (0:Int)*(p.T.getD (↑i:Int).toNat Nos.t0).p) then
 bif decide ((0:Int)<=(p.T.getD (↑i:Int).toNat Nos.t0).s/\(p.T.getD (↑i:Int).toNat Nos.t0).s<(↑16:Int)) then
 bif decide ((p.T.getD (↑i:Int).toNat Nos.t0).s.toNat*(1)<(vL v).length) then
 bif inK .i64 ((vL v).getD ((p.T.getD (↑i:Int).toNat Nos.t0).s.toNat*(1)) (0:Int)) then
 bif inK .i64 (remZ ((vL v).getD ((p.T.getD (↑i:Int).toNat Nos.t0).s.toNat*(1)) (0:Int)) (900:Int)+(remZ (b.getD (remZ (p.T.getD (↑i:Int).toNat Nos.t0).j (↑b.length:Int)).toNat (0:Int)) (200:Int) - (100:Int)+p.D.getD (p.T.getD (↑i:Int).toNat Nos.t0).j.toNat (0:Int)*(p.T.getD (↑i:Int).toNat Nos.t0).p)) then
 bif decide ((↑b.length:Int)=(0:Int)) then
 False
 else bif decide ((0:Int)<=remZ (↑i:Int) (↑b.length:Int)/\remZ (↑i:Int) (↑b.length:Int)<(↑b.length:Int)) then
 bif inK .i64 (b.getD (remZ (↑i:Int) (↑b.length:Int)).toNat (0:Int)) then
 bif inK .i64 ((2:Int)*(p.T.getD (↑i:Int).toNat Nos.t0).o) then
 bif inK .i64 ((2:Int)*(p.T.getD (↑i:Int).toNat Nos.t0).o+(1:Int)) then
 bif decide ((2:Int)*(p.T.getD (↑i:Int).toNat Nos.t0).o+(1:Int)=(0:Int)) then
 False
 else bif inK .i64 (remZ ((vL v).getD ((p.T.getD (↑i:Int).toNat Nos.t0).s.toNat*(1)) (0:Int)) (900:Int)+(remZ (b.getD (remZ (p.T.getD (↑i:Int).toNat Nos.t0).j (↑b.length:Int)).toNat (0:Int)) (200:Int) - (100:Int)+p.D.getD (p.T.getD (↑i:Int).toNat Nos.t0).j.toNat (0:Int)*(p.T.getD (↑i:Int).toNat Nos.t0).p)+remZ (b.getD (remZ (↑i:Int) (↑b.length:Int)).toNat (0:Int)) ((2:Int)*(p.T.getD (↑i:Int).toNat Nos.t0).o+(1:Int))) then
 bif inK .i64 (remZ ((vL v).getD ((p.T.getD (↑i:Int).toNat Nos.t0).s.toNat*(1)) (0:Int)) (900:Int)+(remZ (b.getD (remZ (p.T.getD (↑i:Int).toNat Nos.t0).j (↑b.length:Int)).toNat (0:Int)) (200:Int) - (100:Int)+p.D.getD (p.T.getD (↑i:Int).toNat Nos.t0).j.toNat (0:Int)*(p.T.getD (↑i:Int).toNat Nos.t0).p)+remZ (b.getD (remZ (↑i:Int) (↑b.length:Int)).toNat (0:Int)) ((2:Int)*(p.T.getD (↑i:Int).toNat Nos.t0).o+(1:Int)) - (p.T.getD (↑i:Int).toNat Nos.t0).o) then
 bif decide (remZ ((vL v).getD ((p.T.getD (↑i:Int).toNat Nos.t0).s.toNat*(1)) (0:Int)) (900:Int)+(remZ (b.getD (remZ (p.T.getD (↑i:Int).toNat Nos.t0).j (↑b.length:Int)).toNat (0:Int)) (200:Int) - (100:Int)+p.D.getD (p.T.getD (↑i:Int).toNat Nos.t0).j.toNat (0:Int)*(p.T.getD (↑i:Int).toNat Nos.t0).p)+remZ (b.getD (remZ (↑i:Int) (↑b.length:Int)).toNat (0:Int)) ((2:Int)*(p.T.getD (↑i:Int).toNat Nos.t0).o+(1:Int)) - (p.T.getD (↑i:Int).toNat Nos.t0).o<(-100000:Int)) then
 X VEx.ret [I (↑i:Int),I (↑p.T.length:Int),tlT p,VV.ptr (VA.own 3 0),VV.func (7:FuncId) [] [VV.ptr (VA.own 1 0)],VV.bool true,VV.ptr (VA.own 2 0),VV.ptr (VA.own 1 0),VV.ptr (VA.own 0 0),byD b,stD l,I m] [.cells (pnL p) 26,VB.cells (vaL v) (28:TypeId),VB.cells (tsL t) (32:TypeId),VB.cells [inD p.D,VV.sl 4 T.length,VV.nils] (26:TypeId),VB.vec T.length (Nos.tG T) 5 (38:TypeId)]
 else bif decide (remZ ((vL v).getD ((p.T.getD (↑i:Int).toNat Nos.t0).s.toNat*(1)) (0:Int)) (900:Int)+(remZ (b.getD (remZ (p.T.getD (↑i:Int).toNat Nos.t0).j (↑b.length:Int)).toNat (0:Int)) (200:Int) - (100:Int)+p.D.getD (p.T.getD (↑i:Int).toNat Nos.t0).j.toNat (0:Int)*(p.T.getD (↑i:Int).toNat Nos.t0).p)+remZ (b.getD (remZ (↑i:Int) (↑b.length:Int)).toNat (0:Int)) ((2:Int)*(p.T.getD (↑i:Int).toNat Nos.t0).o+(1:Int)) - (p.T.getD (↑i:Int).toNat Nos.t0).o > (100000:Int)) then
 X VEx.ret [I (↑i:Int),I (↑p.T.length:Int),tlT p,VV.ptr (VA.own 3 0),VV.func (7:FuncId) [] [VV.ptr (VA.own 1 0)],VV.bool true,VV.ptr (VA.own 2 0),VV.ptr (VA.own 1 0),VV.ptr (VA.own 0 0),byD b,stD l,I m] [.cells (pnL p) 26,VB.cells (vaL v) (28:TypeId),VB.cells (tsL t) (32:TypeId),VB.cells [inD p.D,VV.sl 4 T.length,VV.nils] (26:TypeId),VB.vec T.length (Nos.tG T) 5 (38:TypeId)]
 else bif T.length.beq T.length then
 bif roomB (T.length+1) (40) then
 bif inK .i64 ((↑i:Int)+(1:Int)) then
 X .normal [I ((↑i:Int)+(1:Int)),I (↑p.T.length:Int),tlT p,VV.ptr (VA.own 3 0),VV.func (7:FuncId) [] [VV.ptr (VA.own 1 0)],VV.bool false,VV.ptr (VA.own 2 0),VV.ptr (VA.own 1 0),VV.ptr (VA.own 0 0),byD b,stD l,I m] [.cells (pnL p) 26,VB.cells (vaL v) (28:TypeId),VB.cells (tsL t) (32:TypeId),VB.cells [inD p.D,VV.sl 4 (T.length+1),VV.nils] (26:TypeId),VB.vec (T.length+1) (catG T.length (Nos.tG T) fun (j:Nat)=>List.take (5) (List.drop (j*(5)) [I (p.T.getD (↑i:Int).toNat Nos.t0).j,I (p.T.getD (↑i:Int).toNat Nos.t0).s,I (p.T.getD (↑i:Int).toNat Nos.t0).p,I (remZ ((vL v).getD ((p.T.getD (↑i:Int).toNat Nos.t0).s.toNat*(1)) (0:Int)) (900:Int)+(remZ (b.getD (remZ (p.T.getD (↑i:Int).toNat Nos.t0).j (↑b.length:Int)).toNat (0:Int)) (200:Int) - (100:Int)+p.D.getD (p.T.getD (↑i:Int).toNat Nos.t0).j.toNat (0:Int)*(p.T.getD (↑i:Int).toNat Nos.t0).p)+remZ (b.getD (remZ (↑i:Int) (↑b.length:Int)).toNat (0:Int)) ((2:Int)*(p.T.getD (↑i:Int).toNat Nos.t0).o+(1:Int)) - (p.T.getD (↑i:Int).toNat Nos.t0).o),I (p.T.getD (↑i:Int).toNat Nos.t0).o])) (5) 38]
 else False
 else False
 else False
 else False
 else False
 else False
 else False
 else False
 else False
 else False
 else False
 else False
 else False
 else False
 else False
 else False
 else False
 else False
 else False
 else False
 else X (VEx.exit 0) [I (↑i:Int),I (↑p.T.length:Int),tlT p,VV.ptr (VA.own 3 0),VV.func (7:FuncId) [] [VV.ptr (VA.own 1 0)],VV.bool false,VV.ptr (VA.own 2 0),VV.ptr (VA.own 1 0),VV.ptr (VA.own 0 0),byD b,stD l,I m] [.cells (pnL p) 26,VB.cells (vaL v) (28:TypeId),VB.cells (tsL t) (32:TypeId),VB.cells [inD p.D,VV.sl 4 T.length,VV.nils] (26:TypeId),VB.vec T.length (Nos.tG T) 5 (38:TypeId)]):=by kernel_rfl
end Go.Sx.Top
namespace Go.Sx.Top
open Go Go.Sx Go.Proofs Go.ChangeShapes Go.WideShapes Go.RowKit
open Go.Sx.Bln (Stk Tst Sp stD stG stL tsL)
open Go.Sx.Nod (pnL inD dG I)
set_option maxRecDepth 1000000
theorem lv26:leavesT Try.prog 5 26=some [22,23,24]:=by kernel_rfl
theorem lv38:leavesT Try.prog 5 38=some [3,3,3,3,3]:=by kernel_rfl
theorem lv42:leavesT Try.prog 5 42=some [3,3,3]:=by kernel_rfl
theorem lv40:leavesT Try.prog 5 40=some [3,3]:=by kernel_rfl
theorem lv45:leavesT Try.prog 5 45=some [3,3,3,3,43]:=by kernel_rfl
theorem lv32:leavesT Try.prog 5 32=some [22,3,3]:=by kernel_rfl
theorem lv3:leavesT Try.prog 5 3=some [3]:=by kernel_rfl
theorem lv27:leavesT Try.prog 5 27=some [27]:=by kernel_rfl
theorem und3:Try.prog.underlying 3=some (.int .i64):=by kernel_rfl
theorem und27:Try.prog.underlying 27=some (.int .u16):=by kernel_rfl
theorem und22:Try.prog.underlying 22=some (.slice 3):=by kernel_rfl
theorem und23:Try.prog.underlying 23=some (.slice 38):=by kernel_rfl
theorem und24:Try.prog.underlying 24=some (.slice 42):=by kernel_rfl
theorem und28:Try.prog.underlying 28=some (.array 16 27):=by kernel_rfl
theorem und29:Try.prog.underlying 29=some (.slice 27):=by kernel_rfl
theorem und30:Try.prog.underlying 30=some (.slice 45):=by kernel_rfl
theorem und43:Try.prog.underlying 43=some (.slice 40):=by kernel_rfl
theorem str26:isStrB Try.prog 26=true:=by kernel_rfl
theorem str32:isStrB Try.prog 32=true:=by kernel_rfl
theorem ce3:Try.prog.cellsOf 3=1:=by kernel_rfl
theorem ce27:Try.prog.cellsOf 27=1:=by kernel_rfl
theorem ce28:Try.prog.cellsOf 28=16:=by kernel_rfl
theorem ce38:Try.prog.cellsOf 38=5:=by kernel_rfl
theorem ce40:Try.prog.cellsOf 40=2:=by kernel_rfl
theorem ce42:Try.prog.cellsOf 42=3:=by kernel_rfl
theorem ce45:Try.prog.cellsOf 45=5:=by kernel_rfl
section
variable {H:Type} {enc:TypeId × Value->H} {w:World} {base:Nat} {spare:Nat->Bool} {held:Bool} {v:Value} {fuel:Nat} {y:DataW H × List MemPlace}
theorem len1 {α:Type} {xs:List α} (h:xs.length=1):∃ a,xs=[a]:=by
 match xs,h with
 | [a],_=>exact ⟨a,rfl⟩
theorem len2 {xs:List Value} (h:xs.length=2):∃ a b,xs=[a,b]:=by
 match xs,h with
 | [a,b],_=>exact ⟨a,b,rfl⟩
theorem len3 {xs:List Value} (h:xs.length=3):∃ a b c,xs=[a,b,c]:=by
 match xs,h with
 | [a,b,c],_=>exact ⟨a,b,c,rfl⟩
theorem len5 {xs:List Value} (h:xs.length=5):∃ a b c d e,xs=[a,b,c,d,e]:=by
 match xs,h with
 | [a,b,c,d,e],_=>exact ⟨a,b,c,d,e,rfl⟩
theorem leafI {v:Value} (h:∃ m v' y,some v=some v'/\DataW.trod enc Try.prog w base spare held m 3 [v']=some y):∃ n:Int,v=.int .i64 n:=by
 obtain ⟨m,v',y,e,h⟩:=h
 cases e
 obtain ⟨n,rfl,_⟩:=leaf_int und3 h
 exact ⟨n,rfl⟩
theorem ints_rd (h:DataW.trod enc Try.prog w base spare held fuel 22 [v]=some y):∃ D:List Int,VRel (dataR w) (inD D) v:=by
 obtain ⟨l,hl⟩:=read_list (α:=Int) (f:=fun n=>[I n]) (d0:=0) und22 lv3 ce3 (by decide) (fun _=>rfl) (fun xs hx hc=>by
  obtain ⟨a,rfl⟩:=len1 hx
  obtain ⟨n,rfl⟩:=leafI (hc 0 3 rfl)
  exact ⟨n,_,_,rfl,rfl,rfl⟩) h
 exact ⟨l,hl⟩
theorem tast_rd (h:DataW.trod enc Try.prog w base spare held fuel 23 [v]=some y):∃ T:List Nos.Ts,VRel (dataR w) (tlT ⟨[],T,[]⟩) v:=by
 obtain ⟨l,hl⟩:=read_list (α:=Nos.Ts) (f:=Nos.tsL) (d0:=Nos.t0) und23 lv38 ce38 (by decide) (fun _=>rfl) (fun xs hx hc=>by
  obtain ⟨a,b,c,d,e,rfl⟩:=len5 hx
  obtain ⟨n1,rfl⟩:=leafI (hc 0 3 rfl)
  obtain ⟨n2,rfl⟩:=leafI (hc 1 3 rfl)
  obtain ⟨n3,rfl⟩:=leafI (hc 2 3 rfl)
  obtain ⟨n4,rfl⟩:=leafI (hc 3 3 rfl)
  obtain ⟨n5,rfl⟩:=leafI (hc 4 3 rfl)
  exact ⟨⟨n1,n2,n3,n4,n5⟩,_,_,rfl,⟨_,_,rfl,⟨_,_,rfl,⟨_,_,rfl,⟨_,_,rfl,rfl,rfl⟩,rfl⟩,rfl⟩,rfl⟩,rfl⟩) h
 exact ⟨l,hl⟩
theorem stan_rd (h:DataW.trod enc Try.prog w base spare held fuel 24 [v]=some y):∃ S:List Nos.Sd,VRel (dataR w) (tlS ⟨[],[],S⟩) v:=by
 obtain ⟨l,hl⟩:=read_list (α:=Nos.Sd) (f:=Nos.sdL) (d0:=Nos.s0) und24 lv42 ce42 (by decide) (fun _=>rfl) (fun xs hx hc=>by
  obtain ⟨a,b,c,rfl⟩:=len3 hx
  obtain ⟨n1,rfl⟩:=leafI (hc 0 3 rfl)
  obtain ⟨n2,rfl⟩:=leafI (hc 1 3 rfl)
  obtain ⟨n3,rfl⟩:=leafI (hc 2 3 rfl)
  exact ⟨⟨n1,n2,n3⟩,_,_,rfl,⟨_,_,rfl,⟨_,_,rfl,rfl,rfl⟩,rfl⟩,rfl⟩) h
 exact ⟨l,hl⟩
theorem spans_rd (h:DataW.trod enc Try.prog w base spare held fuel 43 [v]=some y):∃ D:List Sp,VRel (dataR w) (Bln.spD D) v:=by
 obtain ⟨l,hl⟩:=read_list (α:=Sp) (f:=fun s=>[I s.lo,I s.hi]) (d0:=Bln.s0) und43 lv40 ce40 (by decide) (fun _=>rfl) (fun xs hx hc=>by
  obtain ⟨a,b,rfl⟩:=len2 hx
  obtain ⟨n,rfl⟩:=leafI (hc 0 3 rfl)
  obtain ⟨m,rfl⟩:=leafI (hc 1 3 rfl)
  exact ⟨⟨n,m⟩,_,_,rfl,⟨_,_,rfl,rfl,rfl⟩,rfl⟩) h
 exact ⟨l,hl⟩
theorem stocks_rd (h:DataW.trod enc Try.prog w base spare held fuel 30 [v]=some y):∃ l:List Stk,VRel (dataR w) (stD l) v:=by
 obtain ⟨l,hl⟩:=read_list (α:=Stk) (f:=stL) (d0:=Bln.k0) und30 lv45 ce45 (by decide) (fun _=>rfl) (fun xs hx hc=>by
  obtain ⟨a,b,c,d,e,rfl⟩:=len5 hx
  obtain ⟨n1,rfl⟩:=leafI (hc 0 3 rfl)
  obtain ⟨n2,rfl⟩:=leafI (hc 1 3 rfl)
  obtain ⟨n3,rfl⟩:=leafI (hc 2 3 rfl)
  obtain ⟨n4,rfl⟩:=leafI (hc 3 3 rfl)
  obtain ⟨m,v',y,e5,h5⟩:=hc 4 43 rfl
  cases e5
  obtain ⟨D,hD⟩:=spans_rd h5
  exact ⟨⟨n1,n2,n3,n4,D⟩,_,_,rfl,⟨_,_,rfl,⟨_,_,rfl,⟨_,_,rfl,⟨_,_,hD,rfl,rfl⟩,rfl⟩,rfl⟩,rfl⟩,rfl⟩) h
 exact ⟨l,hl⟩
variable {b0:Nat} {d:DataW H} {p:List MemPlace}
theorem stocks_in (s:Value.okWide Try.prog w .any b0 30 v) (h:DataW.Trod enc Try.prog w base spare held 30 v d p):∃ l:List Stk,VRel (dataR w) (stD l) v:=by
 obtain ⟨_,_,h⟩:=open_list und30 s h
 exact stocks_rd h
theorem taste_in (s:Value.okWide Try.prog w .any b0 32 v) (h:DataW.Trod enc Try.prog w base spare held 32 v d p):∃ t:Tst,VRel (dataR w) (.agg (tsL t)) v:=by
 obtain ⟨xs,rfl,hl,hc⟩:=open_agg str32 lv32 s h
 obtain ⟨a,b,c,rfl⟩:=len3 hl
 obtain ⟨m,v',y,e5,h5⟩:=hc 0 22 rfl
 cases e5
 obtain ⟨D,hD⟩:=ints_rd h5
 obtain ⟨n1,rfl⟩:=leafI (hc 1 3 rfl)
 obtain ⟨n2,rfl⟩:=leafI (hc 2 3 rfl)
 exact ⟨⟨D,n1,n2⟩,_,⟨_,_,hD,⟨_,_,rfl,⟨_,_,rfl,rfl,rfl⟩,rfl⟩,rfl⟩,rfl⟩
theorem panel_in (s:Value.okWide Try.prog w .any b0 26 v) (h:DataW.Trod enc Try.prog w base spare held 26 v d p):∃ q:Nos.Pn,VRel (dataR w) (.agg (pnL q)) v:=by
 obtain ⟨xs,rfl,hl,hc⟩:=open_agg str26 lv26 s h
 obtain ⟨a,b,c,rfl⟩:=len3 hl
 obtain ⟨_,_,_,e1,h1⟩:=hc 0 22 rfl
 obtain ⟨_,_,_,e2,h2⟩:=hc 1 23 rfl
 obtain ⟨_,_,_,e3,h3⟩:=hc 2 24 rfl
 cases e1; cases e2; cases e3
 obtain ⟨D,hD⟩:=ints_rd h1
 obtain ⟨T,hT⟩:=tast_rd h2
 obtain ⟨S,hS⟩:=stan_rd h3
 exact ⟨⟨D,T,S⟩,_,⟨_,_,hD,⟨_,_,hT,⟨_,_,hS,rfl,rfl⟩,rfl⟩,rfl⟩,rfl⟩
theorem u16_range {n:Int} (h:(Lit.int .u16 n).wf=true):0<=n/\n<=65535:=by
 have h':(decide ((0:Int)<=n) && decide (n<=65535))=true:=h
 simpa using h'
theorem getD_u16 {l:List Int} (h:∀ x ∈ l,0<=x/\x<=65535) (i:Nat):0<=l.getD i 0/\l.getD i 0<=65535:=by
 rw [List.getD_eq_getElem?_getD]
 by_cases hi:i<l.length
 ·rw [List.getElem?_eq_getElem hi]; exact h _ (List.getElem_mem hi)
 ·rw [List.getElem?_eq_none (by omega)]
  show (0:Int)<=0/\(0:Int)<=65535
  omega
def d1 (l:List Int):Int:=l.getD 0 0
theorem by_in (s:Value.okWide Try.prog w .any b0 29 v) (h:DataW.Trod enc Try.prog w base spare held 29 v d p):∃ B:List Int,VRel (dataR w) (byD B) v/\∀ i,0<=B.getD i 0/\B.getD i 0<=65535:=by
 obtain ⟨_,_,h⟩:=open_list und29 s h
 obtain ⟨l,cap,q,h1,_,h3⟩:=rows_in und29 lv27 ce27 (by decide) (fun u hu=>by
  rw [List.mem_singleton.1 hu]; exact und27) h
 have hg:∀ j,j<l.length->[VV.int .u16 ((l.map d1).getD j 0)]=(l.getD j []).map (VV.int .u16):=fun j hj=>by
  have hm:l.getD j [] ∈ l:=by rw [List.getD_eq_getElem?_getD,List.getElem?_eq_getElem hj]; exact List.getElem_mem hj
  obtain ⟨a,ha⟩:=len1 (h3 _ hm).1
  have e:(l.map d1).getD j 0=d1 (l.getD j []):=by simp [List.getD_eq_getElem?_getD,hj]
  rw [e,ha]
  rfl
 refine ⟨l.map d1,?_,getD_u16 fun x hx=>?_⟩
 ·have h2:=rowIn_tl h1 (by decide) (fun j hj=>by rw [<- hg j hj]; rfl)
  unfold byD
  rw [List.length_map]
  exact tl_congr (fun j hj=>(hg j hj).symm) h2
 ·obtain ⟨z,hz,rfl⟩:=List.mem_map.1 hx
  obtain ⟨a,rfl⟩:=len1 (h3 z hz).1
  exact u16_range ((h3 _ hz).2 a (by simp))
def intOf:Value->Int
 | .int _ n=>n
 | _=>0
theorem okWide_arr {r:Go.Reach} {t e:TypeId} {n:Nat} (ht:Try.prog.underlying t=some (.array n e)) (h:Value.okWide Try.prog w r b0 t v):∃ cs,v=.agg cs:=by
 unfold Value.okWide at h
 rw [ht] at h
 obtain ⟨cs,h1,_⟩:=h
 exact ⟨cs,h1⟩
theorem len16 {l:List Int} (h:l.length=16):vaL (fun i=>l.getD i 0)=l.map (VV.int .u16):=by
 match l,h with
 | [a,b,c,d,e,f,g,i,a',b',c',d',e',f',g',i'],_=>rfl
theorem vals_in (s:Value.okWide Try.prog w .any b0 28 v) (h:DataW.Trod enc Try.prog w base spare held 28 v d p):∃ u:Nat->Int,VRel (dataR w) (.agg (vaL u)) v/\∀ i,0<=u i/\u i<=65535:=by
 obtain ⟨cs,rfl⟩:=okWide_arr und28 s
 obtain ⟨fuel,hd⟩:=h
 obtain ⟨xs,m',_,_,hl,hxl,hg⟩:=DataW.trod_array und28 hd
 have hcs:(Value.agg cs).cells.toList=cs.toList:=rfl
 rw [hcs] at hl hg
 rw [ce28] at hl
 have key:∀ i,i<16->∃ z,cs.toList[i]? = some (.int .u16 z)/\(Lit.int .u16 z).wf=true:=by
  intro i hi
  have h2:=hg i hi
  rw [ce27,Nat.mul_one] at h2
  have hc:(cs.toList.drop i).take 1=[cs.toList[i]'(by omega)]:=by
   rw [List.drop_eq_getElem_cons (by omega)]
   rfl
  rw [hc,List.getElem?_eq_getElem (by omega)] at h2
  obtain ⟨z,hz,hw⟩:=leaf_int und27 h2
  exact ⟨z,by rw [List.getElem?_eq_getElem (by omega),hz],hw⟩
 have h1:cs.toList=(cs.toList.map intOf).map (Value.int .u16):=by
  rw [List.map_map]
  refine (List.map_id cs.toList).symm.trans (List.map_congr_left fun a ha=>?_)
  obtain ⟨i,hi,rfl⟩:=List.mem_iff_getElem.1 ha
  obtain ⟨z,hz,_⟩:=key i (by omega)
  rw [List.getElem?_eq_getElem hi] at hz
  have hz:=Option.some.inj hz
  rw [hz]
  rfl
 have hb:∀ x ∈ cs.toList.map intOf,0<=x/\x<=65535:=fun x hx=>by
  obtain ⟨a,ha,rfl⟩:=List.mem_map.1 hx
  obtain ⟨i,hi,rfl⟩:=List.mem_iff_getElem.1 ha
  obtain ⟨z,hz,hw⟩:=key i (by omega)
  rw [List.getElem?_eq_getElem hi] at hz
  have hz:=Option.some.inj hz
  rw [hz]
  exact u16_range hw
 refine ⟨fun i=>(cs.toList.map intOf).getD i 0,⟨cs.toList,?_,by rw [Array.toArray_toList]⟩,fun i=>getD_u16 hb i⟩
 rw [len16 (by rw [List.length_map,hl])]
 have:=rel_ints (R:=dataR w) (k:=.u16) (cs.toList.map intOf)
 rw [<- h1] at this
 exact this
end
end Go.Sx.Top
namespace Go.Sx.Top
open Go Go.Sx Go.Proofs
open Go.Sx.Nod (pnL inD dG I rpR)
open Go.Sx.Bln (Stk Tst stD stG tsL rtT)
set_option maxRecDepth 1000000
def ds2:List Nat:=146::145::144::dsA
def bl2 (p:Nos.Pn) (v:Nat->Int) (t:Tst) (q:Nos.Pn):List VB:=blA p v t ++ [.cells [inD p.D,.sl 4 q.T.length,.sl 5 q.S.length] 26,.vec q.T.length (Nos.tG q.T) 5 38,.vec q.S.length (Nos.sG q.S) 3 42]
theorem r2_ev (p:Nos.Pn) (v:Nat->Int) (b:List Int) (l:List Stk) (t:Tst) (m:Int) (i:Nat) (q:Nos.Pn) (X:VEx->List VV->List VB->Prop):codeE Try.prog (callN Try.prog (tabS [awR]) noL 10 20) (fun _=>none) true 10 (ntOf Try.prog 3) 0 (loopB 2 (bodyOf Try.prog 3)) (ds2.zip (I i::I p.S.length::tlS p::tmA b l m)) ⟨6,[0,1,2,3,4,5].zip (bl2 p v t q)⟩ (obs 6 ds2 [0,1,2,3,4,5] X) =
 (bif decide ((↑i:Int)<(↑p.S.length:Int)) then
 bif decide ((0:Int)<=(↑i:Int)/\(↑i:Int)<(↑p.S.length:Int)) then
 bif decide ((0:Int)<=(p.S.getD (↑i:Int).toNat Nos.s0).s/\(p.S.getD (↑i:Int).toNat Nos.s0).s<(↑16:Int)) then
 bif decide ((p.S.getD (↑i:Int).toNat Nos.s0).s.toNat*(1)<(vL v).length) then
 bif inK .i64 ((vL v).getD ((p.S.getD (↑i:Int).toNat Nos.s0).s.toNat*(1)) (0:Int)) then
 bif decide ((0:Int)<=(0:Int)/\(0:Int)<(↑b.length:Int)) then
 bif inK .i64 (b.getD (Int.toNat (0:Int)) (0:Int)) then
 bif inK .i64 (remZ ((vL v).getD ((p.S.getD (↑i:Int).toNat Nos.s0).s.toNat*(1)) (0:Int)) (900:Int) - remZ (b.getD (Int.toNat (0:Int)) (0:Int)) (9:Int)) then
 bif decide ((0:Int)<=(0:Int)/\(0:Int)<(↑b.length:Int)) then
 bif inK .i64 (b.getD (Int.toNat (0:Int)) (0:Int)) then
 bif inK .i64 (remZ ((vL v).getD ((p.S.getD (↑i:Int).toNat Nos.s0).s.toNat*(1)) (0:Int)) (900:Int)+remZ (b.getD (Int.toNat (0:Int)) (0:Int)) (7:Int)) then
 bif q.S.length.beq q.S.length then
 bif roomB (q.S.length+1) (24) then
 bif inK .i64 ((↑i:Int)+(1:Int)) then
 X .normal [I ((↑i:Int)+(1:Int)),I (↑p.S.length:Int),tlS p,VV.ptr (VA.own 3 0),VV.func (7:FuncId) [] [VV.ptr (VA.own 1 0)],VV.bool false,VV.ptr (VA.own 2 0),VV.ptr (VA.own 1 0),VV.ptr (VA.own 0 0),byD b,stD l,I m] [.cells (pnL p) 26,VB.cells (vaL v) (28:TypeId),VB.cells (tsL t) (32:TypeId),VB.cells [inD p.D,VV.sl 4 q.T.length,VV.sl 5 (q.S.length+1)] (26:TypeId),VB.vec q.T.length (Nos.tG q.T) 5 (38:TypeId),VB.vec (q.S.length+1) (catG q.S.length (Nos.sG q.S) fun (j:Nat)=>List.take (3) (List.drop (j*(3)) [I (p.S.getD (↑i:Int).toNat Nos.s0).s,I (remZ ((vL v).getD ((p.S.getD (↑i:Int).toNat Nos.s0).s.toNat*(1)) (0:Int)) (900:Int) - remZ (b.getD (Int.toNat (0:Int)) (0:Int)) (9:Int)),I (remZ ((vL v).getD ((p.S.getD (↑i:Int).toNat Nos.s0).s.toNat*(1)) (0:Int)) (900:Int)+remZ (b.getD (Int.toNat (0:Int)) (0:Int)) (7:Int))])) (3) 42]
 else False
 else False
 else False
 else False
 else False
 else False
 else False
 else False
 else False
 else False
 else False
 else False
 else False
 else X (VEx.exit 2) [I (↑i:Int),I (↑p.S.length:Int),tlS p,VV.ptr (VA.own 3 0),VV.func (7:FuncId) [] [VV.ptr (VA.own 1 0)],VV.bool false,VV.ptr (VA.own 2 0),VV.ptr (VA.own 1 0),VV.ptr (VA.own 0 0),byD b,stD l,I m] [.cells (pnL p) 26,VB.cells (vaL v) (28:TypeId),VB.cells (tsL t) (32:TypeId),VB.cells [inD p.D,VV.sl 4 q.T.length,VV.sl 5 q.S.length] (26:TypeId),VB.vec q.T.length (Nos.tG q.T) 5 (38:TypeId),VB.vec q.S.length (Nos.sG q.S) 3 (42:TypeId)]):=by kernel_rfl
def ds4:List Nat:=180::179::178::22::dsA
def bl4 (p:Nos.Pn) (v:Nat->Int) (t:Tst) (q:Nos.Pn) (N:Nat) (g:Nat->List VV):List VB:=bl2 p v t q ++ [.vec N g 5 45]
noncomputable def vaR (q:Nos.Pn):FuncId × Spec1:=(8,fun _ args h K=>match args with
 | [.agg [d,t,s],.int .i64 i]=>Nos.pnIs h q d t s/\Nos.n64 i/\∀ r:Int × Int × Int,r=Nos.valF q i->K (.ret (Nos.spV r)) h
 | _=>False)
theorem r4_ev (p:Nos.Pn) (v:Nat->Int) (b:List Int) (l:List Stk) (t:Tst) (m:Int) (i:Nat) (q:Nos.Pn) (N:Nat) (g:Nat->List VV) (X:VEx->List VV->List VB->Prop):codeE Try.prog (callN Try.prog (tabS [awR,vaR q]) noL 10 20) (fun _=>none) true 10 (ntOf Try.prog 3) 0 (loopB 4 (bodyOf Try.prog 3)) (ds4.zip (I i::I l.length::stD l::.sl 6 N::tmA b l m)) ⟨7,[0,1,2,3,4,5,6].zip (bl4 p v t q N g)⟩ (obs 7 ds4 [0,1,2,3,4,5,6] X) =
 (bif decide ((↑i:Int)<(↑l.length:Int)) then
 bif decide ((0:Int)<=(↑i:Int)/\(↑i:Int)<(↑l.length:Int)) then
 Nos.pnIs (VH.mk (8) ((7,VB.cells [I (l.getD (↑i:Int).toNat Bln.k0).casks,I (l.getD (↑i:Int).toNat Bln.k0).vol,I (l.getD (↑i:Int).toNat Bln.k0).age,I (l.getD (↑i:Int).toNat Bln.k0).cost,VV.tl (l.getD (↑i:Int).toNat Bln.k0).prof.length 2 (Bln.spG (l.getD (↑i:Int).toNat Bln.k0).prof)] 45)::(7,VB.cells [I 0,I 0,I 0,I 0,VV.nils] 45)::[0,1,2,3,4,5,6].zip (bl4 p v t q N g))) q (inD p.D) (VV.sl 4 q.T.length) (VV.sl 5 q.S.length)/\Nos.n64 (↑i:Int)/\∀ (r:Int × Int × Int),r=Nos.valF q (↑i:Int)->bif decide (r.snd.snd=(6:Int)) then
 X VEx.ret [I (↑i:Int),I (↑l.length:Int),stD l,VV.sl 6 N,VV.ptr (VA.own 3 0),VV.func (7:FuncId) [] [VV.ptr (VA.own 1 0)],VV.bool false,VV.ptr (VA.own 2 0),VV.ptr (VA.own 1 0),VV.ptr (VA.own 0 0),byD b,stD l,I m] [.cells (pnL p) 26,VB.cells (vaL v) (28:TypeId),VB.cells (tsL t) (32:TypeId),VB.cells [inD p.D,VV.sl 4 q.T.length,VV.sl 5 q.S.length] (26:TypeId),VB.vec q.T.length (Nos.tG q.T) 5 (38:TypeId),VB.vec q.S.length (Nos.sG q.S) 3 (42:TypeId),VB.vec N g 5 (45:TypeId)]
 else bif !decide (r.snd.snd=(0:Int)) then
 X VEx.ret [I (↑i:Int),I (↑l.length:Int),stD l,VV.sl 6 N,VV.ptr (VA.own 3 0),VV.func (7:FuncId) [] [VV.ptr (VA.own 1 0)],VV.bool true,VV.ptr (VA.own 2 0),VV.ptr (VA.own 1 0),VV.ptr (VA.own 0 0),byD b,stD l,I m] [.cells (pnL p) 26,VB.cells (vaL v) (28:TypeId),VB.cells (tsL t) (32:TypeId),VB.cells [inD p.D,VV.sl 4 q.T.length,VV.sl 5 q.S.length] (26:TypeId),VB.vec q.T.length (Nos.tG q.T) 5 (38:TypeId),VB.vec q.S.length (Nos.sG q.S) 3 (42:TypeId),VB.vec N g 5 (45:TypeId)]
 else bif decide ((0:Int)<=(↑i:Int)/\(↑i:Int)<(↑16:Int)) then
 bif decide ((↑i:Int).toNat*(1)<(vL v).length) then
 bif inK .i64 ((vL v).getD ((↑i:Int).toNat*(1)) (0:Int)) then
 bif decide (r.fst > remZ ((vL v).getD ((↑i:Int).toNat*(1)) (0:Int)) (900:Int)) then
 X VEx.ret [I (↑i:Int),I (↑l.length:Int),stD l,VV.sl 6 N,VV.ptr (VA.own 3 0),VV.func (7:FuncId) [] [VV.ptr (VA.own 1 0)],VV.bool false,VV.ptr (VA.own 2 0),VV.ptr (VA.own 1 0),VV.ptr (VA.own 0 0),byD b,stD l,I m] [.cells (pnL p) 26,VB.cells (vaL v) (28:TypeId),VB.cells (tsL t) (32:TypeId),VB.cells [inD p.D,VV.sl 4 q.T.length,VV.sl 5 q.S.length] (26:TypeId),VB.vec q.T.length (Nos.tG q.T) 5 (38:TypeId),VB.vec q.S.length (Nos.sG q.S) 3 (42:TypeId),VB.vec N g 5 (45:TypeId)]
 else bif decide ((0:Int)<=(↑i:Int)/\(↑i:Int)<(↑16:Int)) then
 bif decide ((↑i:Int).toNat*(1)<(vL v).length) then
 bif inK .i64 ((vL v).getD ((↑i:Int).toNat*(1)) (0:Int)) then
 bif decide (r.snd.fst<remZ ((vL v).getD ((↑i:Int).toNat*(1)) (0:Int)) (900:Int)) then
 X VEx.ret [I (↑i:Int),I (↑l.length:Int),stD l,VV.sl 6 N,VV.ptr (VA.own 3 0),VV.func (7:FuncId) [] [VV.ptr (VA.own 1 0)],VV.bool false,VV.ptr (VA.own 2 0),VV.ptr (VA.own 1 0),VV.ptr (VA.own 0 0),byD b,stD l,I m] [.cells (pnL p) 26,VB.cells (vaL v) (28:TypeId),VB.cells (tsL t) (32:TypeId),VB.cells [inD p.D,VV.sl 4 q.T.length,VV.sl 5 q.S.length] (26:TypeId),VB.vec q.T.length (Nos.tG q.T) 5 (38:TypeId),VB.vec q.S.length (Nos.sG q.S) 3 (42:TypeId),VB.vec N g 5 (45:TypeId)]
 else bif N.beq N then
 bif roomB (N+1) (56) then
 bif inK .i64 ((↑i:Int)+(1:Int)) then
 X .normal [I ((↑i:Int)+(1:Int)),I (↑l.length:Int),stD l,VV.sl 6 (N+1),VV.ptr (VA.own 3 0),VV.func (7:FuncId) [] [VV.ptr (VA.own 1 0)],VV.bool false,VV.ptr (VA.own 2 0),VV.ptr (VA.own 1 0),VV.ptr (VA.own 0 0),byD b,stD l,I m] [.cells (pnL p) 26,VB.cells (vaL v) (28:TypeId),VB.cells (tsL t) (32:TypeId),VB.cells [inD p.D,VV.sl 4 q.T.length,VV.sl 5 q.S.length] (26:TypeId),VB.vec q.T.length (Nos.tG q.T) 5 (38:TypeId),VB.vec q.S.length (Nos.sG q.S) 3 (42:TypeId),VB.vec (N+1) (catG N g fun (j:Nat)=>List.take (5) (List.drop (j*(5)) (List.take (1*(5)) (List.drop 0 [I (max (0:Int) (min (3:Int) (l.getD (↑i:Int).toNat Bln.k0).casks)),I (l.getD (↑i:Int).toNat Bln.k0).vol,I (l.getD (↑i:Int).toNat Bln.k0).age,I (l.getD (↑i:Int).toNat Bln.k0).cost,VV.tl 1 (2) fun (j:Nat)=>List.take (2) (List.drop (j*(2)) [I (max (0:Int) r.fst),I (min (1000:Int) r.snd.fst)])])))) (5) 45]
 else False
 else False
 else False
 else False
 else False
 else False
 else False
 else False
 else False
 else False
 else X (VEx.exit 4) [I (↑i:Int),I (↑l.length:Int),stD l,VV.sl 6 N,VV.ptr (VA.own 3 0),VV.func (7:FuncId) [] [VV.ptr (VA.own 1 0)],VV.bool false,VV.ptr (VA.own 2 0),VV.ptr (VA.own 1 0),VV.ptr (VA.own 0 0),byD b,stD l,I m] [.cells (pnL p) 26,VB.cells (vaL v) (28:TypeId),VB.cells (tsL t) (32:TypeId),VB.cells [inD p.D,VV.sl 4 q.T.length,VV.sl 5 q.S.length] (26:TypeId),VB.vec q.T.length (Nos.tG q.T) 5 (38:TypeId),VB.vec q.S.length (Nos.sG q.S) 3 (42:TypeId),VB.vec N g 5 (45:TypeId)]):=by kernel_rfl
end Go.Sx.Top
namespace Go.Sx.Top
open Go Go.Sx Go.Proofs
open Go.Sx.Nod (pnL inD dG I rpR)
open Go.Sx.Bln (Stk Tst stD stG tsL rtT)
set_option maxRecDepth 1000000
def tr (v:Nat->Int) (s:Int):Int:=remZ ((vL v).getD (s.toNat*1) 0) 900
def biT (p:Nos.Pn) (b:List Int) (j t:Int):Int:=remZ (b.getD (remZ j b.length).toNat 0) 200 - 100+p.D.getD j.toNat 0*t
def sc (p:Nos.Pn) (v:Nat->Int) (b:List Int) (i:Nat) (t:Nos.Ts):Int:=tr v t.s+biT p b t.j t.p+remZ (b.getD (remZ i b.length).toNat 0) (2*t.o+1) - t.o
def qt (p:Nos.Pn) (v:Nat->Int) (b:List Int) (i:Nat):Nos.Ts:=⟨(p.T.getD i Nos.t0).j,(p.T.getD i Nos.t0).s,(p.T.getD i Nos.t0).p,sc p v b i (p.T.getD i Nos.t0),(p.T.getD i Nos.t0).o⟩
def qs (p:Nos.Pn) (v:Nat->Int) (b:List Int) (i:Nat):Nos.Sd:=⟨(p.S.getD i Nos.s0).s,tr v (p.S.getD i Nos.s0).s - remZ (b.getD 0 0) 9,tr v (p.S.getD i Nos.s0).s+remZ (b.getD 0 0) 7⟩
def qT (p:Nos.Pn) (v:Nat->Int) (b:List Int) (k:Nat):List Nos.Ts:=(List.range k).map (qt p v b)
def qS (p:Nos.Pn) (v:Nat->Int) (b:List Int) (k:Nat):List Nos.Sd:=(List.range k).map (qs p v b)
def qP (p:Nos.Pn) (v:Nat->Int) (b:List Int):Nos.Pn:=⟨p.D,qT p v b p.T.length,qS p v b p.S.length⟩
def scOk (p:Nos.Pn) (v:Nat->Int) (b:List Int) (k:Nat):Prop:=∀ i,i<k->-100000<=(qt p v b i).c/\(qt p v b i).c<=100000
noncomputable def sk (q:Nos.Pn) (l:List Stk) (i:Nat):Stk:=⟨max 0 (min 3 (l.getD i Bln.k0).casks),(l.getD i Bln.k0).vol,(l.getD i Bln.k0).age,(l.getD i Bln.k0).cost,[⟨max 0 (Nos.valF q i).1,min 1000 (Nos.valF q i).2.1⟩]⟩
noncomputable def skL (q:Nos.Pn) (l:List Stk) (k:Nat):List Stk:=(List.range k).map (sk q l)
def vaOk (q:Nos.Pn) (k:Nat):Prop:=∀ i:Nat,i<k->(Nos.valF q i).2.2=0
structure Ar (p:Nos.Pn) (v:Nat->Int) (b:List Int) (l:List Stk):Prop where
 hp:Nos.PnOk p
 hT:p.T.length<=16
 hl:l.length<=4
 hb:0<b.length
 bb:∀ i,0<=b.getD i 0/\b.getD i 0<=65535
 vb:∀ i,0<=v i/\v i<=65535
def tmT (b:List Int) (l:List Stk) (m:Int):List VV:=[.ptr (.own 3 0),.func 7 [] [.ptr (.own 1 0)],.bool true,.ptr (.own 2 0),.ptr (.own 1 0),.ptr (.own 0 0),byD b,stD l,I m]
def lA0 (p:Nos.Pn) (v:Nat->Int) (b:List Int) (l:List Stk) (t:Tst) (m:Int):LT:=fun lock tt h K=>
 FitP lock h tt ⟨4,[0,1,2,3].zip (blA p v t ++ [.cells [inD p.D,.nils,.nils] 26])⟩ (ds0.zip (I 0::I p.T.length::tlT p::tmA b l m))/\Ar p v b l /\
  (scOk p v b p.T.length->∀ T,T=qT p v b p.T.length->K .normal (ds0.zip (I p.T.length::I p.T.length::tlT p::tmA b l m)) ⟨5,[0,1,2,3,4].zip (bl0 p v t T)⟩) /\
  ∀ (i:Nat) T,K .ret (ds0.zip (I i::I p.T.length::tlT p::tmT b l m)) ⟨5,[0,1,2,3,4].zip (bl0 p v t T)⟩
def lA2 (p:Nos.Pn) (v:Nat->Int) (b:List Int) (l:List Stk) (t:Tst) (m:Int):LT:=fun lock tt h K=>∃ T:List Nos.Ts,
 FitP lock h tt ⟨5,[0,1,2,3,4].zip (bl0 p v t T)⟩ (ds2.zip (I 0::I p.S.length::tlS p::tmA b l m))/\(Ar p v b l/\T=qT p v b p.T.length) /\
  ∀ q,q=qP p v b->K .normal (ds2.zip (I p.S.length::I p.S.length::tlS p::tmA b l m)) ⟨6,[0,1,2,3,4,5].zip (bl2 p v t q)⟩
noncomputable def lA4 (p:Nos.Pn) (v:Nat->Int) (b:List Int) (l:List Stk) (t:Tst) (m:Int):LT:=fun lock tt h K=>∃ q:Nos.Pn,
 FitP lock h tt ⟨6,[0,1,2,3,4,5].zip (bl2 p v t q)⟩ (ds4.zip (I 0::I l.length::stD l::.nils::tmA b l m))/\(Ar p v b l/\q=qP p v b/\scOk p v b p.T.length) /\
  (vaOk q l.length->∀ L,L=skL q l l.length->K .normal (ds4.zip (I l.length::I l.length::stD l::stD L::tmA b l m)) ⟨7,[0,1,2,3,4,5].zip (bl2 p v t q)⟩) /\
  ∀ (i N:Nat) ,K .ret ((180::179::178::dsA).zip (I i::I l.length::stD l::tmT b l m)) ⟨7,[0,1,2,3,4,5].zip (bl2 p v t q)⟩
noncomputable def chR (t:Tst):FuncId × Spec1:=(9,fun _ args h K=>match args with
 | [x,z,.int .i64 y,.int .i64 m]=>∃ L:List Stk,x=stD L/\z=.agg (tsL t)/\(∀ e:Int,e ≠ 0->e=Bln.chpE L t y m->K (Bln.rErr e) h)/\(Bln.chpE L t y m=0->∀ c,Bln.chpF L t y m=some c->∀ C:List Int,C=(List.range L.length).map c->K (.ret (.tup [inD C,I (Bln.costF L c),I 0])) h)
 | _=>False)
def ds6:List Nat:=[247,246,245,31,30,27,13,12,10,5]
def V6 (L:List Stk) (C:List Int) (m:Int) (i vo su:Int):List VV:=[I i,I L.length,stD L,I vo,I su,inD C,.func 7 [] [.ptr (.own 1 0)],.bool false,.ptr (.own 2 0),I m]
def bl6 (v:Nat->Int) (t:Tst):List VB:=[.cells (vaL v) 28,.cells (tsL t) 32]
theorem r6_ev (v:Nat->Int) (L:List Stk) (C:List Int) (t:Tst) (m:Int) (i:Nat) (vo su:Int) (X:VEx->List VV->List VB->Prop):codeE Try.prog (callN Try.prog noSpec noL 10 20) (fun _=>none) true 10 (ntOf Try.prog 3) 0 (loopB 6 (bodyOf Try.prog 3)) (ds6.zip (V6 L C m i vo su)) ⟨7,[1,2].zip (bl6 v t)⟩ (obs 7 ds6 [1,2] X) =
 (bif decide ((↑i:Int)<(↑L.length:Int)) then
 bif decide ((0:Int)<=(↑i:Int)/\(↑i:Int)<(↑L.length:Int)) then
 bif decide ((0:Int)<=(↑i:Int)/\(↑i:Int)<(↑C.length:Int)) then
 bif inK .i64 (C.getD (↑i:Int).toNat (0:Int)*(L.getD (↑i:Int).toNat Bln.k0).vol) then
 bif decide ((0:Int)<=(↑i:Int)/\(↑i:Int)<(↑16:Int)) then
 bif decide ((↑i:Int).toNat*(1)<(vL v).length) then
 bif inK .i64 ((vL v).getD ((↑i:Int).toNat*(1)) (0:Int)) then
 bif inK .i64 (C.getD (↑i:Int).toNat (0:Int)*(L.getD (↑i:Int).toNat Bln.k0).vol*remZ ((vL v).getD ((↑i:Int).toNat*(1)) (0:Int)) (900:Int)) then
 bif inK .i64 (su+C.getD (↑i:Int).toNat (0:Int)*(L.getD (↑i:Int).toNat Bln.k0).vol*remZ ((vL v).getD ((↑i:Int).toNat*(1)) (0:Int)) (900:Int)) then
 bif decide ((0:Int)<=(↑i:Int)/\(↑i:Int)<(↑C.length:Int)) then
 bif inK .i64 (C.getD (↑i:Int).toNat (0:Int)*(L.getD (↑i:Int).toNat Bln.k0).vol) then
 bif inK .i64 (vo+C.getD (↑i:Int).toNat (0:Int)*(L.getD (↑i:Int).toNat Bln.k0).vol) then
 bif inK .i64 ((↑i:Int)+(1:Int)) then
 X .normal [I ((↑i:Int)+(1:Int)),I (↑L.length:Int),VV.tl L.length 5 (stG L),I (vo+C.getD (↑i:Int).toNat (0:Int)*(L.getD (↑i:Int).toNat Bln.k0).vol),I (su+C.getD (↑i:Int).toNat (0:Int)*(L.getD (↑i:Int).toNat Bln.k0).vol*remZ ((vL v).getD ((↑i:Int).toNat*(1)) (0:Int)) (900:Int)),VV.tl C.length 1 (dG C),VV.func (7:FuncId) [] [VV.ptr (VA.own 1 0)],VV.bool false,VV.ptr (VA.own 2 0),I m] [VB.cells (vaL v) (28:TypeId),VB.cells (tsL t) (32:TypeId)]
 else False
 else False
 else False
 else False
 else False
 else False
 else False
 else False
 else False
 else False
 else False
 else False
 else X (VEx.exit 6) [I (↑i:Int),I (↑L.length:Int),VV.tl L.length 5 (stG L),I vo,I su,VV.tl C.length 1 (dG C),VV.func (7:FuncId) [] [VV.ptr (VA.own 1 0)],VV.bool false,VV.ptr (VA.own 2 0),I m] [VB.cells (vaL v) (28:TypeId),VB.cells (tsL t) (32:TypeId)]):=by kernel_rfl
def suA (L:List Stk) (C:List Int) (v:Nat->Int):Nat->Int × Int
 | 0=>(0,0)
 | i+1=>((suA L C v i).1+C.getD i 0*(L.getD i Bln.k0).vol*tr v i,(suA L C v i).2+C.getD i 0*(L.getD i Bln.k0).vol)
structure C6 (L:List Stk) (C:List Int) (v:Nat->Int):Prop where
 hl:L.length<=4
 hC:C.length=L.length
 vb:∀ i,0<=v i/\v i<=65535
 cb:∀ i,i<L.length->(0<=C.getD i 0/\C.getD i 0<=6)/\0<=(L.getD i Bln.k0).vol/\(L.getD i Bln.k0).vol<=65536
def lA6 (v:Nat->Int) (t:Tst) (m:Int):LT:=fun lock tt h K=>∃ (L:List Stk) (C:List Int),
 FitP lock h tt ⟨7,[1,2].zip (bl6 v t)⟩ (ds6.zip (V6 L C m 0 0 0))/\C6 L C v /\
  ∀ su vo:Int,su=(suA L C v L.length).1->vo=(suA L C v L.length).2->K .normal (ds6.zip (V6 L C m L.length vo su)) ⟨7,[1,2].zip (bl6 v t)⟩
theorem t_ev (p:Nos.Pn) (v:Nat->Int) (b:List Int) (l:List Stk) (t:Tst) (m:Int) (Q:VRes->Prop):callN Try.prog (tabS [rpR p,rtT,awR,chR t]) (atF 3 [(0,lA0 p v b l t m),(2,lA2 p v b l t m),(4,lA4 p v b l t m),(6,lA6 v t m)]) 10 20 0 (.fn 3) [.agg (pnL p),.agg (vaL v),byD b,stD l,.agg (tsL t),I m] ⟨0,[]⟩ (fun r h=>Q r) =
 (bif decide ((↑p.T.length:Int) > (16:Int)) then
 Q (VRes.ret (VV.bool true))
 else bif decide ((↑p.S.length:Int) > (16:Int)) then
 Q (VRes.ret (VV.bool true))
 else bif decide ((↑l.length:Int) > (4:Int)) then
 Q (VRes.ret (VV.bool true))
 else bif decide ((↑b.length:Int)=(0:Int)) then
 Q (VRes.ret (VV.bool true))
 else bif !decide ((↑t.T.length:Int)=(1:Int)) then
 Q (VRes.ret (VV.bool true))
 else isD (VH.mk (3) [(2,VB.cells (tsL t) 32),(1,VB.cells (vaL v) 28),(0,.cells (pnL p) 26)]) 2 (.agg (pnL p)) (VV.agg (pnL p))/\bif !Nos.panB p then
 Q (VRes.ret (VV.bool true))
 else ∃ (t_1:Tst),isD (VH.mk (3) [(2,VB.cells (tsL t) 32),(1,VB.cells (vaL v) 28),(0,.cells (pnL p) 26)]) 3 (VV.agg (tsL t)) (VV.agg (tsL t_1))/\t_1.T.length<=100000/\bif !Bln.okT t_1 then
 Q (VRes.ret (VV.bool true))
 else FitP 0 (VH.mk 4 ([0,1,2,3].zip (blA p v t ++ [VB.cells [inD p.D,VV.nils,VV.nils] (26:TypeId)]))) (ds0.zip (I 0::I (↑p.T.length:Int)::tlT p::tmA b l m)) (VH.mk 4 ([0,1,2,3].zip (blA p v t ++ [VB.cells [inD p.D,VV.nils,VV.nils] (26:TypeId)]))) (ds0.zip (I 0::I (↑p.T.length:Int)::tlT p::tmA b l m))/\Ar p v b l/\(scOk p v b p.T.length->∀ (T:List Nos.Ts),T=qT p v b p.T.length->∃ (T_1:List Nos.Ts),FitP 0 (VH.mk 5 ([0,1,2,3,4].zip (bl0 p v t T))) ((146,I 0)::(145,I (↑p.S.length:Int))::(144,tlS p)::(143,VV.ptr (VA.own 0 (2)))::ds0.zip (I (↑p.T.length:Int)::I (↑p.T.length:Int)::tlT p::tmA b l m)) (VH.mk 5 ([0,1,2,3,4].zip (bl0 p v t T_1))) (ds2.zip (I 0::I (↑p.S.length:Int)::tlS p::tmA b l m))/\(Ar p v b l/\T_1=qT p v b p.T.length)/\∀ (q:Nos.Pn),q=qP p v b->∃ (q_1:Nos.Pn),FitP 0 (VH.mk 6 ([0,1,2,3,4,5].zip (bl2 p v t q))) ((180,I 0)::(179,I (↑l.length:Int))::(178,stD l)::(22,VV.nils)::ds2.zip (I (↑p.S.length:Int)::I (↑p.S.length:Int)::tlS p::tmA b l m)) (VH.mk 6 ([0,1,2,3,4,5].zip (bl2 p v t q_1))) (ds4.zip (I 0::I (↑l.length:Int)::stD l::VV.nils::tmA b l m))/\(Ar p v b l/\q_1=qP p v b/\scOk p v b p.T.length)/\(vaOk q_1 l.length->∀ (L:List Stk),L=skL q_1 l l.length->∃ (L_1:List Stk),VV.tl L.length 5 (stG L)=stD L_1/\VV.agg (tsL t)=VV.agg (tsL t)/\(∀ (e:Int),e ≠ (0:Int)->e=Bln.chpE L_1 t (0:Int) m->bif !decide (e=(0:Int)) then
 Q (VRes.ret (VV.bool true))
 else bif !decide ((0:Int)=(↑L.length:Int)) then
 Q (VRes.ret (VV.bool false))
 else ∃ (L_2:List Stk),∃ (C:List Int),FitP 0 (VH.mk 7 ([0,1,2,3,4,5].zip (bl2 p v t q_1))) ((247,I 0)::(246,I (↑L.length:Int))::(245,VV.tl L.length 5 (stG L))::(31,I 0)::(30,I 0)::(244,VV.bool false)::(244,VV.bool !decide ((0:Int)=(↑L.length:Int)))::(243,I (↑L.length:Int))::(242,VV.tl L.length 5 (stG L))::(241,I 0)::(240,VV.nils)::(238,VV.bool false)::(238,VV.bool !decide (e=(0:Int)))::(237,I e)::(29,I e)::(28,I 0)::(27,VV.nils)::(236,I e)::(235,I 0)::(234,VV.nils)::(229,VV.tup [VV.nils,Bln.I 0,Bln.I e])::(233,VV.tup [VV.nils,Bln.I 0,Bln.I e])::(232,I m)::(231,VV.agg (tsL t))::(230,VV.tl L.length 5 (stG L))::ds4.zip (I (↑l.length:Int)::I (↑l.length:Int)::stD l::stD L::tmA b l m)) (VH.mk 7 ([1,2].zip (bl6 v t))) (ds6.zip (V6 L_2 C m (0:Int) (0:Int) (0:Int)))/\C6 L_2 C v/\∀ (su vo:Int),su=(suA L_2 C v L_2.length).fst->vo=(suA L_2 C v L_2.length).snd->bif decide (vo ≥ m) then
 bif decide ((0:Int)<=(0:Int)/\(0:Int)<(↑t.T.length:Int)) then
 bif inK .i64 (t.T.getD (Int.toNat (0:Int)) (0:Int)+t.far) then
 bif inK .i64 ((t.T.getD (Int.toNat (0:Int)) (0:Int)+t.far)*vo) then
 bif decide (su<=(t.T.getD (Int.toNat (0:Int)) (0:Int)+t.far)*vo) then
 bif decide ((0:Int)<=(0:Int)/\(0:Int)<(↑t.T.length:Int)) then
 bif inK .i64 (t.T.getD (Int.toNat (0:Int)) (0:Int) - t.far) then
 bif inK .i64 ((t.T.getD (Int.toNat (0:Int)) (0:Int) - t.far)*vo) then
 bif decide (su ≥ (t.T.getD (Int.toNat (0:Int)) (0:Int) - t.far)*vo) then
 Q (VRes.ret (VV.bool true))
 else Q (VRes.ret (VV.bool false))
 else False
 else False
 else False
 else Q (VRes.ret (VV.bool false))
 else False
 else False
 else False
 else Q (VRes.ret (VV.bool false)))/\(Bln.chpE L_1 t (0:Int) m=(0:Int)->∀ (c:Nat->Int),Bln.chpF L_1 t (0:Int) m=some c->∀ (C:List Int),C=List.map c (List.range L_1.length)->bif !decide ((↑C.length:Int)=(↑L.length:Int)) then
 Q (VRes.ret (VV.bool false))
 else ∃ (L_2:List Stk),∃ (C_1:List Int),FitP 0 (VH.mk 7 ([0,1,2,3,4,5].zip (bl2 p v t q_1))) ((247,I 0)::(246,I (↑L.length:Int))::(245,VV.tl L.length 5 (stG L))::(31,I 0)::(30,I 0)::(244,VV.bool false)::(244,VV.bool !decide ((↑C.length:Int)=(↑L.length:Int)))::(243,I (↑L.length:Int))::(242,VV.tl L.length 5 (stG L))::(241,I (↑C.length:Int))::(240,VV.tl C.length 1 (dG C))::(238,VV.bool false)::(238,VV.bool !decide ((0:Int)=(0:Int)))::(237,I 0)::(29,I 0)::(28,I (Bln.costF L_1 c))::(27,VV.tl C.length 1 (dG C))::(236,I 0)::(235,I (Bln.costF L_1 c))::(234,VV.tl C.length 1 (dG C))::(229,VV.tup [inD C,I (Bln.costF L_1 c),I 0])::(233,VV.tup [inD C,I (Bln.costF L_1 c),I 0])::(232,I m)::(231,VV.agg (tsL t))::(230,VV.tl L.length 5 (stG L))::ds4.zip (I (↑l.length:Int)::I (↑l.length:Int)::stD l::stD L::tmA b l m)) (VH.mk 7 ([1,2].zip (bl6 v t))) (ds6.zip (V6 L_2 C_1 m (0:Int) (0:Int) (0:Int)))/\C6 L_2 C_1 v/\∀ (su vo:Int),su=(suA L_2 C_1 v L_2.length).fst->vo=(suA L_2 C_1 v L_2.length).snd->bif decide (vo ≥ m) then
 bif decide ((0:Int)<=(0:Int)/\(0:Int)<(↑t.T.length:Int)) then
 bif inK .i64 (t.T.getD (Int.toNat (0:Int)) (0:Int)+t.far) then
 bif inK .i64 ((t.T.getD (Int.toNat (0:Int)) (0:Int)+t.far)*vo) then
 bif decide (su<=(t.T.getD (Int.toNat (0:Int)) (0:Int)+t.far)*vo) then
 bif decide ((0:Int)<=(0:Int)/\(0:Int)<(↑t.T.length:Int)) then
 bif inK .i64 (t.T.getD (Int.toNat (0:Int)) (0:Int) - t.far) then
 bif inK .i64 ((t.T.getD (Int.toNat (0:Int)) (0:Int) - t.far)*vo) then
 bif decide (su ≥ (t.T.getD (Int.toNat (0:Int)) (0:Int) - t.far)*vo) then
 Q (VRes.ret (VV.bool true))
 else Q (VRes.ret (VV.bool false))
 else False
 else False
 else False
 else Q (VRes.ret (VV.bool false))
 else False
 else False
 else False
 else Q (VRes.ret (VV.bool false))))/\∀ (i N:Nat),Q (VRes.ret (VV.bool true)))/\∀ (i:Nat) (T:List Nos.Ts),Q (VRes.ret (VV.bool true))):=by kernel_rfl
end Go.Sx.Top
namespace Go.Sx.Top
open Go Go.Sx Go.Proofs
open Go.Sx.Bln (Stk Tst)
open Go.Sx.Nos (Nd PnOk zeroN vN cN links Sol dr)
set_option maxRecDepth 1000000
theorem mapR_get {α:Type} {f:Nat->α} {n i:Nat} {d:α} (h:i<n):((List.range n).map f).getD i d=f i:=by
 rw [List.getD_eq_getElem?_getD,List.getElem?_map,List.getElem?_range h]
 rfl
theorem mapR_len {α:Type} {f:Nat->α} {n:Nat}:((List.range n).map f).length=n:=by rw [List.length_map,List.length_range]
theorem mapR_succ {α:Type} {f:Nat->α} {n:Nat}:(List.range (n+1)).map f=(List.range n).map f ++ [f n]:=by
 rw [List.range_succ,List.map_append]
 rfl
theorem mapR_mem {α:Type} {f:Nat->α} {n:Nat} {x:α}:x ∈ (List.range n).map f ↔ ∃ i,i<n/\f i=x:=by
 rw [List.mem_map]
 exact ⟨fun ⟨i,h,e⟩=>⟨i,List.mem_range.1 h,e⟩,fun ⟨i,h,e⟩=>⟨i,List.mem_range.2 h,e⟩⟩
section
variable {p:Nos.Pn} {v:Nat->Int} {b:List Int} {l:List Stk}
theorem vL_bd (hv:∀ i,0<=v i/\v i<=65535) (k:Nat):0<=(vL v).getD k 0/\(vL v).getD k 0<=65535:=by
 by_cases h:k<16
 ·have e:(vL v).getD k 0=v k:=by
   match k,h with
   | 0,_=>rfl
   | 1,_=>rfl
   | 2,_=>rfl
   | 3,_=>rfl
   | 4,_=>rfl
   | 5,_=>rfl
   | 6,_=>rfl
   | 7,_=>rfl
   | 8,_=>rfl
   | 9,_=>rfl
   | 10,_=>rfl
   | 11,_=>rfl
   | 12,_=>rfl
   | 13,_=>rfl
   | 14,_=>rfl
   | 15,_=>rfl
   | k+16,h=>omega
  rw [e]
  exact hv k
 ·have e:(vL v).getD k 0=0:=by
   rw [List.getD_eq_getElem?_getD,List.getElem?_eq_none (by show 16<=k; omega)]
   rfl
  rw [e]
  omega
theorem rem_bd {a n:Int} (ha:0<=a) (hn:0<n):0<=remZ a n/\remZ a n<n:=by
 rw [remZ_nn ha]
 exact ⟨Int.emod_nonneg _ (by omega),Int.emod_lt_of_pos _ hn⟩
theorem rem_le {a n:Int} (ha:0<=a) (hn:0<n):remZ a n<=a:=by
 rw [remZ_nn ha]
 have h1:=Int.emod_add_mul_ediv a n
 have h2:0<=n*(a / n):=Int.mul_nonneg (by omega) (Int.ediv_nonneg ha (by omega))
 omega
theorem tr_bd (hv:∀ i,0<=v i/\v i<=65535) (s:Int):0<=tr v s/\tr v s<=899:=by
 have:=rem_bd (vL_bd hv (s.toNat*1)).1 (show (0:Int)<900 by decide)
 unfold tr
 omega
theorem b0_bd (hA:Ar p v b l) (k:Nat) {n:Int} (hn:0<n):0<=remZ (b.getD k 0) n/\remZ (b.getD k 0) n<n:=rem_bd (hA.bb k).1 hn
theorem dr_bd (hA:Ar p v b l) {j t:Int} (hj:0<=j/\j<p.D.length) (ht:0<=t/\t<=1000):0<=p.D.getD j.toNat 0*t/\p.D.getD j.toNat 0*t<=1000000:=by
 have hj2:j.toNat<p.D.length:=by omega
 have hd:=hA.hp.dr (p.D.getD j.toNat 0) (by rw [List.getD_eq_getElem?_getD,List.getElem?_eq_getElem hj2]; exact List.getElem_mem hj2)
 exact ⟨Int.mul_nonneg hd.1 ht.1,by
  have h1:=Int.mul_le_mul_of_nonneg_right hd.2 ht.1
  have h2:1000*t<=1000000:=by omega
  exact Int.le_trans h1 h2⟩
theorem qt_mem {i:Nat} (hi:i<p.T.length):p.T.getD i Nos.t0 ∈ p.T:=(Nos.getT hi).1
theorem qs_mem {i:Nat} (hi:i<p.S.length):p.S.getD i Nos.s0 ∈ p.S:=(Nos.getS hi).1
theorem q_ok (hA:Ar p v b l) (hs:scOk p v b p.T.length):PnOk (qP p v b):=by
 have hp:=hA.hp
 have b9:=b0_bd hA 0 (n:=9) (by decide)
 have b7:=b0_bd hA 0 (n:=7) (by decide)
 refine ⟨hp.d,by show (qT p v b p.T.length).length<=48; unfold qT; rw [mapR_len]; exact hp.t,by show (qS p v b p.S.length).length<=16; unfold qS; rw [mapR_len]; exact hp.s,hp.dr,fun t ht=>?_,fun s hs=>?_⟩
 ·obtain ⟨i,hi,rfl⟩:=mapR_mem.1 ht
  obtain ⟨h1,h2,h3,_,h5⟩:=hp.ts _ (qt_mem hi)
  exact ⟨h1,h2,h3,hs i hi,h5⟩
 ·obtain ⟨i,hi,rfl⟩:=mapR_mem.1 hs
  have h1:=(hp.sd _ (qs_mem hi)).1
  have ht:=tr_bd hA.vb (p.S.getD i Nos.s0).s
  unfold qs
  exact ⟨h1,by dsimp only; omega,by dsimp only; omega,by dsimp only; omega⟩
def xT (p:Nos.Pn) (v:Nat->Int) (b:List Int):Nd->Int
 | [k,y,z]=>if k=0 then (if y=0 then 0 else tr v (y - 1)) else 0 - biT p b y z
 | _=>0
theorem xT_0:xT p v b zeroN=0:=rfl
theorem xT_v {s:Int} (h:0<=s):xT p v b (vN s)=tr v s:=by
 show (if (0:Int)=0 then (if s+1=0 then 0 else tr v (s+1 - 1)) else 0 - biT p b (s+1) 0)=_
 rw [if_pos rfl,if_neg (by omega),show s+1 - 1=s by omega]
theorem xT_c {j t:Int}:xT p v b (cN j t)=0 - biT p b j t:=by
 show (if (1:Int)=0 then (if j=0 then 0 else tr v (j - 1)) else 0 - biT p b j t)=_
 rw [if_neg (by decide)]
theorem bi_diff {j t u:Int}:biT p b j u - biT p b j t=p.D.getD j.toNat 0*(u - t):=by
 unfold biT
 rw [Int.mul_sub]
 omega
theorem q_sol (hA:Ar p v b l):Sol (qP p v b) (xT p v b):=by
 have hp:=hA.hp
 intro e he
 rcases List.mem_append.1 he with hx | hx
 ·obtain ⟨t,ht,hx⟩:=List.mem_flatMap.1 hx
  obtain ⟨i,hi,rfl⟩:=mapR_mem.1 ht
  obtain ⟨h1,h2,h3,_,h5⟩:=hp.ts _ (qt_mem hi)
  rcases List.mem_append.1 hx with hx | hx
  ·simp only [Nos.lkH,List.mem_cons,List.not_mem_nil,or_false] at hx
   have hr:=b0_bd hA (remZ i b.length).toNat (n:=2*(p.T.getD i Nos.t0).o+1) (by omega)
   rcases hx with rfl | rfl
   ·show xT p v b (vN (p.T.getD i Nos.t0).s) - xT p v b (cN (p.T.getD i Nos.t0).j (p.T.getD i Nos.t0).p)<=sc p v b i (p.T.getD i Nos.t0)+(p.T.getD i Nos.t0).o
    rw [xT_v h2.1,xT_c]
    unfold sc
    omega
   ·show xT p v b (cN (p.T.getD i Nos.t0).j (p.T.getD i Nos.t0).p) - xT p v b (vN (p.T.getD i Nos.t0).s)<=(p.T.getD i Nos.t0).o - sc p v b i (p.T.getD i Nos.t0)
    rw [xT_v h2.1,xT_c]
    unfold sc
    omega
  ·obtain ⟨u,hu,hx⟩:=List.mem_flatMap.1 hx
   obtain ⟨k,hk,rfl⟩:=mapR_mem.1 hu
   unfold Nos.lkI at hx
   split at hx
   ·rename_i hc
    have hj:(p.T.getD k Nos.t0).j=(p.T.getD i Nos.t0).j:=hc.1
    have hlt:(p.T.getD i Nos.t0).p<(p.T.getD k Nos.t0).p:=hc.2
    have hd:=bi_diff (p:=p) (b:=b) (j:=(p.T.getD i Nos.t0).j) (t:=(p.T.getD i Nos.t0).p) (u:=(p.T.getD k Nos.t0).p)
    have hn:0<=p.D.getD (p.T.getD i Nos.t0).j.toNat 0*((p.T.getD k Nos.t0).p - (p.T.getD i Nos.t0).p):=by
     have hj2:(p.T.getD i Nos.t0).j.toNat<p.D.length:=by omega
     have hd:=hp.dr (p.D.getD (p.T.getD i Nos.t0).j.toNat 0) (by rw [List.getD_eq_getElem?_getD,List.getElem?_eq_getElem hj2]; exact List.getElem_mem hj2)
     exact Int.mul_nonneg hd.1 (by omega)
    simp only [List.mem_cons,List.not_mem_nil,or_false] at hx
    rcases hx with rfl | rfl
    ·show xT p v b (cN (p.T.getD i Nos.t0).j (p.T.getD i Nos.t0).p) - xT p v b (cN (p.T.getD k Nos.t0).j (p.T.getD k Nos.t0).p)<=p.D.getD (p.T.getD i Nos.t0).j.toNat 0*((p.T.getD k Nos.t0).p - (p.T.getD i Nos.t0).p)
     rw [hj,xT_c,xT_c]
     omega
    ·show xT p v b (cN (p.T.getD k Nos.t0).j (p.T.getD k Nos.t0).p) - xT p v b (cN (p.T.getD i Nos.t0).j (p.T.getD i Nos.t0).p)<=p.D.getD (p.T.getD i Nos.t0).j.toNat 0*((p.T.getD k Nos.t0).p - (p.T.getD i Nos.t0).p)
     rw [hj,xT_c,xT_c]
     omega
   ·cases hx
 ·obtain ⟨s,hs,hx⟩:=List.mem_flatMap.1 hx
  obtain ⟨i,hi,rfl⟩:=mapR_mem.1 hs
  have h1:=(hp.sd _ (qs_mem hi)).1
  have b9:=b0_bd hA 0 (n:=9) (by decide)
  have b7:=b0_bd hA 0 (n:=7) (by decide)
  simp only [Nos.lkS,List.mem_cons,List.not_mem_nil,or_false] at hx
  rcases hx with rfl | rfl
  ·show xT p v b (vN (p.S.getD i Nos.s0).s) - xT p v b zeroN<=tr v (p.S.getD i Nos.s0).s+remZ (b.getD 0 0) 7
   rw [xT_v h1.1,xT_0]
   omega
  ·show xT p v b zeroN - xT p v b (vN (p.S.getD i Nos.s0).s)<=0 - (tr v (p.S.getD i Nos.s0).s - remZ (b.getD 0 0) 9)
   rw [xT_v h1.1,xT_0]
   omega
theorem q_fit (hA:Ar p v b l) (hs:scOk p v b p.T.length):Nos.fitF (qP p v b):=(Nos.fit_iff (q_ok hA hs)).2 ⟨_,q_sol hA⟩
theorem q_val (hA:Ar p v b l) (hs:scOk p v b p.T.length) {i:Nat} (hi:i<16):(Nos.valF (qP p v b) i).2.2 ≠ 6/\((Nos.valF (qP p v b) i).2.2=0->(Nos.valF (qP p v b) i).1<=tr v i/\tr v i<=(Nos.valF (qP p v b) i).2.1):=by
 have hq:=q_ok hA hs
 have hf:=q_fit hA hs
 have hx:=q_sol hA
 have e:Nos.valF (qP p v b) i=Nos.btF (qP p v b) (vN i) zeroN:=by
  unfold Nos.valF
  rw [if_neg (fun h=>h.2 ⟨by omega,by omega⟩)]
 rw [e]
 unfold Nos.btF
 rw [if_pos hq]
 by_cases ht:Nos.thP (qP p v b) (vN i)/\Nos.thP (qP p v b) zeroN
 ·rw [if_pos ht,if_pos hf]
  by_cases hw:Nos.farAB (qP p v b) (vN i) zeroN=Nos.WW ∨ Nos.farAB (qP p v b) zeroN (vN i)=Nos.WW
  ·rw [if_pos hw]
   exact ⟨by decide,fun h=>absurd h (by decide)⟩
  ·rw [if_neg hw]
   have m1:=(Nos.mem_no hq _).2 ht.1
   have m2:=(Nos.mem_no hq _).2 ht.2
   have g1:=(Nos.far_mx hq hf m1 m2 (fun h=>hw (.inl h))).1.1 _ hx
   have g2:=(Nos.far_mx hq hf m2 m1 (fun h=>hw (.inr h))).1.1 _ hx
   rw [xT_v (by omega),xT_0] at g1
   rw [xT_v (by omega),xT_0] at g2
   exact ⟨by show (0:Int) ≠ 6; decide,fun _=>⟨by dsimp only; omega,by dsimp only; omega⟩⟩
 ·rw [if_neg ht]
  exact ⟨by decide,fun h=>absurd h (by decide)⟩
end
end Go.Sx.Top
namespace Go.Sx.Bln
open Go Go.Sx Go.Proofs
set_option maxRecDepth 1000000
section
variable {l:List Stk} {t:Tst} {y m:Int}
theorem bestF_meets:∀ {j:Nat} {c:Nat->Int},bestF l t y m j=some c->meetsF l t c y m=true
 | 0,_,h=>by cases h
 | j+1,c,h=>by
  unfold bestF stepC at h
  cases hb:bestF l t y m j with
  | none=>
   rw [hb] at h
   dsimp only at h
   split at h
   ·rename_i g; cases h; exact g
   ·cases h
  | some d=>
   rw [hb] at h
   dsimp only at h
   have hd:=hb
   split at h
   ·rename_i g; cases h; exact g.2
   ·cases h; exact bestF_meets hd
theorem chp_mem (hl:lB l) {c:Nat->Int} (h:chpF l t y m=some c):(∀ i,i<l.length->0<=c i/\c i<=(l.getD i k0).casks)/\meetsF l t c y m=true:=by
 refine ⟨?_,bestF_meets h⟩
 obtain ⟨j,hj,rfl⟩:=bestF_mem h
 exact ((all_mem (fun i _=>(mostF_bd hl i).1)).1 (chAt_mem hj)).1
theorem KF_at {n:Nat->Int} {b:Bool}:∀ {k:Nat},KF l t n b k=true->∀ j,j<k->okF l t n j=true
 | 0,_,j,hj=>absurd hj (Nat.not_lt_zero _)
 | k+1,h,j,hj=>by
  unfold KF at h
  rw [Bool.and_eq_true] at h
  by_cases e:j=k
  ·rw [e]; exact h.2
  ·exact KF_at h.1 j (by omega)
theorem sumF_le {f g:Nat->Int}:∀ k:Nat,(∀ i,i<k->f i<=g i)->sumF f k<=sumF g k
 | 0,_=>Int.le_refl _
 | k+1,h=>by
  have:=sumF_le k (fun i hi=>h i (by omega))
  have:=h k (by omega)
  unfold sumF
  omega
theorem sumF_z {f:Nat->Int}:∀ k:Nat,(∀ i,i<k->0<=f i)->sumF f k=0->∀ i,i<k->f i=0
 | 0,_,_,i,hi=>absurd hi (Nat.not_lt_zero _)
 | k+1,h,h0,i,hi=>by
  unfold sumF at h0
  have h1:=h k (by omega)
  have h2:0<=sumF f k:=by
   have:=sumF_le (f:=fun _=>0) (g:=f) k (fun i hi=>h i (by omega))
   have e:∀ k,sumF (fun _=>0) k=0:=fun k=>by
    induction k with
    | zero=>rfl
    | succ k ih=>unfold sumF; rw [ih]; rfl
   rw [e] at this
   exact this
  by_cases e:i=k
  ·subst e; omega
  ·exact sumF_z k (fun i hi=>h i (by omega)) (by omega) i (by omega)
end
end Go.Sx.Bln
namespace Go.Sx.Top
open Go Go.Sx Go.Proofs
open Go.Sx.Bln (Stk Tst volF loF hiF sumF tmV tmL tmH)
set_option maxRecDepth 1000000
section
variable {v:Nat->Int} {L:List Stk} {c:Nat->Int} {t:Tst} {m:Int}
theorem suA_sum {C:List Int} (hC:C=(List.range L.length).map c):∀ k,k<=L.length->suA L C v k=(sumF (fun i=>tmV L c i*tr v i) k,sumF (tmV L c) k)
 | 0,_=>rfl
 | k+1,hk=>by
  have e:C.getD k 0=c k:=by rw [hC]; exact mapR_get (by omega)
  unfold suA sumF
  rw [suA_sum hC k (by omega),e]
theorem ch_true (he:Bln.chpE L t 0 m=0) (hc:Bln.chpF L t 0 m=some c) (hT:t.T.length=1) (hv:∀ i,0<=v i/\v i<=65535)
  (hp:∀ i,i<L.length->((L.getD i Bln.k0).prof.getD 0 Bln.s0).lo<=tr v i/\tr v i<=((L.getD i Bln.k0).prof.getD 0 Bln.s0).hi) :
  (∀ i,i<L.length->(0<=c i/\c i<=6)/\0<=(L.getD i Bln.k0).vol/\(L.getD i Bln.k0).vol<=65536)/\(0<=t.T.getD 0 0/\t.T.getD 0 0<=1000)/\(0<=t.far/\t.far<=1000) /\
  m<=volF L c/\sumF (fun i=>tmV L c i*tr v i) L.length<=(t.T.getD 0 0+t.far)*volF L c/\(t.T.getD 0 0 - t.far)*volF L c<=sumF (fun i=>tmV L c i*tr v i) L.length:=by
 have ho:Bln.okAll L t=true:=by
  unfold Bln.chpE at he
  split at he
  ·cases he
  ·rename_i h; simpa using h
 obtain ⟨hl,hpB,hokT,_,_⟩:=Bln.okAll_l ho
 obtain ⟨_,hTb,hfar,_⟩:=Bln.okT_tB hokT
 obtain ⟨hm,hmt⟩:=Bln.chp_mem hl hc
 have hb:∀ i,i<L.length->(0<=c i/\c i<=6)/\0<=(L.getD i Bln.k0).vol/\(L.getD i Bln.k0).vol<=65536:=fun i hi=>by
  have h1:=hm i hi
  have h2:=hl.2 i hi
  exact ⟨⟨h1.1,by have:=h2.1.2; omega⟩,by have:=h2.2.1; omega,h2.2.1.2⟩
 have ht0:∀ i,i<L.length->0<=tmV L c i:=fun i hi=>Int.mul_nonneg (hb i hi).1.1 (hb i hi).2.1
 refine ⟨hb,hTb 0 (by omega),hfar,?_⟩
 have hlo:loF L c 0<=sumF (fun i=>tmV L c i*tr v i) L.length:=Bln.sumF_le _ (fun i hi=>Int.mul_le_mul_of_nonneg_left (hp i hi).1 (ht0 i hi))
 have hhi:sumF (fun i=>tmV L c i*tr v i) L.length<=hiF L c 0:=Bln.sumF_le _ (fun i hi=>Int.mul_le_mul_of_nonneg_left (hp i hi).2 (ht0 i hi))
 unfold Bln.meetsF at hmt
 split at hmt
 ·rename_i h0
  have hz:volF L c=0:=of_decide_eq_true hmt
  have hz2:=Bln.sumF_z _ ht0 hz
  have e:sumF (fun i=>tmV L c i*tr v i) L.length=0:=by
   have:sumF (fun i=>tmV L c i*tr v i) L.length=sumF (tmV L c) L.length:=Bln.sumF_congr _ (fun i hi=>by show tmV L c i*tr v i=tmV L c i; rw [hz2 i hi,Int.zero_mul])
   rw [this]; exact hz
  rw [e,hz,Int.mul_zero,Int.mul_zero]
  omega
 ·rw [Bool.and_eq_true] at hmt
  obtain ⟨h1,h2⟩:=hmt
  have h1:¬ volF L c<m:=by simpa using h1
  have h3:=Bln.KF_at h2 0 (by omega)
  unfold Bln.okF at h3
  simp only [Bool.and_eq_true,Bool.not_eq_true',decide_eq_false_iff_not] at h3
  exact ⟨by omega,by omega,by omega⟩
end
end Go.Sx.Top
namespace Go.Sx.Top
open Go Go.Sx Go.Proofs
open Go.Sx.Nod (pnL inD dG I rpR)
open Go.Sx.Bln (Stk Tst stD stG tsL rtT)
set_option maxRecDepth 1000000
theorem aw_ev (Q:VRes->Prop):callN Try.prog (tabS [Nos.valT]) noL 10 20 0 (.fn 6) [] ⟨0,[]⟩ (fun r _=>Q r) =
 (∃ (p:Nos.Pn),Nos.pnIs (VH.mk (0+1) [(0,VB.vec 1 (fun (j:Nat)=>List.take (3) (List.drop (j*(3)) [I 3,I 4,I 9])) (3) 42)]) p VV.nils VV.nils (VV.sl 0 1)/\Nos.n64 (Nos.g0 [(3:Int)] 0)/\bif decide (((fun (p:Nos.Pn) (ns:List Int)=>Nos.valF p (Nos.g0 ns 0)) p [(3:Int)]).fst=(4:Int)) && (decide (((fun (p:Nos.Pn) (ns:List Int)=>Nos.valF p (Nos.g0 ns 0)) p [(3:Int)]).snd.fst=(9:Int)) && true) then
 bif decide (((fun (p:Nos.Pn) (ns:List Int)=>Nos.valF p (Nos.g0 ns 0)) p [(3:Int)]).snd.snd=(0:Int)) then
 Q (VRes.ret (VV.bool (decide ((0:Int)=(0:Int)))))
 else Q (VRes.ret (VV.bool false))
 else Q (VRes.ret (VV.bool false))):=by kernel_rfl
end Go.Sx.Top
namespace Go.Sx.Top
open Go Go.Sx Go.Proofs
open Go.Sx.Bln (Stk Tst stD stG tsL)
open Go.Sx.Nod (inD dG I noL_good tab1 room24 hmix good0 noL_ok)
open Go.Sx.Nos (PnOk)
set_option maxRecDepth 1000000
theorem awR_ok0 (haw:∃ h',CallsV Try.prog 6 [] ⟨0,[]⟩ (.ret (.bool true)) h'):SpOk Try.prog awR.1 awR.2:=by
 intro lock args h K hK
 simp only [awR] at hK
 split at hK
 ·obtain ⟨h',hc⟩:=haw
  exact ⟨_,_,hK,lockP_refl _ _,calls_lift0 hc rfl rfl⟩
 ·exact hK.elim
theorem room40 {n:Nat} (h:n<=1000000):roomB n 40=true:=by
 unfold roomB
 rw [Nat.ble_eq_true_of_le (by omega),Nat.ble_eq_true_of_le (by omega)]
 rfl
theorem tG_snoc {T:List Nos.Ts} {x:Nos.Ts} {L:Nat} (hL:L=T.length):∀ j,j<L+1->catG L (Nos.tG T) (fun j=>List.take 5 (List.drop (j*5) (Nos.tsL x))) j=Nos.tG (T ++ [x]) j:=by
 subst hL
 intro j hj
 by_cases h:j<T.length
 ·rw [Nod.catG_lt h]
  unfold Nos.tG
  rw [Nod.getD_snoc_lt h]
 ·obtain rfl:j=T.length:=by omega
  rw [Nod.catG_ge (Nat.le_refl _),Nat.sub_self]
  unfold Nos.tG
  rw [Nod.getD_snoc_eq]
  rfl
theorem sG_snoc {T:List Nos.Sd} {x:Nos.Sd} {L:Nat} (hL:L=T.length):∀ j,j<L+1->catG L (Nos.sG T) (fun j=>List.take 3 (List.drop (j*3) (Nos.sdL x))) j=Nos.sG (T ++ [x]) j:=by
 subst hL
 intro j hj
 by_cases h:j<T.length
 ·rw [Nod.catG_lt h]
  unfold Nos.sG
  rw [Nod.getD_snoc_lt h]
 ·obtain rfl:j=T.length:=by omega
  rw [Nod.catG_ge (Nat.le_refl _),Nat.sub_self]
  unfold Nos.sG
  rw [Nod.getD_snoc_eq]
  rfl
section
variable {p:Nos.Pn} {v:Nat->Int} {b:List Int} {l:List Stk} {t:Tst} {m:Int}
theorem lA0s_ok (hw:SpOk Try.prog awR.1 awR.2):LSound Try.prog true (.block 0 (.loop (loopB 0 (bodyOf Try.prog 3)))) (ntOf Try.prog 3) (fun lock tt h K=>
  FitP lock h tt ⟨5,[0,1,2,3,4].zip (bl0 p v t [])⟩ (ds0.zip (I 0::I p.T.length::tlT p::tmA b l m))/\Ar p v b l /\
  (scOk p v b p.T.length->∀ T,T=qT p v b p.T.length->K .normal (ds0.zip (I p.T.length::I p.T.length::tlT p::tmA b l m)) ⟨5,[0,1,2,3,4].zip (bl0 p v t T)⟩) /\
  ∀ (i:Nat) T,K .ret (ds0.zip (I i::I p.T.length::tlT p::tmT b l m)) ⟨5,[0,1,2,3,4].zip (bl0 p v t T)⟩):=by
 by_cases hA:Ar p v b l
 ·have hp:=hA.hp
  have hT:=hA.hT
  have hbp:=hA.hb
  refine loop_row hmix (noL_good (tab1 hw)) (un:=10) (ds:=ds0) (ns:=[0,1,2,3,4]) (nx:=5) (fun i:Nat=>I i::I p.T.length::tlT p::tmA b l m) (fun i=>bl0 p v t (qT p v b i)) (fun i=>i<=p.T.length/\scOk p v b i) (fun i=>p.T.length - i)
   (fun _ e vs bs=>(e=.exit 0/\scOk p v b p.T.length/\vs=(I p.T.length::I p.T.length::tlT p::tmA b l m)/\bs=bl0 p v t (qT p v b p.T.length)) ∨ (e=.ret/\∃ (i:Nat) (T:List Nos.Ts),vs=(I i::I p.T.length::tlT p::tmT b l m)/\bs=bl0 p v t T)) noL_ok ?_ ?_
  ·rintro i ⟨hi,hs⟩
   have hlen:(qT p v b i).length=i:=mapR_len
   refine cast (r0_ev p v b l t m i (qT p v b i) _).symm ?_
   refine cond_d (fun h=>?_) (fun h=>?_)
   ·have hi2:i<p.T.length:=by omega
    have ht:p.T.getD (i:Int).toNat Nos.t0 ∈ p.T:=by rw [Int.toNat_natCast]; exact qt_mem hi2
    have hb:=hp.ts _ ht
    have j1:=rem_bd hb.1.1 (show (0:Int)<b.length by omega)
    have j2:=rem_bd (show (0:Int)<=(i:Int) by omega) (show (0:Int)<b.length by omega)
    have j3:=rem_le hb.1.1 (show (0:Int)<b.length by omega)
    have j4:=rem_le (show (0:Int)<=(i:Int) by omega) (show (0:Int)<b.length by omega)
    have e1:=hA.bb (remZ (p.T.getD (i:Int).toNat Nos.t0).j b.length).toNat
    have e2:=hA.bb (remZ (i:Int) b.length).toNat
    have e3:=rem_bd e1.1 (show (0:Int)<200 by decide)
    have e4:=dr_bd hA hb.1 hb.2.2.1
    have e5:=vL_bd hA.vb ((p.T.getD (i:Int).toNat Nos.t0).s.toNat*1)
    have e6:=rem_bd e5.1 (show (0:Int)<900 by decide)
    have e7:=rem_bd e2.1 (show (0:Int)<2*(p.T.getD (i:Int).toNat Nos.t0).o+1 by omega)
    have hvl:(vL v).length=16:=rfl
    refine cond_dk ⟨by omega,by omega⟩ (cond_d (fun h0=>absurd h0 (by omega)) (fun _=>?_))
    refine cond_dk ⟨by omega,by omega⟩ (cond_r (by omega) (cond_r (by omega) (cond_dk ⟨by omega,by omega⟩ (cond_r (by omega) (cond_r (by omega) (cond_dk ⟨by omega,by omega⟩ (cond_dk (by omega) (cond_r (by omega) (cond_r (by omega) ?_)))))))))
    refine cond_d (fun h0=>absurd h0 (by omega)) (fun _=>cond_dk ⟨by omega,by omega⟩ (cond_r (by omega) (cond_r (by omega) (cond_r (by omega) (cond_d (fun h0=>absurd h0 (by omega)) (fun _=>cond_r (by omega) (cond_r (by omega) ?_)))))))
    have hsc:(qt p v b i).c=remZ ((vL v).getD ((p.T.getD (i:Int).toNat Nos.t0).s.toNat*1) 0) 900+(remZ (b.getD (remZ (p.T.getD (i:Int).toNat Nos.t0).j b.length).toNat 0) 200 - 100+p.D.getD (p.T.getD (i:Int).toNat Nos.t0).j.toNat 0*(p.T.getD (i:Int).toNat Nos.t0).p)+remZ (b.getD (remZ (i:Int) b.length).toNat 0) (2*(p.T.getD (i:Int).toNat Nos.t0).o+1) - (p.T.getD (i:Int).toNat Nos.t0).o:=by
     rw [Int.toNat_natCast]; rfl
    rw [<- hsc]
    refine cond_d (fun c1=>.inr ⟨rfl,i,qT p v b i,rfl,rfl⟩) (fun c1=>cond_d (fun c2=>.inr ⟨rfl,i,qT p v b i,rfl,rfl⟩) (fun c2=>cond_k (Nat.beq_refl _) (cond_k (room40 (by omega)) (cond_r (by omega) ?_))))
    have hq:qT p v b (i+1)=qT p v b i ++ [qt p v b i]:=mapR_succ
    refine ⟨i+1,⟨by omega,fun k hk=>?_⟩,by dsimp only; omega,?_,?_,fun _ _ _ h=>h⟩
    ·by_cases hki:k=i
     ·subst hki; exact ⟨by omega,by omega⟩
     ·exact hs k (by omega)
    ·rfl
    ·show fitBs (bl0 p v t (qT p v b (i+1))) _
     rw [hq]
     refine ⟨VB.fit_refl _,VB.fit_refl _,VB.fit_refl _,?_,⟨by rw [List.length_append]; rfl,rfl,rfl,fun j hj=>?_⟩,trivial⟩
     ·rw [List.length_append]; exact VB.fit_refl _
     ·rw [List.length_append] at hj
      refine Eq.trans ?_ (tG_snoc (T:=qT p v b i) (x:=qt p v b i) rfl j hj)
      have:Nos.tsL (qt p v b i)=[I (p.T.getD (i:Int).toNat Nos.t0).j,I (p.T.getD (i:Int).toNat Nos.t0).s,I (p.T.getD (i:Int).toNat Nos.t0).p,I (qt p v b i).c,I (p.T.getD (i:Int).toNat Nos.t0).o]:=by rw [Int.toNat_natCast]; rfl
      rw [this]
   ·obtain rfl:i=p.T.length:=by omega
    exact .inl ⟨rfl,hs,rfl,rfl⟩
  ·rintro lock tt h K ⟨hf,_,k1,k2⟩
   refine ⟨0,hf,⟨Nat.zero_le _,fun k hk=>absurd hk (Nat.not_lt_zero _)⟩,?_⟩
   rintro e vs bs (⟨rfl,hs,rfl,rfl⟩ | ⟨rfl,i,T,rfl,rfl⟩)
   ·exact k1 hs _ rfl
   ·exact k2 i T
 ·rintro lock tt h K ⟨hf,hc,_⟩
  exact (hA hc).elim
theorem lA0_ok (hw:SpOk Try.prog awR.1 awR.2):LSound Try.prog true (.block 0 (.loop (loopB 0 (bodyOf Try.prog 3)))) (ntOf Try.prog 3) (lA0 p v b l t m):=
 ghost_cells_row (m:=3) (nx:=4) (cs:=[inD p.D,.nils,.nils]) (cs':=[inD p.D,.sl 4 0,.nils]) (ty:=26)
  (bs:=[0,1,2,3].zip (blA p v t ++ [.cells [inD p.D,.nils,.nils] 26])) (t0:=ds0.zip (I 0::I p.T.length::tlT p::tmA b l m))
  (Nos.tG []) 5 38 (lA0s_ok hw) rfl (fun R xs hv hx=>by
   obtain ⟨a0,_,k0,⟨x1,_,k1,k2,rfl⟩,rfl⟩:=hx
   exact ⟨_,_,k0,⟨_,_,nil_ghost hv k1,k2,rfl⟩,rfl⟩) (by
   rintro lock tt h K ⟨hf,hi,k1,k2⟩
   exact ⟨hf,⟨⟨rfl,rfl,VB.fit_refl _,VB.fit_refl _,VB.fit_refl _,VB.fit_refl _,VB.fit_refl _,trivial⟩,rfl,rfl,rfl,rfl,rfl,rfl,rfl,rfl,rfl,rfl,rfl,rfl,trivial⟩,hi,k1,k2⟩)
theorem lA2s_ok {T:List Nos.Ts} (hA:Ar p v b l) (hw:SpOk Try.prog awR.1 awR.2):LSound Try.prog true (.block 2 (.loop (loopB 2 (bodyOf Try.prog 3)))) (ntOf Try.prog 3) (fun lock tt h K=>
  FitP lock h tt ⟨6,[0,1,2,3,4,5].zip (bl2 p v t ⟨p.D,T,[]⟩)⟩ (ds2.zip (I 0::I p.S.length::tlS p::tmA b l m)) /\
  K .normal (ds2.zip (I p.S.length::I p.S.length::tlS p::tmA b l m)) ⟨6,[0,1,2,3,4,5].zip (bl2 p v t ⟨p.D,T,qS p v b p.S.length⟩)⟩):=by
 have hp:=hA.hp
 have hS:=hp.s
 have hbp:=hA.hb
 refine loop_row hmix (noL_good (tab1 hw)) (un:=10) (ds:=ds2) (ns:=[0,1,2,3,4,5]) (nx:=6) (fun i:Nat=>I i::I p.S.length::tlS p::tmA b l m) (fun i=>bl2 p v t ⟨p.D,T,qS p v b i⟩) (fun i=>i<=p.S.length) (fun i=>p.S.length - i)
  (fun _ e vs bs=>e=.exit 2/\vs=(I p.S.length::I p.S.length::tlS p::tmA b l m)/\bs=bl2 p v t ⟨p.D,T,qS p v b p.S.length⟩) noL_ok ?_ ?_
 ·intro i hi
  have hlen:(qS p v b i).length=i:=mapR_len
  refine cast (r2_ev p v b l t m i ⟨p.D,T,qS p v b i⟩ _).symm ?_
  refine cond_d (fun h=>?_) (fun h=>?_)
  ·have hi2:i<p.S.length:=by omega
   have ht:p.S.getD (i:Int).toNat Nos.s0 ∈ p.S:=by rw [Int.toNat_natCast]; exact qs_mem hi2
   have hb:=hp.sd _ ht
   have e1:=hA.bb 0
   have e5:=vL_bd hA.vb ((p.S.getD (i:Int).toNat Nos.s0).s.toNat*1)
   have e6:=rem_bd e5.1 (show (0:Int)<900 by decide)
   have b9:=b0_bd hA 0 (n:=9) (by decide)
   have b7:=b0_bd hA 0 (n:=7) (by decide)
   have hvl:(vL v).length=16:=rfl
   have z:Int.toNat (0:Int)=0:=rfl
   rw [z]
   refine cond_dk ⟨by omega,by omega⟩ (cond_dk ⟨by omega,by omega⟩ (cond_dk (by omega) (cond_r (by omega) (cond_dk ⟨by omega,by omega⟩ (cond_r (by omega) (cond_r (by omega) (cond_dk ⟨by omega,by omega⟩ (cond_r (by omega) (cond_r (by omega) (cond_k (Nat.beq_refl _) (cond_k (room24 (by dsimp only; omega)) (cond_r (by omega) ?_))))))))))))
   have hq:qS p v b (i+1)=qS p v b i ++ [qs p v b i]:=mapR_succ
   refine ⟨i+1,by show i+1<=_; omega,by dsimp only; omega,rfl,?_,fun _ _ _ h=>h⟩
   show fitBs (bl2 p v t ⟨p.D,T,qS p v b (i+1)⟩) _
   rw [hq]
   refine ⟨VB.fit_refl _,VB.fit_refl _,VB.fit_refl _,?_,VB.fit_refl _,⟨by dsimp only; rw [List.length_append]; rfl,rfl,rfl,fun j hj=>?_⟩,trivial⟩
   ·show VB.fit (.cells [inD p.D,.sl 4 T.length,.sl 5 (qS p v b i ++ [qs p v b i]).length] 26) _
    rw [List.length_append]; exact VB.fit_refl _
   ·have hj:j<(qS p v b i ++ [qs p v b i]).length:=hj
    rw [List.length_append] at hj
    refine Eq.trans ?_ (sG_snoc (T:=qS p v b i) (x:=qs p v b i) rfl j hj)
    have:Nos.sdL (qs p v b i)=[I (p.S.getD (i:Int).toNat Nos.s0).s,I (remZ ((vL v).getD ((p.S.getD (i:Int).toNat Nos.s0).s.toNat*1) 0) 900 - remZ (b.getD 0 0) 9),I (remZ ((vL v).getD ((p.S.getD (i:Int).toNat Nos.s0).s.toNat*1) 0) 900+remZ (b.getD 0 0) 7)]:=by rw [Int.toNat_natCast]; rfl
    rw [this]
  ·obtain rfl:i=p.S.length:=by omega
   exact ⟨rfl,rfl,rfl⟩
 ·rintro lock tt h K ⟨hf,k1⟩
  refine ⟨0,hf,Nat.zero_le _,?_⟩
  rintro e vs bs ⟨rfl,rfl,rfl⟩
  exact k1
theorem lA2_ok (hw:SpOk Try.prog awR.1 awR.2):LSound Try.prog true (.block 2 (.loop (loopB 2 (bodyOf Try.prog 3)))) (ntOf Try.prog 3) (lA2 p v b l t m):=by
 rintro lock tt h K ⟨T,hf,⟨hA,hT⟩,k1⟩
 have key:=ghost_cells_row (m:=3) (nx:=5) (cs:=[inD p.D,.sl 4 T.length,.nils]) (cs':=[inD p.D,.sl 4 T.length,.sl 5 0]) (ty:=26)
  (bs:=[0,1,2,3,4].zip (bl0 p v t T)) (t0:=ds2.zip (I 0::I p.S.length::tlS p::tmA b l m))
  (Nos.sG []) 3 42 (lA2s_ok (t:=t) (m:=m) (T:=T) hA hw) rfl (fun R xs hv hx=>by
   obtain ⟨a0,_,k0,⟨x1,_,k1,⟨x2,_,k2,k3,rfl⟩,rfl⟩,rfl⟩:=hx
   exact ⟨_,_,k0,⟨_,_,k1,⟨_,_,nil_ghost hv k2,k3,rfl⟩,rfl⟩,rfl⟩) (T:=fun lock tt h K=>FitP lock h tt ⟨5,[0,1,2,3,4].zip (bl0 p v t T)⟩ (ds2.zip (I 0::I p.S.length::tlS p::tmA b l m)) /\
   K .normal (ds2.zip (I p.S.length::I p.S.length::tlS p::tmA b l m)) ⟨6,[0,1,2,3,4,5].zip (bl2 p v t ⟨p.D,T,qS p v b p.S.length⟩)⟩) (by
   rintro lock tt h K ⟨hf,k1⟩
   exact ⟨hf,⟨⟨rfl,rfl,VB.fit_refl _,VB.fit_refl _,VB.fit_refl _,VB.fit_refl _,VB.fit_refl _,VB.fit_refl _,trivial⟩,rfl,rfl,rfl,rfl,rfl,rfl,rfl,rfl,rfl,rfl,rfl,rfl,trivial⟩,k1⟩)
 refine key lock tt h K ⟨hf,?_⟩
 subst hT
 exact k1 _ rfl
end
end Go.Sx.Top
namespace Go.Sx.Top
open Go Go.Sx Go.Proofs
open Go.Sx.Bln (Stk Tst stD stG tsL)
open Go.Sx.Nod (inD dG I noL_good tab1 hmix good0 noL_ok wkL)
open Go.Sx.Nos (PnOk)
set_option maxRecDepth 1000000
theorem ghost_row {c:Code} {n d nx:Nat} {bs:List (Nat × VB)} {t0:Slots} {T0 T:LT} (g:Nat->List VV) (s:Nat) (ty:TypeId) (h0:LSound Try.prog true c n T0)
  (hT:∀ lock t h K,T lock t h K->FitP lock h t ⟨nx,bs⟩ ((d,.nils)::t0)/\T0 0 ((d,.sl nx 0)::t0) ((VH.mk nx bs).new (.vec 0 g s ty)) K):LSound Try.prog true c n T:=by
 intro lock t h K hK
 obtain ⟨hf,hK⟩:=hT lock t h K hK
 obtain ⟨e,t',h',hk,_,hs⟩:=h0 _ _ _ _ hK
 obtain rfl:=hf.1.1
 refine ⟨e,t',h',hk,lock0 _ _,sem_fit hf (sem_ghost g s ty hs fun R a hv ht=>?_)⟩
 have h1:=slot_ghost (d:=d) (n0:=nx) (t:=(d,.nils)::t0) (by rw [look_cons]; exact if_pos rfl) R a hv ht
 intro d'
 have h2:=h1 d'
 rw [look_cons] at h2 ⊢
 by_cases h:d=d'
 ·rw [if_pos h] at h2 ⊢; exact h2
 ·rw [if_neg h] at h2 ⊢
  rw [look_cons,if_neg h] at h2
  exact h2
theorem wk_cons {x:VV} {a b:List VV} (h:wkL a b):wkL (x::a) (x::b):=by
 refine ⟨fun R xs hx=>?_,fun hx=>?_,by rw [List.length_cons,List.length_cons,h.2.2]⟩
 ·obtain ⟨y,ys,h1,h2,rfl⟩:=hx
  exact ⟨y,ys,h1,h.1 R ys h2,rfl⟩
 ·rw [List.all_cons,Bool.and_eq_true] at hx ⊢
  exact ⟨hx.1,h.2.1 hx.2⟩
theorem room56 {n:Nat} (h:n<=1000000):roomB n 56=true:=by
 unfold roomB
 rw [Nat.ble_eq_true_of_le (by omega),Nat.ble_eq_true_of_le (by omega)]
 rfl
noncomputable def skG (q:Nos.Pn) (l:List Stk) (j:Nat):List VV:=[I (sk q l j).casks,I (sk q l j).vol,I (sk q l j).age,I (sk q l j).cost,.tl 1 2 fun i=>List.take 2 (List.drop (i*2) [I (max 0 (Nos.valF q j).1),I (min 1000 (Nos.valF q j).2.1)])]
section
variable {p:Nos.Pn} {v:Nat->Int} {b:List Int} {l:List Stk} {t:Tst} {m:Int} {q:Nos.Pn}
theorem sk_wk (n:Nat):wkL [.tl n 5 (skG q l)] [stD (skL q l n)]:=by
 have hl:(skL q l n).length=n:=mapR_len
 unfold stD
 refine Nod.tl_weak hl (fun i hi=>?_)
 have e:(skL q l n).getD i Bln.k0=sk q l i:=mapR_get hi
 unfold stG
 rw [e]
 refine wk_cons (wk_cons (wk_cons (wk_cons ?_)))
 exact Nod.tl_weak rfl (fun j hj=>by
  obtain rfl:j=0:=by have hj:j<1:=hj; omega
  exact Nod.wkL_refl _)
theorem vaR_ok (_:PnOk q):SpOk Try.prog (vaR q).1 (vaR q).2:=by
 intro lock args h K hK
 simp only [vaR] at hK
 split at hK
 ·rename_i d t s i
  obtain ⟨h1,h2,hK⟩:=hK
  exact Nos.valT_ok lock _ h K ⟨q,h1,h2,hK _ rfl⟩
 ·exact hK.elim
theorem rows4 (hw:SpOk Try.prog awR.1 awR.2) (hq:PnOk q):∀ x ∈ [awR,vaR q],SpOk Try.prog x.1 x.2:=fun x hx=>by
 simp only [List.mem_cons,List.not_mem_nil,or_false] at hx
 rcases hx with rfl | rfl
 ·exact hw
 ·exact vaR_ok hq
theorem cat_g {g:Nat->List VV} {i:Nat} {f:Nat->List VV} (hf:f 0=g i):∀ j,j<i+1->g j=catG i g f j:=by
 intro j hj
 by_cases h:j<i
 ·rw [Nod.catG_lt h]
 ·obtain rfl:j=i:=by omega
  rw [Nod.catG_ge (Nat.le_refl _),Nat.sub_self,hf]
def o4 (p:Nos.Pn) (v:Nat->Int) (b:List Int) (l:List Stk) (t:Tst) (m:Int) (q:Nos.Pn) (e:VEx) (vs:List VV) (bs:List VB):Prop:=
 (e=.normal/\vaOk q l.length/\vs=(I l.length::I l.length::stD l::.sl 6 l.length::tmA b l m)/\bs=bl4 p v t q l.length (skG q l)) ∨
 (e=.ret/\∃ (i N:Nat) (g:Nat->List VV),vs=(I i::I l.length::stD l::.sl 6 N::tmT b l m)/\bs=bl4 p v t q N g)
theorem lA4s_ok (hA:Ar p v b l) (hs:scOk p v b p.T.length) (hw:SpOk Try.prog awR.1 awR.2) (hq:q=qP p v b):LSound Try.prog true (.block 4 (.loop (loopB 4 (bodyOf Try.prog 3)))) (ntOf Try.prog 3) (fun lock tt h K=>
  FitP lock h tt ⟨7,[0,1,2,3,4,5,6].zip (bl4 p v t q 0 (skG q l))⟩ (ds4.zip (I 0::I l.length::stD l::.sl 6 0::tmA b l m)) /\
  ∀ e vs bs,o4 p v b l t m q e vs bs->K e (ds4.zip vs) ⟨7,[0,1,2,3,4,5,6].zip bs⟩):=by
 have hl:=hA.hl
 have hok:PnOk q:=by rw [hq]; exact q_ok hA hs
 have hD:q.D=p.D:=by rw [hq]; rfl
 refine loop_row hmix (noL_good (tab_ok _ (rows4 hw hok))) (un:=10) (ds:=ds4) (ns:=[0,1,2,3,4,5,6]) (nx:=7) (fun i:Nat=>I i::I l.length::stD l::.sl 6 i::tmA b l m) (fun i=>bl4 p v t q i (skG q l)) (fun i=>i<=l.length/\vaOk q i) (fun i=>l.length - i)
  (fun _ e vs bs=>∃ e',e'=exitOf 4 e/\o4 p v b l t m q e' vs bs) noL_ok ?_ ?_
 ·rintro i ⟨hi,hva⟩
  refine cast (r4_ev p v b l t m i q i (skG q l) _).symm ?_
  refine cond_d (fun h=>?_) (fun h=>?_)
  ·have hi2:i<l.length:=by omega
   have hvl:(vL v).length=16:=rfl
   have e5:=vL_bd hA.vb ((i:Int).toNat*1)
   obtain ⟨n6,n0⟩:=q_val hA hs (i:=i) (by omega)
   rw [<- hq] at n6 n0
   refine cond_dk ⟨by omega,by omega⟩ ⟨⟨⟨by rw [hD],rfl,fun j _=>by rw [hD]; rfl⟩,⟨rfl,_,_,rfl,fun _ _=>rfl⟩,⟨rfl,_,_,rfl,fun _ _=>rfl⟩⟩,⟨by omega,by omega⟩,fun r hr=>?_⟩
   subst hr
   have htr:remZ ((vL v).getD ((i:Int).toNat*1) 0) 900=tr v i:=rfl
   rw [htr]
   refine cond_d (fun c=>absurd c n6) (fun _=>cond_nd (fun c=>⟨_,rfl,.inr ⟨rfl,i,i,skG q l,rfl,rfl⟩⟩) (fun c0=>?_))
   obtain ⟨g1,g2⟩:=n0 c0
   refine cond_dk ⟨by omega,by omega⟩ (cond_dk (by omega) (cond_r (by omega) (cond_d (fun c=>absurd c (by omega)) (fun _=>?_))))
   refine cond_dk ⟨by omega,by omega⟩ (cond_dk (by omega) (cond_r (by omega) (cond_d (fun c=>absurd c (by omega)) (fun _=>?_))))
   refine cond_k (Nat.beq_refl _) (cond_k (room56 (by omega)) (cond_r (by omega) ⟨i+1,⟨by omega,fun k hk=>?_⟩,by dsimp only; omega,rfl,?_,fun _ _ _ h=>h⟩))
   ·by_cases hki:k=i
    ·subst hki; exact c0
    ·exact hva k (by omega)
   ·refine ⟨VB.fit_refl _,VB.fit_refl _,VB.fit_refl _,VB.fit_refl _,VB.fit_refl _,VB.fit_refl _,⟨rfl,rfl,rfl,fun j hj=>(cat_g (g:=skG q l) ?_ j hj).symm⟩,trivial⟩
    rw [show (i:Int).toNat=i from Int.toNat_natCast i]
    rfl
  ·obtain rfl:i=l.length:=by omega
   exact ⟨_,rfl,.inl ⟨rfl,hva,rfl,rfl⟩⟩
 ·rintro lock tt h K ⟨hf,k1⟩
  refine ⟨0,hf,⟨Nat.zero_le _,fun j hj=>absurd hj (Nat.not_lt_zero _)⟩,?_⟩
  rintro e vs bs ⟨e',rfl,ho⟩
  exact k1 _ _ _ ho
theorem lA4_ok (hw:SpOk Try.prog awR.1 awR.2):LSound Try.prog true (.block 4 (.loop (loopB 4 (bodyOf Try.prog 3)))) (ntOf Try.prog 3) (lA4 p v b l t m):=by
 rintro lock tt h K ⟨q,hf,⟨hA,hq,hs⟩,k1,k2⟩
 obtain rfl:=hf.1.1
 have key:=ghost_row (d:=22) (nx:=6) (bs:=[0,1,2,3,4,5].zip (bl2 p v t q)) (t0:=(180::179::178::dsA).zip (I 0::I l.length::stD l::tmA b l m)) (skG q l) 5 45 (lA4s_ok (t:=t) (m:=m) hA hs hw hq) (T:=fun lock tt h K=>FitP lock h tt ⟨6,[0,1,2,3,4,5].zip (bl2 p v t q)⟩ (ds4.zip (I 0::I l.length::stD l::.nils::tmA b l m))/\∀ e vs bs,o4 p v b l t m q e vs bs->K e (ds4.zip vs) ⟨7,[0,1,2,3,4,5,6].zip bs⟩) (by
  rintro lock tt h K ⟨hf,k1⟩
  refine ⟨⟨hf.1,?_⟩,⟨⟨rfl,rfl,VB.fit_refl _,VB.fit_refl _,VB.fit_refl _,VB.fit_refl _,VB.fit_refl _,VB.fit_refl _,VB.fit_refl _,trivial⟩,rfl,rfl,rfl,rfl,rfl,rfl,rfl,rfl,rfl,rfl,rfl,rfl,rfl,trivial⟩,k1⟩
  obtain ⟨a1,a2,a3,a4,a5,a6,a7,a8,a9,a10,a11,a12,a13,_⟩:=hf.2
  exact ⟨a4,a1,a2,a3,a5,a6,a7,a8,a9,a10,a11,a12,a13,trivial⟩)
 obtain ⟨e,t',h',hk,_,hsem⟩:=key 0 tt h (fun e t' h'=>∃ vs bs,o4 p v b l t m q e vs bs/\t'=ds4.zip vs/\h'=⟨7,[0,1,2,3,4,5,6].zip bs⟩) ⟨hf,fun e vs bs ho=>⟨vs,bs,ho,rfl,rfl⟩⟩
 obtain ⟨vs,bs,ho,rfl,rfl⟩:=hk
 rcases ho with ⟨rfl,hva,rfl,rfl⟩ | ⟨rfl,i,N,g,rfl,rfl⟩
 ·have h1:=ToldT.sem (told_one (d:=22) (b:=6) (L:=l.length) (s:=5) (g:=skG q l) (ty:=45) rfl rfl) hsem
  have h2:=ToldT.sem (told_weak (d:=22) (v:=.tl l.length 5 (skG q l)) (v':=stD (skL q l l.length)) rfl (fun R x hx=>Nod.wk_one (sk_wk l.length) x hx)) h1
  exact ⟨_,_,_,k1 hva _ rfl,lock0 _ _,sem_weak h2 (by rw [hf.1.2.1]; show 6<=7; decide) ⟨VB.fit_refl _,VB.fit_refl _,VB.fit_refl _,VB.fit_refl _,VB.fit_refl _,VB.fit_refl _,trivial⟩ rfl ⟨rfl,rfl,rfl,rfl,rfl,rfl,rfl,rfl,rfl,rfl,rfl,rfl,rfl,trivial⟩ rfl (fun v h=>by cases h)⟩
 ·exact ⟨_,_,_,k2 i N,lock0 _ _,sem_weak hsem (by rw [hf.1.2.1]; show 6<=7; decide) ⟨VB.fit_refl _,VB.fit_refl _,VB.fit_refl _,VB.fit_refl _,VB.fit_refl _,VB.fit_refl _,trivial⟩ rfl ⟨rfl,rfl,rfl,rfl,rfl,rfl,rfl,rfl,rfl,rfl,rfl,rfl,trivial⟩ rfl (fun v h=>by cases h)⟩
end
end Go.Sx.Top
namespace Go.Sx.Top
open Go Go.Sx Go.Proofs
open Go.Sx.Bln (Stk Tst stD stG tsL)
open Go.Sx.Nod (inD dG I noL_good tab1 hmix good0 noL_ok wkL)
set_option maxRecDepth 1000000
theorem mul_le {a b A B:Int} (h1:0<=a/\a<=A) (h2:0<=b/\b<=B):0<=a*b/\a*b<=A*B:=Bln.mul_bd h1 h2
section
variable {v:Nat->Int} {L:List Stk} {C:List Int} {t:Tst} {m:Int}
theorem c6_t (h:C6 L C v) {i:Nat} (hi:i<L.length):(0<=C.getD i 0*(L.getD i Bln.k0).vol/\C.getD i 0*(L.getD i Bln.k0).vol<=393216)/\0<=C.getD i 0*(L.getD i Bln.k0).vol*tr v i/\C.getD i 0*(L.getD i Bln.k0).vol*tr v i<=393216*899:=by
 obtain ⟨h1,h2,h3⟩:=h.cb i hi
 have a:=mul_le h1 ⟨h2,h3⟩
 have a':0<=C.getD i 0*(L.getD i Bln.k0).vol/\C.getD i 0*(L.getD i Bln.k0).vol<=393216:=⟨a.1,by omega⟩
 exact ⟨a',mul_le a' (tr_bd h.vb i)⟩
theorem su_bd (h:C6 L C v):∀ i,i<=L.length->(0<=(suA L C v i).1/\(suA L C v i).1<=i*353501184)/\0<=(suA L C v i).2/\(suA L C v i).2<=i*393216
 | 0,_=>by unfold suA; omega
 | i+1,hi=>by
  obtain ⟨h1,h2⟩:=su_bd h i (by omega)
  obtain ⟨h3,h4⟩:=c6_t h (i:=i) (by omega)
  unfold suA
  dsimp only
  omega
theorem lA6_ok:LSound Try.prog true (.block 6 (.loop (loopB 6 (bodyOf Try.prog 3)))) (ntOf Try.prog 3) (lA6 v t m):=by
 rintro lock tt h K ⟨L,C,hf,hc,k1⟩
 have hl:=hc.hl
 have key:LSound Try.prog true (.block 6 (.loop (loopB 6 (bodyOf Try.prog 3)))) (ntOf Try.prog 3) (fun lock tt h K=>FitP lock h tt ⟨7,[1,2].zip (bl6 v t)⟩ (ds6.zip (V6 L C m 0 0 0)) /\
  K .normal (ds6.zip (V6 L C m L.length (suA L C v L.length).2 (suA L C v L.length).1)) ⟨7,[1,2].zip (bl6 v t)⟩):=by
  refine loop_row hmix good0 (un:=10) (ds:=ds6) (ns:=[1,2]) (nx:=7) (fun i:Nat=>V6 L C m i (suA L C v i).2 (suA L C v i).1) (fun _=>bl6 v t) (fun i=>i<=L.length) (fun i=>L.length - i)
   (fun _ e vs bs=>e=.exit 6/\vs=V6 L C m L.length (suA L C v L.length).2 (suA L C v L.length).1/\bs=bl6 v t) noL_ok ?_ ?_
  ·intro i hi
   obtain ⟨s1,s2⟩:=su_bd hc i hi
   refine cast (r6_ev v L C t m i (suA L C v i).2 (suA L C v i).1 _).symm ?_
   refine cond_d (fun h=>?_) (fun h=>?_)
   ·have hi2:i<L.length:=by omega
    have hvl:(vL v).length=16:=rfl
    have hCl:=hc.hC
    have e5:=vL_bd hc.vb ((i:Int).toNat*1)
    obtain ⟨t1,t2⟩:=c6_t hc hi2
    have htr:remZ ((vL v).getD ((i:Int).toNat*1) 0) 900=tr v i:=rfl
    rw [htr,show (i:Int).toNat=i from Int.toNat_natCast i]
    have e5:=vL_bd hc.vb (i*1)
    refine cond_dk ⟨by omega,by omega⟩ (cond_dk ⟨by omega,by omega⟩ (cond_r (by omega) (cond_dk ⟨by omega,by omega⟩ (cond_dk (by omega) (cond_r (by omega) (cond_r (by omega) (cond_r (by omega) (cond_dk ⟨by omega,by omega⟩ (cond_r (by omega) (cond_r (by omega) (cond_r (by omega) ?_)))))))))))
    exact ⟨i+1,by show i+1<=_; omega,by dsimp only; omega,rfl,fitBs_refl _,fun _ _ _ h=>h⟩
   ·obtain rfl:i=L.length:=by omega
    exact ⟨rfl,rfl,rfl⟩
  ·rintro lock tt h K ⟨hf,k1⟩
   refine ⟨0,hf,Nat.zero_le _,?_⟩
   rintro e vs bs ⟨rfl,rfl,rfl⟩
   exact k1
 exact key lock tt h K ⟨hf,k1 _ _ rfl rfl⟩
theorem chR_ok:SpOk Try.prog (chR t).1 (chR t).2:=by
 intro lock args h K hK
 simp only [chR] at hK
 split at hK
 ·rename_i x z y m
  obtain ⟨L,rfl,rfl,k1,k2⟩:=hK
  obtain ⟨r,h',hc,⟨e,rfl⟩ | ⟨e,c,hb,rfl⟩⟩:=Bln.chp_v L t y m
  ·exact ⟨_,h,k1 _ e rfl,lockP_refl _ _,calls_lift0 hc rfl rfl⟩
  ·have hw:wkL [.tl L.length 1 (Bln.chG c)] [inD ((List.range L.length).map c)]:=by
    refine Nod.tl_weak mapR_len (fun i hi=>?_)
    unfold dG Bln.chG
    rw [mapR_get hi]
    exact Nod.wkL_refl _
   refine ⟨_,h,k2 e c hb _ rfl,lockP_refl _ _,Nod.calls_res (calls_lift0 hc rfl rfl) (fun R x hx=>?_)⟩
   obtain ⟨ys,⟨y1,ys1,hy,hr,rfl⟩,rfl⟩:=hx
   exact ⟨_,⟨y1,ys1,Nod.wk_one hw _ hy,hr,rfl⟩,rfl⟩
 ·exact hK.elim
end
end Go.Sx.Top
namespace Go.Sx.Top
open Go Go.Sx Go.Proofs
open Go.Sx.Nos (Nd PnOk zeroN vN cN links Sol Mx thP)
open Go.Sx.Nod (hmix)
set_option maxRecDepth 1000000
def pZ:Nos.Pn:=⟨[],[],[⟨3,4,9⟩]⟩
theorem pz_ok:PnOk pZ:=Nos.panB_iff.1 (by decide)
theorem pz_lk:links pZ=[(vN 3,zeroN,9),(zeroN,vN 3,-4)]:=by decide
def xz (n:Int) (a:Nd):Int:=if a=vN 3 then n else 0
theorem pz_s1:Sol pZ (xz 9):=by unfold Sol; rw [pz_lk]; decide
theorem pz_s2:Sol pZ (xz 4):=by unfold Sol; rw [pz_lk]; decide
theorem pz_fit:Nos.fitF pZ:=(Nos.fit_iff pz_ok).2 ⟨_,pz_s1⟩
theorem pz_t1:thP pZ (vN 3):=.inr ⟨(vN 3,zeroN,9),by rw [pz_lk]; simp,rfl⟩
theorem pz_t2:thP pZ zeroN:=.inl rfl
theorem pz_in {x:Nd->Int} (h:Sol pZ x):x (vN 3) - x zeroN<=9/\x zeroN - x (vN 3) <= -4:=by
 have g:∀ l ∈ [(vN 3,zeroN,(9:Int)),(zeroN,vN 3,-4)],x l.1 - x l.2.1<=l.2.2:=pz_lk ▸ h
 exact ⟨g (vN 3,zeroN,9) (by simp),g (zeroN,vN 3,-4) (by simp)⟩
theorem pz_val:Nos.valF pZ 3=(4,9,0):=by
 unfold Nos.valF
 rw [if_neg (fun h=>h.2 (by decide))]
 have m1:=(Nos.mem_no pz_ok _).2 pz_t1
 have m2:=(Nos.mem_no pz_ok _).2 pz_t2
 have e1:Nos.farAB pZ (vN 3) zeroN=9:=(Nos.far_iff pz_ok pz_fit m1 m2 9 (by decide)).2 ⟨fun x hx=>(pz_in hx).1,_,pz_s1,by decide⟩
 have e2:Nos.farAB pZ zeroN (vN 3) = -4:=(Nos.far_iff pz_ok pz_fit m2 m1 (-4) (by decide)).2 ⟨fun x hx=>(pz_in hx).2,_,pz_s2,by decide⟩
 unfold Nos.btF
 rw [if_pos pz_ok,if_pos ⟨pz_t1,pz_t2⟩,if_pos pz_fit,e1,e2,if_neg (by decide)]
 rfl
theorem aw_v:∃ h',CallsV Try.prog 6 [] ⟨0,[]⟩ (.ret (.bool true)) h':=by
 obtain ⟨r,h',rfl,hc⟩:=of_callN (tab_good hmix (l:=[Nos.valT]) (fun x hx=>by
   simp only [List.mem_singleton] at hx
   subst hx
   exact Nos.valT_ok) 20) (un:=10) (f:=6) (args:=[]) (h:=⟨0,[]⟩) (K:=fun r _=>r=.ret (.bool true))
  (by
   refine cast (aw_ev _).symm ?_
   refine ⟨pZ,⟨rfl,rfl,⟨rfl,_,_,rfl,fun j hj=>?_⟩⟩,⟨by decide,by decide⟩,?_⟩
   ·match j,hj with
    | 0,_=>rfl
   ·have e:(fun (p:Nos.Pn) (ns:List Int)=>Nos.valF p (Nos.g0 ns 0)) pZ [(3:Int)]=(4,9,0):=pz_val
    rw [e]
    rfl)
 exact ⟨h',hc⟩
theorem aw_ok:SpOk Try.prog awR.1 awR.2:=awR_ok0 aw_v
end Go.Sx.Top
namespace Go.Sx.Top
open Go Go.Sx Go.Proofs
open Go.Sx.Bln (Stk Tst stD stG tsL rtT volF sumF tmV)
open Go.Sx.Nod (pnL inD dG I hmix rpR)
open Go.Sx.Nos (PnOk)
set_option maxRecDepth 1000000
section
variable {p:Nos.Pn} {v:Nat->Int} {b:List Int} {l:List Stk} {t:Tst} {m:Int}
theorem isD_pn {h:VH}:isD h 2 (.agg (pnL p)) (.agg (pnL p)):=⟨⟨rfl,rfl,fun _ _=>rfl⟩,⟨rfl,rfl,fun _ _=>rfl⟩,⟨rfl,rfl,fun _ _=>rfl⟩,trivial⟩
theorem isD_t {h:VH}:isD h 3 (.agg (tsL t)) (.agg (tsL t)):=⟨⟨rfl,rfl,fun _ _=>rfl⟩,⟨rfl,rfl⟩,⟨rfl,rfl⟩,trivial⟩
theorem rows_ok:∀ x ∈ [rpR p,rtT,awR,chR t],SpOk Try.prog x.1 x.2:=fun x hx=>by
 simp only [List.mem_cons,List.not_mem_nil,or_false] at hx
 rcases hx with rfl | rfl | rfl | rfl
 ·exact Nod.rpR_ok
 ·exact Bln.rtT_ok
 ·exact aw_ok
 ·exact chR_ok
theorem loops_ok:LoopsOk Try.prog 3 [(0,lA0 p v b l t m),(2,lA2 p v b l t m),(4,lA4 p v b l t m),(6,lA6 v t m)]:=fun x hx=>by
 simp only [List.mem_cons,List.not_mem_nil,or_false] at hx
 rcases hx with rfl | rfl | rfl | rfl
 ·exact ⟨by kernel_rfl,lA0_ok aw_ok⟩
 ·exact ⟨by kernel_rfl,lA2_ok aw_ok⟩
 ·exact ⟨by kernel_rfl,lA4_ok aw_ok⟩
 ·exact ⟨by kernel_rfl,lA6_ok⟩
theorem fin_ok {Q:VRes->Prop} (hQ:Q (VRes.ret (VV.bool true))) {T f vo su:Int} {n:Int} (hn:n=1) (hT:0<=T/\T<=1000) (hf:0<=f/\f<=1000) (hvo:0<=vo/\vo<=4*393216) (h1:m<=vo) (h2:su<=(T+f)*vo) (h3:(T - f)*vo<=su) :
  bif decide (vo ≥ m) then
 bif decide ((0:Int)<=(0:Int)/\(0:Int)<n) then
 bif inK .i64 (T+f) then
 bif inK .i64 ((T+f)*vo) then
 bif decide (su<=(T+f)*vo) then
 bif decide ((0:Int)<=(0:Int)/\(0:Int)<n) then
 bif inK .i64 (T - f) then
 bif inK .i64 ((T - f)*vo) then
 bif decide (su ≥ (T - f)*vo) then
 Q (VRes.ret (VV.bool true))
 else Q (VRes.ret (VV.bool false))
 else False
 else False
 else False
 else Q (VRes.ret (VV.bool false))
 else False
 else False
 else False
 else Q (VRes.ret (VV.bool false)):=by
 have a1:=mul_le (a:=T+f) (A:=2000) ⟨by omega,by omega⟩ hvo
 have a2:=mul_le hT hvo
 have a3:=mul_le hf hvo
 have e:(T - f)*vo=T*vo - f*vo:=Int.sub_mul T f vo
 exact cond_dk h1 (cond_dk ⟨by omega,by omega⟩ (cond_r (by omega) (cond_r (by omega) (cond_dk h2 (cond_dk ⟨by omega,by omega⟩ (cond_r (by omega) (cond_r (by omega) (cond_dk h3 hQ))))))))
theorem tasted_v (bb:∀ i,0<=b.getD i 0/\b.getD i 0<=65535) (vb:∀ i,0<=v i/\v i<=65535):∃ h',CallsV Try.prog 3 [.agg (pnL p),.agg (vaL v),byD b,stD l,.agg (tsL t),I m] ⟨0,[]⟩ (.ret (.bool true)) h':=by
 obtain ⟨r,h',rfl,hc⟩:=of_callN (callL_good hmix (tab_ok _ (rows_ok (p:=p) (t:=t))) (loops_ok (p:=p) (v:=v) (b:=b) (l:=l) (t:=t) (m:=m)) (un:=10) 20) (f:=3) (args:=[.agg (pnL p),.agg (vaL v),byD b,stD l,.agg (tsL t),I m]) (h:=⟨0,[]⟩) (K:=fun r _=>r=.ret (.bool true)) (by
  refine cast (t_ev p v b l t m _).symm ?_
  refine cond_d (fun _=>rfl) (fun hT=>cond_d (fun _=>rfl) (fun hS=>cond_d (fun _=>rfl) (fun hl=>cond_d (fun _=>rfl) (fun hb=>cond_nd (fun _=>rfl) (fun ht1=>⟨isD_pn,?_⟩)))))
  refine cond_i (fun _=>rfl) (fun hpB=>⟨t,isD_t,by omega,cond_i (fun _=>rfl) (fun _=>?_)⟩)
  have hA:Ar p v b l:=⟨Nos.panB_iff.1 (by simpa using hpB),by omega,by omega,by omega,bb,vb⟩
  refine ⟨fitP_self rfl,hA,fun hs T hT'=>⟨T,?_,⟨hA,hT'⟩,fun q hq=>⟨q,?_,⟨hA,hq,hs⟩,fun hva L hL=>⟨L,rfl,rfl,fun e he0 _=>cond_nd (fun _=>rfl) (fun h=>absurd h he0),fun he c hcc C hC=>?_⟩,fun _ _=>rfl⟩⟩,fun _ _=>rfl⟩
  ·exact ⟨⟨rfl,rfl,VB.fit_refl _,VB.fit_refl _,VB.fit_refl _,VB.fit_refl _,VB.fit_refl _,trivial⟩,rfl,rfl,rfl,rfl,rfl,rfl,rfl,rfl,rfl,rfl,rfl,rfl,trivial⟩
  ·exact ⟨⟨rfl,rfl,VB.fit_refl _,VB.fit_refl _,VB.fit_refl _,VB.fit_refl _,VB.fit_refl _,VB.fit_refl _,trivial⟩,rfl,rfl,rfl,rfl,rfl,rfl,rfl,rfl,rfl,rfl,rfl,rfl,rfl,trivial⟩
  ·have hLl:L.length=l.length:=by rw [hL]; exact mapR_len
   have hCl:C.length=L.length:=by rw [hC]; exact mapR_len
   have hprof:∀ i,i<L.length->((L.getD i Bln.k0).prof.getD 0 Bln.s0).lo<=tr v i/\tr v i<=((L.getD i Bln.k0).prof.getD 0 Bln.s0).hi:=fun i hi=>by
    have e:L.getD i Bln.k0=sk q l i:=by rw [hL]; exact mapR_get (by omega)
    have hq6:=(q_val hA hs (i:=i) (by omega)).2 (by rw [<- hq]; exact hva i (by omega))
    rw [<- hq] at hq6
    have htr:=tr_bd vb i
    rw [e]
    show max 0 (Nos.valF q i).1<=tr v i/\tr v i<=min 1000 (Nos.valF q i).2.1
    omega
   obtain ⟨hcb,hT0,hf0,k1,k2,k3⟩:=ch_true he hcc (by omega) vb hprof
   have hC6:C6 L C v:=⟨by omega,hCl,vb,fun i hi=>by
    have e:C.getD i 0=c i:=by rw [hC]; exact mapR_get hi
    rw [e]
    exact hcb i hi⟩
   have hsu:=suA_sum (v:=v) hC L.length (Nat.le_refl _)
   have hbd:=(su_bd hC6 L.length (Nat.le_refl _)).2
   refine cond_nd (fun h=>absurd (by omega) h) (fun _=>⟨L,C,⟨⟨rfl,rfl,VB.fit_refl _,VB.fit_refl _,trivial⟩,rfl,rfl,rfl,rfl,rfl,rfl,rfl,rfl,rfl,rfl,trivial⟩,hC6,fun su vo h1 h2=>?_⟩)
   rw [hsu] at h1 h2 hbd
   dsimp only at h1 h2 hbd
   subst h1
   subst h2
   exact fin_ok (Q:=fun r=>r=.ret (.bool true)) rfl (by omega) hT0 hf0 ⟨hbd.1,by omega⟩ k1 k2 k3)
 exact ⟨h',hc⟩
end
end Go.Sx.Top
