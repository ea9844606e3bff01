/- stream: Oa1 Ob1 Ob2 Oa2 Oa3 Oa4 Ob3 Rh2, in one text. -/
import Derived.Test.YtlboglkgbhjpeaaWW5
import Derived.Test.YtlboglkgbhjpeaaWW6
namespace Go.Sx.Bln
open Go Go.Sx Go.Proofs
set_option maxRecDepth 1000000
def apN (p:List (List Int)):FuncId × Spec1:=(39,fun _ args h K=>match args with
 | [x]=>isD h 4 x (pthD p)/\((∀ i,(p.getD i []).length<=100000)/\okPaths p=false)/\K (.ret (.bool false)) h
 | _=>False)
theorem ple3_ev (l:List Stk) (t:Tst) (p:List (List Int)) (Q:VRes->VH->Prop):callN Try.prog (tabS [asK l t true,apN p]) noL 10 20 0 (.fn 17) [stD l,.agg (tsL t),pthD p] ⟨0,[]⟩ (fun r h=>Q r h) =
 (isD (VH.mk (2) [(1,.cells [pthD p] 26),(0,.cells (tsL t) 25)]) 2 (stD l) (stD l)/\isD (VH.mk (2) [(1,.cells [pthD p] 26),(0,.cells (tsL t) 25)]) 2 (VV.agg (tsL t)) (VV.agg (tsL t))/\okAll l t=true/\isD (VH.mk (2) [(1,.cells [pthD p] 26),(0,.cells (tsL t) 25)]) 4 (pthD p) (pthD p)/\((∀ (i:Nat),(p.getD i []).length.le 100000)/\okPaths p=false)/\Q (VRes.ret (VV.tup [.nils,I 2])) (VH.mk (2) [(1,.cells [pthD p] 26),(0,.cells (tsL t) 25)])):=by kernel_rfl
section
variable {l:List Stk} {a c:Nat->Int}
end
end Go.Sx.Bln
namespace Go.Sx
open Go
section
variable {P:Program}
end
end Go.Sx
namespace Go.Sx.Bln
open Go Go.Sx Go.Proofs
set_option maxRecDepth 1000000
section
variable {l:List Stk} {t:Tst} {P:List (List Int)} {n:Nat} {s:Nat->Nat} {y:Nat} {a:Nat->Int} {d:Int}
end
section
variable {l:List Stk} {t:Tst} {y m:Int} {n n':Nat->Int}
end
section
variable {l:List Stk} {t:Tst} {P:List (List Int)} {Y k0 n:Nat} {s:Nat->Nat} {y:Nat} {a:Nat->Int}
end
section
variable {l:List Stk} {t:Tst} {P:List (List Int)} {Y k0 n:Nat} {s:Nat->Nat} {S y:Nat} {a:Nat->Int}
end
section
variable {l:List Stk} {t:Tst} {P:List (List Int)} {Y:Nat}
end
section
variable {l:List Stk} {t:Tst} {p:List (List Int)} {m:Int}
theorem apN_ok (p:List (List Int)):SpOk Try.prog (apN p).1 (apN p).2:=by
 intro lock args h K hK
 simp only [apN] at hK
 split at hK
 ·obtain ⟨hx,⟨h1,h2⟩,hK⟩:=hK
  obtain ⟨h',hv⟩:=paths_v h1
  rw [h2] at hv
  exact ⟨_,h,hK,lockP_refl _ _,calls_lendDP 4 hv rfl ⟨hx,trivial⟩⟩
 ·exact hK.elim
theorem plnA_v (hp:p=[] ∨ pthB p):PlnOut l t p:=by
 rcases hp with rfl | hp
 ·cases ho:okAll l t with
  | false=>exact plnE_v (.inl ho)
  | true=>
   have hp:okPaths []=false:=rfl
   have htab:∀ f T,tabS [asK l t true,apN []] f=some T->SpOk Try.prog f T:=tab_ok _ (fun x hx=>by
    simp only [List.mem_cons,List.not_mem_nil,or_false] at hx
    rcases hx with rfl | rfl
    ·exact asK_ok l t true
    ·exact apN_ok [])
   obtain ⟨r,h',rfl,hc⟩:=of_callN (noL_good htab) (f:=17) (args:=[stD l,.agg (tsL t),pthD []]) (h:=⟨0,[]⟩) (K:=fun r _=>r=.ret (.tup [.nils,I 2])) (cast (ple3_ev l t [] _).symm ⟨isD_l,isD_t,ho,⟨rfl,rfl,fun _ _=>rfl⟩,⟨fun i=>Nat.zero_le _,hp⟩,rfl⟩)
   exact ⟨_,_,hc,.inl ⟨by rw [plE_2 ho hp]; decide,by rw [plE_2 ho hp]⟩⟩
 ·exact pln_v hp
end
section
variable {l:List Stk} {t:Tst} {p:List (List Int)} {x:Rsl} {G:Nat->Nat->Int}
theorem pth_or (h1:p.length<=6) (h2:∀ i,(p.getD i []).length<=6):p=[] ∨ pthB p:=by
 cases p with
 | nil=>exact .inl rfl
 | cons d p=>exact .inr ⟨⟨Nat.succ_le_succ (Nat.zero_le _),by omega⟩,fun i=>Nat.le_trans (h2 i) (by decide)⟩
theorem peR_ok {er:Int} (he:plE l t p=er) (h0:er ≠ 0):SpOk Try.prog (peR l t p er).1 (peR l t p er).2:=by
 intro lock args h K hK
 simp only [peR] at hK
 split at hK
 ·obtain ⟨e1,rfl,e2,⟨w1,w2⟩,hK⟩:=hK
  rw [e1,e2]
  obtain ⟨r,h',hc,⟨_,rfl⟩ | ⟨h1,_⟩⟩:=plnA_v (l:=l) (t:=t) (pth_or w1 w2)
  ·rw [he] at hc
   exact ⟨_,h,hK,lockP_refl _ _,calls_lift0 hc rfl rfl⟩
  ·exact (h0 (he.symm.trans h1)).elim
 ·exact hK.elim
theorem owns_e {er:Int} (hg:greatF l t 64=false) (he:plE l t p=er) (h0:er ≠ 0):∃ h',CallsV Try.prog 3 [stD l,.agg (tsL t),pthD p] ⟨1,[(0,.bun 7 0 l.length G 3)]⟩ (.ret (.bool true)) h':=by
 have hall:LoopsOk Try.prog 3 [(0,lO0 l t p G),(4,lO4 l t p G),(12,lN12 l t p),(16,lN16 l t p)]:=fun y hy=>by
  simp only [List.mem_cons,List.not_mem_nil,or_false] at hy
  rcases hy with rfl | rfl | rfl | rfl
  ·exact ⟨by kernel_rfl,lO0_ok⟩
  ·exact ⟨by kernel_rfl,lO4_ok⟩
  ·exact ⟨by kernel_rfl,lN12_ok⟩
  ·exact ⟨by kernel_rfl,lN16_ok⟩
 have htab:∀ f T,tabS [grY l t false,wiR p,peR l t p er,cheapA,inR,spR,alT] f=some T->SpOk Try.prog f T:=tab_ok _ (fun y hy=>by
  simp only [List.mem_cons,List.not_mem_nil,or_false] at hy
  rcases hy with rfl | rfl | rfl | rfl | rfl | rfl | rfl
  ·exact grY_ok l t false
  ·exact wiR_ok p
  ·exact peR_ok he h0
  ·exact cheapA_ok
  ·exact inR_ok
  ·exact spR_ok
  ·exact alT_ok)
 obtain ⟨g1,g2,g3,_⟩:=great_len hg
 have hpr:=prof6 g3
 obtain ⟨r,h',rfl,hc⟩:=of_callN (callL_good hmix htab hall (un:=10) 20) (f:=3) (args:=[stD l,.agg (tsL t),pthD p]) (h:=⟨1,[(0,.bun 7 0 l.length G 3)]⟩) (K:=fun r _=>r=.ret (.bool true)) (by
  refine cast (ze_ev l t p G er _).symm ⟨isD_l,isD_t,hg,isD_p,fun b hb=>?_⟩
  cases b with
  | true=>exact rfl
  | false=>
   obtain ⟨w1,w2⟩:=hb rfl
   have hc1:=cO_len hpr l.length
   have hf1:=fO_len w2 p.length
   refine ⟨fitP_self rfl,⟨g1,hpr⟩,fun D hD=>⟨D,fitP_self (ds:=78::77::76::dsO) (vs:=I 0::I p.length::pthD p::VO l t p l.length D) rfl,⟨hD,w1,w2⟩,fun F hF=>cond_k (roomO8 (by omega)) ⟨rfl,rfl,rfl,⟨w1,w2⟩,rfl,rfl,rfl,⟨w1,w2⟩,l,t,isD_l,isD_t,D,F,er,?_,⟨g1,hpr⟩,fun A hA=>⟨D,F,A,er,fitP_self (ds:=175::174::173::dsOw) (vs:=I 0::I p.length::pthD p::VNw l t p D F er l.length A) rfl,⟨w1,w2⟩,fun B hB=>?_⟩⟩⟩⟩
   ·exact ⟨⟨rfl,rfl,VB.fit_refl _,VB.fit_refl _,VB.fit_refl _,⟨rfl,rfl,rfl,fun q hq=>rfl⟩,trivial⟩,rfl,rfl,rfl,rfl,rfl,rfl,rfl,rfl,rfl,rfl,rfl,rfl,rfl,rfl,rfl,rfl,trivial⟩
   ·subst hD hF hA hB
    refine ⟨_,fun j=>(cO l l.length).getD j 0,⟨rfl,Nat.le_refl _,_,_,rfl,fun _ _=>rfl⟩,⟨rfl,Nat.le_refl _,_,_,rfl,fun _ _=>rfl⟩,by omega,_,fun j=>(fO p p.length).getD j 0,⟨rfl,Nat.le_refl _,_,_,rfl,fun _ _=>rfl⟩,⟨rfl,Nat.le_refl _,_,_,rfl,fun _ _=>rfl⟩,by omega,t.T.length,fun j=>t.T.getD j 0,⟨rfl,rfl,fun _ _=>rfl⟩,⟨(Nat.zero_add _).symm,Nat.le_refl _,_,_,rfl,fun _ _=>rfl⟩,by omega,d3 0 (fun _=>0) (fun _ _=>0) (fun _ _ _=>0),d3 0 (fun _=>0) (fun _ _=>0) (fun _ _ _=>0),0,fun _=>0,fun _ _=>0,fun _ _ _=>0,rfl,rfl,⟨wkL_refl _,wkL_refl _⟩,⟨by omega,fun _=>Nat.zero_le _,fun _ _=>Nat.zero_le _⟩,cond_dk rfl rfl⟩)
 exact ⟨h',hc⟩
theorem owns_v:∃ h',CallsV Try.prog 3 [stD l,.agg (tsL t),pthD p] ⟨1,[(0,.bun 7 0 l.length G 3)]⟩ (.ret (.bool true)) h':=by
 cases hg:greatF l t 64 with
 | true=>
  have htab:∀ f T,tabS [grY l t true,alT] f=some T->SpOk Try.prog f T:=tab_ok _ (fun x hx=>by
   simp only [List.mem_cons,List.not_mem_nil,or_false] at hx
   rcases hx with rfl | rfl
   ·exact grY_ok l t true
   ·exact alT_ok)
  obtain ⟨r,h',rfl,hc⟩:=of_callN (noL_good htab) (f:=3) (args:=[stD l,.agg (tsL t),pthD p]) (h:=⟨0,[]⟩) (K:=fun r _=>r=.ret (.bool true)) (cast (zg_ev l t p _).symm ⟨isD_l,isD_t,hg,rfl⟩)
  exact ⟨_,calls_lift0 hc rfl rfl⟩
 | false=>
  by_cases he:plE l t p=0
  ·unfold plE at he
   split at he
   ·omega
   ·rename_i h1
    split at he
    ·omega
    ·rename_i h2
     split at he
     ·omega
     ·rename_i y hy
      exact owns_z hg (by simpa using h1) (by simpa using h2) hy
  ·exact owns_e hg rfl he
end
end Go.Sx.Bln
