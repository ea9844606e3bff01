import Derived.Test.YtjpjicnfpikdlaaWW3
namespace Go.Sx.Srn
open Go Go.Sx Go.Proofs
set_option maxRecDepth 1000000
section
variable {R:List Int} {l:List Brn} {D:List Int}
theorem lIn_ok:LSound Try.prog true (.block 0 (.loop (loopB 0 (bodyOf Try.prog 18)))) (ntOf Try.prog 18) (lIn D):=by
 by_cases hn:D.length<=100000
 ·refine loop_row hmix good0 (un:=10) (ds:=dsIn) (ns:=[]) (nx:=0) (fun i:Nat=>VIn D i) (fun _=>[]) (fun i=>i<=D.length) (fun i=>D.length - i) (fun _ e vs bs=>e=.exit 0/\bs=[]/\vs=VIn D D.length) noL_ok ?_ ?_
  ·rintro i h0
   refine cast (in_ev D i _).symm ?_
   refine cond_d (fun hi=>cond_dk ⟨by omega,by omega⟩ (cond_dk ⟨by omega,by omega⟩ (cond_nd (fun h=>(h rfl).elim) (fun _=>cond_r (by omega) ⟨i+1,by show i+1<=_; omega,by dsimp only; omega,rfl,trivial,fun _ _ _ h=>h⟩)))) (fun hi=>?_)
   have h0:i<=D.length:=h0
   obtain rfl:i=D.length:=by omega
   exact ⟨rfl,rfl,rfl⟩
  ·rintro lock tt h K ⟨hf,_,k1⟩
   refine ⟨0,hf,Nat.zero_le _,?_⟩
   rintro e vs bs ⟨rfl,rfl,rfl⟩
   exact k1
 ·rintro lock tt h K ⟨hf,hc,_⟩
  exact (hn hc).elim
theorem ints_v (hn:D.length<=100000):∃ h',CallsV Try.prog 18 [inD D,inD D] ⟨0,[]⟩ (.ret (.bool true)) h':=by
 have hall:LoopsOk Try.prog 18 [(0,lIn D)]:=fun x hx=>by
  simp only [List.mem_singleton] at hx
  subst hx
  exact ⟨by kernel_rfl,lIn_ok⟩
 obtain ⟨r,h',rfl,hc⟩:=of_callN (callL_good hmix noSp hall (un:=10) 20) (f:=18) (args:=[inD D,inD D]) (h:=⟨0,[]⟩) (K:=fun r _=>r=.ret (.bool true)) (cast (inf_ev D _).symm (cond_nd (fun h=>(h rfl).elim) (fun _=>⟨fitP_self rfl,hn,rfl⟩)))
 exact ⟨h',hc⟩
theorem inR_ok:SpOk Try.prog inR.1 inR.2:=by
 intro lock args h K hK
 simp only [inR] at hK
 split at hK
 ·obtain ⟨D,h1,h2,hn,hK⟩:=hK
  obtain ⟨h',hc⟩:=ints_v hn
  exact ⟨_,h,hK,lockP_refl _ _,calls_lendDP 3 hc rfl ⟨h1,h2,trivial⟩⟩
 ·exact hK.elim
theorem runS_ok:SpOk Try.prog runS.1 runS.2:=by
 intro lock args h K hK
 simp only [runS] at hK
 split at hK
 ·rename_i a La b Lb nx bs
  obtain ⟨⟨rfl,hab,rfl,rfl⟩,g,g',t,t',ha,hb,hg,hg',hK⟩:=hK
  obtain ⟨h',hc⟩:=runs_v (R:=aR) (l:=aL)
  have e1:rsD aR aL=[0,2]:=by kernel_rfl
  have e2:rsE aR aL=0:=by kernel_rfl
  rw [e1,e2] at hc
  have h2:CallsV Try.prog 21 [inD aR,buD aL] ⟨nx,(a,.gone)::(b,.gone)::bs⟩ (.ret (.tup [inD [0,2],I 0])) ⟨nx,(a,.gone)::(b,.gone)::bs⟩:=calls_lift0 hc rfl rfl
  have ha2:(VH.mk nx ((b,.gone)::bs)).at a=.vec 4 g 1 t:=by rw [at_ne (Ne.symm hab)]; exact ha
  have h3:=calls_told (args:=[.sl a 4,buD aL]) (h:=⟨nx,(b,.gone)::bs⟩) h2 ha2 (fun R R' xs hle hy hx=>by
   obtain ⟨y0,_,k0,⟨y1,_,k1,rfl,rfl⟩,rfl⟩:=hx
   exact ⟨_,_,tl_congr hg (hy _ k0),⟨_,_,VRel.mono hle _ _ k1,rfl,rfl⟩,rfl⟩)
  have h4:=calls_told (args:=[.sl a 4,.sl b 2]) (h:=⟨nx,bs⟩) h3 hb (fun R R' xs hle hy hx=>by
   obtain ⟨y0,_,k0,⟨y1,_,k1,rfl,rfl⟩,rfl⟩:=hx
   exact ⟨_,_,VRel.mono hle _ _ k0,⟨_,_,tl_congr hg' (hy _ k1),rfl,rfl⟩,rfl⟩)
  exact ⟨_,_,hK,lock0 _ _,h4⟩
 ·exact hK.elim
def awW:Str.Wt:=⟨1000,1200,8000,9000⟩
def awP:List Str.Pt:=[⟨2,0,0,0,0,1000000,1200000,0,0⟩,⟨1,200,200,0,0,0,0,0,0⟩,⟨0,100,400,12000,14000,0,0,0,0⟩,⟨3,0,0,5000,6000,0,0,1000,2000⟩]
def awP1:List Str.Pt:=[⟨2,0,0,0,0,1000000,1200000,0,0⟩]
theorem awake_v:∃ h',CallsV Try.prog 12 [] ⟨0,[]⟩ (.ret (.bool true)) h':=by
 have htab:∀ f T,tabS [Str.flT 13,Str.wmT 15,Str.rmT 19,runS,inR] f=some T->SpOk Try.prog f T:=tab_ok _ (fun x hx=>by
  simp only [List.mem_cons,List.not_mem_nil,or_false] at hx
  rcases hx with rfl | rfl | rfl | rfl | rfl
  ·exact Str.fl13_ok
  ·exact Str.wm15_ok
  ·exact Str.rm19_ok
  ·exact runS_ok
  ·exact inR_ok)
 have hS:Str.wmS awW awP 8500=[0,1,2]:=by kernel_rfl
 have pts:∀ j:Nat,j<awP.length->List.take 9 (List.drop (j*9) [I 2,I 0,I 0,I 0,I 0,I 1000000,I 1200000,I 0,I 0,I 1,I 200,I 200,I 0,I 0,I 0,I 0,I 0,I 0,I 0,I 100,I 400,I 12000,I 14000,I 0,I 0,I 0,I 0,I 3,I 0,I 0,I 5000,I 6000,I 0,I 0,I 1000,I 2000])=Str.pG awP j:=fun j hj=>
  match j,hj with
  | 0,_=>rfl
  | 1,_=>rfl
  | 2,_=>rfl
  | 3,_=>rfl
 have pts1:∀ j:Nat,j<awP1.length->List.take 9 (List.drop ((0+j)*9) [I 2,I 0,I 0,I 0,I 0,I 1000000,I 1200000,I 0,I 0,I 1,I 200,I 200,I 0,I 0,I 0,I 0,I 0,I 0,I 0,I 100,I 400,I 12000,I 14000,I 0,I 0,I 0,I 0,I 3,I 0,I 0,I 5000,I 6000,I 0,I 0,I 1000,I 2000])=Str.pG awP1 j:=fun j hj=>
  match j,hj with
  | 0,_=>rfl
 obtain ⟨r,h',rfl,hc⟩:=of_callN (noL_good htab) (f:=12) (args:=[]) (h:=⟨0,[]⟩) (K:=fun r _=>r=.ret (.bool true)) (by
  refine cast (awk_ev _).symm ?_
  refine ⟨awP,⟨rfl,_,_,rfl,pts⟩,awP,⟨rfl,_,_,rfl,pts⟩,awP1,⟨rfl,rfl,_,_,rfl,pts1⟩,⟨rfl,by decide,rfl,rfl⟩,_,_,_,_,rfl,rfl,fun j hj=>?_,fun j hj=>?_,?_⟩
  ·match j,hj with
   | 0,_=>rfl
   | 1,_=>rfl
   | 2,_=>rfl
   | 3,_=>rfl
  ·match j,hj with
   | 0,_=>rfl
   | 1,_=>rfl
  refine Str.cond_f (by kernel_rfl) (Str.cond_f (by kernel_rfl) (Str.cond_f (by kernel_rfl) (Str.cond_t (by kernel_rfl) (Str.cond_t (by kernel_rfl) (Str.cond_t (by kernel_rfl) (Str.cond_f (by kernel_rfl) (Str.cond_t (by kernel_rfl) (Str.cond_t (by kernel_rfl) (Str.cond_t (by kernel_rfl) (Str.cond_f (by kernel_rfl) ?_))))))))))
  refine ⟨[0,1,2],?_,⟨rfl,by decide,_,_,rfl,fun j hj=>?_⟩,by decide,?_⟩
  ·rw [show Str.wmS (Str.Wt.mk (1000:Int) (1200:Int) (8000:Int) (9000:Int)) awP (8500:Int)=[0,1,2] from hS]
   exact ⟨rfl,by decide,_,_,rfl,fun j hj=>match j,hj with
    | 0,_=>rfl
    | 1,_=>rfl
    | 2,_=>rfl⟩
  ·match j,hj with
   | 0,_=>rfl
   | 1,_=>rfl
   | 2,_=>rfl
  refine Str.cond_t (by kernel_rfl) (Str.cond_t (by kernel_rfl) (Str.cond_t (by kernel_rfl) (Str.cond_t (by kernel_rfl) ?_)))
  refine ⟨[0,2],⟨rfl,rfl,fun _ _=>rfl⟩,⟨rfl,by decide,_,_,rfl,fun j hj=>?_⟩,by decide,rfl⟩
  match j,hj with
  | 0,_=>rfl
  | 1,_=>rfl)
 exact ⟨h',hc⟩
theorem awT_ok:SpOk Try.prog awT.1 awT.2:=by
 intro lock args h K hK
 simp only [awT] at hK
 split at hK
 ·obtain ⟨h',hc⟩:=awake_v
  exact ⟨_,h,hK,lockP_refl _ _,calls_lift0 hc rfl rfl⟩
 ·exact hK.elim
theorem runK_ok {f:FuncId} {P:Prop} {e:Int} (h:P->∃ h',CallsV Try.prog f [inD R,buD l] ⟨0,[]⟩ (.ret (.tup [inD D,I e])) h'):SpOk Try.prog (runK f P R l D e).1 (runK f P R l D e).2:=by
 intro lock args h0 K hK
 simp only [runK] at hK
 split at hK
 ·obtain ⟨rfl,rfl,hP,hK⟩:=hK
  obtain ⟨h',hc⟩:=h hP
  exact ⟨_,h0,hK,lockP_refl _ _,calls_lift0 hc rfl rfl⟩
 ·exact hK.elim
theorem rsD_len (R:List Int) (l:List Brn):(rsD R l).length<=100000:=by
 unfold rsD
 split
 ·exact Nat.zero_le _
 ·rename_i ho
  have ho:okRuns R l=true:=by simpa using ho
  obtain ⟨hR,hl⟩:=okRuns_iff.1 ho
  have h6:=hl.1
  cases hb:bestR R l with
  | none=>exact Nat.zero_le _
  | some B=>
   have key:∀ (L:List (List Int)) (st:Option (List Int)),L.foldl (stp l) st=some B->B ∈ L ∨ st=some B:=by
    intro L
    induction L with
    | nil=>intro st h; exact .inr h
    | cons E L ih=>
     intro st h
     rw [List.foldl_cons] at h
     rcases ih _ h with h2 | h2
     ·exact .inl (List.mem_cons_of_mem _ h2)
     ·cases st with
      | none=>cases h2; exact .inl List.mem_cons_self
      | some C=>
       have h2:(if endF l E E.length<endF l C C.length then some E else some C)=some B:=h2
       split at h2
       ·cases h2; exact .inl List.mem_cons_self
       ·exact .inr h2
   rcases key _ _ hb with h2 | h2
   ·have:=(plansF_mem h2).1
    show B.length<=_
    rw [this]
    simp only [List.length_nil]
    omega
   ·cases h2
theorem runs_law:∃ h',CallsV Try.prog 5 [inD R,buD l] ⟨0,[]⟩ (.ret (.bool true)) h':=by
 have htab:∀ f T,tabS [runK 21 True R l (rsD R l) (rsE R l),runK 22 (szP R l) R l (rsD R l) (rsE R l),inR,awT] f=some T->SpOk Try.prog f T:=tab_ok _ (fun x hx=>by
  simp only [List.mem_cons,List.not_mem_nil,or_false] at hx
  rcases hx with rfl | rfl | rfl | rfl
  ·exact runK_ok (fun _=>runs_v)
  ·exact runK_ok (fun hsz=>rruns_v hsz)
  ·exact inR_ok
  ·exact awT_ok)
 have fin:szP R l->inD R=inD R/\buD l=buD l/\True/\inD R=inD R/\buD l=buD l/\szP R l/\∃ (D_1:List Int),isD (VH.mk 0 []) 3 (inD (rsD R l)) (inD D_1)/\isD (VH.mk 0 []) 3 (inD (rsD R l)) (inD D_1)/\D_1.length<=100000/\bif decide (rsE R l=rsE R l) then VRes.ret (VV.bool true)=.ret (.bool true) else VRes.ret (VV.bool false)=.ret (.bool true):=
  fun h=>⟨rfl,rfl,trivial,rfl,rfl,h,rsD R l,isD_in,isD_in,rsD_len R l,cond_dk rfl rfl⟩
 obtain ⟨r,h',rfl,hc⟩:=of_callN (noL_good htab) (f:=5) (args:=[inD R,buD l]) (h:=⟨0,[]⟩) (K:=fun r _=>r=.ret (.bool true)) (by
  refine cast (lr_ev R l _ _ _).symm ?_
  refine cond_d (fun _=>cond_d (fun _=>rfl) (fun _=>cond_d (fun _=>rfl) (fun _=>cond_d (fun _=>cond_d (fun _=>rfl) (fun _=>cond_d (fun _=>rfl) (fun _=>fin ?_))) (fun _=>cond_d (fun _=>rfl) (fun _=>fin ?_))))) (fun _=>cond_d (fun _=>rfl) (fun _=>cond_d (fun _=>cond_d (fun _=>rfl) (fun _=>cond_d (fun _=>rfl) (fun _=>fin ?_))) (fun _=>cond_d (fun _=>rfl) (fun _=>fin ?_))))
  ·exact ⟨by omega,by omega⟩
  ·exact ⟨by omega,by omega⟩
  ·exact ⟨by omega,by omega⟩
  ·exact ⟨by omega,by omega⟩)
 exact ⟨h',hc⟩
end
end Go.Sx.Srn
