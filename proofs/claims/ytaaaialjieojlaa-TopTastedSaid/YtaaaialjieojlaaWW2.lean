/- stream: Ni1 Ni2 Nj1 Nj2 Ba1 BbN1 BbN2 BbP1 BbP2 Bc1 Bc2 BbS1 BbS2 Bd1 Bd2 Be1 BfSV1 BfSV2 BfSC1 BfSC2 BfSL1 BfSL2 BfSH1 BfSH2 Bg1 Bg2 Bh1 Bh2 Bh3 Bi2 Ca1 Cb1 Cb2 Cc1 Cc2 Cc3 Bj1, in one text. -/
import Derived.Test.YtaaaialjieojlaaWW1
import Derived.Test.YtaaaialjieojlaaSxO
import Derived.Test.YtaaaialjieojlaaSxJ
import Derived.Test.YtaaaialjieojlaaSxK
import Derived.Test.YtaaaialjieojlaaSxN
import Derived.Test.YtaaaialjieojlaaSxU
import Derived.Test.YtaaaialjieojlaaSxY
import Derived.Test.YtaaaialjieojlaaProg
namespace Go.Sx.Nos
open Go Go.Sx Go.Proofs
set_option maxRecDepth 1000000
theorem btw_ev (p:Pn) (c1 c2 c3:Nat) (b:Bool) (y z:Int) (b':Bool) (y' z':Int) (Q:VRes->Prop):callN Try.prog (tabS [panC,thT p c1 c2 c3,triT,numK]) noL 10 20 0 (.fn 14) [.agg (pnV p c1 c2 c3),.agg [.bool b,I y,I z],.agg [.bool b',I y',I z']] (pnH p) (fun r _=>Q r) =
 (∃ p_1,pnIs (VH.mk (7) [(6,VB.cells [I 0,I 0] 40),(5,VB.cells [VV.bool b',I y',I z'] 56),(4,VB.cells [VV.bool b,I y,I z] 56),(3,VB.cells [VV.slice (VA.el 0 [] (0:Int) 0) p.D.length c1,VV.slice (VA.el 1 [] (0:Int) 0) p.T.length c2,VV.slice (VA.el 2 [] (0:Int) 0) p.S.length c3] 26),(0,arD p),(1,arT p),(2,arS p)]) p_1 (VV.slice (VA.el 0 [] (0:Int) 0) p.D.length c1) (VV.slice (VA.el 1 [] (0:Int) 0) p.T.length c2) (VV.slice (VA.el 2 [] (0:Int) 0) p.S.length c3)/\bif !panB p_1 then
 Q (VRes.ret (VV.tup [VV.agg [I 0,I 0],I 1]))
 else (arD p=arD p/\arT p=arT p/\arS p=arS p/\pnB p c1 c2 c3=pnB p c1 c2 c3)/\PnOk p/\bif !thB p (ndB b y z) then
 Q (VRes.ret (VV.tup [VV.agg [I 0,I 0],I 4]))
 else (arD p=arD p/\arT p=arT p/\arS p=arS p/\pnB p c1 c2 c3=pnB p c1 c2 c3)/\PnOk p/\bif !thB p (ndB b' y' z') then
 Q (VRes.ret (VV.tup [VV.agg [I 0,I 0],I 4]))
 else ∃ p_2,pnIs (VH.mk (7) [(6,VB.cells [I 0,I 0] 40),(5,VB.cells [VV.bool b',I y',I z'] 56),(4,VB.cells [VV.bool b,I y,I z] 56),(3,VB.cells [VV.slice (VA.el 0 [] (0:Int) 0) p.D.length c1,VV.slice (VA.el 1 [] (0:Int) 0) p.T.length c2,VV.slice (VA.el 2 [] (0:Int) 0) p.S.length c3] 26),(0,arD p),(1,arT p),(2,arS p)]) p_2 (VV.slice (VA.el 0 [] (0:Int) 0) p.D.length c1) (VV.slice (VA.el 1 [] (0:Int) 0) p.T.length c2) (VV.slice (VA.el 2 [] (0:Int) 0) p.S.length c3)/\PnOk p_2/\(fitF p_2->∃ N,(maskH [0,1,2,3,4,5,6,7,8,9,10,11] (VH.mk (12) ((11,VB.cells [VV.bool b',I y',I z'] 56)::(10,VB.cells [VV.bool b,I y,I z] 56)::maskL (VH.mk (10) [(9,VB.cells [VV.ptr (VA.own (7+1) 0)] 78),(9,VB.cells [VV.nilp] 78),(7+1,faB (7) (farF p_2)),(7,maB (noP p_2)),(6,VB.cells [I 0,I 0] 40),(5,VB.cells [VV.bool b',I y',I z'] 56),(4,VB.cells [VV.bool b,I y,I z] 56),(3,VB.cells [VV.slice (VA.el 0 [] (0:Int) 0) p.D.length c1,VV.slice (VA.el 1 [] (0:Int) 0) p.T.length c2,VV.slice (VA.el 2 [] (0:Int) 0) p.S.length c3] 26),(0,arD p),(1,arT p),(2,arS p)]) [9,0,1,2,3,4,5,6,7,8]))).at (7)=maB N/\ndB b y z ∈ N/\∃ N_1,(maskH [0,1,2,3,4,5,6,7,8,9,10,11] (VH.mk (12) ((11,VB.cells [VV.bool b',I y',I z'] 56)::(10,VB.cells [VV.bool b,I y,I z] 56)::maskL (VH.mk (10) [(9,VB.cells [VV.ptr (VA.own (7+1) 0)] 78),(9,VB.cells [VV.nilp] 78),(7+1,faB (7) (farF p_2)),(7,maB (noP p_2)),(6,VB.cells [I 0,I 0] 40),(5,VB.cells [VV.bool b',I y',I z'] 56),(4,VB.cells [VV.bool b,I y,I z] 56),(3,VB.cells [VV.slice (VA.el 0 [] (0:Int) 0) p.D.length c1,VV.slice (VA.el 1 [] (0:Int) 0) p.T.length c2,VV.slice (VA.el 2 [] (0:Int) 0) p.S.length c3] 26),(0,arD p),(1,arT p),(2,arS p)]) [9,0,1,2,3,4,5,6,7,8]))).at (7)=maB N_1/\ndB b' y' z' ∈ N_1/\bif decide ((0:Int)<=(↑(ixN N (ndB b y z)):Int)/\(↑(ixN N (ndB b y z)):Int)<(↑65:Int)) then
 bif decide ((0:Int)<=(↑(ixN N_1 (ndB b' y' z')):Int)/\(↑(ixN N_1 (ndB b' y' z')):Int)<(↑65:Int)) then
 bif decide ((↑(ixN N (ndB b y z)):Int).toNat*(65)+(↑(ixN N_1 (ndB b' y' z')):Int).toNat*(1)<4225) then
 ∃ N_2,(maskH [0,1,2,3,4,5,6,7,8,9,10,11] (VH.mk (12) [(11,VB.cells [VV.bool b,I y,I z] 56),(10,VB.cells [VV.bool b',I y',I z'] 56),(9,VB.cells [VV.ptr (VA.own (7+1) 0)] 78),(9,VB.cells [VV.ptr (VA.own (7+1) 0)] 78),(9,VB.cells [VV.nilp] 78),(7+1,faB (7) (farF p_2)),(7,maB (noP p_2)),(6,VB.cells [I 0,I 0] 40),(5,VB.cells [VV.bool b',I y',I z'] 56),(4,VB.cells [VV.bool b,I y,I z] 56),(3,VB.cells [VV.slice (VA.el 0 [] (0:Int) 0) p.D.length c1,VV.slice (VA.el 1 [] (0:Int) 0) p.T.length c2,VV.slice (VA.el 2 [] (0:Int) 0) p.S.length c3] 26),(0,arD p),(1,arT p),(2,arS p)])).at (7)=maB N_2/\ndB b' y' z' ∈ N_2/\keepP (VH.mk (12) [(11,VB.cells [VV.bool b,I y,I z] 56),(10,VB.cells [VV.bool b',I y',I z'] 56),(9,VB.cells [VV.ptr (VA.own (7+1) 0)] 78),(9,VB.cells [VV.ptr (VA.own (7+1) 0)] 78),(9,VB.cells [VV.nilp] 78),(7+1,faB (7) (farF p_2)),(7,maB (noP p_2)),(6,VB.cells [I 0,I 0] 40),(5,VB.cells [VV.bool b',I y',I z'] 56),(4,VB.cells [VV.bool b,I y,I z] 56),(3,VB.cells [VV.slice (VA.el 0 [] (0:Int) 0) p.D.length c1,VV.slice (VA.el 1 [] (0:Int) 0) p.T.length c2,VV.slice (VA.el 2 [] (0:Int) 0) p.S.length c3] 26),(0,arD p),(1,arT p),(2,arS p)]) (maskH [0,1,2,3,4,5,6,7,8,9,10,11] (VH.mk (12) [(11,VB.cells [VV.bool b,I y,I z] 56),(10,VB.cells [VV.bool b',I y',I z'] 56),(9,VB.cells [VV.ptr (VA.own (7+1) 0)] 78),(9,VB.cells [VV.ptr (VA.own (7+1) 0)] 78),(9,VB.cells [VV.nilp] 78),(7+1,faB (7) (farF p_2)),(7,maB (noP p_2)),(6,VB.cells [I 0,I 0] 40),(5,VB.cells [VV.bool b',I y',I z'] 56),(4,VB.cells [VV.bool b,I y,I z] 56),(3,VB.cells [VV.slice (VA.el 0 [] (0:Int) 0) p.D.length c1,VV.slice (VA.el 1 [] (0:Int) 0) p.T.length c2,VV.slice (VA.el 2 [] (0:Int) 0) p.S.length c3] 26),(0,arD p),(1,arT p),(2,arS p)])) (7) [0,1,2,3,4,5,6,7,8,9,10,11]/\∃ N_3,(maskH [0,1,2,3,4,5,6,7,8,9,10,11] (VH.mk (12) [(7,VB.map kU (PK.int IntKind.i64) (esOf (noP p_2))),(11,VB.cells [VV.bool b,I y,I z] 56),(10,VB.cells [VV.bool b',I y',I z'] 56),(9,VB.cells [VV.ptr (VA.own (7+1) 0)] 78),(9,VB.cells [VV.ptr (VA.own (7+1) 0)] 78),(9,VB.cells [VV.nilp] 78),(7+1,faB (7) (farF p_2)),(7,maB (noP p_2)),(6,VB.cells [I 0,I 0] 40),(5,VB.cells [VV.bool b',I y',I z'] 56),(4,VB.cells [VV.bool b,I y,I z] 56),(3,VB.cells [VV.slice (VA.el 0 [] (0:Int) 0) p.D.length c1,VV.slice (VA.el 1 [] (0:Int) 0) p.T.length c2,VV.slice (VA.el 2 [] (0:Int) 0) p.S.length c3] 26),(0,arD p),(1,arT p),(2,arS p)])).at (7)=maB N_3/\ndB b y z ∈ N_3/\keepP (VH.mk (12) [(7,VB.map kU (PK.int IntKind.i64) (esOf (noP p_2))),(11,VB.cells [VV.bool b,I y,I z] 56),(10,VB.cells [VV.bool b',I y',I z'] 56),(9,VB.cells [VV.ptr (VA.own (7+1) 0)] 78),(9,VB.cells [VV.ptr (VA.own (7+1) 0)] 78),(9,VB.cells [VV.nilp] 78),(7+1,faB (7) (farF p_2)),(7,maB (noP p_2)),(6,VB.cells [I 0,I 0] 40),(5,VB.cells [VV.bool b',I y',I z'] 56),(4,VB.cells [VV.bool b,I y,I z] 56),(3,VB.cells [VV.slice (VA.el 0 [] (0:Int) 0) p.D.length c1,VV.slice (VA.el 1 [] (0:Int) 0) p.T.length c2,VV.slice (VA.el 2 [] (0:Int) 0) p.S.length c3] 26),(0,arD p),(1,arT p),(2,arS p)]) (maskH [0,1,2,3,4,5,6,7,8,9,10,11] (VH.mk (12) [(7,VB.map kU (PK.int IntKind.i64) (esOf (noP p_2))),(11,VB.cells [VV.bool b,I y,I z] 56),(10,VB.cells [VV.bool b',I y',I z'] 56),(9,VB.cells [VV.ptr (VA.own (7+1) 0)] 78),(9,VB.cells [VV.ptr (VA.own (7+1) 0)] 78),(9,VB.cells [VV.nilp] 78),(7+1,faB (7) (farF p_2)),(7,maB (noP p_2)),(6,VB.cells [I 0,I 0] 40),(5,VB.cells [VV.bool b',I y',I z'] 56),(4,VB.cells [VV.bool b,I y,I z] 56),(3,VB.cells [VV.slice (VA.el 0 [] (0:Int) 0) p.D.length c1,VV.slice (VA.el 1 [] (0:Int) 0) p.T.length c2,VV.slice (VA.el 2 [] (0:Int) 0) p.S.length c3] 26),(0,arD p),(1,arT p),(2,arS p)])) (7) [0,1,2,3,4,5,6,7,8,9,10,11]/\bif decide ((0:Int)<=(↑(ixN N_2 (ndB b' y' z')):Int)/\(↑(ixN N_2 (ndB b' y' z')):Int)<(↑65:Int)) then
 bif decide ((0:Int)<=(↑(ixN N_3 (ndB b y z)):Int)/\(↑(ixN N_3 (ndB b y z)):Int)<(↑65:Int)) then
 bif decide ((↑(ixN N_2 (ndB b' y' z')):Int).toNat*(65)+(↑(ixN N_3 (ndB b y z)):Int).toNat*(1)<4225) then
 bif decide (max (farF p_2 ((↑(ixN N (ndB b y z)):Int).toNat*(65)+(↑(ixN N_1 (ndB b' y' z')):Int).toNat*(1))) (farF p_2 ((↑(ixN N_2 (ndB b' y' z')):Int).toNat*(65)+(↑(ixN N_3 (ndB b y z)):Int).toNat*(1)))=(1125899906842624:Int)) then
 Q (VRes.ret (VV.tup [VV.agg [I 0,I 0],I 12]))
 else bif inK IntKind.i64 ((0:Int) - farF p_2 ((↑(ixN N_2 (ndB b' y' z')):Int).toNat*(65)+(↑(ixN N_3 (ndB b y z)):Int).toNat*(1))) then
 Q (VRes.ret (VV.tup [VV.agg [I ((0:Int) - farF p_2 ((↑(ixN N_2 (ndB b' y' z')):Int).toNat*(65)+(↑(ixN N_3 (ndB b y z)):Int).toNat*(1))),I (farF p_2 ((↑(ixN N (ndB b y z)):Int).toNat*(65)+(↑(ixN N_1 (ndB b' y' z')):Int).toNat*(1)))],I 0]))
 else False
 else False
 else False
 else False
 else False
 else False
 else False)/\(¬fitF p_2->Q (VRes.ret (VV.tup [VV.agg [I 0,I 0],I 6])))):=by kernel_rfl
end Go.Sx.Nos
namespace Go.Sx.Nos
open Go Go.Sx Go.Proofs
set_option maxRecDepth 1000000
theorem pnIs_own {h:VH} {p:Pn} {c1 c2 c3:Nat} (g0:h.at 0=arD p) (g1:h.at 1=arT p) (g2:h.at 2=arS p):pnIs h p (.slice (.el 0 [] 0 0) p.D.length c1) (.slice (.el 1 [] 0 0) p.T.length c2) (.slice (.el 2 [] 0 0) p.S.length c3):=by
 refine ⟨⟨rfl,by decide,_,_,g0,fun j hj=>⟨⟨rfl,by omega,by omega⟩,?_⟩⟩,⟨rfl,by decide,_,_,g1,fun j hj=>⟨⟨rfl,by omega,by omega⟩,?_⟩⟩,⟨rfl,by decide,_,_,g2,fun j hj=>⟨⟨rfl,by omega,by omega⟩,?_⟩⟩⟩
 all_goals rw [zero_toNat]
open Classical in
noncomputable def btF (p:Pn) (a b:Nd):Int × Int × Int:=
 if PnOk p then (if thP p a/\thP p b then (if fitF p then (if farAB p a b=WW ∨ farAB p b a=WW then (0,0,12) else (0 - farAB p b a,farAB p a b,0)) else (0,0,6)) else (0,0,4)) else (0,0,1)
def spV (r:Int × Int × Int):VV:=.tup [.agg [I r.1,I r.2.1],I r.2.2]
theorem btw_v (p:Pn) (c1 c2 c3:Nat) (b:Bool) (y z:Int) (b':Bool) (y' z':Int):∃ h',CallsV Try.prog 14 [.agg (pnV p c1 c2 c3),.agg [.bool b,I y,I z],.agg [.bool b',I y',I z']] (pnH p) (.ret (spV (btF p (ndB b y z) (ndB b' y' z')))) h':=by
 obtain ⟨r,h',rfl,hc⟩:=of_callN (tab_good hmix (l:=[panC,thT p c1 c2 c3,triT,numK]) (fun x hx=>by
   simp only [List.mem_cons,List.not_mem_nil,or_false] at hx
   rcases hx with rfl | rfl | rfl | rfl
   ·exact panC_ok
   ·exact thT_ok
   ·exact triT_ok
   ·exact numK_ok) 20) (un:=10) (f:=14) (args:=[.agg (pnV p c1 c2 c3),.agg [.bool b,I y,I z],.agg [.bool b',I y',I z']]) (h:=pnH p)
  (K:=fun r _=>r=.ret (spV (btF p (ndB b y z) (ndB b' y' z'))))
  (by
   refine cast (btw_ev p c1 c2 c3 b y z b' y' z' _).symm ?_
   generalize ndB b y z=a1
   generalize ndB b' y' z'=a2
   refine ⟨p,pnIs_own rfl rfl rfl,?_⟩
   cases hpb:panB p with
   | false=>
    have hn:¬ PnOk p:=fun h=>by rw [<- panB_iff,hpb] at h; cases h
    show VRes.ret _=_
    unfold btF; rw [if_neg hn]; rfl
   | true=>
    have hp:PnOk p:=panB_iff.1 hpb
    refine ⟨⟨rfl,rfl,rfl,rfl⟩,hp,?_⟩
    cases ha:thB p a1 with
    | false=>
     have hn:¬ thP p a1:=fun h=>by rw [<- thB_iff,ha] at h; cases h
     show VRes.ret _=_
     unfold btF; rw [if_pos hp,if_neg (fun h=>hn h.1)]; rfl
    | true=>
     have ha:thP p a1:=thB_iff.1 ha
     refine ⟨⟨rfl,rfl,rfl,rfl⟩,hp,?_⟩
     cases hb:thB p a2 with
     | false=>
      have hn:¬ thP p a2:=fun h=>by rw [<- thB_iff,hb] at h; cases h
      show VRes.ret _=_
      unfold btF; rw [if_pos hp,if_neg (fun h=>hn h.2)]; rfl
     | true=>
      have hb:thP p a2:=thB_iff.1 hb
      refine ⟨p,pnIs_own rfl rfl rfl,hp,fun hf=>?_,fun hf=>?_⟩
      ·have ma:=(mem_no hp a1).2 ha
       have mb:=(mem_no hp a2).2 hb
       have ia:=ixN_lt ma
       have ib:=ixN_lt mb
       have hn:=no_le hp
       change ixN (noP p) a1<(noP p).length at ia
       change ixN (noP p) a2<(noP p).length at ib
       change (noP p).length<=65 at hn
       have wa:(0:Int)<=(ixN (noP p) a1:Int)/\(ixN (noP p) a1:Int)<((65:Nat):Int):=⟨by omega,by omega⟩
       have wb:(0:Int)<=(ixN (noP p) a2:Int)/\(ixN (noP p) a2:Int)<((65:Nat):Int):=⟨by omega,by omega⟩
       have e1:farF p ((ixN (noP p) a1:Int).toNat*65+(ixN (noP p) a2:Int).toNat*1)=farAB p a1 a2:=by unfold farAB; rw [Int.toNat_natCast,Int.toNat_natCast,Nat.mul_one]
       have e2:farF p ((ixN (noP p) a2:Int).toNat*65+(ixN (noP p) a1:Int).toNat*1)=farAB p a2 a1:=by unfold farAB; rw [Int.toNat_natCast,Int.toNat_natCast,Nat.mul_one]
       refine ⟨noP p,rfl,ma,noP p,rfl,mb,cond_dk wa (cond_dk wb (cond_dk (by simp only [Int.toNat_natCast]; omega) ⟨noP p,rfl,mb,?_,noP p,rfl,ma,?_,cond_dk wb (cond_dk wa (cond_dk (by simp only [Int.toNat_natCast]; omega) ?_))⟩))⟩
       ·exact ⟨rfl,rfl,rfl,rfl,rfl,rfl,rfl,rfl,rfl,rfl,rfl,trivial⟩
       ·exact ⟨rfl,rfl,rfl,rfl,rfl,rfl,rfl,rfl,rfl,rfl,rfl,trivial⟩
       ·rw [e1,e2]
        have hW:=eWW
        have b1:farAB p a1 a2 ≠ WW->farAB p a1 a2<=66000000/\-66000000<=farAB p a1 a2:=fun h=>⟨(far_mx hp hf ma mb h).2.2,(far_mx hp hf ma mb h).2.1⟩
        have b2:farAB p a2 a1 ≠ WW->farAB p a2 a1<=66000000/\-66000000<=farAB p a2 a1:=fun h=>⟨(far_mx hp hf mb ma h).2.2,(far_mx hp hf mb ma h).2.1⟩
        refine cond_d (fun hm=>?_) (fun hm=>?_)
        ·have:farAB p a1 a2=WW ∨ farAB p a2 a1=WW:=by omega
         unfold btF; rw [if_pos hp,if_pos ⟨ha,hb⟩,if_pos hf,if_pos this]; rfl
        ·have:¬ (farAB p a1 a2=WW ∨ farAB p a2 a1=WW):=by omega
         refine cond_r (by omega) ?_
         unfold btF; rw [if_pos hp,if_pos ⟨ha,hb⟩,if_pos hf,if_neg this]; rfl
      ·show VRes.ret _=_
       unfold btF; rw [if_pos hp,if_pos ⟨ha,hb⟩,if_neg hf]; rfl)
 exact ⟨h',hc⟩
noncomputable def btwT:FuncId × Spec1:=(14,fun _ args h K=>match args with
 | [.agg [d,t,s],.agg [.bool b,.int .i64 y,.int .i64 z],.agg [.bool b',.int .i64 y',.int .i64 z']]=>∃ p:Pn,pnIs h p d t s/\K (.ret (spV (btF p (ndB b y z) (ndB b' y' z')))) h
 | _=>False)
theorem btwT_ok:SpOk Try.prog btwT.1 btwT.2:=by
 intro lock args h K hK
 simp only [btwT] at hK
 split at hK
 ·rename_i d t s b y z b' y' z'
  obtain ⟨p,hp,hK⟩:=hK
  exact ⟨_,h,hK,lockP_refl _ _,calls_pn (pl:=[.agg [.bool b,.int .i64 y,.int .i64 z],.agg [.bool b',.int .i64 y',.int .i64 z']]) (fun c1 c2 c3=>btw_v p c1 c2 c3 b y z b' y' z') rfl rfl hp⟩
 ·exact hK.elim
end Go.Sx.Nos
namespace Go.Sx.Nos
open Go Go.Sx Go.Proofs
set_option maxRecDepth 1000000
theorem val_ev (p:Pn) (c1 c2 c3:Nat) (s:Int) (Q:VRes->Prop):callN Try.prog (tabS [panC,btwT]) noL 10 20 0 (.fn 8) [.agg (pnV p c1 c2 c3),I s] (pnH p) (fun r _=>Q r) =
 (∃ p_1,pnIs (VH.mk (5) [(4,VB.cells [I 0,I 0] 40),(3,VB.cells [VV.slice (VA.el 0 [] (0:Int) 0) p.D.length c1,VV.slice (VA.el 1 [] (0:Int) 0) p.T.length c2,VV.slice (VA.el 2 [] (0:Int) 0) p.S.length c3] 26),(0,arD p),(1,arT p),(2,arS p)]) p_1 (VV.slice (VA.el 0 [] (0:Int) 0) p.D.length c1) (VV.slice (VA.el 1 [] (0:Int) 0) p.T.length c2) (VV.slice (VA.el 2 [] (0:Int) 0) p.S.length c3)/\bif panB p_1 then
 bif decide ((0:Int)<=s) then
 bif !decide (s<=(15:Int)) then
 Q (VRes.ret (VV.tup [VV.agg [I 0,I 0],I 4]))
 else bif inK IntKind.i64 (s+(1:Int)) then
 ∃ p_2,pnIs (VH.mk (5) [(4,VB.cells [I 0,I 0] 40),(3,VB.cells [VV.slice (VA.el 0 [] (0:Int) 0) p.D.length c1,VV.slice (VA.el 1 [] (0:Int) 0) p.T.length c2,VV.slice (VA.el 2 [] (0:Int) 0) p.S.length c3] 26),(0,arD p),(1,arT p),(2,arS p)]) p_2 (VV.slice (VA.el 0 [] (0:Int) 0) p.D.length c1) (VV.slice (VA.el 1 [] (0:Int) 0) p.T.length c2) (VV.slice (VA.el 2 [] (0:Int) 0) p.S.length c3)/\Q (VRes.ret (VV.tup [VV.agg [I (btF p_2 (ndB false (s+(1:Int)) (0:Int)) (ndB false (0:Int) (0:Int))).fst,I (btF p_2 (ndB false (s+(1:Int)) (0:Int)) (ndB false (0:Int) (0:Int))).snd.fst],I (btF p_2 (ndB false (s+(1:Int)) (0:Int)) (ndB false (0:Int) (0:Int))).snd.snd]))
 else False
 else Q (VRes.ret (VV.tup [VV.agg [I 0,I 0],I 4]))
 else bif inK IntKind.i64 (s+(1:Int)) then
 ∃ p_2,pnIs (VH.mk (5) [(4,VB.cells [I 0,I 0] 40),(3,VB.cells [VV.slice (VA.el 0 [] (0:Int) 0) p.D.length c1,VV.slice (VA.el 1 [] (0:Int) 0) p.T.length c2,VV.slice (VA.el 2 [] (0:Int) 0) p.S.length c3] 26),(0,arD p),(1,arT p),(2,arS p)]) p_2 (VV.slice (VA.el 0 [] (0:Int) 0) p.D.length c1) (VV.slice (VA.el 1 [] (0:Int) 0) p.T.length c2) (VV.slice (VA.el 2 [] (0:Int) 0) p.S.length c3)/\Q (VRes.ret (VV.tup [VV.agg [I (btF p_2 (ndB false (s+(1:Int)) (0:Int)) (ndB false (0:Int) (0:Int))).fst,I (btF p_2 (ndB false (s+(1:Int)) (0:Int)) (ndB false (0:Int) (0:Int))).snd.fst],I (btF p_2 (ndB false (s+(1:Int)) (0:Int)) (ndB false (0:Int) (0:Int))).snd.snd]))
 else False):=by kernel_rfl
end Go.Sx.Nos
namespace Go.Sx.Nos
open Go Go.Sx Go.Proofs
set_option maxRecDepth 1000000
def shT (f:FuncId) (n:Nat) {R:Type} (sh:R->VV) (C:Pn->List Int->Prop) (F:Pn->List Int->R):FuncId × Spec1:=(f,fun _ args h K=>match args with
 | .agg [d,t,s]::r=>numsE r fun ns=>bif Nat.beq ns.length n then ∃ p:Pn,pnIs h p d t s/\C p ns/\K (.ret (sh (F p ns))) h else False
 | _=>False)
theorem shT_ok {f:FuncId} {n:Nat} {R:Type} {sh:R->VV} {C:Pn->List Int->Prop} {F:Pn->List Int->R} (hsh:∀ r,(sh r).pure=true)
  (hf:∀ (p:Pn) (ns:List Int),ns.length=n->C p ns->∀ c1 c2 c3,∃ h',CallsV Try.prog f (.agg (pnV p c1 c2 c3)::ns.map (VV.int .i64)) (pnH p) (.ret (sh (F p ns))) h'):SpOk Try.prog (shT f n sh C F).1 (shT f n sh C F).2:=by
 intro lock args h K hK
 simp only [shT] at hK
 split at hK
 ·rename_i d t s r
  obtain ⟨ns,hK2,rfl⟩:=numsE_sound hK
  obtain ⟨hn,p,hp,hv,hK⟩:=cond_f hK2
  exact ⟨_,h,hK,lockP_refl _ _,calls_pn (hf p ns (Nat.eq_of_beq_eq_true hn) hv) (hsh _) (pure_ints ns) hp⟩
 ·exact hK.elim
theorem pq_ok:∀ x ∈ [panC,btwT],SpOk Try.prog x.1 x.2:=fun x hx=>by
 simp only [List.mem_cons,List.not_mem_nil,or_false] at hx
 rcases hx with rfl | rfl
 ·exact panC_ok
 ·exact btwT_ok
def sOk16 (s:Int):Prop:=0<=s/\s<=15
instance (s:Int):Decidable (sOk16 s):=inferInstanceAs (Decidable (_/\_))
def n64 (s:Int):Prop:=-9223372036854775808<=s+1/\s+1<=9223372036854775807
open Classical in
noncomputable def valF (p:Pn) (s:Int):Int × Int × Int:=if PnOk p/\¬ sOk16 s then (0,0,4) else btF p (vN s) zeroN
abbrev g0 (ns:List Int) (i:Nat):Int:=ns.getD i 0
noncomputable def valT:=shT 8 1 spV (fun _ ns=>n64 (g0 ns 0)) fun p ns=>valF p (g0 ns 0)
theorem valT_ok:SpOk Try.prog valT.1 valT.2:=shT_ok (fun _=>rfl) fun p ns hn hC c1 c2 c3=>by
 match ns,hn with
 | [s],_=>
  have hk:n64 s:=hC
  have k0 : -9223372036854775808<=s+1:=hk.1
  have k1:s+1<=9223372036854775807:=hk.2
  obtain ⟨r,h',rfl,hc⟩:=of_callN (tab_good hmix pq_ok 20) (un:=10) (f:=8) (args:=[.agg (pnV p c1 c2 c3),I s]) (h:=pnH p) (K:=fun r _=>r=.ret (spV (valF p s)))
   (by
    refine cast (val_ev p c1 c2 c3 s _).symm ?_
    have e1:PnOk p/\¬ sOk16 s->valF p s=(0,0,4):=fun h=>by unfold valF; rw [if_pos h]
    have e2:¬ (PnOk p/\¬ sOk16 s)->valF p s=btF p (vN s) zeroN:=fun h=>by unfold valF; rw [if_neg h]
    refine ⟨p,pnIs_own rfl rfl rfl,?_⟩
    cases hpb:panB p with
    | false=>
     have hn:¬ PnOk p:=fun h=>by rw [<- panB_iff,hpb] at h; cases h
     rw [e2 (fun h=>hn h.1)]
     exact cond_r (by omega) ⟨p,pnIs_own rfl rfl rfl,rfl⟩
    | true=>
     have hp:PnOk p:=panB_iff.1 hpb
     refine cond_d (fun a0=>cond_nd (fun a1=>?_) (fun a1=>cond_r (by omega) ⟨p,pnIs_own rfl rfl rfl,?_⟩)) (fun a0=>?_)
     ·rw [e1 ⟨hp,fun h=>a1 h.2⟩]; rfl
     ·rw [e2 (fun h=>h.2 ⟨a0,a1⟩)]; rfl
     ·rw [e1 ⟨hp,fun h=>a0 h.1⟩]; rfl)
  exact ⟨h',hc⟩
end Go.Sx.Nos
namespace Go.Sx.Bln
open Go Go.Sx Go.Proofs
set_option maxRecDepth 1000000
theorem hmix:Try.prog.follows .mixedOrders=true:=by kernel_rfl
theorem none_good {un:Nat} (m:Nat):Good Try.prog (callN Try.prog noSpec noL un m):=
 callN_good hmix (fun _ _ h=>by cases h) (fun _ _ _ _ _ _ _ h=>by cases h) m
theorem good0:Good Try.prog (callN Try.prog noSpec noL 10 20):=none_good 20
theorem noL_ok {b:Code} {n:Nat}:∀ id T,(fun _:Nat=>(none:Option LT)) id=some T->∀ b' ∈ blocksOf id b,LSound Try.prog true (.block id b') n T:=fun _ _ h=>by cases h
theorem noSp:∀ f T,noSpec f=some T->SpOk Try.prog f T:=fun _ _ h=>by cases h
theorem noL_good {sp:SpecT} (h:∀ f T,sp f=some T->SpOk Try.prog f T):Good Try.prog (callN Try.prog sp noL 10 20):=callN_good hmix h (fun _ _ _ _ _ _ _ h=>by cases h) 20
@[reducible] def I (n:Int):VV:=.int .i64 n
structure Sp where
 lo:Int
 hi:Int
def s0:Sp:=⟨0,0⟩
def spG (l:List Sp) (j:Nat):List VV:=[I (l.getD j s0).lo,I (l.getD j s0).hi]
def spD (l:List Sp):VV:=.tl l.length 2 (spG l)
structure Stk where
 casks:Int
 vol:Int
 age:Int
 cost:Int
 prof:List Sp
def k0:Stk:=⟨0,0,0,0,[]⟩
def stL (s:Stk):List VV:=[I s.casks,I s.vol,I s.age,I s.cost,spD s.prof]
def stG (l:List Stk) (j:Nat):List VV:=stL (l.getD j k0)
def stD (l:List Stk):VV:=.tl l.length 5 (stG l)
def dG (D:List Int) (j:Nat):List VV:=[I (D.getD j 0)]
def inD (D:List Int):VV:=.tl D.length 1 (dG D)
structure Tst where
 T:List Int
 far:Int
 least:Int
def tsL (t:Tst):List VV:=[inD t.T,I t.far,I t.least]
def okN (n:Int):Bool:=decide (0<=n/\n<=1000)
def rowN:FuncId × Spec1:=(52,fun _ args h K=>match args with
 | [.int .i64 n]=>K (.ret (.bool (!okN n))) h
 | _=>False)
def dsN:List Nat:=[8,7,6,4,0,1]
def VN (D:List Int) (i:Int):List VV:=[I i,I D.length,inD D,I 0,inD D,.func 52 [] []]
theorem N_ev (D:List Int) (i:Int) (X:VEx->List VV->List VB->Prop):codeE Try.prog (callN Try.prog (tabS [rowN]) noL 10 20) (fun _=>none) true 10 19 0 (loopB 0 (bodyOf Try.prog 46)) (dsN.zip (VN D i)) ⟨0,([]:List Nat).zip []⟩ (obs 0 dsN [] X) =
 (bif decide (i<(↑D.length:Int)) then
 bif decide ((0:Int)<=i/\i<(↑D.length:Int)) then
 bif !okN (D.getD i.toNat (0:Int)) then
 X VEx.ret [I i,I (↑D.length:Int),VV.tl D.length 1 (dG D),I i,VV.tl D.length 1 (dG D),VV.func (52:FuncId) [] []] []
 else bif inK IntKind.i64 (i+(1:Int)) then
 X VEx.normal [I (i+(1:Int)),I (↑D.length:Int),VV.tl D.length 1 (dG D),I 0,VV.tl D.length 1 (dG D),VV.func (52:FuncId) [] []] []
 else False
 else False
 else X (VEx.exit 0) [I i,I (↑D.length:Int),VV.tl D.length 1 (dG D),I 0,VV.tl D.length 1 (dG D),VV.func (52:FuncId) [] []] []):=by kernel_rfl
def qN (D:List Int) (i:Nat):Bool:=!okN (D.getD i 0)
def anyN (D:List Int):Bool:=(List.range D.length).any (qN D)
def lN (D:List Int):LT:=fun lock t h K=>
 FitP lock h t ⟨0,([]:List Nat).zip []⟩ (dsN.zip (VN D 0))/\D.length<=100000/\(anyN D=false->K .normal (dsN.zip (VN D D.length)) ⟨0,([]:List Nat).zip []⟩)/\(anyN D=true->∀ i:Nat,K .ret (dsN.zip [I i,I D.length,inD D,I i,inD D,.func 52 [] []]) ⟨0,([]:List Nat).zip []⟩)
theorem Nf_ev (D:List Int) (Q:VRes->Prop):callN Try.prog noSpec (atF 46 [(0,lN D)]) 10 20 0 (.fn 28) [inD D,.func 52 [] []] ⟨0,[]⟩ (fun r _=>Q r) =
 (FitP 0 (VH.mk 0 ([].zip [])) (dsN.zip (VN D (0:Int))) (VH.mk 0 ([].zip [])) (dsN.zip (VN D (0:Int)))/\D.length<=100000/\(anyN D=false->Q (VRes.ret (VV.bool (decide ((-1:Int) ≥ (0:Int))))))/\(anyN D=true->∀ (i:Nat),Q (VRes.ret (VV.bool (decide ((↑i:Int) ≥ (0:Int))))))):=by kernel_rfl
section
variable {D:List Int}
def ON (D:List Int) (_:Nat) (e:VEx) (vs:List VV) (bs:List VB):Prop:=
 bs=[]/\((anyN D=false/\e=.exit 0/\vs=VN D D.length) ∨ (anyN D=true/\e=.ret/\∃ i:Nat,vs=[I i,I D.length,inD D,I i,inD D,.func 52 [] []]))
theorem lN_ok (hrow:SpOk Try.prog rowN.1 rowN.2):LSound Try.prog true (.block 0 (.loop (loopB 0 (bodyOf Try.prog 46)))) 19 (lN D):=by
 by_cases hn:D.length<=100000
 ·refine loop_row hmix (noL_good (tab_ok [rowN] (fun x hx=>by
   simp only [List.mem_singleton] at hx
   subst hx
   exact hrow))) (un:=10) (ds:=dsN) (ns:=[]) (nx:=0) (fun i:Nat=>VN D i) (fun _=>[]) (fun i=>i<=D.length/\∀ j,j<i->qN D j=false) (fun i=>D.length - i) (ON D) noL_ok ?_ ?_
  ·rintro i ⟨h0,h1⟩
   refine cast (N_ev D i _).symm ?_
   by_cases hlt:i<D.length
   ·refine cond_dk (by omega) (cond_dk ⟨by omega,by omega⟩ ?_)
    rw [show (i:Int).toNat=i by omega]
    have key:∀ b:Bool,b=qN D i->(bif b then RoundQ (fun i:Nat=>VN D i) (fun _=>[]) (fun i=>i<=D.length/\∀ j,j<i->qN D j=false) (fun i=>D.length - i) (ON D) i .ret [I i,I D.length,inD D,I i,inD D,.func 52 [] []] [] else bif inK .i64 ((i:Int)+1) then RoundQ (fun i:Nat=>VN D i) (fun _=>[]) (fun i=>i<=D.length/\∀ j,j<i->qN D j=false) (fun i=>D.length - i) (ON D) i .normal (VN D (i+1)) [] else False):=by
     rintro b rfl
     refine cond_i (fun h=>⟨rfl,.inr ⟨?_,rfl,i,rfl⟩⟩) (fun h=>cond_r (by omega) ⟨i+1,⟨by omega,fun j hj=>?_⟩,by dsimp only; omega,rfl,fitBs_refl _,fun _ _ _ h=>h⟩)
     ·unfold anyN
      rw [List.any_eq_true]
      exact ⟨i,List.mem_range.2 hlt,h⟩
     ·by_cases e:j=i
      ·subst e; exact h
      ·exact h1 j (by omega)
    exact key _ rfl
   ·obtain rfl:i=D.length:=by omega
    refine cond_d (fun h=>by omega) (fun _=>⟨rfl,.inl ⟨?_,rfl,rfl⟩⟩)
    unfold anyN
    rw [List.any_eq_false]
    intro j hj
    rw [h1 j (List.mem_range.1 hj)]
    simp
  ·rintro lock t h K ⟨hf,_,k1,k2⟩
   refine ⟨0,hf,⟨Nat.zero_le _,fun j hj=>by omega⟩,?_⟩
   rintro e vs bs ⟨rfl,⟨g,rfl,rfl⟩ | ⟨g,rfl,i,rfl⟩⟩
   ·exact k1 g
   ·exact k2 g i
 ·rintro lock t h K ⟨hf,hc,_⟩
  exact (hn hc).elim
theorem anyN_v (hrow:SpOk Try.prog rowN.1 rowN.2) (hn:D.length<=100000):∃ h',CallsV Try.prog 28 [inD D,.func 52 [] []] ⟨0,[]⟩ (.ret (.bool (anyN D))) h':=by
 have hall:LoopsOk Try.prog 46 [(0,lN D)]:=fun x hx=>by
  simp only [List.mem_singleton] at hx
  subst hx
  exact ⟨by kernel_rfl,lN_ok hrow⟩
 obtain ⟨r,h',rfl,hc⟩:=of_callN (callL_good hmix noSp hall (un:=10) 20) (f:=28) (args:=[inD D,.func 52 [] []]) (h:=⟨0,[]⟩) (K:=fun r _=>r=.ret (.bool (anyN D))) (by
  refine cast (Nf_ev D _).symm ?_
  refine ⟨fitP_self rfl,hn,fun h=>by rw [h]; rfl,fun h i=>by rw [h,decide_eq_true (by omega)]⟩)
 exact ⟨h',hc⟩
end
def okP (n:Sp):Bool:=decide (0<=n.lo/\n.lo<=n.hi/\n.hi<=1000)
def rowP:FuncId × Spec1:=(54,fun _ args h K=>match args with
 | [.agg [.int .i64 a,.int .i64 b]]=>K (.ret (.bool (!okP ⟨a,b⟩))) h
 | _=>False)
def dsP:List Nat:=[8,7,6,4,0,1]
def VP (D:List Sp) (i:Int):List VV:=[I i,I D.length,spD D,I 0,spD D,.func 54 [] []]
theorem P_ev (D:List Sp) (i:Int) (X:VEx->List VV->List VB->Prop):codeE Try.prog (callN Try.prog (tabS [rowP]) noL 10 20) (fun _=>none) true 10 19 0 (loopB 0 (bodyOf Try.prog 62)) (dsP.zip (VP D i)) ⟨0,([]:List Nat).zip []⟩ (obs 0 dsP [] X) =
 (bif decide (i<(↑D.length:Int)) then
 bif decide ((0:Int)<=i/\i<(↑D.length:Int)) then
 bif !okP (Sp.mk (D.getD i.toNat s0).lo (D.getD i.toNat s0).hi) then
 X VEx.ret [I i,I (↑D.length:Int),VV.tl D.length 2 (spG D),I i,VV.tl D.length 2 (spG D),VV.func (54:FuncId) [] []] []
 else bif inK IntKind.i64 (i+(1:Int)) then
 X VEx.normal [I (i+(1:Int)),I (↑D.length:Int),VV.tl D.length 2 (spG D),I 0,VV.tl D.length 2 (spG D),VV.func (54:FuncId) [] []] []
 else False
 else False
 else X (VEx.exit 0) [I i,I (↑D.length:Int),VV.tl D.length 2 (spG D),I 0,VV.tl D.length 2 (spG D),VV.func (54:FuncId) [] []] []):=by kernel_rfl
def qP (D:List Sp) (i:Nat):Bool:=!okP (D.getD i s0)
def anyP (D:List Sp):Bool:=(List.range D.length).any (qP D)
def lP (D:List Sp):LT:=fun lock t h K=>
 FitP lock h t ⟨0,([]:List Nat).zip []⟩ (dsP.zip (VP D 0))/\D.length<=100000/\(anyP D=false->K .normal (dsP.zip (VP D D.length)) ⟨0,([]:List Nat).zip []⟩)/\(anyP D=true->∀ i:Nat,K .ret (dsP.zip [I i,I D.length,spD D,I i,spD D,.func 54 [] []]) ⟨0,([]:List Nat).zip []⟩)
theorem Pf_ev (D:List Sp) (Q:VRes->Prop):callN Try.prog noSpec (atF 62 [(0,lP D)]) 10 20 0 (.fn 55) [spD D,.func 54 [] []] ⟨0,[]⟩ (fun r _=>Q r) =
 (FitP 0 (VH.mk 0 ([].zip [])) (dsP.zip (VP D (0:Int))) (VH.mk 0 ([].zip [])) (dsP.zip (VP D (0:Int)))/\D.length<=100000/\(anyP D=false->Q (VRes.ret (VV.bool (decide ((-1:Int) ≥ (0:Int))))))/\(anyP D=true->∀ (i:Nat),Q (VRes.ret (VV.bool (decide ((↑i:Int) ≥ (0:Int))))))):=by kernel_rfl
section
variable {D:List Sp}
def OP (D:List Sp) (_:Nat) (e:VEx) (vs:List VV) (bs:List VB):Prop:=
 bs=[]/\((anyP D=false/\e=.exit 0/\vs=VP D D.length) ∨ (anyP D=true/\e=.ret/\∃ i:Nat,vs=[I i,I D.length,spD D,I i,spD D,.func 54 [] []]))
theorem lP_ok (hrow:SpOk Try.prog rowP.1 rowP.2):LSound Try.prog true (.block 0 (.loop (loopB 0 (bodyOf Try.prog 62)))) 19 (lP D):=by
 by_cases hn:D.length<=100000
 ·refine loop_row hmix (noL_good (tab_ok [rowP] (fun x hx=>by
   simp only [List.mem_singleton] at hx
   subst hx
   exact hrow))) (un:=10) (ds:=dsP) (ns:=[]) (nx:=0) (fun i:Nat=>VP D i) (fun _=>[]) (fun i=>i<=D.length/\∀ j,j<i->qP D j=false) (fun i=>D.length - i) (OP D) noL_ok ?_ ?_
  ·rintro i ⟨h0,h1⟩
   refine cast (P_ev D i _).symm ?_
   by_cases hlt:i<D.length
   ·refine cond_dk (by omega) (cond_dk ⟨by omega,by omega⟩ ?_)
    rw [show (i:Int).toNat=i by omega]
    have key:∀ b:Bool,b=qP D i->(bif b then RoundQ (fun i:Nat=>VP D i) (fun _=>[]) (fun i=>i<=D.length/\∀ j,j<i->qP D j=false) (fun i=>D.length - i) (OP D) i .ret [I i,I D.length,spD D,I i,spD D,.func 54 [] []] [] else bif inK .i64 ((i:Int)+1) then RoundQ (fun i:Nat=>VP D i) (fun _=>[]) (fun i=>i<=D.length/\∀ j,j<i->qP D j=false) (fun i=>D.length - i) (OP D) i .normal (VP D (i+1)) [] else False):=by
     rintro b rfl
     refine cond_i (fun h=>⟨rfl,.inr ⟨?_,rfl,i,rfl⟩⟩) (fun h=>cond_r (by omega) ⟨i+1,⟨by omega,fun j hj=>?_⟩,by dsimp only; omega,rfl,fitBs_refl _,fun _ _ _ h=>h⟩)
     ·unfold anyP
      rw [List.any_eq_true]
      exact ⟨i,List.mem_range.2 hlt,h⟩
     ·by_cases e:j=i
      ·subst e; exact h
      ·exact h1 j (by omega)
    exact key _ rfl
   ·obtain rfl:i=D.length:=by omega
    refine cond_d (fun h=>by omega) (fun _=>⟨rfl,.inl ⟨?_,rfl,rfl⟩⟩)
    unfold anyP
    rw [List.any_eq_false]
    intro j hj
    rw [h1 j (List.mem_range.1 hj)]
    simp
  ·rintro lock t h K ⟨hf,_,k1,k2⟩
   refine ⟨0,hf,⟨Nat.zero_le _,fun j hj=>by omega⟩,?_⟩
   rintro e vs bs ⟨rfl,⟨g,rfl,rfl⟩ | ⟨g,rfl,i,rfl⟩⟩
   ·exact k1 g
   ·exact k2 g i
 ·rintro lock t h K ⟨hf,hc,_⟩
  exact (hn hc).elim
theorem anyP_v (hrow:SpOk Try.prog rowP.1 rowP.2) (hn:D.length<=100000):∃ h',CallsV Try.prog 55 [spD D,.func 54 [] []] ⟨0,[]⟩ (.ret (.bool (anyP D))) h':=by
 have hall:LoopsOk Try.prog 62 [(0,lP D)]:=fun x hx=>by
  simp only [List.mem_singleton] at hx
  subst hx
  exact ⟨by kernel_rfl,lP_ok hrow⟩
 obtain ⟨r,h',rfl,hc⟩:=of_callN (callL_good hmix noSp hall (un:=10) 20) (f:=55) (args:=[spD D,.func 54 [] []]) (h:=⟨0,[]⟩) (K:=fun r _=>r=.ret (.bool (anyP D))) (by
  refine cast (Pf_ev D _).symm ?_
  refine ⟨fitP_self rfl,hn,fun h=>by rw [h]; rfl,fun h i=>by rw [h,decide_eq_true (by omega)]⟩)
 exact ⟨h',hc⟩
end
theorem n82_ev (n:Int) (Q:VRes->Prop):callN Try.prog noSpec noL 10 20 0 (.fn 52) [I n] ⟨0,[]⟩ (fun r _=>Q r) =
 (bif decide ((0:Int)<=n) then
 Q (VRes.ret (VV.bool !decide (n<=(1000:Int))))
 else Q (VRes.ret (VV.bool !false))):=by kernel_rfl
theorem n84_ev (n:Sp) (Q:VRes->Prop):callN Try.prog noSpec noL 10 20 0 (.fn 54) [.agg [I n.lo,I n.hi]] ⟨0,[]⟩ (fun r _=>Q r) =
 (bif decide (n.lo<(0:Int)) then
 Q (VRes.ret (VV.bool true))
 else bif decide (n.lo > n.hi) then
 Q (VRes.ret (VV.bool true))
 else Q (VRes.ret (VV.bool (decide (n.hi > (1000:Int)))))):=by kernel_rfl
def cfN:FuncId × Spec1:=(28,fun _ args h K=>match args with
 | [x,.func 52 [] []]=>∃ D:List Int,isD h 1 x (inD D)/\D.length<=100000/\K (.ret (.bool (anyN D))) h
 | _=>False)
def cfP:FuncId × Spec1:=(55,fun _ args h K=>match args with
 | [x,.func 54 [] []]=>∃ D:List Sp,isD h 1 x (spD D)/\D.length<=100000/\K (.ret (.bool (anyP D))) h
 | _=>False)
theorem ta_ev (t:Tst) (Q:VRes->Prop):callN Try.prog (tabS [cfN]) noL 10 20 0 (.fn 35) [.agg (tsL t)] ⟨0,[]⟩ (fun r _=>Q r) =
 (bif decide ((1:Int)<=(↑t.T.length:Int)) then
 bif decide ((↑t.T.length:Int)<=(4:Int)) then
 ∃ (D:List Int),isD (VH.mk (0+1) [(0,VB.cells [VV.tl t.T.length 1 (dG t.T),I t.far,I t.least] 32)]) 1 (VV.tl t.T.length 1 (dG t.T)) (inD D)/\D.length<=100000/\bif !anyN D then
 bif decide ((0:Int)<=t.far) then
 bif decide (t.far<=(1000:Int)) then
 bif decide ((0:Int)<=t.least) then
 Q (VRes.ret (VV.bool (decide (t.least<=(100:Int)))))
 else Q (VRes.ret (VV.bool false))
 else Q (VRes.ret (VV.bool false))
 else Q (VRes.ret (VV.bool false))
 else Q (VRes.ret (VV.bool false))
 else Q (VRes.ret (VV.bool false))
 else Q (VRes.ret (VV.bool false))):=by kernel_rfl
theorem sk_ev (s:Stk) (t:Tst) (Q:VRes->Prop):callN Try.prog (tabS [cfP]) noL 10 20 0 (.fn 37) [.agg (stL s),.tp (tsL t)] ⟨0,[]⟩ (fun r _=>Q r) =
 (bif decide ((0:Int)<=s.casks) then
 bif decide (s.casks<=(6:Int)) then
 bif decide ((1:Int)<=s.vol) then
 bif decide (s.vol<=(65536:Int)) then
 bif decide ((0:Int)<=s.age) then
 bif decide (s.age<=(100:Int)) then
 bif decide ((0:Int)<=s.cost) then
 bif decide (s.cost<=(1048576:Int)) then
 bif decide ((↑s.prof.length:Int)=(↑t.T.length:Int)) then
 ∃ (D:List Sp),isD (VH.mk (3) [(2,VB.cells [VV.tl t.T.length 1 (dG t.T),I t.far,I t.least] 32),(1,VB.cells [I s.casks,I s.vol,I s.age,I s.cost,VV.tl s.prof.length 2 (spG s.prof)] 45),(0,VB.cells [I s.casks,I s.vol,I s.age,I s.cost,VV.tl s.prof.length 2 (spG s.prof)] 45)]) 1 (VV.tl s.prof.length 2 (spG s.prof)) (spD D)/\D.length<=100000/\Q (VRes.ret (VV.bool !!anyP D))
 else Q (VRes.ret (VV.bool !false))
 else Q (VRes.ret (VV.bool !false))
 else Q (VRes.ret (VV.bool !false))
 else Q (VRes.ret (VV.bool !false))
 else Q (VRes.ret (VV.bool !false))
 else Q (VRes.ret (VV.bool !false))
 else Q (VRes.ret (VV.bool !false))
 else Q (VRes.ret (VV.bool !false))
 else Q (VRes.ret (VV.bool !false))):=by kernel_rfl
theorem rowN_ok:SpOk Try.prog rowN.1 rowN.2:=by
 intro lock args h K hK
 simp only [rowN] at hK
 split at hK
 ·rename_i n
  obtain ⟨r,h',rfl,hc⟩:=of_callN good0 (f:=52) (args:=[I n]) (h:=⟨0,[]⟩) (K:=fun r _=>r=.ret (.bool (!okN n))) (by
   refine cast (n82_ev n _).symm ?_
   unfold okN
   refine cond_d (fun h1=>?_) (fun h1=>?_)
   ·by_cases h2:n<=1000
    ·rw [decide_eq_true h2,decide_eq_true ⟨h1,h2⟩]
    ·rw [decide_eq_false h2,decide_eq_false (fun h=>h2 h.2)]
   ·rw [decide_eq_false (fun h=>h1 h.1)])
  exact ⟨_,h,hK,lockP_refl _ _,calls_lendDP 1 hc rfl ⟨⟨rfl,rfl⟩,trivial⟩⟩
 ·exact hK.elim
theorem rowP_ok:SpOk Try.prog rowP.1 rowP.2:=by
 intro lock args h K hK
 simp only [rowP] at hK
 split at hK
 ·rename_i a b
  obtain ⟨r,h',rfl,hc⟩:=of_callN good0 (f:=54) (args:=[.agg [I a,I b]]) (h:=⟨0,[]⟩) (K:=fun r _=>r=.ret (.bool (!okP ⟨a,b⟩))) (by
   refine cast (n84_ev ⟨a,b⟩ _).symm ?_
   unfold okP
   refine cond_d (fun h1=>?_) (fun h1=>cond_d (fun h2=>?_) (fun h2=>?_)) <;> dsimp only at *
   ·rw [decide_eq_false (by omega)]; rfl
   ·rw [decide_eq_false (by omega)]; rfl
   ·by_cases h3:b > 1000
    ·rw [decide_eq_true h3,decide_eq_false (by omega)]; rfl
    ·rw [decide_eq_false h3,decide_eq_true (by omega)]; rfl)
  exact ⟨_,h,hK,lockP_refl _ _,calls_lendDP 2 hc rfl ⟨⟨⟨rfl,rfl⟩,⟨rfl,rfl⟩,trivial⟩,trivial⟩⟩
 ·exact hK.elim
theorem cfN_ok:SpOk Try.prog cfN.1 cfN.2:=by
 intro lock args h K hK
 simp only [cfN] at hK
 split at hK
 ·obtain ⟨D,hx,hn,hK⟩:=hK
  obtain ⟨h',hc⟩:=anyN_v rowN_ok hn
  exact ⟨_,h,hK,lockP_refl _ _,calls_lendDP 1 hc rfl ⟨hx,⟨rfl,trivial,trivial⟩,trivial⟩⟩
 ·exact hK.elim
theorem cfP_ok:SpOk Try.prog cfP.1 cfP.2:=by
 intro lock args h K hK
 simp only [cfP] at hK
 split at hK
 ·obtain ⟨D,hx,hn,hK⟩:=hK
  obtain ⟨h',hc⟩:=anyP_v rowP_ok hn
  exact ⟨_,h,hK,lockP_refl _ _,calls_lendDP 1 hc rfl ⟨hx,⟨rfl,trivial,trivial⟩,trivial⟩⟩
 ·exact hK.elim
theorem tab1 {T:FuncId × Spec1} (h:SpOk Try.prog T.1 T.2):∀ f U,tabS [T] f=some U->SpOk Try.prog f U:=tab_ok _ (fun x hx=>by
 simp only [List.mem_singleton] at hx
 subst hx
 exact h)
def okT (t:Tst):Bool:=decide (1<=t.T.length/\t.T.length<=4) && !anyN t.T && decide (0<=t.far/\t.far<=1000) && decide (0<=t.least/\t.least<=100)
def okS (t:Tst) (s:Stk):Bool:=decide ((0<=s.casks/\s.casks<=6)/\(1<=s.vol/\s.vol<=65536)/\(0<=s.age/\s.age<=100)/\(0<=s.cost/\s.cost<=1048576)/\s.prof.length=t.T.length) && !anyP s.prof
theorem taste_v (t:Tst):∃ h',CallsV Try.prog 35 [.agg (tsL t)] ⟨0,[]⟩ (.ret (.bool (okT t))) h':=by
 obtain ⟨r,h',rfl,hc⟩:=of_callN (noL_good (tab1 cfN_ok)) (f:=35) (args:=[.agg (tsL t)]) (h:=⟨0,[]⟩) (K:=fun r _=>r=.ret (.bool (okT t))) (by
  refine cast (ta_ev t _).symm ?_
  have e:∀ x:Bool,okT t=x->VRes.ret (VV.bool x)=VRes.ret (VV.bool (okT t)):=fun x hx=>by rw [hx]
  unfold okT at e ⊢
  refine cond_d (fun h1=>cond_d (fun h2=>⟨t.T,⟨rfl,rfl,fun _ _=>rfl⟩,by omega,cond_i (fun h3=>cond_d (fun h4=>cond_d (fun h5=>cond_d (fun h6=>e _ ?_) (fun h6=>e _ ?_)) (fun h5=>e _ ?_)) (fun h4=>e _ ?_)) (fun h3=>e _ ?_)⟩) (fun h2=>e _ ?_)) (fun h1=>e _ ?_)
  ·rw [h3,decide_eq_true (p:=1<=t.T.length/\_) (by omega),decide_eq_true (p:=0<=t.far/\_) (by omega),Bool.true_and,Bool.true_and,Bool.true_and,decide_eq_decide]
   omega
  ·rw [decide_eq_false (p:=0<=t.least/\_) (by omega),Bool.and_false]
  ·rw [decide_eq_false (p:=0<=t.far/\_) (by omega),Bool.and_false,Bool.false_and]
  ·rw [decide_eq_false (p:=0<=t.far/\_) (by omega),Bool.and_false,Bool.false_and]
  ·rw [h3,Bool.and_false,Bool.false_and,Bool.false_and]
  ·rw [decide_eq_false (p:=1<=t.T.length/\_) (by omega)]; rfl
  ·rw [decide_eq_false (p:=1<=t.T.length/\_) (by omega)]; rfl)
 exact ⟨h',hc⟩
theorem stock_v (s:Stk) (t:Tst) (ht:t.T.length<=4):∃ h',CallsV Try.prog 37 [.agg (stL s),.tp (tsL t)] ⟨0,[]⟩ (.ret (.bool (!okS t s))) h':=by
 obtain ⟨r,h',rfl,hc⟩:=of_callN (noL_good (tab1 cfP_ok)) (f:=37) (args:=[.agg (stL s),.tp (tsL t)]) (h:=⟨0,[]⟩) (K:=fun r _=>r=.ret (.bool (!okS t s))) (by
  refine cast (sk_ev s t _).symm ?_
  have e:¬ ((0<=s.casks/\s.casks<=6)/\(1<=s.vol/\s.vol<=65536)/\(0<=s.age/\s.age<=100)/\(0<=s.cost/\s.cost<=1048576)/\s.prof.length=t.T.length)->VRes.ret (VV.bool (!false))=VRes.ret (VV.bool (!okS t s)):=fun h=>by
   unfold okS; rw [decide_eq_false h]; rfl
  refine cond_d (fun h1=>cond_d (fun h2=>cond_d (fun h3=>cond_d (fun h4=>cond_d (fun h5=>cond_d (fun h6=>cond_d (fun h7=>cond_d (fun h8=>cond_d (fun h9=>⟨s.prof,⟨rfl,rfl,fun _ _=>rfl⟩,by omega,?_⟩) (fun h=>e (by omega))) (fun h=>e (by omega))) (fun h=>e (by omega))) (fun h=>e (by omega))) (fun h=>e (by omega))) (fun h=>e (by omega))) (fun h=>e (by omega))) (fun h=>e (by omega))) (fun h=>e (by omega))
  unfold okS
  rw [decide_eq_true (p:=(0<=s.casks/\_)/\_) (by omega),Bool.true_and])
 exact ⟨h',hc⟩
def taT:FuncId × Spec1:=(35,fun _ args h K=>match args with
 | [x]=>∃ t:Tst,isD h 2 x (.agg (tsL t))/\K (.ret (.bool (okT t))) h
 | _=>False)
theorem taT_ok:SpOk Try.prog taT.1 taT.2:=by
 intro lock args h K hK
 simp only [taT] at hK
 split at hK
 ·obtain ⟨t,hx,hK⟩:=hK
  obtain ⟨h',hc⟩:=taste_v t
  exact ⟨_,h,hK,lockP_refl _ _,calls_lendDP 2 hc rfl ⟨hx,trivial⟩⟩
 ·exact hK.elim
def rowS:FuncId × Spec1:=(37,fun _ args h K=>match args with
 | [.agg cs,.tp ts]=>∃ (s:Stk) (t:Tst),cs=stL s/\ts=tsL t/\t.T.length<=4/\K (.ret (.bool (!okS t s))) h
 | _=>False)
def dsS:List Nat:=[8,7,6,4,0,1]
def VS (l:List Stk) (tt:Tst) (i:Int):List VV:=[I i,I l.length,stD l,I 0,stD l,.func 37 [] [.tp (tsL tt)]]
theorem S_ev (l:List Stk) (tt:Tst) (i:Int) (X:VEx->List VV->List VB->Prop):codeE Try.prog (callN Try.prog (tabS [rowS]) noL 10 20) (fun _=>none) true 10 19 0 (loopB 0 (bodyOf Try.prog 53)) (dsS.zip (VS l tt i)) ⟨0,([]:List Nat).zip []⟩ (obs 0 dsS [] X) =
 (bif decide (i<(↑l.length:Int)) then
 bif decide ((0:Int)<=i/\i<(↑l.length:Int)) then
 ∃ (s:Stk),∃ (t:Tst),[I (l.getD i.toNat k0).casks,I (l.getD i.toNat k0).vol,I (l.getD i.toNat k0).age,I (l.getD i.toNat k0).cost,VV.tl (l.getD i.toNat k0).prof.length 2 (spG (l.getD i.toNat k0).prof)]=stL s/\tsL tt=tsL t/\t.T.length<=4/\bif !okS t s then
 X VEx.ret [I i,I (↑l.length:Int),VV.tl l.length 5 (stG l),I i,VV.tl l.length 5 (stG l),VV.func (37:FuncId) [] [VV.tp [VV.tl tt.T.length 1 (dG tt.T),I tt.far,I tt.least]]] []
 else bif inK IntKind.i64 (i+(1:Int)) then
 X VEx.normal [I (i+(1:Int)),I (↑l.length:Int),VV.tl l.length 5 (stG l),I 0,VV.tl l.length 5 (stG l),VV.func (37:FuncId) [] [VV.tp [VV.tl tt.T.length 1 (dG tt.T),I tt.far,I tt.least]]] []
 else False
 else False
 else X (VEx.exit 0) [I i,I (↑l.length:Int),VV.tl l.length 5 (stG l),I 0,VV.tl l.length 5 (stG l),VV.func (37:FuncId) [] [VV.tp [VV.tl tt.T.length 1 (dG tt.T),I tt.far,I tt.least]]] []):=by kernel_rfl
def qS (l:List Stk) (tt:Tst) (i:Nat):Bool:=!okS tt (l.getD i k0)
def anyS (l:List Stk) (tt:Tst):Bool:=(List.range l.length).any (qS l tt)
def lS (l:List Stk) (tt:Tst):LT:=fun lock t h K=>
 FitP lock h t ⟨0,([]:List Nat).zip []⟩ (dsS.zip (VS l tt 0))/\l.length<=100000/\(anyS l tt=false->K .normal (dsS.zip (VS l tt l.length)) ⟨0,([]:List Nat).zip []⟩)/\(anyS l tt=true->∀ i:Nat,K .ret (dsS.zip [I i,I l.length,stD l,I i,stD l,.func 37 [] [.tp (tsL tt)]]) ⟨0,([]:List Nat).zip []⟩)
theorem Sf_ev (l:List Stk) (tt:Tst) (Q:VRes->Prop):callN Try.prog noSpec (atF 53 [(0,lS l tt)]) 10 20 0 (.fn 36) [stD l,.func 37 [] [.tp (tsL tt)]] ⟨0,[]⟩ (fun r _=>Q r) =
 (FitP 0 (VH.mk 0 ([].zip [])) (dsS.zip (VS l tt (0:Int))) (VH.mk 0 ([].zip [])) (dsS.zip (VS l tt (0:Int)))/\l.length<=100000/\(anyS l tt=false->Q (VRes.ret (VV.bool (decide ((-1:Int) ≥ (0:Int))))))/\(anyS l tt=true->∀ (i:Nat),Q (VRes.ret (VV.bool (decide ((↑i:Int) ≥ (0:Int))))))):=by kernel_rfl
section
variable {l:List Stk} {tt:Tst}
def OS (l:List Stk) (tt:Tst) (_:Nat) (e:VEx) (vs:List VV) (bs:List VB):Prop:=
 bs=[]/\((anyS l tt=false/\e=.exit 0/\vs=VS l tt l.length) ∨ (anyS l tt=true/\e=.ret/\∃ i:Nat,vs=[I i,I l.length,stD l,I i,stD l,.func 37 [] [.tp (tsL tt)]]))
theorem lS_ok (ht:tt.T.length<=4) (hrow:SpOk Try.prog rowS.1 rowS.2):LSound Try.prog true (.block 0 (.loop (loopB 0 (bodyOf Try.prog 53)))) 19 (lS l tt):=by
 by_cases hn:l.length<=100000
 ·refine loop_row hmix (noL_good (tab_ok [rowS] (fun x hx=>by
   simp only [List.mem_singleton] at hx
   subst hx
   exact hrow))) (un:=10) (ds:=dsS) (ns:=[]) (nx:=0) (fun i:Nat=>VS l tt i) (fun _=>[]) (fun i=>i<=l.length/\∀ j,j<i->qS l tt j=false) (fun i=>l.length - i) (OS l tt) noL_ok ?_ ?_
  ·rintro i ⟨h0,h1⟩
   refine cast (S_ev l tt i _).symm ?_
   by_cases hlt:i<l.length
   ·refine cond_dk (by omega) (cond_dk ⟨by omega,by omega⟩ ?_)
    rw [show (i:Int).toNat=i by omega]
    have key:∀ b:Bool,b=qS l tt i->(bif b then RoundQ (fun i:Nat=>VS l tt i) (fun _=>[]) (fun i=>i<=l.length/\∀ j,j<i->qS l tt j=false) (fun i=>l.length - i) (OS l tt) i .ret [I i,I l.length,stD l,I i,stD l,.func 37 [] [.tp (tsL tt)]] [] else bif inK .i64 ((i:Int)+1) then RoundQ (fun i:Nat=>VS l tt i) (fun _=>[]) (fun i=>i<=l.length/\∀ j,j<i->qS l tt j=false) (fun i=>l.length - i) (OS l tt) i .normal (VS l tt (i+1)) [] else False):=by
     rintro b rfl
     refine cond_i (fun h=>⟨rfl,.inr ⟨?_,rfl,i,rfl⟩⟩) (fun h=>cond_r (by omega) ⟨i+1,⟨by omega,fun j hj=>?_⟩,by dsimp only; omega,rfl,fitBs_refl _,fun _ _ _ h=>h⟩)
     ·unfold anyS
      rw [List.any_eq_true]
      exact ⟨i,List.mem_range.2 hlt,h⟩
     ·by_cases e:j=i
      ·subst e; exact h
      ·exact h1 j (by omega)
    exact ⟨l.getD i k0,tt,rfl,rfl,ht,key _ rfl⟩
   ·obtain rfl:i=l.length:=by omega
    refine cond_d (fun h=>by omega) (fun _=>⟨rfl,.inl ⟨?_,rfl,rfl⟩⟩)
    unfold anyS
    rw [List.any_eq_false]
    intro j hj
    rw [h1 j (List.mem_range.1 hj)]
    simp
  ·rintro lock t h K ⟨hf,_,k1,k2⟩
   refine ⟨0,hf,⟨Nat.zero_le _,fun j hj=>by omega⟩,?_⟩
   rintro e vs bs ⟨rfl,⟨g,rfl,rfl⟩ | ⟨g,rfl,i,rfl⟩⟩
   ·exact k1 g
   ·exact k2 g i
 ·rintro lock t h K ⟨hf,hc,_⟩
  exact (hn hc).elim
theorem anyS_v (ht:tt.T.length<=4) (hrow:SpOk Try.prog rowS.1 rowS.2) (hn:l.length<=100000):∃ h',CallsV Try.prog 36 [stD l,.func 37 [] [.tp (tsL tt)]] ⟨0,[]⟩ (.ret (.bool (anyS l tt))) h':=by
 have hall:LoopsOk Try.prog 53 [(0,lS l tt)]:=fun x hx=>by
  simp only [List.mem_singleton] at hx
  subst hx
  exact ⟨by kernel_rfl,lS_ok ht hrow⟩
 obtain ⟨r,h',rfl,hc⟩:=of_callN (callL_good hmix noSp hall (un:=10) 20) (f:=36) (args:=[stD l,.func 37 [] [.tp (tsL tt)]]) (h:=⟨0,[]⟩) (K:=fun r _=>r=.ret (.bool (anyS l tt))) (by
  refine cast (Sf_ev l tt _).symm ?_
  refine ⟨fitP_self rfl,hn,fun h=>by rw [h]; rfl,fun h i=>by rw [h,decide_eq_true (by omega)]⟩)
 exact ⟨h',hc⟩
end
def cfS:FuncId × Spec1:=(36,fun _ args h K=>match args with
 | [x,.func 37 [] [c]]=>∃ (l:List Stk) (t:Tst),isD h 3 x (stD l)/\isD h 2 c (.tp (tsL t))/\(l.length<=6/\t.T.length<=4)/\K (.ret (.bool (anyS l t))) h
 | _=>False)
theorem as_ev (l:List Stk) (t:Tst) (Q:VRes->Prop):callN Try.prog (tabS [taT,cfS]) noL 10 20 0 (.fn 16) [stD l,.agg (tsL t)] ⟨0,[]⟩ (fun r _=>Q r) =
 (∃ (t_1:Tst),isD (VH.mk (0+1) [(0,VB.cells [VV.tl t.T.length 1 (dG t.T),I t.far,I t.least] 32)]) 2 (VV.agg [VV.tl t.T.length 1 (dG t.T),I t.far,I t.least]) (VV.agg (tsL t_1))/\bif okT t_1 then
 bif decide ((↑l.length:Int)<=(6:Int)) then
 ∃ (l_1:List Stk),∃ (t_2:Tst),isD (VH.mk (0+1) [(0,VB.cells [VV.tl t.T.length 1 (dG t.T),I t.far,I t.least] 32)]) 3 (VV.tl l.length 5 (stG l)) (stD l_1)/\isD (VH.mk (0+1) [(0,VB.cells [VV.tl t.T.length 1 (dG t.T),I t.far,I t.least] 32)]) 2 (VV.ptr (VA.own 0 0)) (VV.tp (tsL t_2))/\(l_1.length<=6/\t_2.T.length<=4)/\Q (VRes.ret (VV.bool !anyS l_1 t_2))
 else Q (VRes.ret (VV.bool false))
 else Q (VRes.ret (VV.bool false))):=by kernel_rfl
theorem rowS_ok:SpOk Try.prog rowS.1 rowS.2:=by
 intro lock args h K hK
 simp only [rowS] at hK
 split at hK
 ·obtain ⟨s,t,rfl,rfl,ht,hK⟩:=hK
  obtain ⟨h',hc⟩:=stock_v s t ht
  exact ⟨_,h,hK,lockP_refl _ _,calls_lendDP 2 hc rfl ⟨⟨⟨rfl,rfl⟩,⟨rfl,rfl⟩,⟨rfl,rfl⟩,⟨rfl,rfl⟩,⟨rfl,rfl,fun _ _=>rfl⟩,trivial⟩,rfl,trivial⟩⟩
 ·exact hK.elim
theorem cfS_ok:SpOk Try.prog cfS.1 cfS.2:=by
 intro lock args h K hK
 simp only [cfS] at hK
 split at hK
 ·obtain ⟨l,t,hx,hc,⟨h1,h2⟩,hK⟩:=hK
  obtain ⟨h',hv⟩:=anyS_v (l:=l) h2 rowS_ok (by omega)
  exact ⟨_,h,hK,lockP_refl _ _,calls_lendDP 3 hv rfl ⟨hx,⟨rfl,trivial,hc,trivial⟩,trivial⟩⟩
 ·exact hK.elim
def okAll (l:List Stk) (t:Tst):Bool:=okT t && decide (l.length<=6) && !anyS l t
theorem stocks_v (l:List Stk) (t:Tst):∃ h',CallsV Try.prog 16 [stD l,.agg (tsL t)] ⟨0,[]⟩ (.ret (.bool (okAll l t))) h':=by
 obtain ⟨r,h',rfl,hc⟩:=of_callN (noL_good (tab_ok [taT,cfS] (fun x hx=>by
  simp only [List.mem_cons,List.not_mem_nil,or_false] at hx
  rcases hx with rfl | rfl
  ·exact taT_ok
  ·exact cfS_ok))) (f:=16) (args:=[stD l,.agg (tsL t)]) (h:=⟨0,[]⟩) (K:=fun r _=>r=.ret (.bool (okAll l t))) (by
  refine cast (as_ev l t _).symm ⟨t,⟨⟨rfl,rfl,fun _ _=>rfl⟩,⟨rfl,rfl⟩,⟨rfl,rfl⟩,trivial⟩,?_⟩
  unfold okAll
  refine cond_i (fun h1=>cond_d (fun h2=>?_) (fun h2=>?_)) (fun h1=>by rw [h1]; rfl)
  ·refine ⟨l,t,⟨rfl,rfl,fun _ _=>rfl⟩,⟨_,_,rfl,⟨rfl,rfl,fun _ _=>rfl⟩,⟨rfl,rfl⟩,⟨rfl,rfl⟩,trivial⟩,⟨by omega,?_⟩,?_⟩
   ·unfold okT at h1
    simp only [Bool.and_eq_true,decide_eq_true_eq] at h1
    omega
   ·rw [h1,decide_eq_true (show l.length<=6 by omega)]; rfl
  ·rw [decide_eq_false (show ¬ l.length<=6 by omega),Bool.and_false]; rfl)
 exact ⟨h',hc⟩
def asT:FuncId × Spec1:=(16,fun _ args h K=>match args with
 | [x,y]=>∃ (l:List Stk) (t:Tst),isD h 2 x (stD l)/\isD h 2 y (.agg (tsL t))/\K (.ret (.bool (okAll l t))) h
 | _=>False)
theorem asT_ok:SpOk Try.prog asT.1 asT.2:=by
 intro lock args h K hK
 simp only [asT] at hK
 split at hK
 ·obtain ⟨l,t,hx,hy,hK⟩:=hK
  obtain ⟨h',hc⟩:=stocks_v l t
  exact ⟨_,h,hK,lockP_refl _ _,calls_lendDP 2 hc rfl ⟨hx,hy,trivial⟩⟩
 ·exact hK.elim
abbrev ch (n:Nat->Int):List Int:=[n 0,n 1,n 2,n 3,n 4,n 5]
def nL (n:Nat->Int):List VV:=[I (n 0),I (n 1),I (n 2),I (n 3),I (n 4),I (n 5)]
theorem ch_get {n:Nat->Int}:∀ {i:Nat},i<6->(ch n).getD i 0=n i
 | 0,_=>rfl
 | 1,_=>rfl
 | 2,_=>rfl
 | 3,_=>rfl
 | 4,_=>rfl
 | 5,_=>rfl
 | _+6,h=>by omega
def nB (n:Nat->Int):Prop:=∀ i,i<6->0<=n i/\n i<=6
def stB (s:Stk):Prop:=(0<=s.casks/\s.casks<=6)/\(1<=s.vol/\s.vol<=65536)/\(0<=s.age/\s.age<=100)/\(0<=s.cost/\s.cost<=1048576)
def lB (l:List Stk):Prop:=l.length<=6/\∀ i,i<l.length->stB (l.getD i k0)
def pB (l:List Stk) (m:Nat):Prop:=∀ i,i<l.length->(l.getD i k0).prof.length=m/\∀ k,k<m->0<=((l.getD i k0).prof.getD k s0).lo/\((l.getD i k0).prof.getD k s0).lo<=((l.getD i k0).prof.getD k s0).hi/\((l.getD i k0).prof.getD k s0).hi<=1000
def sumF (f:Nat->Int):Nat->Int
 | 0=>0
 | k+1=>sumF f k+f k
theorem sumF_bd {f:Nat->Int} {M:Int}:∀ k:Nat,(∀ i,i<k->0<=f i/\f i<=M)->0<=sumF f k/\sumF f k<=k*M
 | 0,_=>by simp [sumF]
 | k+1,h=>by
  obtain ⟨h1,h2⟩:=sumF_bd (M:=M) k (fun i hi=>h i (by omega))
  obtain ⟨h3,h4⟩:=h k (by omega)
  unfold sumF
  have e:((k+1:Nat):Int)*M=(k:Int)*M+M:=by rw [Int.natCast_add,Int.add_mul]; simp
  rw [e]
  omega
theorem sumF_congr {f g:Nat->Int}:∀ k:Nat,(∀ i,i<k->f i=g i)->sumF f k=sumF g k
 | 0,_=>rfl
 | k+1,h=>by
  unfold sumF
  rw [sumF_congr k (fun i hi=>h i (by omega)),h k (by omega)]
theorem mul_bd {a b A B:Int} (h1:0<=a/\a<=A) (h2:0<=b/\b<=B):0<=a*b/\a*b<=A*B:=⟨Int.mul_nonneg h1.1 h2.1,by
 calc a*b<=A*b:=Int.mul_le_mul_of_nonneg_right h1.2 h2.1
  _<=A*B:=Int.mul_le_mul_of_nonneg_left h2.2 (by omega)⟩
theorem okAll_l {l:List Stk} {t:Tst} (h:okAll l t=true):lB l/\pB l t.T.length/\okT t=true/\1<=t.T.length/\t.T.length<=4:=by
 unfold okAll at h
 simp only [Bool.and_eq_true,decide_eq_true_eq,Bool.not_eq_true'] at h
 obtain ⟨⟨h1,h2⟩,h3⟩:=h
 have hs:∀ i,i<l.length->okS t (l.getD i k0)=true:=fun i hi=>by
  unfold anyS at h3
  rw [List.any_eq_false] at h3
  have:=h3 i (List.mem_range.2 hi)
  unfold qS at this
  simpa using this
 have h4:=h1
 unfold okT at h4
 simp only [Bool.and_eq_true,decide_eq_true_eq,Bool.not_eq_true'] at h4
 refine ⟨⟨h2,fun i hi=>?_⟩,fun i hi=>?_,h1,h4.1.1.1.1,h4.1.1.1.2⟩
 ·have:=hs i hi
  unfold okS at this
  simp only [Bool.and_eq_true,decide_eq_true_eq] at this
  obtain ⟨⟨a,b,c,d,_⟩,_⟩:=this
  exact ⟨a,b,c,d⟩
 ·have:=hs i hi
  unfold okS at this
  simp only [Bool.and_eq_true,decide_eq_true_eq,Bool.not_eq_true'] at this
  obtain ⟨⟨_,_,_,_,hl⟩,hp⟩:=this
  refine ⟨hl,fun k hk=>?_⟩
  unfold anyP at hp
  rw [List.any_eq_false] at hp
  have:=hp k (List.mem_range.2 (by omega))
  unfold qP okP at this
  simpa using this
abbrev tmV (l:List Stk) (n:Nat->Int) (i:Nat):Int:=n i*(l.getD i k0).vol
abbrev tmC (l:List Stk) (n:Nat->Int) (i:Nat):Int:=n i*(l.getD i k0).cost
abbrev tmL (l:List Stk) (n:Nat->Int) (k i:Nat):Int:=n i*(l.getD i k0).vol*((l.getD i k0).prof.getD k s0).lo
abbrev tmH (l:List Stk) (n:Nat->Int) (k i:Nat):Int:=n i*(l.getD i k0).vol*((l.getD i k0).prof.getD k s0).hi
def cloSV (l:List Stk) (n:Nat->Int):VV:=.func 56 [] [.tp (nL n)]
def dsSV:List Nat:=[9,8,7,4,0,1]
def VSV (l:List Stk) (n:Nat->Int) (i a:Int):List VV:=[I i,I l.length,stD l,I a,stD l,cloSV l n]
theorem SV_ev (l:List Stk) (n:Nat->Int) (i a:Int) (X:VEx->List VV->List VB->Prop):codeE Try.prog (callN Try.prog noSpec noL 10 20) (fun _=>none) true 10 22 0 (loopB 0 (bodyOf Try.prog 43)) (dsSV.zip (VSV l n i a)) ⟨0,([]:List Nat).zip []⟩ (obs 0 dsSV [] X) =
 (bif decide (i<(↑l.length:Int)) then
 bif decide ((0:Int)<=i/\i<(↑l.length:Int)) then
 bif decide ((0:Int)<=i/\i<(↑6:Int)) then
 bif inK IntKind.i64 ([n 0,n 1,n 2,n 3,n 4,n 5].getD i.toNat (0:Int)*(l.getD i.toNat k0).vol) then
 bif inK IntKind.i64 (a + [n 0,n 1,n 2,n 3,n 4,n 5].getD i.toNat (0:Int)*(l.getD i.toNat k0).vol) then
 bif inK IntKind.i64 (i+(1:Int)) then
 X VEx.normal [I (i+(1:Int)),I (↑l.length:Int),VV.tl l.length 5 (stG l),I (a + [n 0,n 1,n 2,n 3,n 4,n 5].getD i.toNat (0:Int)*(l.getD i.toNat k0).vol),VV.tl l.length 5 (stG l),VV.func (56:FuncId) [] [VV.tp [I (n 0),I (n 1),I (n 2),I (n 3),I (n 4),I (n 5)]]] []
 else False
 else False
 else False
 else False
 else False
 else X (VEx.exit 0) [I i,I (↑l.length:Int),VV.tl l.length 5 (stG l),I a,VV.tl l.length 5 (stG l),VV.func (56:FuncId) [] [VV.tp [I (n 0),I (n 1),I (n 2),I (n 3),I (n 4),I (n 5)]]] []):=by kernel_rfl
def lSV (l:List Stk) (n:Nat->Int):LT:=fun lock t h K=>
 FitP lock h t ⟨0,([]:List Nat).zip []⟩ (dsSV.zip (VSV l n 0 0))/\(nB n/\lB l)/\K .normal (dsSV.zip (VSV l n l.length (sumF (tmV l n) l.length))) ⟨0,([]:List Nat).zip []⟩
theorem SVf_ev (l:List Stk) (n:Nat->Int) (Q:VRes->Prop):callN Try.prog noSpec (atF 43 [(0,lSV l n)]) 10 20 0 (.fn 43) [stD l,cloSV l n] ⟨0,[]⟩ (fun r _=>Q r) =
 (FitP 0 (VH.mk 0 ([].zip [])) (dsSV.zip (VSV l n (0:Int) (0:Int))) (VH.mk 0 ([].zip [])) (dsSV.zip (VSV l n (0:Int) (0:Int)))/\(nB n/\lB l)/\Q (VRes.ret (I (sumF (tmV l n) l.length)))):=by kernel_rfl
section
variable {l:List Stk} {n:Nat->Int}
theorem bdSV (h:nB n/\lB l) {i:Nat} (hi:i<l.length):0<=(tmV l n) i/\(tmV l n) i<=6*65536:=by
 obtain ⟨hn,hl⟩:=h
 have h1:=hn i (by have:=hl.1; omega)
 obtain ⟨h2,h3,h4,h5⟩:=hl.2 i hi
 exact mul_bd h1 (show 0<=(l.getD i k0).vol/\(l.getD i k0).vol<=65536 by omega)
theorem lSV_ok:LSound Try.prog true (.block 0 (.loop (loopB 0 (bodyOf Try.prog 43)))) 22 (lSV l n):=by
 by_cases hh:nB n/\lB l
 ·have hh2:=hh
  obtain ⟨hn,hl⟩:=hh2
  have hl6:=hl.1
  refine loop_row hmix good0 (un:=10) (ds:=dsSV) (ns:=[]) (nx:=0) (fun i:Nat=>VSV l n i (sumF (tmV l n) i)) (fun _=>[]) (fun i=>i<=l.length) (fun i=>l.length - i) (fun _ e vs bs=>e=.exit 0/\bs=[]/\vs=VSV l n l.length (sumF (tmV l n) l.length)) noL_ok ?_ ?_
  ·rintro i h0
   refine cast (SV_ev l n i _ _).symm ?_
   by_cases hlt:i<l.length
   ·have hb:=sumF_bd (f:=tmV l n) (M:=6*65536) i (fun j hj=>bdSV hh (by omega))
    have hc:=bdSV hh hlt
    have hi6:((i:Nat):Int)*(6*65536)<=6*(6*65536):=Int.mul_le_mul_of_nonneg_right (by omega) (by decide)
    have h1:=hn i (by omega)
    obtain ⟨h2,h3,h4,h5⟩:=hl.2 i hlt
    have hs:sumF (tmV l n) (i+1)=sumF (tmV l n) i+(tmV l n) i:=rfl
    refine cond_dk (by omega) (cond_dk ⟨by omega,by omega⟩ ?_)
    rw [show (i:Int).toNat=i by omega,ch_get (by omega)]
    unfold tmV at hc
    refine cond_dk ⟨by omega,by omega⟩ (cond_r (by omega) ?_)
    refine cond_r (by omega) (cond_r (by omega) ⟨i+1,by omega,by dsimp only; omega,?_,fitBs_refl _,fun _ _ _ h=>h⟩)
    dsimp only
    rw [hs]
    rfl
   ·obtain rfl:i=l.length:=by omega
    exact cond_d (fun h=>by omega) (fun _=>⟨rfl,rfl,rfl⟩)
  ·rintro lock t h K ⟨hf,_,k1⟩
   refine ⟨0,hf,Nat.zero_le _,?_⟩
   rintro e vs bs ⟨rfl,rfl,rfl⟩
   exact k1
 ·rintro lock t h K ⟨hf,hc,_⟩
  exact (hh hc).elim
theorem sumSV_v (hh:nB n/\lB l):∃ h',CallsV Try.prog 43 [stD l,cloSV l n] ⟨0,[]⟩ (.ret (I (sumF (tmV l n) l.length))) h':=by
 have hall:LoopsOk Try.prog 43 [(0,lSV l n)]:=fun x hx=>by
  simp only [List.mem_singleton] at hx
  subst hx
  exact ⟨by kernel_rfl,lSV_ok⟩
 obtain ⟨r,h',rfl,hc⟩:=of_callN (callL_good hmix noSp hall (un:=10) 20) (f:=43) (args:=[stD l,cloSV l n]) (h:=⟨0,[]⟩) (K:=fun r _=>r=.ret (I (sumF (tmV l n) l.length))) (by
  refine cast (SVf_ev l n _).symm ?_
  exact ⟨fitP_self rfl,hh,rfl⟩)
 exact ⟨h',hc⟩
end
def cloSC (l:List Stk) (n:Nat->Int):VV:=.func 44 [] [.tp (nL n)]
def dsSC:List Nat:=[9,8,7,4,0,1]
def VSC (l:List Stk) (n:Nat->Int) (i a:Int):List VV:=[I i,I l.length,stD l,I a,stD l,cloSC l n]
theorem SC_ev (l:List Stk) (n:Nat->Int) (i a:Int) (X:VEx->List VV->List VB->Prop):codeE Try.prog (callN Try.prog noSpec noL 10 20) (fun _=>none) true 10 22 0 (loopB 0 (bodyOf Try.prog 43)) (dsSC.zip (VSC l n i a)) ⟨0,([]:List Nat).zip []⟩ (obs 0 dsSC [] X) =
 (bif decide (i<(↑l.length:Int)) then
 bif decide ((0:Int)<=i/\i<(↑l.length:Int)) then
 bif decide ((0:Int)<=i/\i<(↑6:Int)) then
 bif inK IntKind.i64 ([n 0,n 1,n 2,n 3,n 4,n 5].getD i.toNat (0:Int)*(l.getD i.toNat k0).cost) then
 bif inK IntKind.i64 (a + [n 0,n 1,n 2,n 3,n 4,n 5].getD i.toNat (0:Int)*(l.getD i.toNat k0).cost) then
 bif inK IntKind.i64 (i+(1:Int)) then
 X VEx.normal [I (i+(1:Int)),I (↑l.length:Int),VV.tl l.length 5 (stG l),I (a + [n 0,n 1,n 2,n 3,n 4,n 5].getD i.toNat (0:Int)*(l.getD i.toNat k0).cost),VV.tl l.length 5 (stG l),VV.func (44:FuncId) [] [VV.tp [I (n 0),I (n 1),I (n 2),I (n 3),I (n 4),I (n 5)]]] []
 else False
 else False
 else False
 else False
 else False
 else X (VEx.exit 0) [I i,I (↑l.length:Int),VV.tl l.length 5 (stG l),I a,VV.tl l.length 5 (stG l),VV.func (44:FuncId) [] [VV.tp [I (n 0),I (n 1),I (n 2),I (n 3),I (n 4),I (n 5)]]] []):=by kernel_rfl
def lSC (l:List Stk) (n:Nat->Int):LT:=fun lock t h K=>
 FitP lock h t ⟨0,([]:List Nat).zip []⟩ (dsSC.zip (VSC l n 0 0))/\(nB n/\lB l)/\K .normal (dsSC.zip (VSC l n l.length (sumF (tmC l n) l.length))) ⟨0,([]:List Nat).zip []⟩
theorem SCf_ev (l:List Stk) (n:Nat->Int) (Q:VRes->Prop):callN Try.prog noSpec (atF 43 [(0,lSC l n)]) 10 20 0 (.fn 43) [stD l,cloSC l n] ⟨0,[]⟩ (fun r _=>Q r) =
 (FitP 0 (VH.mk 0 ([].zip [])) (dsSC.zip (VSC l n (0:Int) (0:Int))) (VH.mk 0 ([].zip [])) (dsSC.zip (VSC l n (0:Int) (0:Int)))/\(nB n/\lB l)/\Q (VRes.ret (I (sumF (tmC l n) l.length)))):=by kernel_rfl
section
variable {l:List Stk} {n:Nat->Int}
theorem bdSC (h:nB n/\lB l) {i:Nat} (hi:i<l.length):0<=(tmC l n) i/\(tmC l n) i<=6*1048576:=by
 obtain ⟨hn,hl⟩:=h
 have h1:=hn i (by have:=hl.1; omega)
 obtain ⟨h2,h3,h4,h5⟩:=hl.2 i hi
 exact mul_bd h1 (show 0<=(l.getD i k0).cost/\(l.getD i k0).cost<=1048576 by omega)
theorem lSC_ok:LSound Try.prog true (.block 0 (.loop (loopB 0 (bodyOf Try.prog 43)))) 22 (lSC l n):=by
 by_cases hh:nB n/\lB l
 ·have hh2:=hh
  obtain ⟨hn,hl⟩:=hh2
  have hl6:=hl.1
  refine loop_row hmix good0 (un:=10) (ds:=dsSC) (ns:=[]) (nx:=0) (fun i:Nat=>VSC l n i (sumF (tmC l n) i)) (fun _=>[]) (fun i=>i<=l.length) (fun i=>l.length - i) (fun _ e vs bs=>e=.exit 0/\bs=[]/\vs=VSC l n l.length (sumF (tmC l n) l.length)) noL_ok ?_ ?_
  ·rintro i h0
   refine cast (SC_ev l n i _ _).symm ?_
   by_cases hlt:i<l.length
   ·have hb:=sumF_bd (f:=tmC l n) (M:=6*1048576) i (fun j hj=>bdSC hh (by omega))
    have hc:=bdSC hh hlt
    have hi6:((i:Nat):Int)*(6*1048576)<=6*(6*1048576):=Int.mul_le_mul_of_nonneg_right (by omega) (by decide)
    have h1:=hn i (by omega)
    obtain ⟨h2,h3,h4,h5⟩:=hl.2 i hlt
    have hs:sumF (tmC l n) (i+1)=sumF (tmC l n) i+(tmC l n) i:=rfl
    refine cond_dk (by omega) (cond_dk ⟨by omega,by omega⟩ ?_)
    rw [show (i:Int).toNat=i by omega,ch_get (by omega)]
    unfold tmC at hc
    refine cond_dk ⟨by omega,by omega⟩ (cond_r (by omega) ?_)
    refine cond_r (by omega) (cond_r (by omega) ⟨i+1,by omega,by dsimp only; omega,?_,fitBs_refl _,fun _ _ _ h=>h⟩)
    dsimp only
    rw [hs]
    rfl
   ·obtain rfl:i=l.length:=by omega
    exact cond_d (fun h=>by omega) (fun _=>⟨rfl,rfl,rfl⟩)
  ·rintro lock t h K ⟨hf,_,k1⟩
   refine ⟨0,hf,Nat.zero_le _,?_⟩
   rintro e vs bs ⟨rfl,rfl,rfl⟩
   exact k1
 ·rintro lock t h K ⟨hf,hc,_⟩
  exact (hh hc).elim
theorem sumSC_v (hh:nB n/\lB l):∃ h',CallsV Try.prog 43 [stD l,cloSC l n] ⟨0,[]⟩ (.ret (I (sumF (tmC l n) l.length))) h':=by
 have hall:LoopsOk Try.prog 43 [(0,lSC l n)]:=fun x hx=>by
  simp only [List.mem_singleton] at hx
  subst hx
  exact ⟨by kernel_rfl,lSC_ok⟩
 obtain ⟨r,h',rfl,hc⟩:=of_callN (callL_good hmix noSp hall (un:=10) 20) (f:=43) (args:=[stD l,cloSC l n]) (h:=⟨0,[]⟩) (K:=fun r _=>r=.ret (I (sumF (tmC l n) l.length))) (by
  refine cast (SCf_ev l n _).symm ?_
  exact ⟨fitP_self rfl,hh,rfl⟩)
 exact ⟨h',hc⟩
end
def cloSL (l:List Stk) (n:Nat->Int) (k:Nat):VV:=.func 63 [] [.tp (nL n),.tp [I k]]
def dsSL:List Nat:=[9,8,7,4,0,1]
def VSL (l:List Stk) (n:Nat->Int) (k:Nat) (i a:Int):List VV:=[I i,I l.length,stD l,I a,stD l,cloSL l n k]
theorem SL_ev (l:List Stk) (n:Nat->Int) (k:Nat) (i a:Int) (X:VEx->List VV->List VB->Prop):codeE Try.prog (callN Try.prog noSpec noL 10 20) (fun _=>none) true 10 22 0 (loopB 0 (bodyOf Try.prog 43)) (dsSL.zip (VSL l n k i a)) ⟨0,([]:List Nat).zip []⟩ (obs 0 dsSL [] X) =
 (bif decide (i<(↑l.length:Int)) then
 bif decide ((0:Int)<=i/\i<(↑l.length:Int)) then
 bif decide ((0:Int)<=i/\i<(↑6:Int)) then
 bif inK IntKind.i64 ([n 0,n 1,n 2,n 3,n 4,n 5].getD i.toNat (0:Int)*(l.getD i.toNat k0).vol) then
 bif decide ((0:Int)<=(↑k:Int)/\(↑k:Int)<(↑(l.getD i.toNat k0).prof.length:Int)) then
 bif inK IntKind.i64 ([n 0,n 1,n 2,n 3,n 4,n 5].getD i.toNat (0:Int)*(l.getD i.toNat k0).vol*((l.getD i.toNat k0).prof.getD (↑k:Int).toNat s0).lo) then
 bif inK IntKind.i64 (a + [n 0,n 1,n 2,n 3,n 4,n 5].getD i.toNat (0:Int)*(l.getD i.toNat k0).vol*((l.getD i.toNat k0).prof.getD (↑k:Int).toNat s0).lo) then
 bif inK IntKind.i64 (i+(1:Int)) then
 X VEx.normal [I (i+(1:Int)),I (↑l.length:Int),VV.tl l.length 5 (stG l),I (a + [n 0,n 1,n 2,n 3,n 4,n 5].getD i.toNat (0:Int)*(l.getD i.toNat k0).vol*((l.getD i.toNat k0).prof.getD (↑k:Int).toNat s0).lo),VV.tl l.length 5 (stG l),VV.func (63:FuncId) [] [VV.tp [I (n 0),I (n 1),I (n 2),I (n 3),I (n 4),I (n 5)],VV.tp [I (↑k:Int)]]] []
 else False
 else False
 else False
 else False
 else False
 else False
 else False
 else X (VEx.exit 0) [I i,I (↑l.length:Int),VV.tl l.length 5 (stG l),I a,VV.tl l.length 5 (stG l),VV.func (63:FuncId) [] [VV.tp [I (n 0),I (n 1),I (n 2),I (n 3),I (n 4),I (n 5)],VV.tp [I (↑k:Int)]]] []):=by kernel_rfl
def lSL (l:List Stk) (n:Nat->Int) (k:Nat):LT:=fun lock t h K=>
 FitP lock h t ⟨0,([]:List Nat).zip []⟩ (dsSL.zip (VSL l n k 0 0))/\(nB n/\lB l/\∃ m,pB l m/\k<m)/\K .normal (dsSL.zip (VSL l n k l.length (sumF (tmL l n k) l.length))) ⟨0,([]:List Nat).zip []⟩
theorem SLf_ev (l:List Stk) (n:Nat->Int) (k:Nat) (Q:VRes->Prop):callN Try.prog noSpec (atF 43 [(0,lSL l n k)]) 10 20 0 (.fn 43) [stD l,cloSL l n k] ⟨0,[]⟩ (fun r _=>Q r) =
 (FitP 0 (VH.mk 0 ([].zip [])) (dsSL.zip (VSL l n k (0:Int) (0:Int))) (VH.mk 0 ([].zip [])) (dsSL.zip (VSL l n k (0:Int) (0:Int)))/\(nB n/\lB l/\∃ (m:Nat),pB l m/\k<m)/\Q (VRes.ret (I (sumF (tmL l n k) l.length)))):=by kernel_rfl
section
variable {l:List Stk} {n:Nat->Int} {k:Nat}
theorem bdSL (h:nB n/\lB l/\∃ m,pB l m/\k<m) {i:Nat} (hi:i<l.length):0<=(tmL l n k) i/\(tmL l n k) i<=6*65536*1000:=by
 obtain ⟨hn,hl,m,hp,hk⟩:=h
 have h1:=hn i (by have:=hl.1; omega)
 obtain ⟨h2,h3,h4,h5⟩:=hl.2 i hi
 obtain ⟨p1,p2⟩:=hp i hi
 obtain ⟨p3,p4,p5⟩:=p2 k hk
 exact mul_bd (mul_bd h1 (show 0<=(l.getD i k0).vol/\(l.getD i k0).vol<=65536 by omega)) (show 0<=((l.getD i k0).prof.getD k s0).lo/\((l.getD i k0).prof.getD k s0).lo<=1000 by omega)
theorem lSL_ok:LSound Try.prog true (.block 0 (.loop (loopB 0 (bodyOf Try.prog 43)))) 22 (lSL l n k):=by
 by_cases hh:nB n/\lB l/\∃ m,pB l m/\k<m
 ·have hh2:=hh
  obtain ⟨hn,hl,m,hp,hkm⟩:=hh2
  have hl6:=hl.1
  refine loop_row hmix good0 (un:=10) (ds:=dsSL) (ns:=[]) (nx:=0) (fun i:Nat=>VSL l n k i (sumF (tmL l n k) i)) (fun _=>[]) (fun i=>i<=l.length) (fun i=>l.length - i) (fun _ e vs bs=>e=.exit 0/\bs=[]/\vs=VSL l n k l.length (sumF (tmL l n k) l.length)) noL_ok ?_ ?_
  ·rintro i h0
   refine cast (SL_ev l n k i _ _).symm ?_
   by_cases hlt:i<l.length
   ·have hb:=sumF_bd (f:=tmL l n k) (M:=6*65536*1000) i (fun j hj=>bdSL hh (by omega))
    have hc:=bdSL hh hlt
    have hi6:((i:Nat):Int)*(6*65536*1000)<=6*(6*65536*1000):=Int.mul_le_mul_of_nonneg_right (by omega) (by decide)
    have h1:=hn i (by omega)
    obtain ⟨h2,h3,h4,h5⟩:=hl.2 i hlt
    have hs:sumF (tmL l n k) (i+1)=sumF (tmL l n k) i+(tmL l n k) i:=rfl
    refine cond_dk (by omega) (cond_dk ⟨by omega,by omega⟩ ?_)
    rw [show (i:Int).toNat=i by omega,ch_get (by omega),show ((k:Nat):Int).toNat=k by omega]
    obtain ⟨p1,p2⟩:=hp i hlt
    obtain ⟨p3,p4,p5⟩:=p2 k hkm
    have hm1:=mul_bd h1 (show 0<=(l.getD i k0).vol/\(l.getD i k0).vol<=65536 by omega)
    unfold tmL at hc
    refine cond_dk ⟨by omega,by omega⟩ (cond_r (by omega) (cond_dk ⟨by omega,by omega⟩ (cond_r (by omega) ?_)))
    refine cond_r (by omega) (cond_r (by omega) ⟨i+1,by omega,by dsimp only; omega,?_,fitBs_refl _,fun _ _ _ h=>h⟩)
    dsimp only
    rw [hs]
    rfl
   ·obtain rfl:i=l.length:=by omega
    exact cond_d (fun h=>by omega) (fun _=>⟨rfl,rfl,rfl⟩)
  ·rintro lock t h K ⟨hf,_,k1⟩
   refine ⟨0,hf,Nat.zero_le _,?_⟩
   rintro e vs bs ⟨rfl,rfl,rfl⟩
   exact k1
 ·rintro lock t h K ⟨hf,hc,_⟩
  exact (hh hc).elim
theorem sumSL_v (hh:nB n/\lB l/\∃ m,pB l m/\k<m):∃ h',CallsV Try.prog 43 [stD l,cloSL l n k] ⟨0,[]⟩ (.ret (I (sumF (tmL l n k) l.length))) h':=by
 have hall:LoopsOk Try.prog 43 [(0,lSL l n k)]:=fun x hx=>by
  simp only [List.mem_singleton] at hx
  subst hx
  exact ⟨by kernel_rfl,lSL_ok⟩
 obtain ⟨r,h',rfl,hc⟩:=of_callN (callL_good hmix noSp hall (un:=10) 20) (f:=43) (args:=[stD l,cloSL l n k]) (h:=⟨0,[]⟩) (K:=fun r _=>r=.ret (I (sumF (tmL l n k) l.length))) (by
  refine cast (SLf_ev l n k _).symm ?_
  exact ⟨fitP_self rfl,hh,rfl⟩)
 exact ⟨h',hc⟩
end
def cloSH (l:List Stk) (n:Nat->Int) (k:Nat):VV:=.func 64 [] [.tp (nL n),.tp [I k]]
def dsSH:List Nat:=[9,8,7,4,0,1]
def VSH (l:List Stk) (n:Nat->Int) (k:Nat) (i a:Int):List VV:=[I i,I l.length,stD l,I a,stD l,cloSH l n k]
theorem SH_ev (l:List Stk) (n:Nat->Int) (k:Nat) (i a:Int) (X:VEx->List VV->List VB->Prop):codeE Try.prog (callN Try.prog noSpec noL 10 20) (fun _=>none) true 10 22 0 (loopB 0 (bodyOf Try.prog 43)) (dsSH.zip (VSH l n k i a)) ⟨0,([]:List Nat).zip []⟩ (obs 0 dsSH [] X) =
 (bif decide (i<(↑l.length:Int)) then
 bif decide ((0:Int)<=i/\i<(↑l.length:Int)) then
 bif decide ((0:Int)<=i/\i<(↑6:Int)) then
 bif inK IntKind.i64 ([n 0,n 1,n 2,n 3,n 4,n 5].getD i.toNat (0:Int)*(l.getD i.toNat k0).vol) then
 bif decide ((0:Int)<=(↑k:Int)/\(↑k:Int)<(↑(l.getD i.toNat k0).prof.length:Int)) then
 bif inK IntKind.i64 ([n 0,n 1,n 2,n 3,n 4,n 5].getD i.toNat (0:Int)*(l.getD i.toNat k0).vol*((l.getD i.toNat k0).prof.getD (↑k:Int).toNat s0).hi) then
 bif inK IntKind.i64 (a + [n 0,n 1,n 2,n 3,n 4,n 5].getD i.toNat (0:Int)*(l.getD i.toNat k0).vol*((l.getD i.toNat k0).prof.getD (↑k:Int).toNat s0).hi) then
 bif inK IntKind.i64 (i+(1:Int)) then
 X VEx.normal [I (i+(1:Int)),I (↑l.length:Int),VV.tl l.length 5 (stG l),I (a + [n 0,n 1,n 2,n 3,n 4,n 5].getD i.toNat (0:Int)*(l.getD i.toNat k0).vol*((l.getD i.toNat k0).prof.getD (↑k:Int).toNat s0).hi),VV.tl l.length 5 (stG l),VV.func (64:FuncId) [] [VV.tp [I (n 0),I (n 1),I (n 2),I (n 3),I (n 4),I (n 5)],VV.tp [I (↑k:Int)]]] []
 else False
 else False
 else False
 else False
 else False
 else False
 else False
 else X (VEx.exit 0) [I i,I (↑l.length:Int),VV.tl l.length 5 (stG l),I a,VV.tl l.length 5 (stG l),VV.func (64:FuncId) [] [VV.tp [I (n 0),I (n 1),I (n 2),I (n 3),I (n 4),I (n 5)],VV.tp [I (↑k:Int)]]] []):=by kernel_rfl
def lSH (l:List Stk) (n:Nat->Int) (k:Nat):LT:=fun lock t h K=>
 FitP lock h t ⟨0,([]:List Nat).zip []⟩ (dsSH.zip (VSH l n k 0 0))/\(nB n/\lB l/\∃ m,pB l m/\k<m)/\K .normal (dsSH.zip (VSH l n k l.length (sumF (tmH l n k) l.length))) ⟨0,([]:List Nat).zip []⟩
theorem SHf_ev (l:List Stk) (n:Nat->Int) (k:Nat) (Q:VRes->Prop):callN Try.prog noSpec (atF 43 [(0,lSH l n k)]) 10 20 0 (.fn 43) [stD l,cloSH l n k] ⟨0,[]⟩ (fun r _=>Q r) =
 (FitP 0 (VH.mk 0 ([].zip [])) (dsSH.zip (VSH l n k (0:Int) (0:Int))) (VH.mk 0 ([].zip [])) (dsSH.zip (VSH l n k (0:Int) (0:Int)))/\(nB n/\lB l/\∃ (m:Nat),pB l m/\k<m)/\Q (VRes.ret (I (sumF (tmH l n k) l.length)))):=by kernel_rfl
section
variable {l:List Stk} {n:Nat->Int} {k:Nat}
theorem bdSH (h:nB n/\lB l/\∃ m,pB l m/\k<m) {i:Nat} (hi:i<l.length):0<=(tmH l n k) i/\(tmH l n k) i<=6*65536*1000:=by
 obtain ⟨hn,hl,m,hp,hk⟩:=h
 have h1:=hn i (by have:=hl.1; omega)
 obtain ⟨h2,h3,h4,h5⟩:=hl.2 i hi
 obtain ⟨p1,p2⟩:=hp i hi
 obtain ⟨p3,p4,p5⟩:=p2 k hk
 exact mul_bd (mul_bd h1 (show 0<=(l.getD i k0).vol/\(l.getD i k0).vol<=65536 by omega)) (show 0<=((l.getD i k0).prof.getD k s0).hi/\((l.getD i k0).prof.getD k s0).hi<=1000 by omega)
theorem lSH_ok:LSound Try.prog true (.block 0 (.loop (loopB 0 (bodyOf Try.prog 43)))) 22 (lSH l n k):=by
 by_cases hh:nB n/\lB l/\∃ m,pB l m/\k<m
 ·have hh2:=hh
  obtain ⟨hn,hl,m,hp,hkm⟩:=hh2
  have hl6:=hl.1
  refine loop_row hmix good0 (un:=10) (ds:=dsSH) (ns:=[]) (nx:=0) (fun i:Nat=>VSH l n k i (sumF (tmH l n k) i)) (fun _=>[]) (fun i=>i<=l.length) (fun i=>l.length - i) (fun _ e vs bs=>e=.exit 0/\bs=[]/\vs=VSH l n k l.length (sumF (tmH l n k) l.length)) noL_ok ?_ ?_
  ·rintro i h0
   refine cast (SH_ev l n k i _ _).symm ?_
   by_cases hlt:i<l.length
   ·have hb:=sumF_bd (f:=tmH l n k) (M:=6*65536*1000) i (fun j hj=>bdSH hh (by omega))
    have hc:=bdSH hh hlt
    have hi6:((i:Nat):Int)*(6*65536*1000)<=6*(6*65536*1000):=Int.mul_le_mul_of_nonneg_right (by omega) (by decide)
    have h1:=hn i (by omega)
    obtain ⟨h2,h3,h4,h5⟩:=hl.2 i hlt
    have hs:sumF (tmH l n k) (i+1)=sumF (tmH l n k) i+(tmH l n k) i:=rfl
    refine cond_dk (by omega) (cond_dk ⟨by omega,by omega⟩ ?_)
    rw [show (i:Int).toNat=i by omega,ch_get (by omega),show ((k:Nat):Int).toNat=k by omega]
    obtain ⟨p1,p2⟩:=hp i hlt
    obtain ⟨p3,p4,p5⟩:=p2 k hkm
    have hm1:=mul_bd h1 (show 0<=(l.getD i k0).vol/\(l.getD i k0).vol<=65536 by omega)
    unfold tmH at hc
    refine cond_dk ⟨by omega,by omega⟩ (cond_r (by omega) (cond_dk ⟨by omega,by omega⟩ (cond_r (by omega) ?_)))
    refine cond_r (by omega) (cond_r (by omega) ⟨i+1,by omega,by dsimp only; omega,?_,fitBs_refl _,fun _ _ _ h=>h⟩)
    dsimp only
    rw [hs]
    rfl
   ·obtain rfl:i=l.length:=by omega
    exact cond_d (fun h=>by omega) (fun _=>⟨rfl,rfl,rfl⟩)
  ·rintro lock t h K ⟨hf,_,k1⟩
   refine ⟨0,hf,Nat.zero_le _,?_⟩
   rintro e vs bs ⟨rfl,rfl,rfl⟩
   exact k1
 ·rintro lock t h K ⟨hf,hc,_⟩
  exact (hh hc).elim
theorem sumSH_v (hh:nB n/\lB l/\∃ m,pB l m/\k<m):∃ h',CallsV Try.prog 43 [stD l,cloSH l n k] ⟨0,[]⟩ (.ret (I (sumF (tmH l n k) l.length))) h':=by
 have hall:LoopsOk Try.prog 43 [(0,lSH l n k)]:=fun x hx=>by
  simp only [List.mem_singleton] at hx
  subst hx
  exact ⟨by kernel_rfl,lSH_ok⟩
 obtain ⟨r,h',rfl,hc⟩:=of_callN (callL_good hmix noSp hall (un:=10) 20) (f:=43) (args:=[stD l,cloSH l n k]) (h:=⟨0,[]⟩) (K:=fun r _=>r=.ret (I (sumF (tmH l n k) l.length))) (by
  refine cast (SHf_ev l n k _).symm ?_
  exact ⟨fitP_self rfl,hh,rfl⟩)
 exact ⟨h',hc⟩
end
def smT:FuncId × Spec1:=(43,fun _ args h K=>match args with
 | [x,.func 56 [] [c]]=>∃ (l:List Stk) (n:Nat->Int),isD h 3 x (stD l)/\isD h 2 c (.tp (nL n))/\(nB n/\lB l)/\K (.ret (I (sumF (tmV l n) l.length))) h
 | [x,.func 44 [] [c]]=>∃ (l:List Stk) (n:Nat->Int),isD h 3 x (stD l)/\isD h 2 c (.tp (nL n))/\(nB n/\lB l)/\K (.ret (I (sumF (tmC l n) l.length))) h
 | [x,.func 63 [] [c,d]]=>∃ (l:List Stk) (n:Nat->Int) (k:Nat),isD h 3 x (stD l)/\isD h 2 c (.tp (nL n))/\isD h 2 d (.tp [I k])/\(nB n/\lB l/\∃ m,pB l m/\k<m)/\K (.ret (I (sumF (tmL l n k) l.length))) h
 | [x,.func 64 [] [c,d]]=>∃ (l:List Stk) (n:Nat->Int) (k:Nat),isD h 3 x (stD l)/\isD h 2 c (.tp (nL n))/\isD h 2 d (.tp [I k])/\(nB n/\lB l/\∃ m,pB l m/\k<m)/\K (.ret (I (sumF (tmH l n k) l.length))) h
 | _=>False)
theorem vo_ev (l:List Stk) (t:Tst) (n:Nat->Int) (Q:VRes->Prop):callN Try.prog (tabS [smT]) noL 10 20 0 (.fn 40) [.tp (stD l::tsL t),.agg (nL n)] ⟨0,[]⟩ (fun r h=>Q r) =
 (∃ (l_1:List Stk),∃ (n_1:Nat->Int),isD (VH.mk (0+1) [(0,VB.fam [] (6) (fun (k:Nat)=>[n 0,n 1,n 2,n 3,n 4,n 5].getD k (0:Int)) 67)]) 3 (VV.tl l.length 5 (stG l)) (stD l_1)/\isD (VH.mk (0+1) [(0,VB.fam [] (6) (fun (k:Nat)=>[n 0,n 1,n 2,n 3,n 4,n 5].getD k (0:Int)) 67)]) 2 (VV.ptr (VA.own 0 0)) (VV.tp (nL n_1))/\(nB n_1/\lB l_1)/\Q (VRes.ret (I (sumF (tmV l_1 n_1) l_1.length)))):=by kernel_rfl
theorem co_ev (l:List Stk) (t:Tst) (n:Nat->Int) (Q:VRes->Prop):callN Try.prog (tabS [smT]) noL 10 20 0 (.fn 22) [.tp (stD l::tsL t),.agg (nL n)] ⟨0,[]⟩ (fun r h=>Q r) =
 (∃ (l_1:List Stk),∃ (n_1:Nat->Int),isD (VH.mk (0+1) [(0,VB.fam [] (6) (fun (k:Nat)=>[n 0,n 1,n 2,n 3,n 4,n 5].getD k (0:Int)) 67)]) 3 (VV.tl l.length 5 (stG l)) (stD l_1)/\isD (VH.mk (0+1) [(0,VB.fam [] (6) (fun (k:Nat)=>[n 0,n 1,n 2,n 3,n 4,n 5].getD k (0:Int)) 67)]) 2 (VV.ptr (VA.own 0 0)) (VV.tp (nL n_1))/\(nB n_1/\lB l_1)/\Q (VRes.ret (I (sumF (tmC l_1 n_1) l_1.length)))):=by kernel_rfl
theorem no_ev (l:List Stk) (t:Tst) (n:Nat->Int) (k:Nat) (Q:VRes->Prop):callN Try.prog (tabS [smT]) noL 10 20 0 (.fn 58) [.tp (stD l::tsL t),.agg (nL n),I k] ⟨0,[]⟩ (fun r h=>Q r) =
 (∃ (l_1:List Stk),∃ (n_1:Nat->Int),∃ (k_1:Nat),isD (VH.mk (3) [(2,VB.cells [I 0,I 0] 40),(1,VB.cells [I (↑k:Int)] 3),(0,VB.fam [] (6) (fun (k:Nat)=>[n 0,n 1,n 2,n 3,n 4,n 5].getD k (0:Int)) 67)]) 3 (VV.tl l.length 5 (stG l)) (stD l_1)/\isD (VH.mk (3) [(2,VB.cells [I 0,I 0] 40),(1,VB.cells [I (↑k:Int)] 3),(0,VB.fam [] (6) (fun (k:Nat)=>[n 0,n 1,n 2,n 3,n 4,n 5].getD k (0:Int)) 67)]) 2 (VV.ptr (VA.own 0 0)) (VV.tp (nL n_1))/\isD (VH.mk (3) [(2,VB.cells [I 0,I 0] 40),(1,VB.cells [I (↑k:Int)] 3),(0,VB.fam [] (6) (fun (k:Nat)=>[n 0,n 1,n 2,n 3,n 4,n 5].getD k (0:Int)) 67)]) 2 (VV.ptr (VA.own (1) 0)) (VV.tp [I (↑k_1:Int)])/\(nB n_1/\lB l_1/\∃ (m:Nat),pB l_1 m/\k_1<m)/\∃ (l_2:List Stk),∃ (n_2:Nat->Int),∃ (k_2:Nat),isD (VH.mk (3) [(2,VB.cells [I 0,I 0] 40),(1,VB.cells [I (↑k:Int)] 3),(0,VB.fam [] (6) (fun (k:Nat)=>[n 0,n 1,n 2,n 3,n 4,n 5].getD k (0:Int)) 67)]) 3 (VV.tl l.length 5 (stG l)) (stD l_2)/\isD (VH.mk (3) [(2,VB.cells [I 0,I 0] 40),(1,VB.cells [I (↑k:Int)] 3),(0,VB.fam [] (6) (fun (k:Nat)=>[n 0,n 1,n 2,n 3,n 4,n 5].getD k (0:Int)) 67)]) 2 (VV.ptr (VA.own 0 0)) (VV.tp (nL n_2))/\isD (VH.mk (3) [(2,VB.cells [I 0,I 0] 40),(1,VB.cells [I (↑k:Int)] 3),(0,VB.fam [] (6) (fun (k:Nat)=>[n 0,n 1,n 2,n 3,n 4,n 5].getD k (0:Int)) 67)]) 2 (VV.ptr (VA.own (1) 0)) (VV.tp [I (↑k_2:Int)])/\(nB n_2/\lB l_2/\∃ (m:Nat),pB l_2 m/\k_2<m)/\Q (VRes.ret (VV.agg [I (sumF (tmL l_1 n_1 k_1) l_1.length),I (sumF (tmH l_2 n_2 k_2) l_2.length)]))):=by kernel_rfl
def faN (n:Nat->Int):VB:=.fam [] 6 (fun k=>(ch n).getD k 0) 67
def dsA:List Nat:=[15,14,13,12,11,10,7,6,4,0,1,2]
def VA (l:List Stk) (t:Tst) (n:Nat->Int) (y i a:Int):List VV:=[I i,I l.length,stD l,.tp (stD l::tsL t),.tp (stD l::tsL t),.tp (stD l::tsL t),I a,I 0,.ptr (.own 0 0),.tp (stD l::tsL t),.agg (nL n),I y]
theorem ag_ev (l:List Stk) (t:Tst) (n:Nat->Int) (y i a:Int) (X:VEx->List VV->List VB->Prop):codeE Try.prog (callN Try.prog noSpec noL 10 20) (fun _=>none) true 10 42 0 (loopB 0 (bodyOf Try.prog 57)) (dsA.zip (VA l t n y i a)) ⟨1,[0].zip [faN n]⟩ (obs 1 dsA [0] X) =
 (bif decide (i<(↑l.length:Int)) then
 bif decide ((0:Int)<=i/\i<(↑l.length:Int)) then
 bif decide ((0:Int)<=i/\i<(↑6:Int)) then
 bif decide (i.toNat*(1)<6) then
 bif decide ((fun (k:Nat)=>(ch n).getD k (0:Int)) (i.toNat*(1)) > (0:Int)) then
 bif decide (a<(0:Int)) then
 bif inK IntKind.i64 ((l.getD i.toNat k0).age+y) then
 bif inK IntKind.i64 (i+(1:Int)) then
 X VEx.normal [I (i+(1:Int)),I (↑l.length:Int),VV.tl l.length 5 (stG l),VV.tp [VV.tl l.length 5 (stG l),VV.tl t.T.length 1 (dG t.T),I t.far,I t.least],VV.tp [VV.tl l.length 5 (stG l),VV.tl t.T.length 1 (dG t.T),I t.far,I t.least],VV.tp [VV.tl l.length 5 (stG l),VV.tl t.T.length 1 (dG t.T),I t.far,I t.least],I ((l.getD i.toNat k0).age+y),I 0,VV.ptr (VA.own 0 0),VV.tp [VV.tl l.length 5 (stG l),VV.tl t.T.length 1 (dG t.T),I t.far,I t.least],VV.agg [I (n 0),I (n 1),I (n 2),I (n 3),I (n 4),I (n 5)],I y] [VB.fam [] 6 (fun (k:Nat)=>(ch n).getD k (0:Int)) (67:TypeId)]
 else False
 else False
 else bif inK IntKind.i64 ((l.getD i.toNat k0).age+y) then
 bif decide ((l.getD i.toNat k0).age+y<a) then
 bif inK IntKind.i64 ((l.getD i.toNat k0).age+y) then
 bif inK IntKind.i64 (i+(1:Int)) then
 X VEx.normal [I (i+(1:Int)),I (↑l.length:Int),VV.tl l.length 5 (stG l),VV.tp [VV.tl l.length 5 (stG l),VV.tl t.T.length 1 (dG t.T),I t.far,I t.least],VV.tp [VV.tl l.length 5 (stG l),VV.tl t.T.length 1 (dG t.T),I t.far,I t.least],VV.tp [VV.tl l.length 5 (stG l),VV.tl t.T.length 1 (dG t.T),I t.far,I t.least],I ((l.getD i.toNat k0).age+y),I 0,VV.ptr (VA.own 0 0),VV.tp [VV.tl l.length 5 (stG l),VV.tl t.T.length 1 (dG t.T),I t.far,I t.least],VV.agg [I (n 0),I (n 1),I (n 2),I (n 3),I (n 4),I (n 5)],I y] [VB.fam [] 6 (fun (k:Nat)=>(ch n).getD k (0:Int)) (67:TypeId)]
 else False
 else False
 else bif inK IntKind.i64 (i+(1:Int)) then
 X VEx.normal [I (i+(1:Int)),I (↑l.length:Int),VV.tl l.length 5 (stG l),VV.tp [VV.tl l.length 5 (stG l),VV.tl t.T.length 1 (dG t.T),I t.far,I t.least],VV.tp [VV.tl l.length 5 (stG l),VV.tl t.T.length 1 (dG t.T),I t.far,I t.least],VV.tp [VV.tl l.length 5 (stG l),VV.tl t.T.length 1 (dG t.T),I t.far,I t.least],I a,I 0,VV.ptr (VA.own 0 0),VV.tp [VV.tl l.length 5 (stG l),VV.tl t.T.length 1 (dG t.T),I t.far,I t.least],VV.agg [I (n 0),I (n 1),I (n 2),I (n 3),I (n 4),I (n 5)],I y] [VB.fam [] 6 (fun (k:Nat)=>(ch n).getD k (0:Int)) (67:TypeId)]
 else False
 else False
 else bif inK IntKind.i64 (i+(1:Int)) then
 X VEx.normal [I (i+(1:Int)),I (↑l.length:Int),VV.tl l.length 5 (stG l),VV.tp [VV.tl l.length 5 (stG l),VV.tl t.T.length 1 (dG t.T),I t.far,I t.least],VV.tp [VV.tl l.length 5 (stG l),VV.tl t.T.length 1 (dG t.T),I t.far,I t.least],VV.tp [VV.tl l.length 5 (stG l),VV.tl t.T.length 1 (dG t.T),I t.far,I t.least],I a,I 0,VV.ptr (VA.own 0 0),VV.tp [VV.tl l.length 5 (stG l),VV.tl t.T.length 1 (dG t.T),I t.far,I t.least],VV.agg [I (n 0),I (n 1),I (n 2),I (n 3),I (n 4),I (n 5)],I y] [VB.fam [] 6 (fun (k:Nat)=>(ch n).getD k (0:Int)) (67:TypeId)]
 else False
 else False
 else False
 else False
 else X (VEx.exit 0) [I i,I (↑l.length:Int),VV.tl l.length 5 (stG l),VV.tp [VV.tl l.length 5 (stG l),VV.tl t.T.length 1 (dG t.T),I t.far,I t.least],VV.tp [VV.tl l.length 5 (stG l),VV.tl t.T.length 1 (dG t.T),I t.far,I t.least],VV.tp [VV.tl l.length 5 (stG l),VV.tl t.T.length 1 (dG t.T),I t.far,I t.least],I a,I 0,VV.ptr (VA.own 0 0),VV.tp [VV.tl l.length 5 (stG l),VV.tl t.T.length 1 (dG t.T),I t.far,I t.least],VV.agg [I (n 0),I (n 1),I (n 2),I (n 3),I (n 4),I (n 5)],I y] [VB.fam [] 6 (fun (k:Nat)=>(ch n).getD k (0:Int)) (67:TypeId)]):=by kernel_rfl
def ageF (l:List Stk) (n:Nat->Int) (y:Int):Nat->Int
 | 0=>-1
 | k+1=>if n k > 0/\(ageF l n y k<0 ∨ (l.getD k k0).age+y<ageF l n y k) then (l.getD k k0).age+y else ageF l n y k
def lAg (l:List Stk) (t:Tst) (n:Nat->Int) (y:Int):LT:=fun lock tt h K=>
 FitP lock h tt ⟨1,[0].zip [faN n]⟩ (dsA.zip (VA l t n y 0 (-1)))/\(nB n/\lB l/\0<=y/\y<=1000)/\K .normal (dsA.zip (VA l t n y l.length (ageF l n y l.length))) ⟨1,[0].zip [faN n]⟩
theorem agf_ev (l:List Stk) (t:Tst) (n:Nat->Int) (y:Int) (Q:VRes->Prop):callN Try.prog noSpec (atF 57 [(0,lAg l t n y)]) 10 20 0 (.fn 57) [.tp (stD l::tsL t),.agg (nL n),I y] ⟨0,[]⟩ (fun r h=>Q r) =
 (FitP 0 (VH.mk 1 ([0].zip [faN n])) (dsA.zip (VA l t n y (0:Int) (-1:Int))) (VH.mk 1 ([0].zip [faN n])) (dsA.zip (VA l t n y (0:Int) (-1:Int)))/\(nB n/\lB l/\(0:Int)<=y/\y<=(1000:Int))/\Q (VRes.ret (I (ageF l n y l.length)))):=by kernel_rfl
theorem smT_ok:SpOk Try.prog smT.1 smT.2:=by
 intro lock args h K hK
 simp only [smT] at hK
 split at hK
 ·obtain ⟨l,n,hx,hc,hh,hK⟩:=hK
  obtain ⟨h',hv⟩:=sumSV_v hh
  exact ⟨_,h,hK,lockP_refl _ _,calls_lendDP 3 hv rfl ⟨hx,⟨rfl,trivial,hc,trivial⟩,trivial⟩⟩
 ·obtain ⟨l,n,hx,hc,hh,hK⟩:=hK
  obtain ⟨h',hv⟩:=sumSC_v hh
  exact ⟨_,h,hK,lockP_refl _ _,calls_lendDP 3 hv rfl ⟨hx,⟨rfl,trivial,hc,trivial⟩,trivial⟩⟩
 ·obtain ⟨l,n,k,hx,hc,hd,hh,hK⟩:=hK
  obtain ⟨h',hv⟩:=sumSL_v hh
  exact ⟨_,h,hK,lockP_refl _ _,calls_lendDP 3 hv rfl ⟨hx,⟨rfl,trivial,hc,hd,trivial⟩,trivial⟩⟩
 ·obtain ⟨l,n,k,hx,hc,hd,hh,hK⟩:=hK
  obtain ⟨h',hv⟩:=sumSH_v hh
  exact ⟨_,h,hK,lockP_refl _ _,calls_lendDP 3 hv rfl ⟨hx,⟨rfl,trivial,hc,hd,trivial⟩,trivial⟩⟩
 ·exact hK.elim
section
variable {l:List Stk} {t:Tst} {n:Nat->Int}
theorem isD_n {h:VH} {m:Nat} (hm:h.at m=faN n):isD h 2 (.ptr (.own m 0)) (.tp (nL n)):=
 ⟨nL n,67,by rw [hm]; rfl,⟨rfl,rfl⟩,⟨rfl,rfl⟩,⟨rfl,rfl⟩,⟨rfl,rfl⟩,⟨rfl,rfl⟩,⟨rfl,rfl⟩,trivial⟩
theorem isD_l {h:VH} {k:Nat}:isD h (k+1) (.tl l.length 5 (stG l)) (stD l):=⟨rfl,rfl,fun _ _=>rfl⟩
theorem vol_v (hn:nB n) (hl:lB l):∃ h',CallsV Try.prog 40 [.tp (stD l::tsL t),.agg (nL n)] ⟨0,[]⟩ (.ret (I (sumF (tmV l n) l.length))) h':=by
 obtain ⟨r,h',rfl,hc⟩:=of_callN (noL_good (tab1 smT_ok)) (f:=40) (args:=[.tp (stD l::tsL t),.agg (nL n)]) (h:=⟨0,[]⟩) (K:=fun r _=>r=.ret (I (sumF (tmV l n) l.length))) (by
  refine cast (vo_ev l t n _).symm ⟨l,n,isD_l,isD_n rfl,⟨hn,hl⟩,rfl⟩)
 exact ⟨h',hc⟩
theorem cost_v (hn:nB n) (hl:lB l):∃ h',CallsV Try.prog 22 [.tp (stD l::tsL t),.agg (nL n)] ⟨0,[]⟩ (.ret (I (sumF (tmC l n) l.length))) h':=by
 obtain ⟨r,h',rfl,hc⟩:=of_callN (noL_good (tab1 smT_ok)) (f:=22) (args:=[.tp (stD l::tsL t),.agg (nL n)]) (h:=⟨0,[]⟩) (K:=fun r _=>r=.ret (I (sumF (tmC l n) l.length))) (by
  refine cast (co_ev l t n _).symm ⟨l,n,isD_l,isD_n rfl,⟨hn,hl⟩,rfl⟩)
 exact ⟨h',hc⟩
theorem notes_v {k m:Nat} (hn:nB n) (hl:lB l) (hp:pB l m) (hk:k<m):∃ h',CallsV Try.prog 58 [.tp (stD l::tsL t),.agg (nL n),I k] ⟨0,[]⟩ (.ret (.agg [I (sumF (tmL l n k) l.length),I (sumF (tmH l n k) l.length)])) h':=by
 obtain ⟨r,h',rfl,hc⟩:=of_callN (noL_good (tab1 smT_ok)) (f:=58) (args:=[.tp (stD l::tsL t),.agg (nL n),I k]) (h:=⟨0,[]⟩) (K:=fun r _=>r=.ret (.agg [I (sumF (tmL l n k) l.length),I (sumF (tmH l n k) l.length)])) (by
  refine cast (no_ev l t n k _).symm ⟨l,n,k,isD_l,isD_n rfl,⟨_,_,rfl,⟨rfl,rfl⟩,trivial⟩,⟨hn,hl,m,hp,hk⟩,l,n,k,isD_l,isD_n rfl,⟨_,_,rfl,⟨rfl,rfl⟩,trivial⟩,⟨hn,hl,m,hp,hk⟩,rfl⟩)
 exact ⟨h',hc⟩
theorem ageF_bd {y:Int} (hl:lB l) (hy:0<=y/\y<=1000):∀ k,k<=l.length->-1<=ageF l n y k/\ageF l n y k<=1100
 | 0,_=>by simp [ageF]
 | k+1,h=>by
  have h1:=ageF_bd hl hy k (by omega)
  obtain ⟨_,_,h4,_⟩:=hl.2 k (by omega)
  unfold ageF
  split <;> omega
theorem lAg_ok {y:Int}:LSound Try.prog true (.block 0 (.loop (loopB 0 (bodyOf Try.prog 57)))) 42 (lAg l t n y):=by
 by_cases hh:nB n/\lB l/\0<=y/\y<=1000
 ·obtain ⟨hn,hl,hy⟩:=hh
  have hl6:=hl.1
  refine loop_row hmix good0 (un:=10) (ds:=dsA) (ns:=[0]) (nx:=1) (fun i:Nat=>VA l t n y i (ageF l n y i)) (fun _=>[faN n]) (fun i=>i<=l.length) (fun i=>l.length - i) (fun _ e vs bs=>e=.exit 0/\bs=[faN n]/\vs=VA l t n y l.length (ageF l n y l.length)) noL_ok ?_ ?_
  ·rintro i h0
   refine cast (ag_ev l t n y i _ _).symm ?_
   by_cases hlt:i<l.length
   ·obtain ⟨_,_,h4,_⟩:=hl.2 i hlt
    have hb:=ageF_bd (n:=n) hl hy i (by omega)
    have fin:∀ a,a=ageF l n y (i+1)->RoundQ (fun i:Nat=>VA l t n y i (ageF l n y i)) (fun _=>[faN n]) (fun i=>i<=l.length) (fun i=>l.length - i) (fun _ e vs bs=>e=.exit 0/\bs=[faN n]/\vs=VA l t n y l.length (ageF l n y l.length)) i .normal (VA l t n y (i+1) a) [faN n]:=by
     rintro a rfl
     exact ⟨i+1,by omega,by dsimp only; omega,rfl,fitBs_refl _,fun _ _ _ h=>h⟩
    have hs:ageF l n y (i+1)=if n i > 0/\(ageF l n y i<0 ∨ (l.getD i k0).age+y<ageF l n y i) then (l.getD i k0).age+y else ageF l n y i:=rfl
    refine cond_dk (by omega) (cond_dk ⟨by omega,by omega⟩ (cond_dk ⟨by omega,by omega⟩ (cond_dk (by omega) ?_)))
    rw [show (i:Int).toNat=i by omega]
    have e2:(fun k=>(ch n).getD k 0) (i*1)=n i:=by
     rw [Nat.mul_one]
     exact ch_get (by omega)
    refine cond_d (fun g1=>cond_d (fun g2=>cond_r (by omega) (cond_r (by omega) (fin _ ?_))) (fun g2=>cond_r (by omega) (cond_d (fun g3=>cond_r (by omega) (cond_r (by omega) (fin _ ?_))) (fun g3=>cond_r (by omega) (fin _ ?_))))) (fun g1=>cond_r (by omega) (fin _ ?_))
    all_goals rw [e2] at g1
    ·rw [hs,if_pos ⟨g1,.inl g2⟩]
    ·rw [hs,if_pos ⟨g1,.inr g3⟩]
    ·rw [hs,if_neg (by omega)]
    ·rw [hs,if_neg (by omega)]
   ·obtain rfl:i=l.length:=by omega
    exact cond_d (fun h=>by omega) (fun _=>⟨rfl,rfl,rfl⟩)
  ·rintro lock tt h K ⟨hf,_,k1⟩
   refine ⟨0,hf,Nat.zero_le _,?_⟩
   rintro e vs bs ⟨rfl,rfl,rfl⟩
   exact k1
 ·rintro lock tt h K ⟨hf,hc,_⟩
  exact (hh hc).elim
theorem age_v {y:Int} (hn:nB n) (hl:lB l) (hy:0<=y/\y<=1000):∃ h',CallsV Try.prog 57 [.tp (stD l::tsL t),.agg (nL n),I y] ⟨0,[]⟩ (.ret (I (ageF l n y l.length))) h':=by
 have hall:LoopsOk Try.prog 57 [(0,lAg l t n y)]:=fun x hx=>by
  simp only [List.mem_singleton] at hx
  subst hx
  exact ⟨by kernel_rfl,lAg_ok⟩
 obtain ⟨r,h',rfl,hc⟩:=of_callN (callL_good hmix noSp hall (un:=10) 20) (f:=57) (args:=[.tp (stD l::tsL t),.agg (nL n),I y]) (h:=⟨0,[]⟩) (K:=fun r _=>r=.ret (I (ageF l n y l.length))) (by
  refine cast (agf_ev l t n y _).symm ?_
  exact ⟨⟨⟨rfl,rfl,VB.fit_refl _,trivial⟩,rfl,rfl,rfl,rfl,rfl,rfl,rfl,rfl,rfl,rfl,rfl,rfl,trivial⟩,⟨hn,hl,hy⟩,rfl⟩)
 exact ⟨h',hc⟩
end
def volT:FuncId × Spec1:=(40,fun _ args h K=>match args with
 | [c,.agg ns]=>∃ (l:List Stk) (t:Tst) (n:Nat->Int),isD h 4 c (.tp (stD l::tsL t))/\ns=nL n/\nB n/\lB l/\K (.ret (I (sumF (tmV l n) l.length))) h
 | _=>False)
def costT:FuncId × Spec1:=(22,fun _ args h K=>match args with
 | [c,.agg ns]=>∃ (l:List Stk) (t:Tst) (n:Nat->Int),isD h 4 c (.tp (stD l::tsL t))/\ns=nL n/\nB n/\lB l/\K (.ret (I (sumF (tmC l n) l.length))) h
 | _=>False)
def notesT:FuncId × Spec1:=(58,fun _ args h K=>match args with
 | [c,.agg ns,.int .i64 k']=>∃ (l:List Stk) (t:Tst) (n:Nat->Int) (k m:Nat),isD h 4 c (.tp (stD l::tsL t))/\ns=nL n/\k'=k/\(nB n/\lB l/\pB l m/\k<m)/\K (.ret (.agg [I (sumF (tmL l n k) l.length),I (sumF (tmH l n k) l.length)])) h
 | _=>False)
def ageT:FuncId × Spec1:=(57,fun _ args h K=>match args with
 | [c,.agg ns,.int .i64 y]=>∃ (l:List Stk) (t:Tst) (n:Nat->Int),isD h 4 c (.tp (stD l::tsL t))/\ns=nL n/\(nB n/\lB l/\0<=y/\y<=1000)/\K (.ret (I (ageF l n y l.length))) h
 | _=>False)
theorem isD_nL {h:VH} {n:Nat->Int} {k:Nat}:isD h (k+2) (.agg (nL n)) (.agg (nL n)):=⟨⟨rfl,rfl⟩,⟨rfl,rfl⟩,⟨rfl,rfl⟩,⟨rfl,rfl⟩,⟨rfl,rfl⟩,⟨rfl,rfl⟩,trivial⟩
theorem volT_ok:SpOk Try.prog volT.1 volT.2:=by
 intro lock args h K hK
 simp only [volT] at hK
 split at hK
 ·obtain ⟨l,t,n,hc,rfl,hn,hl,hK⟩:=hK
  obtain ⟨h',hv⟩:=vol_v (t:=t) hn hl
  exact ⟨_,h,hK,lockP_refl _ _,calls_lendDP 4 hv rfl ⟨hc,isD_nL,trivial⟩⟩
 ·exact hK.elim
theorem costT_ok:SpOk Try.prog costT.1 costT.2:=by
 intro lock args h K hK
 simp only [costT] at hK
 split at hK
 ·obtain ⟨l,t,n,hc,rfl,hn,hl,hK⟩:=hK
  obtain ⟨h',hv⟩:=cost_v (t:=t) hn hl
  exact ⟨_,h,hK,lockP_refl _ _,calls_lendDP 4 hv rfl ⟨hc,isD_nL,trivial⟩⟩
 ·exact hK.elim
theorem notesT_ok:SpOk Try.prog notesT.1 notesT.2:=by
 intro lock args h K hK
 simp only [notesT] at hK
 split at hK
 ·obtain ⟨l,t,n,k,m,hc,rfl,rfl,⟨hn,hl,hp,hk⟩,hK⟩:=hK
  obtain ⟨h',hv⟩:=notes_v (t:=t) hn hl hp hk
  exact ⟨_,h,hK,lockP_refl _ _,calls_lendDP 4 hv rfl ⟨hc,isD_nL,⟨rfl,rfl⟩,trivial⟩⟩
 ·exact hK.elim
theorem ageT_ok:SpOk Try.prog ageT.1 ageT.2:=by
 intro lock args h K hK
 simp only [ageT] at hK
 split at hK
 ·obtain ⟨l,t,n,hc,rfl,⟨hn,hl,hy⟩,hK⟩:=hK
  obtain ⟨h',hv⟩:=age_v (t:=t) hn hl hy
  exact ⟨_,h,hK,lockP_refl _ _,calls_lendDP 4 hv rfl ⟨hc,isD_nL,⟨rfl,rfl⟩,trivial⟩⟩
 ·exact hK.elim
def dsB:List Nat:=[45,44,43,9,8,7,6,4,0,1,2]
def VB4 (l:List Stk) (t:Tst) (n:Nat->Int) (y v a i:Int):List VV:=[I i,I t.T.length,inD t.T,.ptr (.own 2 0),I a,I v,.ptr (.own 1 0),.ptr (.own 0 0),.tp (stD l::tsL t),.agg (nL n),I y]
abbrev zB:VB:=.cells [I 0,I 0,I 0,.nils,.bool false] 93
def BB (n:Nat->Int) (v c a:Int) (P:List Sp) (b:Bool):List VB:=[faN n,zB,.cells [I v,I c,I a,.sl 3 P.length,.bool b] 93,.vec P.length (spG P) 2 40]
theorem br_ev (l:List Stk) (t:Tst) (n:Nat->Int) (y v c a1 a2 i:Int) (P:List Sp) (b:Bool) (X:VEx->List VV->List VB->Prop):codeE Try.prog (callN Try.prog (tabS [notesT]) noL 10 20) (fun _=>none) true 10 104 0 (loopB 0 (bodyOf Try.prog 41)) (dsB.zip (VB4 l t n y v a1 i)) ⟨4,[0,1,2,3].zip (BB n v c a2 P b)⟩ (obs 4 dsB [0,1,2,3] X) =
 (bif decide (i<(↑t.T.length:Int)) then
 bif decide ((0:Int)<=i/\i<(↑t.T.length:Int)) then
 ∃ (l_1:List Stk),∃ (t_1:Tst),∃ (n_1:Nat->Int),∃ (k:Nat),∃ (m:Nat),isD (VH.mk 4 ([0,1,2,3].zip (BB n v c a2 P b))) 4 (VV.tp (stD l::tsL t)) (VV.tp (stD l_1::tsL t_1))/\[I ((fun (k:Nat)=>(ch n).getD k (0:Int)) (0+0)),I ((fun (k:Nat)=>(ch n).getD k (0:Int)) (0+1)),I ((fun (k:Nat)=>(ch n).getD k (0:Int)) (0+2)),I ((fun (k:Nat)=>(ch n).getD k (0:Int)) (0+3)),I ((fun (k:Nat)=>(ch n).getD k (0:Int)) (0+4)),I ((fun (k:Nat)=>(ch n).getD k (0:Int)) (0+5))]=nL n_1/\i=(↑k:Int)/\(nB n_1/\lB l_1/\pB l_1 m/\k<m)/\bif inK IntKind.i64 (t.T.getD i.toNat (0:Int)+t.far) then
 bif inK IntKind.i64 ((t.T.getD i.toNat (0:Int)+t.far)*v) then
 bif decide (sumF (tmH l_1 n_1 k) l_1.length > (t.T.getD i.toNat (0:Int)+t.far)*v) then
 bif decide (v > (0:Int)) then
 bif decide (v=(0:Int)) then
 False
 else bif inK IntKind.i64 (quoZ (sumF (tmL l_1 n_1 k) l_1.length) v) then
 bif inK IntKind.i64 (sumF (tmH l_1 n_1 k) l_1.length+v) then
 bif inK IntKind.i64 (sumF (tmH l_1 n_1 k) l_1.length+v - (1:Int)) then
 bif decide (v=(0:Int)) then
 False
 else bif inK IntKind.i64 (quoZ (sumF (tmH l_1 n_1 k) l_1.length+v - (1:Int)) v) then
 bif P.length.beq P.length then
 bif roomB (P.length+1) (16) then
 bif inK IntKind.i64 (i+(1:Int)) then
 X VEx.normal [I (i+(1:Int)),I (↑t.T.length:Int),VV.tl t.T.length 1 (dG t.T),VV.ptr (VA.own 2 0),I a1,I v,VV.ptr (VA.own 1 0),VV.ptr (VA.own 0 0),VV.tp [VV.tl l.length 5 (stG l),VV.tl t.T.length 1 (dG t.T),I t.far,I t.least],VV.agg [I (n 0),I (n 1),I (n 2),I (n 3),I (n 4),I (n 5)],I y] [VB.fam [] 6 (fun (k:Nat)=>(ch n).getD k (0:Int)) (67:TypeId),VB.cells [I 0,I 0,I 0,VV.nils,VV.bool false] (93:TypeId),VB.cells [I v,I c,I a2,VV.sl 3 (P.length+1),VV.bool false] (93:TypeId),VB.vec (P.length+1) (catG P.length (spG P) fun (j:Nat)=>List.take (2) (List.drop (j*(2)) [I (quoZ (sumF (tmL l_1 n_1 k) l_1.length) v),I (quoZ (sumF (tmH l_1 n_1 k) l_1.length+v - (1:Int)) v)])) (2) 40]
 else False
 else False
 else False
 else False
 else False
 else False
 else False
 else bif P.length.beq P.length then
 bif roomB (P.length+1) (16) then
 bif inK IntKind.i64 (i+(1:Int)) then
 X VEx.normal [I (i+(1:Int)),I (↑t.T.length:Int),VV.tl t.T.length 1 (dG t.T),VV.ptr (VA.own 2 0),I a1,I v,VV.ptr (VA.own 1 0),VV.ptr (VA.own 0 0),VV.tp [VV.tl l.length 5 (stG l),VV.tl t.T.length 1 (dG t.T),I t.far,I t.least],VV.agg [I (n 0),I (n 1),I (n 2),I (n 3),I (n 4),I (n 5)],I y] [VB.fam [] 6 (fun (k:Nat)=>(ch n).getD k (0:Int)) (67:TypeId),VB.cells [I 0,I 0,I 0,VV.nils,VV.bool false] (93:TypeId),VB.cells [I v,I c,I a2,VV.sl 3 (P.length+1),VV.bool false] (93:TypeId),VB.vec (P.length+1) (catG P.length (spG P) fun (j:Nat)=>List.take (2) (List.drop (j*(2)) [I 0,I 0])) (2) 40]
 else False
 else False
 else False
 else bif inK IntKind.i64 (t.T.getD i.toNat (0:Int) - t.far) then
 bif inK IntKind.i64 ((t.T.getD i.toNat (0:Int) - t.far)*v) then
 bif decide (sumF (tmL l_1 n_1 k) l_1.length<(t.T.getD i.toNat (0:Int) - t.far)*v) then
 bif decide (v > (0:Int)) then
 bif decide (v=(0:Int)) then
 False
 else bif inK IntKind.i64 (quoZ (sumF (tmL l_1 n_1 k) l_1.length) v) then
 bif inK IntKind.i64 (sumF (tmH l_1 n_1 k) l_1.length+v) then
 bif inK IntKind.i64 (sumF (tmH l_1 n_1 k) l_1.length+v - (1:Int)) then
 bif decide (v=(0:Int)) then
 False
 else bif inK IntKind.i64 (quoZ (sumF (tmH l_1 n_1 k) l_1.length+v - (1:Int)) v) then
 bif P.length.beq P.length then
 bif roomB (P.length+1) (16) then
 bif inK IntKind.i64 (i+(1:Int)) then
 X VEx.normal [I (i+(1:Int)),I (↑t.T.length:Int),VV.tl t.T.length 1 (dG t.T),VV.ptr (VA.own 2 0),I a1,I v,VV.ptr (VA.own 1 0),VV.ptr (VA.own 0 0),VV.tp [VV.tl l.length 5 (stG l),VV.tl t.T.length 1 (dG t.T),I t.far,I t.least],VV.agg [I (n 0),I (n 1),I (n 2),I (n 3),I (n 4),I (n 5)],I y] [VB.fam [] 6 (fun (k:Nat)=>(ch n).getD k (0:Int)) (67:TypeId),VB.cells [I 0,I 0,I 0,VV.nils,VV.bool false] (93:TypeId),VB.cells [I v,I c,I a2,VV.sl 3 (P.length+1),VV.bool false] (93:TypeId),VB.vec (P.length+1) (catG P.length (spG P) fun (j:Nat)=>List.take (2) (List.drop (j*(2)) [I (quoZ (sumF (tmL l_1 n_1 k) l_1.length) v),I (quoZ (sumF (tmH l_1 n_1 k) l_1.length+v - (1:Int)) v)])) (2) 40]
 else False
 else False
 else False
 else False
 else False
 else False
 else False
 else bif P.length.beq P.length then
 bif roomB (P.length+1) (16) then
 bif inK IntKind.i64 (i+(1:Int)) then
 X VEx.normal [I (i+(1:Int)),I (↑t.T.length:Int),VV.tl t.T.length 1 (dG t.T),VV.ptr (VA.own 2 0),I a1,I v,VV.ptr (VA.own 1 0),VV.ptr (VA.own 0 0),VV.tp [VV.tl l.length 5 (stG l),VV.tl t.T.length 1 (dG t.T),I t.far,I t.least],VV.agg [I (n 0),I (n 1),I (n 2),I (n 3),I (n 4),I (n 5)],I y] [VB.fam [] 6 (fun (k:Nat)=>(ch n).getD k (0:Int)) (67:TypeId),VB.cells [I 0,I 0,I 0,VV.nils,VV.bool false] (93:TypeId),VB.cells [I v,I c,I a2,VV.sl 3 (P.length+1),VV.bool false] (93:TypeId),VB.vec (P.length+1) (catG P.length (spG P) fun (j:Nat)=>List.take (2) (List.drop (j*(2)) [I 0,I 0])) (2) 40]
 else False
 else False
 else False
 else bif decide (v > (0:Int)) then
 bif decide (v=(0:Int)) then
 False
 else bif inK IntKind.i64 (quoZ (sumF (tmL l_1 n_1 k) l_1.length) v) then
 bif inK IntKind.i64 (sumF (tmH l_1 n_1 k) l_1.length+v) then
 bif inK IntKind.i64 (sumF (tmH l_1 n_1 k) l_1.length+v - (1:Int)) then
 bif decide (v=(0:Int)) then
 False
 else bif inK IntKind.i64 (quoZ (sumF (tmH l_1 n_1 k) l_1.length+v - (1:Int)) v) then
 bif P.length.beq P.length then
 bif roomB (P.length+1) (16) then
 bif inK IntKind.i64 (i+(1:Int)) then
 X VEx.normal [I (i+(1:Int)),I (↑t.T.length:Int),VV.tl t.T.length 1 (dG t.T),VV.ptr (VA.own 2 0),I a1,I v,VV.ptr (VA.own 1 0),VV.ptr (VA.own 0 0),VV.tp [VV.tl l.length 5 (stG l),VV.tl t.T.length 1 (dG t.T),I t.far,I t.least],VV.agg [I (n 0),I (n 1),I (n 2),I (n 3),I (n 4),I (n 5)],I y] [VB.fam [] 6 (fun (k:Nat)=>(ch n).getD k (0:Int)) (67:TypeId),VB.cells [I 0,I 0,I 0,VV.nils,VV.bool false] (93:TypeId),VB.cells [I v,I c,I a2,VV.sl 3 (P.length+1),VV.bool b] (93:TypeId),VB.vec (P.length+1) (catG P.length (spG P) fun (j:Nat)=>List.take (2) (List.drop (j*(2)) [I (quoZ (sumF (tmL l_1 n_1 k) l_1.length) v),I (quoZ (sumF (tmH l_1 n_1 k) l_1.length+v - (1:Int)) v)])) (2) 40]
 else False
 else False
 else False
 else False
 else False
 else False
 else False
 else bif P.length.beq P.length then
 bif roomB (P.length+1) (16) then
 bif inK IntKind.i64 (i+(1:Int)) then
 X VEx.normal [I (i+(1:Int)),I (↑t.T.length:Int),VV.tl t.T.length 1 (dG t.T),VV.ptr (VA.own 2 0),I a1,I v,VV.ptr (VA.own 1 0),VV.ptr (VA.own 0 0),VV.tp [VV.tl l.length 5 (stG l),VV.tl t.T.length 1 (dG t.T),I t.far,I t.least],VV.agg [I (n 0),I (n 1),I (n 2),I (n 3),I (n 4),I (n 5)],I y] [VB.fam [] 6 (fun (k:Nat)=>(ch n).getD k (0:Int)) (67:TypeId),VB.cells [I 0,I 0,I 0,VV.nils,VV.bool false] (93:TypeId),VB.cells [I v,I c,I a2,VV.sl 3 (P.length+1),VV.bool b] (93:TypeId),VB.vec (P.length+1) (catG P.length (spG P) fun (j:Nat)=>List.take (2) (List.drop (j*(2)) [I 0,I 0])) (2) 40]
 else False
 else False
 else False
 else False
 else False
 else False
 else False
 else False
 else X (VEx.exit 0) [I i,I (↑t.T.length:Int),VV.tl t.T.length 1 (dG t.T),VV.ptr (VA.own 2 0),I a1,I v,VV.ptr (VA.own 1 0),VV.ptr (VA.own 0 0),VV.tp [VV.tl l.length 5 (stG l),VV.tl t.T.length 1 (dG t.T),I t.far,I t.least],VV.agg [I (n 0),I (n 1),I (n 2),I (n 3),I (n 4),I (n 5)],I y] [VB.fam [] 6 (fun (k:Nat)=>(ch n).getD k (0:Int)) (67:TypeId),VB.cells [I 0,I 0,I 0,VV.nils,VV.bool false] (93:TypeId),VB.cells [I v,I c,I a2,VV.sl 3 P.length,VV.bool b] (93:TypeId),VB.vec P.length (spG P) 2 (40:TypeId)]):=by kernel_rfl
def tB (t:Tst):Prop:=(1<=t.T.length/\t.T.length<=4)/\(∀ k,k<t.T.length->0<=t.T.getD k 0/\t.T.getD k 0<=1000)/\(0<=t.far/\t.far<=1000)/\0<=t.least/\t.least<=100
abbrev volF (l:List Stk) (n:Nat->Int):Int:=sumF (tmV l n) l.length
abbrev costF (l:List Stk) (n:Nat->Int):Int:=sumF (tmC l n) l.length
abbrev loF (l:List Stk) (n:Nat->Int) (k:Nat):Int:=sumF (tmL l n k) l.length
abbrev hiF (l:List Stk) (n:Nat->Int) (k:Nat):Int:=sumF (tmH l n k) l.length
def okF (l:List Stk) (t:Tst) (n:Nat->Int) (k:Nat):Bool:=!decide (hiF l n k > (t.T.getD k 0+t.far)*volF l n) && !decide (loF l n k<(t.T.getD k 0 - t.far)*volF l n)
def ownF (l:List Stk) (n:Nat->Int) (k:Nat):Sp:=if volF l n > 0 then ⟨quoZ (loF l n k) (volF l n),quoZ (hiF l n k+volF l n - 1) (volF l n)⟩ else ⟨0,0⟩
def PF (l:List Stk) (n:Nat->Int):Nat->List Sp
 | 0=>[]
 | k+1=>PF l n k ++ [ownF l n k]
def KF (l:List Stk) (t:Tst) (n:Nat->Int) (b:Bool):Nat->Bool
 | 0=>b
 | k+1=>KF l t n b k && okF l t n k
abbrev conB (l:List Stk) (t:Tst) (n:Nat->Int):Prop:=nB n/\lB l/\pB l t.T.length/\tB t
def lBs (l:List Stk) (t:Tst) (n:Nat->Int) (y c a1 a2:Int) (b:Bool):LT:=fun lock tt h K=>
 FitP lock h tt ⟨4,[0,1,2,3].zip (BB n (volF l n) c a2 [] b)⟩ (dsB.zip (VB4 l t n y (volF l n) a1 0))/\conB l t n/\K .normal (dsB.zip (VB4 l t n y (volF l n) a1 t.T.length)) ⟨4,[0,1,2,3].zip (BB n (volF l n) c a2 (PF l n t.T.length) (KF l t n b t.T.length))⟩
def lBl (l:List Stk) (t:Tst) (n:Nat->Int) (y c a1 a2:Int) (b:Bool):LT:=fun lock tt h K=>
 FitP lock h tt ⟨3,[0,1,2].zip [faN n,zB,.cells [I (volF l n),I c,I a2,.nils,.bool b] 93]⟩ (dsB.zip (VB4 l t n y (volF l n) a1 0))/\conB l t n/\K .normal (dsB.zip (VB4 l t n y (volF l n) a1 t.T.length)) ⟨4,[0,1,2,3].zip (BB n (volF l n) c a2 (PF l n t.T.length) (KF l t n b t.T.length))⟩
theorem blf_ev (l:List Stk) (t:Tst) (n:Nat->Int) (y c a1 a2:Int) (b:Bool) (Q:VRes->VH->Prop):callN Try.prog (tabS [volT,costT,notesT,ageT]) (atF 41 [(0,lBl l t n y c a1 a2 b)]) 10 20 0 (.fn 41) [.tp (stD l::tsL t),.agg (nL n),I y] ⟨0,[]⟩ (fun r h=>Q r h) =
 (∃ (l_1:List Stk),∃ (t_1:Tst),∃ (n_1:Nat->Int),isD (maskH [0,1] (VH.mk (2) [(1,VB.cells [I 0,I 0,I 0,VV.nils,VV.bool false] 93),(0,VB.fam [] (6) (fun (k:Nat)=>[n 0,n 1,n 2,n 3,n 4,n 5].getD k (0:Int)) 67)])) 4 (VV.tp (stD l::tsL t)) (VV.tp (stD l_1::tsL t_1))/\[I ((fun (k:Nat)=>[n 0,n 1,n 2,n 3,n 4,n 5].getD k (0:Int)) (0+0)),I ((fun (k:Nat)=>[n 0,n 1,n 2,n 3,n 4,n 5].getD k (0:Int)) (0+1)),I ((fun (k:Nat)=>[n 0,n 1,n 2,n 3,n 4,n 5].getD k (0:Int)) (0+2)),I ((fun (k:Nat)=>[n 0,n 1,n 2,n 3,n 4,n 5].getD k (0:Int)) (0+3)),I ((fun (k:Nat)=>[n 0,n 1,n 2,n 3,n 4,n 5].getD k (0:Int)) (0+4)),I ((fun (k:Nat)=>[n 0,n 1,n 2,n 3,n 4,n 5].getD k (0:Int)) (0+5))]=nL n_1/\nB n_1/\lB l_1/\∃ (l_2:List Stk),∃ (t_2:Tst),∃ (n_2:Nat->Int),isD (VH.mk (2) [(1,VB.cells [I 0,I 0,I 0,VV.nils,VV.bool false] 93),(0,VB.fam [] (6) (fun (k:Nat)=>[n 0,n 1,n 2,n 3,n 4,n 5].getD k (0:Int)) 67)]) 4 (VV.tp (stD l::tsL t)) (VV.tp (stD l_2::tsL t_2))/\[I ((fun (k:Nat)=>[n 0,n 1,n 2,n 3,n 4,n 5].getD k (0:Int)) (0+0)),I ((fun (k:Nat)=>[n 0,n 1,n 2,n 3,n 4,n 5].getD k (0:Int)) (0+1)),I ((fun (k:Nat)=>[n 0,n 1,n 2,n 3,n 4,n 5].getD k (0:Int)) (0+2)),I ((fun (k:Nat)=>[n 0,n 1,n 2,n 3,n 4,n 5].getD k (0:Int)) (0+3)),I ((fun (k:Nat)=>[n 0,n 1,n 2,n 3,n 4,n 5].getD k (0:Int)) (0+4)),I ((fun (k:Nat)=>[n 0,n 1,n 2,n 3,n 4,n 5].getD k (0:Int)) (0+5))]=nL n_2/\(nB n_2/\lB l_2/\(0:Int)<=y/\y<=(1000:Int))/\∃ (l_3:List Stk),∃ (t_3:Tst),∃ (n_3:Nat->Int),isD (VH.mk (2) [(1,VB.cells [I 0,I 0,I 0,VV.nils,VV.bool false] 93),(0,VB.fam [] (6) (fun (k:Nat)=>[n 0,n 1,n 2,n 3,n 4,n 5].getD k (0:Int)) 67)]) 4 (VV.tp (stD l::tsL t)) (VV.tp (stD l_3::tsL t_3))/\[I ((fun (k:Nat)=>[n 0,n 1,n 2,n 3,n 4,n 5].getD k (0:Int)) (0+0)),I ((fun (k:Nat)=>[n 0,n 1,n 2,n 3,n 4,n 5].getD k (0:Int)) (0+1)),I ((fun (k:Nat)=>[n 0,n 1,n 2,n 3,n 4,n 5].getD k (0:Int)) (0+2)),I ((fun (k:Nat)=>[n 0,n 1,n 2,n 3,n 4,n 5].getD k (0:Int)) (0+3)),I ((fun (k:Nat)=>[n 0,n 1,n 2,n 3,n 4,n 5].getD k (0:Int)) (0+4)),I ((fun (k:Nat)=>[n 0,n 1,n 2,n 3,n 4,n 5].getD k (0:Int)) (0+5))]=nL n_3/\nB n_3/\lB l_3/\bif decide (sumF (tmV l_1 n_1) l_1.length > (0:Int)) then
 FitP 0 (VH.mk (3) [(2,VB.cells [I (sumF (tmV l_1 n_1) l_1.length),I (sumF (tmC l_3 n_3) l_3.length),I (max (0:Int) (ageF l_2 n_2 y l_2.length)),VV.nils,VV.bool (decide (ageF l_2 n_2 y l_2.length ≥ t.least))] 93),(2,VB.cells [I 0,I 0,I 0,VV.nils,VV.bool false] 93),(1,VB.cells [I 0,I 0,I 0,VV.nils,VV.bool false] 93),(0,VB.fam [] (6) (fun (k:Nat)=>[n 0,n 1,n 2,n 3,n 4,n 5].getD k (0:Int)) 67)]) [(45,I 0),(44,I (↑t.T.length:Int)),(43,VV.tl t.T.length 1 (dG t.T)),(42,VV.tp [VV.tl t.T.length 1 (dG t.T),I t.far,I t.least]),(41,VV.tp [VV.tl t.T.length 1 (dG t.T),I t.far,I t.least]),(40,VV.tp (stD l::tsL t)),(39,VV.tp (stD l::tsL t)),(9,VV.ptr (VA.own (2) 0)),(38,VV.agg [I (sumF (tmV l_1 n_1) l_1.length),I (sumF (tmC l_3 n_3) l_3.length),I (max (0:Int) (ageF l_2 n_2 y l_2.length)),VV.nils,VV.bool (decide (ageF l_2 n_2 y l_2.length ≥ t.least))]),(37,VV.bool (decide (ageF l_2 n_2 y l_2.length ≥ t.least))),(36,VV.bool (decide (ageF l_2 n_2 y l_2.length ≥ t.least))),(29,VV.bool true),(35,I t.least),(29,VV.bool true),(34,VV.tp [I t.least]),(29,VV.bool true),(33,VV.tp [VV.tl t.T.length 1 (dG t.T),I t.far,I t.least]),(29,VV.bool true),(32,VV.tp (stD l::tsL t)),(29,VV.bool true),(31,VV.tp (stD l::tsL t)),(29,VV.bool true),(30,I (ageF l_2 n_2 y l_2.length)),(29,VV.bool true),(29,VV.bool (decide (sumF (tmV l_1 n_1) l_1.length > (0:Int)))),(28,VV.bool (decide (sumF (tmV l_1 n_1) l_1.length > (0:Int)))),(27,I (sumF (tmV l_1 n_1) l_1.length)),(26,I (max (0:Int) (ageF l_2 n_2 y l_2.length))),(25,I (ageF l_2 n_2 y l_2.length)),(24,I (sumF (tmC l_3 n_3) l_3.length)),(23,VV.agg [I ((fun (k:Nat)=>[n 0,n 1,n 2,n 3,n 4,n 5].getD k (0:Int)) (0+0)),I ((fun (k:Nat)=>[n 0,n 1,n 2,n 3,n 4,n 5].getD k (0:Int)) (0+1)),I ((fun (k:Nat)=>[n 0,n 1,n 2,n 3,n 4,n 5].getD k (0:Int)) (0+2)),I ((fun (k:Nat)=>[n 0,n 1,n 2,n 3,n 4,n 5].getD k (0:Int)) (0+3)),I ((fun (k:Nat)=>[n 0,n 1,n 2,n 3,n 4,n 5].getD k (0:Int)) (0+4)),I ((fun (k:Nat)=>[n 0,n 1,n 2,n 3,n 4,n 5].getD k (0:Int)) (0+5))]),(22,VV.tp (stD l::tsL t)),(21,I (sumF (tmV l_1 n_1) l_1.length)),(8,I (ageF l_2 n_2 y l_2.length)),(7,I (sumF (tmV l_1 n_1) l_1.length)),(20,I (ageF l_2 n_2 y l_2.length)),(19,I y),(18,VV.agg [I ((fun (k:Nat)=>[n 0,n 1,n 2,n 3,n 4,n 5].getD k (0:Int)) (0+0)),I ((fun (k:Nat)=>[n 0,n 1,n 2,n 3,n 4,n 5].getD k (0:Int)) (0+1)),I ((fun (k:Nat)=>[n 0,n 1,n 2,n 3,n 4,n 5].getD k (0:Int)) (0+2)),I ((fun (k:Nat)=>[n 0,n 1,n 2,n 3,n 4,n 5].getD k (0:Int)) (0+3)),I ((fun (k:Nat)=>[n 0,n 1,n 2,n 3,n 4,n 5].getD k (0:Int)) (0+4)),I ((fun (k:Nat)=>[n 0,n 1,n 2,n 3,n 4,n 5].getD k (0:Int)) (0+5))]),(17,VV.tp (stD l::tsL t)),(16,I (sumF (tmV l_1 n_1) l_1.length)),(15,VV.agg [I ((fun (k:Nat)=>[n 0,n 1,n 2,n 3,n 4,n 5].getD k (0:Int)) (0+0)),I ((fun (k:Nat)=>[n 0,n 1,n 2,n 3,n 4,n 5].getD k (0:Int)) (0+1)),I ((fun (k:Nat)=>[n 0,n 1,n 2,n 3,n 4,n 5].getD k (0:Int)) (0+2)),I ((fun (k:Nat)=>[n 0,n 1,n 2,n 3,n 4,n 5].getD k (0:Int)) (0+3)),I ((fun (k:Nat)=>[n 0,n 1,n 2,n 3,n 4,n 5].getD k (0:Int)) (0+4)),I ((fun (k:Nat)=>[n 0,n 1,n 2,n 3,n 4,n 5].getD k (0:Int)) (0+5))]),(14,VV.tp (stD l::tsL t)),(6,VV.ptr (VA.own (1) 0)),(4,VV.ptr (VA.own 0 0)),(0,VV.tp (stD l::tsL t)),(1,VV.agg (nL n)),(2,I y)] (VH.mk 3 ([0,1,2].zip [faN n,zB,VB.cells [I (volF l n),I c,I a2,VV.nils,VV.bool b] (93:TypeId)])) (dsB.zip (VB4 l t n y (volF l n) a1 (0:Int)))/\conB l t n/\Q (VRes.ret (VV.agg [I (volF l n),I c,I a2,VV.sl 3 (PF l n t.T.length).length,VV.bool (KF l t n b t.T.length)])) (VH.mk 4 [(1,VB.cells [I (volF l n),I c,I a2,VV.sl 3 (PF l n t.T.length).length,VV.bool (KF l t n b t.T.length)] (93:TypeId)),(0,VB.fam [] 6 (fun (k:Nat)=>(ch n).getD k (0:Int)) (67:TypeId)),(1,VB.cells [I 0,I 0,I 0,VV.nils,VV.bool false] (93:TypeId)),(2,VB.cells [I (volF l n),I c,I a2,VV.sl 3 (PF l n t.T.length).length,VV.bool (KF l t n b t.T.length)] (93:TypeId)),(3,VB.vec (PF l n t.T.length).length (spG (PF l n t.T.length)) 2 (40:TypeId))])
 else FitP 0 (VH.mk (3) [(2,VB.cells [I (sumF (tmV l_1 n_1) l_1.length),I (sumF (tmC l_3 n_3) l_3.length),I (max (0:Int) (ageF l_2 n_2 y l_2.length)),VV.nils,VV.bool false] 93),(2,VB.cells [I 0,I 0,I 0,VV.nils,VV.bool false] 93),(1,VB.cells [I 0,I 0,I 0,VV.nils,VV.bool false] 93),(0,VB.fam [] (6) (fun (k:Nat)=>[n 0,n 1,n 2,n 3,n 4,n 5].getD k (0:Int)) 67)]) [(45,I 0),(44,I (↑t.T.length:Int)),(43,VV.tl t.T.length 1 (dG t.T)),(42,VV.tp [VV.tl t.T.length 1 (dG t.T),I t.far,I t.least]),(41,VV.tp [VV.tl t.T.length 1 (dG t.T),I t.far,I t.least]),(40,VV.tp (stD l::tsL t)),(39,VV.tp (stD l::tsL t)),(9,VV.ptr (VA.own (2) 0)),(38,VV.agg [I (sumF (tmV l_1 n_1) l_1.length),I (sumF (tmC l_3 n_3) l_3.length),I (max (0:Int) (ageF l_2 n_2 y l_2.length)),VV.nils,VV.bool false]),(37,VV.bool false),(36,udf),(29,VV.bool false),(35,udf),(29,VV.bool false),(34,udf),(29,VV.bool false),(33,udf),(29,VV.bool false),(32,udf),(29,VV.bool false),(31,udf),(29,VV.bool false),(30,udf),(29,VV.bool false),(29,VV.bool (decide (sumF (tmV l_1 n_1) l_1.length > (0:Int)))),(28,VV.bool (decide (sumF (tmV l_1 n_1) l_1.length > (0:Int)))),(27,I (sumF (tmV l_1 n_1) l_1.length)),(26,I (max (0:Int) (ageF l_2 n_2 y l_2.length))),(25,I (ageF l_2 n_2 y l_2.length)),(24,I (sumF (tmC l_3 n_3) l_3.length)),(23,VV.agg [I ((fun (k:Nat)=>[n 0,n 1,n 2,n 3,n 4,n 5].getD k (0:Int)) (0+0)),I ((fun (k:Nat)=>[n 0,n 1,n 2,n 3,n 4,n 5].getD k (0:Int)) (0+1)),I ((fun (k:Nat)=>[n 0,n 1,n 2,n 3,n 4,n 5].getD k (0:Int)) (0+2)),I ((fun (k:Nat)=>[n 0,n 1,n 2,n 3,n 4,n 5].getD k (0:Int)) (0+3)),I ((fun (k:Nat)=>[n 0,n 1,n 2,n 3,n 4,n 5].getD k (0:Int)) (0+4)),I ((fun (k:Nat)=>[n 0,n 1,n 2,n 3,n 4,n 5].getD k (0:Int)) (0+5))]),(22,VV.tp (stD l::tsL t)),(21,I (sumF (tmV l_1 n_1) l_1.length)),(8,I (ageF l_2 n_2 y l_2.length)),(7,I (sumF (tmV l_1 n_1) l_1.length)),(20,I (ageF l_2 n_2 y l_2.length)),(19,I y),(18,VV.agg [I ((fun (k:Nat)=>[n 0,n 1,n 2,n 3,n 4,n 5].getD k (0:Int)) (0+0)),I ((fun (k:Nat)=>[n 0,n 1,n 2,n 3,n 4,n 5].getD k (0:Int)) (0+1)),I ((fun (k:Nat)=>[n 0,n 1,n 2,n 3,n 4,n 5].getD k (0:Int)) (0+2)),I ((fun (k:Nat)=>[n 0,n 1,n 2,n 3,n 4,n 5].getD k (0:Int)) (0+3)),I ((fun (k:Nat)=>[n 0,n 1,n 2,n 3,n 4,n 5].getD k (0:Int)) (0+4)),I ((fun (k:Nat)=>[n 0,n 1,n 2,n 3,n 4,n 5].getD k (0:Int)) (0+5))]),(17,VV.tp (stD l::tsL t)),(16,I (sumF (tmV l_1 n_1) l_1.length)),(15,VV.agg [I ((fun (k:Nat)=>[n 0,n 1,n 2,n 3,n 4,n 5].getD k (0:Int)) (0+0)),I ((fun (k:Nat)=>[n 0,n 1,n 2,n 3,n 4,n 5].getD k (0:Int)) (0+1)),I ((fun (k:Nat)=>[n 0,n 1,n 2,n 3,n 4,n 5].getD k (0:Int)) (0+2)),I ((fun (k:Nat)=>[n 0,n 1,n 2,n 3,n 4,n 5].getD k (0:Int)) (0+3)),I ((fun (k:Nat)=>[n 0,n 1,n 2,n 3,n 4,n 5].getD k (0:Int)) (0+4)),I ((fun (k:Nat)=>[n 0,n 1,n 2,n 3,n 4,n 5].getD k (0:Int)) (0+5))]),(14,VV.tp (stD l::tsL t)),(6,VV.ptr (VA.own (1) 0)),(4,VV.ptr (VA.own 0 0)),(0,VV.tp (stD l::tsL t)),(1,VV.agg (nL n)),(2,I y)] (VH.mk 3 ([0,1,2].zip [faN n,zB,VB.cells [I (volF l n),I c,I a2,VV.nils,VV.bool b] (93:TypeId)])) (dsB.zip (VB4 l t n y (volF l n) a1 (0:Int)))/\conB l t n/\Q (VRes.ret (VV.agg [I (volF l n),I c,I a2,VV.sl 3 (PF l n t.T.length).length,VV.bool (KF l t n b t.T.length)])) (VH.mk 4 [(1,VB.cells [I (volF l n),I c,I a2,VV.sl 3 (PF l n t.T.length).length,VV.bool (KF l t n b t.T.length)] (93:TypeId)),(0,VB.fam [] 6 (fun (k:Nat)=>(ch n).getD k (0:Int)) (67:TypeId)),(1,VB.cells [I 0,I 0,I 0,VV.nils,VV.bool false] (93:TypeId)),(2,VB.cells [I (volF l n),I c,I a2,VV.sl 3 (PF l n t.T.length).length,VV.bool (KF l t n b t.T.length)] (93:TypeId)),(3,VB.vec (PF l n t.T.length).length (spG (PF l n t.T.length)) 2 (40:TypeId))])):=by kernel_rfl
theorem room16 {n:Nat} (h:n<=100000):roomB n 16=true:=by
 unfold roomB
 simp only [Bool.and_eq_true,Nat.ble_eq]
 omega
theorem fit_sp {P:List Sp} {x:Sp}:(VB.vec (P ++ [x]).length (spG (P ++ [x])) 2 40).fit (.vec (P.length+1) (catG P.length (spG P) fun j=>List.take 2 (List.drop (j*2) [I x.lo,I x.hi])) 2 40):=by
 refine ⟨by simp,rfl,rfl,fun j hj=>?_⟩
 rw [List.length_append,List.length_singleton] at hj
 unfold catG
 by_cases hjk:j<P.length
 ·rw [blt_t hjk]
  unfold spG
  rw [List.getD_eq_getElem?_getD (l:=P ++ [x]),List.getElem?_append_left hjk,<- List.getD_eq_getElem?_getD]
  rfl
 ·rw [blt_f (by omega)]
  obtain rfl:j=P.length:=by omega
  unfold spG
  rw [List.getD_eq_getElem?_getD (l:=P ++ [x]),List.getElem?_append_right (Nat.le_refl _),Nat.sub_self]
  rfl
section
variable {l:List Stk} {t:Tst} {n:Nat->Int} {y c a1 a2:Int} {b:Bool}
theorem vol_bd (hn:nB n) (hl:lB l):0<=volF l n/\volF l n<=2359296:=by
 have h:=sumF_bd (f:=tmV l n) (M:=6*65536) l.length (fun i hi=>bdSV ⟨hn,hl⟩ hi)
 have hl6:=hl.1
 have:((l.length:Nat):Int)*(6*65536)<=6*(6*65536):=Int.mul_le_mul_of_nonneg_right (by omega) (by decide)
 unfold volF
 omega
theorem cost_bd (hn:nB n) (hl:lB l):0<=costF l n/\costF l n<=37748736:=by
 have h:=sumF_bd (f:=tmC l n) (M:=6*1048576) l.length (fun i hi=>bdSC ⟨hn,hl⟩ hi)
 have hl6:=hl.1
 have:((l.length:Nat):Int)*(6*1048576)<=6*(6*1048576):=Int.mul_le_mul_of_nonneg_right (by omega) (by decide)
 unfold costF
 omega
theorem note_bd {m k:Nat} (hn:nB n) (hl:lB l) (hp:pB l m) (hk:k<m):(0<=loF l n k/\loF l n k<=2359296000)/\0<=hiF l n k/\hiF l n k<=2359296000:=by
 have h:=sumF_bd (f:=tmL l n k) (M:=6*65536*1000) l.length (fun i hi=>bdSL ⟨hn,hl,m,hp,hk⟩ hi)
 have h':=sumF_bd (f:=tmH l n k) (M:=6*65536*1000) l.length (fun i hi=>bdSH ⟨hn,hl,m,hp,hk⟩ hi)
 have hl6:=hl.1
 have:((l.length:Nat):Int)*(6*65536*1000)<=6*(6*65536*1000):=Int.mul_le_mul_of_nonneg_right (by omega) (by decide)
 unfold loF hiF
 omega
theorem quo_bd {a b M:Int} (ha:0<=a/\a<=M) (hb:0<b):0<=quoZ a b/\quoZ a b<=M:=by
 rw [quoZ_nn ha.1]
 exact ⟨Int.ediv_nonneg ha.1 (by omega),Int.le_trans (Int.ediv_le_self _ ha.1) ha.2⟩
theorem PF_len:∀ k,(PF l n k).length=k
 | 0=>rfl
 | k+1=>by
  unfold PF
  rw [List.length_append,List.length_singleton,PF_len k]
def outB (l:List Stk) (t:Tst) (n:Nat->Int) (y c a1 a2:Int) (b:Bool) (_:Nat) (e:VEx) (vs:List VV) (bs:List VB):Prop:=
 e=.exit 0/\bs=BB n (volF l n) c a2 (PF l n t.T.length) (KF l t n b t.T.length)/\vs=VB4 l t n y (volF l n) a1 t.T.length
theorem nt_good:Good Try.prog (callN Try.prog (tabS [notesT]) noL 10 20):=noL_good (tab1 notesT_ok)
theorem lBs_ok:LSound Try.prog true (.block 0 (.loop (loopB 0 (bodyOf Try.prog 41)))) 104 (lBs l t n y c a1 a2 b):=by
 by_cases hh:conB l t n
 ·obtain ⟨hn,hl,hp,⟨ht1,ht2⟩,htn,htf,_⟩:=hh
  refine loop_row hmix nt_good (un:=10) (ds:=dsB) (ns:=[0,1,2,3]) (nx:=4) (fun k:Nat=>VB4 l t n y (volF l n) a1 k) (fun k=>BB n (volF l n) c a2 (PF l n k) (KF l t n b k)) (fun k=>k<=t.T.length) (fun k=>t.T.length - k) (outB l t n y c a1 a2 b) noL_ok ?_ ?_
  ·rintro k h0
   refine cast (br_ev l t n y _ c a1 a2 k _ _ _).symm ?_
   by_cases hlt:k<t.T.length
   ·obtain ⟨t1,t2⟩:=htn k hlt
    obtain ⟨⟨b1,b2⟩,b3,b4⟩:=note_bd hn hl hp hlt
    have hv:=vol_bd hn hl
    have m1:=mul_bd (show 0<=t.T.getD k 0+t.far/\t.T.getD k 0+t.far<=2000 by omega) hv
    have m2 : -2359296000<=(t.T.getD k 0 - t.far)*volF l n/\(t.T.getD k 0 - t.far)*volF l n<=2359296000:=by
     have e1:=mul_bd (show 0<=t.T.getD k 0/\t.T.getD k 0<=1000 by omega) hv
     have e2:=mul_bd (show 0<=t.far/\t.far<=1000 by omega) hv
     rw [Int.sub_mul]
     omega
    have hlen:=PF_len (l:=l) (n:=n) k
    have fin:∀ (b':Bool) (x:Sp),b'=KF l t n b (k+1)->x=ownF l n k->RoundQ (fun k:Nat=>VB4 l t n y (volF l n) a1 k) (fun k=>BB n (volF l n) c a2 (PF l n k) (KF l t n b k)) (fun k=>k<=t.T.length) (fun k=>t.T.length - k) (outB l t n y c a1 a2 b) k .normal (VB4 l t n y (volF l n) a1 (k+1)) [faN n,zB,.cells [I (volF l n),I c,I a2,.sl 3 ((PF l n k).length+1),.bool b'] 93,.vec ((PF l n k).length+1) (catG (PF l n k).length (spG (PF l n k)) fun j=>List.take 2 (List.drop (j*2) [I x.lo,I x.hi])) 2 40]:=by
     rintro b' x rfl rfl
     refine ⟨k+1,by omega,by dsimp only; omega,rfl,?_,fun _ _ _ h=>h⟩
     have e:PF l n (k+1)=PF l n k ++ [ownF l n k]:=rfl
     dsimp only
     unfold BB
     rw [e]
     refine ⟨VB.fit_refl _,VB.fit_refl _,?_,fit_sp,trivial⟩
     show _=_
     rw [List.length_append]
     rfl
    have tail:∀ b',b'=KF l t n b (k+1)->(bif decide (volF l n > 0) then (bif decide (volF l n=0) then False else bif inK .i64 (quoZ (loF l n k) (volF l n)) then (bif inK .i64 (hiF l n k+volF l n) then (bif inK .i64 (hiF l n k+volF l n - 1) then (bif decide (volF l n=0) then False else bif inK .i64 (quoZ (hiF l n k+volF l n - 1) (volF l n)) then (bif (PF l n k).length.beq (PF l n k).length then (bif roomB ((PF l n k).length+1) 16 then (bif inK .i64 ((k:Int)+1) then RoundQ (fun k:Nat=>VB4 l t n y (volF l n) a1 k) (fun k=>BB n (volF l n) c a2 (PF l n k) (KF l t n b k)) (fun k=>k<=t.T.length) (fun k=>t.T.length - k) (outB l t n y c a1 a2 b) k .normal (VB4 l t n y (volF l n) a1 (k+1)) [faN n,zB,.cells [I (volF l n),I c,I a2,.sl 3 ((PF l n k).length+1),.bool b'] 93,.vec ((PF l n k).length+1) (catG (PF l n k).length (spG (PF l n k)) fun j=>List.take 2 (List.drop (j*2) [I (quoZ (loF l n k) (volF l n)),I (quoZ (hiF l n k+volF l n - 1) (volF l n))])) 2 40] else False) else False) else False) else False) else False) else False) else False)
      else bif (PF l n k).length.beq (PF l n k).length then (bif roomB ((PF l n k).length+1) 16 then (bif inK .i64 ((k:Int)+1) then RoundQ (fun k:Nat=>VB4 l t n y (volF l n) a1 k) (fun k=>BB n (volF l n) c a2 (PF l n k) (KF l t n b k)) (fun k=>k<=t.T.length) (fun k=>t.T.length - k) (outB l t n y c a1 a2 b) k .normal (VB4 l t n y (volF l n) a1 (k+1)) [faN n,zB,.cells [I (volF l n),I c,I a2,.sl 3 ((PF l n k).length+1),.bool b'] 93,.vec ((PF l n k).length+1) (catG (PF l n k).length (spG (PF l n k)) fun j=>List.take 2 (List.drop (j*2) [I 0,I 0])) 2 40] else False) else False) else False):=by
     intro b' hb'
     refine cond_d (fun hv0=>cond_d (fun h=>by omega) (fun _=>?_)) (fun hv0=>cond_k (Nat.beq_refl _) (cond_k (room16 (by omega)) (cond_r (by omega) (fin b' ⟨0,0⟩ hb' (by unfold ownF; rw [if_neg hv0])))))
     have q1:=quo_bd (a:=loF l n k) (b:=volF l n) ⟨b1,b2⟩ (by omega)
     have q2:=quo_bd (a:=hiF l n k+volF l n - 1) (b:=volF l n) (M:=2361655296) ⟨by omega,by omega⟩ (by omega)
     exact cond_r (by omega) (cond_r (by omega) (cond_r (by omega) (cond_d (fun h=>by omega) (fun _=>cond_r (by omega) (cond_k (Nat.beq_refl _) (cond_k (room16 (by omega)) (cond_r (by omega) (fin b' ⟨quoZ (loF l n k) (volF l n),quoZ (hiF l n k+volF l n - 1) (volF l n)⟩ hb' (by unfold ownF; rw [if_pos hv0])))))))))
    refine cond_dk (by omega) (cond_dk ⟨by omega,by omega⟩ ⟨l,t,n,k,t.T.length,rfl,rfl,rfl,⟨hn,hl,hp,hlt⟩,?_⟩)
    rw [show (k:Int).toNat=k by omega]
    have hK:KF l t n b (k+1)=(KF l t n b k && okF l t n k):=rfl
    refine cond_r (by omega) (cond_r (by omega) (cond_d (fun g1=>tail _ ?_) (fun g1=>cond_r (by omega) (cond_r (by omega) (cond_d (fun g2=>tail _ ?_) (fun g2=>tail _ ?_))))))
    ·rw [hK]; unfold okF; rw [decide_eq_true g1]; simp
    ·rw [hK]; unfold okF; rw [decide_eq_true g2]; simp
    ·rw [hK]; unfold okF; rw [decide_eq_false g1,decide_eq_false g2]; simp
   ·obtain rfl:k=t.T.length:=by omega
    exact cond_d (fun h=>by omega) (fun _=>⟨rfl,rfl,rfl⟩)
  ·rintro lock tt h K ⟨hf,_,k1⟩
   refine ⟨0,hf,Nat.zero_le _,?_⟩
   rintro e vs bs ⟨rfl,rfl,rfl⟩
   exact k1
 ·rintro lock tt h K ⟨hf,hc,_⟩
  exact (hh hc).elim
theorem lBl_ok:LSound Try.prog true (.block 0 (.loop (loopB 0 (bodyOf Try.prog 41)))) 104 (lBl l t n y c a1 a2 b):=
 ghost_cells_row (m:=2) (nx:=3) (cs:=[I (volF l n),I c,I a2,.nils,.bool b]) (cs':=[I (volF l n),I c,I a2,.sl 3 0,.bool b]) (ty:=93)
  (bs:=[0,1,2].zip [faN n,zB,.cells [I (volF l n),I c,I a2,.nils,.bool b] 93]) (t0:=dsB.zip (VB4 l t n y (volF l n) a1 0))
  (spG []) 2 40 lBs_ok rfl (fun R xs hv hx=>by
   obtain ⟨a0,_,k0,⟨x1,_,k1,⟨x2,_,k2,⟨x3,_,k3,k4,rfl⟩,rfl⟩,rfl⟩,rfl⟩:=hx
   exact ⟨_,_,k0,⟨_,_,k1,⟨_,_,k2,⟨_,_,nil_ghost hv k3,k4,rfl⟩,rfl⟩,rfl⟩,rfl⟩) (by
   rintro lock tt h K ⟨hf,hi,hK⟩
   exact ⟨hf,⟨⟨rfl,rfl,VB.fit_refl _,VB.fit_refl _,VB.fit_refl _,VB.fit_refl _,trivial⟩,rfl,rfl,rfl,rfl,rfl,rfl,rfl,rfl,rfl,rfl,rfl,trivial⟩,hi,hK⟩)
end
structure Vt where
 v:Int
 c:Int
 a:Int
 P:List Sp
 k:Bool
def vtF (l:List Stk) (t:Tst) (n:Nat->Int) (y:Int):Vt:=
 ⟨volF l n,costF l n,max 0 (ageF l n y l.length),PF l n t.T.length,KF l t n (decide (volF l n > 0) && decide (ageF l n y l.length ≥ t.least)) t.T.length⟩
def vtV (V:Vt) (m:Nat):VV:=.agg [I V.v,I V.c,I V.a,.sl m V.P.length,.bool V.k]
def vtB (V:Vt):VB:=.vec V.P.length (spG V.P) 2 40
theorem c4_tab:∀ f T,tabS [volT,costT,notesT,ageT] f=some T->SpOk Try.prog f T:=tab_ok _ (fun x hx=>by
 simp only [List.mem_cons,List.not_mem_nil,or_false] at hx
 rcases hx with rfl | rfl | rfl | rfl
 ·exact volT_ok
 ·exact costT_ok
 ·exact notesT_ok
 ·exact ageT_ok)
theorem calls_lendDO {P:Program} {f:FuncId} {args args':List VV} {h hm':VH} {r:VRes} {b:VB} (n o:Nat) (hs:CallsV P f args ⟨0,[]⟩ r hm') (h0:hm'.at o=b) (h1:∀ i,hm'.at (o+(i+1))=.free) (hr:r.flat o=true) (hbl:b.flat) (ha:isDL h n args' args) :
  CallsV P f args' h (r.sh o h.nx) (h.new b):=
 calls_lendD n o hs (bl:=[b]) (fun i=>by
  match i with
  | 0=>exact h0
  | i+1=>exact h1 i) hr (fun c hc=>by
  simp only [List.mem_singleton] at hc
  subst hc
  exact hbl) ha
theorem blend_v {l:List Stk} {t:Tst} {n:Nat->Int} {y:Int} (hh:conB l t n) (hy:0<=y/\y<=1000):∃ h',CallsV Try.prog 41 [.tp (stD l::tsL t),.agg (nL n),I y] ⟨0,[]⟩ (.ret (vtV (vtF l t n y) 3)) h'/\h'.at 3=vtB (vtF l t n y)/\∀ i,h'.at (3+(i+1))=.free:=by
 have hall:LoopsOk Try.prog 41 [(0,lBl l t n y (costF l n) (ageF l n y l.length) (max 0 (ageF l n y l.length)) (decide (volF l n > 0) && decide (ageF l n y l.length ≥ t.least)))]:=fun x hx=>by
  simp only [List.mem_singleton] at hx
  subst hx
  exact ⟨by kernel_rfl,lBl_ok⟩
 obtain ⟨r,h',⟨rfl,h1,h2⟩,hc⟩:=of_callN (callL_good hmix c4_tab hall (un:=10) 20) (f:=41) (args:=[.tp (stD l::tsL t),.agg (nL n),I y]) (h:=⟨0,[]⟩) (K:=fun r h'=>r=.ret (vtV (vtF l t n y) 3)/\h'.at 3=vtB (vtF l t n y)/\∀ i,h'.at (3+(i+1))=.free) (by
  refine cast (blf_ev l t n y _ _ _ _ _).symm ?_
  refine ⟨l,t,n,rfl,rfl,hh.1,hh.2.1,l,t,n,rfl,rfl,⟨hh.1,hh.2.1,hy⟩,l,t,n,rfl,rfl,hh.1,hh.2.1,?_⟩
  refine cond_d (fun hv=>?_) (fun hv=>?_)
  ·refine ⟨⟨⟨rfl,rfl,VB.fit_refl _,VB.fit_refl _,?_,trivial⟩,rfl,rfl,rfl,rfl,rfl,rfl,rfl,rfl,rfl,rfl,rfl,trivial⟩,hh,rfl,rfl,fun i=>at_ge (by show ¬ 3+(i+1)<4; omega)⟩
   have hv:decide (volF l n > 0)=true:=decide_eq_true hv
   rw [hv]
   exact VB.fit_refl _
  ·refine ⟨⟨⟨rfl,rfl,VB.fit_refl _,VB.fit_refl _,?_,trivial⟩,rfl,rfl,rfl,rfl,rfl,rfl,rfl,rfl,rfl,rfl,rfl,trivial⟩,hh,rfl,rfl,fun i=>at_ge (by show ¬ 3+(i+1)<4; omega)⟩
   have hv:decide (volF l n > 0)=false:=decide_eq_false hv
   rw [hv]
   exact VB.fit_refl _)
 exact ⟨h',hc,h1,h2⟩
def blT:FuncId × Spec1:=(41,fun _ args h K=>match args with
 | [c,.agg ns,.int .i64 y]=>∃ (l:List Stk) (t:Tst) (n:Nat->Int),isD h 4 c (.tp (stD l::tsL t))/\ns=nL n/\(conB l t n/\0<=y/\y<=1000)/\∀ V,V=vtF l t n y->K (.ret (vtV V h.nx)) (h.new (vtB V))
 | _=>False)
theorem blT_ok:SpOk Try.prog blT.1 blT.2:=by
 intro lock args h K hK
 simp only [blT] at hK
 split at hK
 ·rename_i c ns y
  obtain ⟨l,t,n,hc,rfl,⟨hh,hy⟩,hK⟩:=hK
  obtain ⟨h',hv,h1,h2⟩:=blend_v hh hy
  have:=calls_lendDO (args':=[c,.agg (nL n),I y]) (h:=h) 4 3 hv h1 h2 rfl (fun i hi=>rfl) ⟨hc,isD_nL,⟨rfl,rfl⟩,trivial⟩
  have e:(VRes.ret (vtV (vtF l t n y) 3)).sh 3 h.nx=.ret (vtV (vtF l t n y) h.nx):=by
   simp [VRes.sh,vtV,VV.sh,shL,shN]
  rw [e] at this
  exact ⟨_,_,hK _ rfl,lockP_new _ _ _,this⟩
 ·exact hK.elim
theorem okT_tB {t:Tst} (h:okT t=true):tB t:=by
 unfold okT at h
 simp only [Bool.and_eq_true,decide_eq_true_eq,Bool.not_eq_true'] at h
 obtain ⟨⟨⟨h1,h2⟩,h3⟩,h4⟩:=h
 refine ⟨h1,fun k hk=>?_,h3,h4⟩
 unfold anyN at h2
 rw [List.any_eq_false] at h2
 have:=h2 k (List.mem_range.2 hk)
 unfold qN okN at this
 simpa using this
abbrev setC (n:Nat->Int) (i:Nat) (x:Int):Nat->Int:=setF n i [x]
theorem setC_get (n:Nat->Int) (i:Nat) (x:Int) (k:Nat):setC n i x k=if k=i then x else n k:=by
 show (bif Nat.beq k i then x else n k)=_
 by_cases h:k=i
 ·subst h; rw [Nat.beq_refl,if_pos rfl]; rfl
 ·rw [beq_f h,if_neg h]; rfl
theorem setC_same (n:Nat->Int) (i:Nat) (x:Int):setC n i x i=x:=by rw [setC_get,if_pos rfl]
theorem setC_id {n:Nat->Int} {i:Nat} {x:Int} (h:n i=x):setC n i x=n:=by
 funext k
 rw [setC_get]
 split
 ·rename_i e; rw [e,h]
 ·rfl
theorem setC_set (n:Nat->Int) (i:Nat) (x y:Int):setC (setC n i x) i y=setC n i y:=by
 funext k
 rw [setC_get,setC_get,setC_get]
 split <;> rfl
def nxtC (most:Nat->Int):Nat->(Nat->Int)->Option (Nat->Int)
 | 0,_=>none
 | k+1,n=>if n k=most k then nxtC most k (setC n k 0) else some (setC n k (n k+1))
def rowC (most:Nat->Int) (k:Nat) (c:Nat->Int):List (Nat->Int):=(List.range ((most k).toNat+1)).map fun (a:Nat)=>setC c k a
def allC (most:Nat->Int):Nat->List (Nat->Int)
 | 0=>[fun _=>0]
 | k+1=>(allC most k).flatMap (rowC most k)
def Run (nx:(Nat->Int)->Option (Nat->Int)):List (Nat->Int)->Prop
 | []=>True
 | [x]=>nx x=none
 | x::y::r=>nx x=some y/\Run nx (y::r)
theorem run_get {nx:(Nat->Int)->Option (Nat->Int)}:∀ {L:List (Nat->Int)},Run nx L->∀ (j:Nat) (x:Nat->Int),L[j]? = some x->nx x=L[j+1]?
 | [],_,j,x,h=>by simp at h
 | [y],hr,j,x,h=>by
  cases j with
  | zero=>simp at h; subst h; rw [hr]; rfl
  | succ j=>simp at h
 | y::z::r,⟨h1,h2⟩,j,x,h=>by
  cases j with
  | zero=>simp at h; subst h; rw [h1]; rfl
  | succ j=>exact run_get h2 j x (by simpa using h)
theorem run_cons {nx:(Nat->Int)->Option (Nat->Int)} {x:Nat->Int} {T:List (Nat->Int)} (h:nx x=T.head?) (hT:Run nx T):Run nx (x::T):=by
 cases T with
 | nil=>exact h
 | cons y r=>exact ⟨h,hT⟩
section
variable {most:Nat->Int} {k:Nat}
theorem run_row {c:Nat->Int} (hc:c k=0) (hm:0<=most k) {T:List (Nat->Int)} (hn:nxtC most k c=T.head?) (hT:Run (nxtC most (k+1)) T) :
  ∀ (m a:Nat),a+m=(most k).toNat->Run (nxtC most (k+1)) (((List.range' a (m+1)).map fun (a:Nat)=>setC c k a) ++ T)
 | 0,a,h=>by
  refine run_cons ?_ hT
  show nxtC most (k+1) (setC c k a)=_
  unfold nxtC
  rw [setC_same,if_pos (by omega),setC_set,setC_id hc]
  exact hn
 | m+1,a,h=>by
  have ih:=run_row hc hm hn hT m (a+1) (by omega)
  refine run_cons ?_ ih
  show nxtC most (k+1) (setC c k a)=_
  unfold nxtC
  rw [setC_same,if_neg (by omega),setC_set]
  rfl
theorem row_head {c:Nat->Int} (hc:c k=0) {r:List (Nat->Int)}:(rowC most k c ++ r).head? = some c:=by
 unfold rowC
 rw [List.range_eq_range']
 show some (setC c k ((0:Nat):Int))=_
 rw [setC_id (x:=((0:Nat):Int)) hc]
theorem run_flat (hm:0<=most k):∀ {L:List (Nat->Int)},(∀ c ∈ L,c k=0)->Run (nxtC most k) L->Run (nxtC most (k+1)) (L.flatMap (rowC most k))
 | [],_,_=>trivial
 | [c],hc,hr=>by
  have:=run_row (T:=[]) (hc c (by simp)) hm hr trivial (most k).toNat 0 (by omega)
  rw [List.flatMap_cons,List.flatMap_nil]
  unfold rowC
  rw [List.range_eq_range']
  exact this
 | c::d::r,hc,⟨h1,h2⟩=>by
  have ih:=run_flat hm (L:=d::r) (fun x hx=>hc x (List.mem_cons_of_mem _ hx)) h2
  have:=run_row (T:=(d::r).flatMap (rowC most k)) (hc c (by simp)) hm (by
   rw [h1,List.flatMap_cons,row_head (hc d (by simp))]) ih (most k).toNat 0 (by omega)
  rw [List.flatMap_cons]
  have e:rowC most k c=(List.range' 0 ((most k).toNat+1)).map fun (a:Nat)=>setC c k a:=by unfold rowC; rw [List.range_eq_range']
  rw [e]
  exact this
theorem all_mem (hm:∀ i,i<k->0<=most i) {c:Nat->Int}:c ∈ allC most k ↔ (∀ i,i<k->0<=c i/\c i<=most i)/\∀ i,k<=i->c i=0:=by
 induction k generalizing c with
 | zero=>
  unfold allC
  rw [List.mem_singleton]
  constructor
  ·rintro rfl; exact ⟨fun i h=>by omega,fun _ _=>rfl⟩
  ·rintro ⟨_,h⟩; funext i; exact h i (Nat.zero_le _)
 | succ k ih=>
  have ih':=fun {c}=>ih (fun i hi=>hm i (by omega)) (c:=c)
  unfold allC
  rw [List.mem_flatMap]
  constructor
  ·rintro ⟨d,hd,hc⟩
   obtain ⟨h1,h2⟩:=ih'.1 hd
   unfold rowC at hc
   rw [List.mem_map] at hc
   obtain ⟨a,ha,rfl⟩:=hc
   rw [List.mem_range] at ha
   have:=hm k (by omega)
   refine ⟨fun i hi=>?_,fun i hi=>?_⟩
   ·rw [setC_get]
    split
    ·rename_i e; subst e; omega
    ·exact h1 i (by omega)
   ·rw [setC_get,if_neg (by omega)]
    exact h2 i (by omega)
  ·rintro ⟨h1,h2⟩
   refine ⟨setC c k 0,ih'.2 ⟨fun i hi=>?_,fun i hi=>?_⟩,?_⟩
   ·rw [setC_get,if_neg (by omega)]; exact h1 i (by omega)
   ·rw [setC_get]
    split
    ·rfl
    ·exact h2 i (by omega)
   ·unfold rowC
    rw [List.mem_map]
    obtain ⟨g1,g2⟩:=h1 k (by omega)
    refine ⟨(c k).toNat,List.mem_range.2 (by omega),?_⟩
    rw [setC_set]
    exact setC_id (by omega)
theorem all_run:∀ k:Nat,(∀ i,i<k->0<=most i)->Run (nxtC most k) (allC most k)
 | 0,_=>rfl
 | k+1,h=>by
  have h':=fun i (hi:i<k)=>h i (by omega)
  exact run_flat (h k (by omega)) (fun c hc=>((all_mem h').1 hc).2 k (Nat.le_refl _)) (all_run k h')
theorem all_head:∀ k:Nat,(∀ i,i<k->0<=most i)->(allC most k).head? = some (fun _=>0)
 | 0,_=>rfl
 | k+1,h=>by
  have h':=fun i (hi:i<k)=>h i (by omega)
  have ih:=all_head k h'
  unfold allC
  cases hL:allC most k with
  | nil=>rw [hL] at ih; cases ih
  | cons c r=>
   rw [hL] at ih
   cases ih
   rw [List.flatMap_cons,row_head (c:=fun _=>0) (k:=k) rfl]
def chAt (most:Nat->Int) (k j:Nat):Nat->Int:=(allC most k).getD j (fun _=>0)
theorem chAt_zero (h:∀ i,i<k->0<=most i):chAt most k 0=fun _=>0:=by
 have:=all_head k h
 unfold chAt
 cases hL:allC most k with
 | nil=>rfl
 | cons c r=>rw [hL] at this; cases this; rfl
theorem all_pos (h:∀ i,i<k->0<=most i):0<(allC most k).length:=by
 have:=all_head k h
 cases hL:allC most k with
 | nil=>rw [hL] at this; cases this
 | cons c r=>simp
theorem chAt_mem {j:Nat} (hj:j<(allC most k).length):chAt most k j ∈ allC most k:=by
 unfold chAt
 rw [List.getD_eq_getElem?_getD,List.getElem?_eq_getElem hj]
 exact List.getElem_mem _
theorem chAt_next (h:∀ i,i<k->0<=most i) {j:Nat} (hj:j<(allC most k).length) :
  (j+1=(allC most k).length/\nxtC most k (chAt most k j)=none) ∨ (j+1<(allC most k).length/\nxtC most k (chAt most k j)=some (chAt most k (j+1))):=by
 have:=run_get (all_run k h) j (chAt most k j) (by unfold chAt; rw [List.getD_eq_getElem?_getD,List.getElem?_eq_getElem hj]; rfl)
 by_cases hl:j+1<(allC most k).length
 ·right
  refine ⟨hl,?_⟩
  rw [this]
  unfold chAt
  rw [List.getD_eq_getElem?_getD,List.getElem?_eq_getElem hl]
  rfl
 ·left
  refine ⟨by omega,?_⟩
  rw [this]
  exact List.getElem?_eq_none (by omega)
end
def mostF (l:List Stk) (i:Nat):Int:=(l.getD i k0).casks
def dsCk:List Nat:=[10,9,8,2,0]
def VCk (l:List Stk) (t:Tst) (i:Int):List VV:=[I i,I l.length,stD l,.ptr (.own 0 0),.tp (stD l::tsL t)]
theorem ck_ev (l:List Stk) (t:Tst) (i:Int) (g:Nat->Int) (X:VEx->List VV->List VB->Prop):codeE Try.prog (callN Try.prog noSpec noL 10 20) (fun _=>none) true 10 (ntOf Try.prog 21) 0 (loopB 0 (bodyOf Try.prog 21)) (dsCk.zip (VCk l t i)) ⟨1,[0].zip [.fam [] 6 g 67]⟩ (obs 1 dsCk [0] X) =
 (bif decide (i<(↑l.length:Int)) then
 bif decide ((0:Int)<=i/\i<(↑l.length:Int)) then
 bif decide ((0:Int)<=i/\i<(↑6:Int)) then
 bif decide (i.toNat*(1)+(1)<=6) then
 bif inK IntKind.i64 (i+(1:Int)) then
 X VEx.normal [I (i+(1:Int)),I (↑l.length:Int),VV.tl l.length 5 (stG l),VV.ptr (VA.own 0 0),VV.tp [VV.tl l.length 5 (stG l),VV.tl t.T.length 1 (dG t.T),I t.far,I t.least]] [VB.fam [] 6 (setF g (i.toNat*(1)) [(l.getD i.toNat k0).casks]) (67:TypeId)]
 else False
 else False
 else False
 else False
 else X (VEx.exit 0) [I i,I (↑l.length:Int),VV.tl l.length 5 (stG l),VV.ptr (VA.own 0 0),VV.tp [VV.tl l.length 5 (stG l),VV.tl t.T.length 1 (dG t.T),I t.far,I t.least]] [VB.fam [] 6 g (67:TypeId)]):=by kernel_rfl
theorem li_ev (n:Nat->Int) (m:Nat) (Q:VRes->VH->Prop):callN Try.prog noSpec noL 10 20 0 (.fn 23) [.agg (nL n),I m] ⟨0,[]⟩ (fun r h=>Q r h) =
 (bif decide ((0:Int)<=(0:Int)/\(0:Int)<=(↑m:Int)/\(↑m:Int)<=(↑6:Int)) then
 bif decide (Int.toNat (0:Int)*(1)+((↑m:Int) - (0:Int)).toNat<=6) then
 bif roomB (0+((↑m:Int) - (0:Int)).toNat) (8) then
 Q (VRes.ret (VV.sl (1) (0+((↑m:Int) - (0:Int)).toNat))) (VH.mk (2) [(1,VB.vec (0+((↑m:Int) - (0:Int)).toNat) (catG 0 (fun (j:Nat)=>List.take (1) (List.drop (j*(1)) [])) fun (j:Nat)=>[I ((fun (k:Nat)=>[n 0,n 1,n 2,n 3,n 4,n 5].getD k (0:Int)) (Int.toNat (0:Int)*(1)+j))]) (1) 3),(1,VB.vec 0 (fun (j:Nat)=>List.take (1) (List.drop (j*(1)) [])) (1) 3),(0,VB.fam [] (6) (fun (k:Nat)=>[n 0,n 1,n 2,n 3,n 4,n 5].getD k (0:Int)) 67)])
 else False
 else False
 else False):=by kernel_rfl
theorem me_ev (l:List Stk) (t:Tst) (n:Nat->Int) (y m:Int) (Q:VRes->Prop):callN Try.prog (tabS [volT,blT]) noL 10 20 0 (.fn 19) [.tp (stD l::tsL t),.agg (nL n),I y,I m] ⟨0,[]⟩ (fun r h=>Q r) =
 (∃ (l_1:List Stk),∃ (t_1:Tst),∃ (n_1:Nat->Int),isD (VH.mk (0+1) [(0,VB.fam [] (6) (fun (k:Nat)=>[n 0,n 1,n 2,n 3,n 4,n 5].getD k (0:Int)) 67)]) 4 (VV.tp (stD l::tsL t)) (VV.tp (stD l_1::tsL t_1))/\[I ((fun (k:Nat)=>[n 0,n 1,n 2,n 3,n 4,n 5].getD k (0:Int)) (0+0)),I ((fun (k:Nat)=>[n 0,n 1,n 2,n 3,n 4,n 5].getD k (0:Int)) (0+1)),I ((fun (k:Nat)=>[n 0,n 1,n 2,n 3,n 4,n 5].getD k (0:Int)) (0+2)),I ((fun (k:Nat)=>[n 0,n 1,n 2,n 3,n 4,n 5].getD k (0:Int)) (0+3)),I ((fun (k:Nat)=>[n 0,n 1,n 2,n 3,n 4,n 5].getD k (0:Int)) (0+4)),I ((fun (k:Nat)=>[n 0,n 1,n 2,n 3,n 4,n 5].getD k (0:Int)) (0+5))]=nL n_1/\nB n_1/\lB l_1/\bif decide (m=(0:Int)) then
 Q (VRes.ret (VV.bool (decide (sumF (tmV l_1 n_1) l_1.length=(0:Int)))))
 else bif decide (sumF (tmV l_1 n_1) l_1.length<m) then
 Q (VRes.ret (VV.bool false))
 else ∃ (l_2:List Stk),∃ (t_2:Tst),∃ (n_2:Nat->Int),isD (VH.mk (0+1) [(0,VB.fam [] (6) (fun (k:Nat)=>[n 0,n 1,n 2,n 3,n 4,n 5].getD k (0:Int)) 67)]) 4 (VV.tp (stD l::tsL t)) (VV.tp (stD l_2::tsL t_2))/\[I ((fun (k:Nat)=>[n 0,n 1,n 2,n 3,n 4,n 5].getD k (0:Int)) (0+0)),I ((fun (k:Nat)=>[n 0,n 1,n 2,n 3,n 4,n 5].getD k (0:Int)) (0+1)),I ((fun (k:Nat)=>[n 0,n 1,n 2,n 3,n 4,n 5].getD k (0:Int)) (0+2)),I ((fun (k:Nat)=>[n 0,n 1,n 2,n 3,n 4,n 5].getD k (0:Int)) (0+3)),I ((fun (k:Nat)=>[n 0,n 1,n 2,n 3,n 4,n 5].getD k (0:Int)) (0+4)),I ((fun (k:Nat)=>[n 0,n 1,n 2,n 3,n 4,n 5].getD k (0:Int)) (0+5))]=nL n_2/\(conB l_2 t_2 n_2/\(0:Int)<=y/\y<=(1000:Int))/\∀ (V:Vt),V=vtF l_2 t_2 n_2 y->Q (VRes.ret (VV.bool V.k))):=by kernel_rfl
def lCk (l:List Stk) (t:Tst):LT:=fun lock tt h K=>
 FitP lock h tt ⟨1,[0].zip [.fam [] 6 (fun _=>0) 67]⟩ (dsCk.zip (VCk l t 0))/\l.length<=6/\K .normal (dsCk.zip (VCk l t l.length)) ⟨1,[0].zip [.fam [] 6 (mostF l) 67]⟩
theorem ckf_ev (l:List Stk) (t:Tst) (Q:VRes->Prop):callN Try.prog noSpec (atF 21 [(0,lCk l t)]) 10 20 0 (.fn 21) [.tp (stD l::tsL t)] ⟨0,[]⟩ (fun r h=>Q r) =
 (FitP 0 (VH.mk 1 ([0].zip [VB.fam [] 6 (fun (_:Nat)=>(0:Int)) (67:TypeId)])) (dsCk.zip (VCk l t (0:Int))) (VH.mk 1 ([0].zip [VB.fam [] 6 (fun (_:Nat)=>(0:Int)) (67:TypeId)])) (dsCk.zip (VCk l t (0:Int)))/\l.length<=6/\Q (VRes.ret (VV.agg [I (setF (mostF l) 0 [mostF l (0+0),mostF l (0+1),mostF l (0+2),mostF l (0+3),mostF l (0+4),mostF l (0+5)] (0+0)),I (setF (mostF l) 0 [mostF l (0+0),mostF l (0+1),mostF l (0+2),mostF l (0+3),mostF l (0+4),mostF l (0+5)] (0+1)),I (setF (mostF l) 0 [mostF l (0+0),mostF l (0+1),mostF l (0+2),mostF l (0+3),mostF l (0+4),mostF l (0+5)] (0+2)),I (setF (mostF l) 0 [mostF l (0+0),mostF l (0+1),mostF l (0+2),mostF l (0+3),mostF l (0+4),mostF l (0+5)] (0+3)),I (setF (mostF l) 0 [mostF l (0+0),mostF l (0+1),mostF l (0+2),mostF l (0+3),mostF l (0+4),mostF l (0+5)] (0+4)),I (setF (mostF l) 0 [mostF l (0+0),mostF l (0+1),mostF l (0+2),mostF l (0+3),mostF l (0+4),mostF l (0+5)] (0+5))]))):=by kernel_rfl
def meetsF (l:List Stk) (t:Tst) (n:Nat->Int) (y m:Int):Bool:=if m=0 then decide (volF l n=0) else !decide (volF l n<m) && (vtF l t n y).k
def casksT:FuncId × Spec1:=(21,fun _ args h K=>match args with
 | [c]=>∃ (l:List Stk) (t:Tst),isD h 4 c (.tp (stD l::tsL t))/\l.length<=6/\K (.ret (.agg (nL (mostF l)))) h
 | _=>False)
def meetsT:FuncId × Spec1:=(19,fun _ args h K=>match args with
 | [c,.agg ns,.int .i64 y,.int .i64 m]=>∃ (l:List Stk) (t:Tst) (n:Nat->Int),isD h 4 c (.tp (stD l::tsL t))/\ns=nL n/\(conB l t n/\0<=y/\y<=1000)/\K (.ret (.bool (meetsF l t n y m))) h
 | _=>False)
def chG (n:Nat->Int) (j:Nat):List VV:=[I (n j)]
def listT:FuncId × Spec1:=(23,fun _ args h K=>match args with
 | [.agg ns,.int .i64 m']=>∃ (n:Nat->Int) (m:Nat),ns=nL n/\m'=m/\m<=6/\K (.ret (.tl m 1 (chG n))) h
 | _=>False)
section
variable {l:List Stk} {t:Tst} {n:Nat->Int}
theorem mostF_ge {i:Nat} (h:l.length<=i):mostF l i=0:=by
 unfold mostF
 rw [List.getD_eq_getElem?_getD,List.getElem?_eq_none h]
 rfl
def ckF (l:List Stk) (k:Nat):Nat->Int:=fun i=>if i<k then mostF l i else 0
theorem ckF_s {k:Nat}:setC (ckF l k) k (mostF l k)=ckF l (k+1):=by
 funext i
 rw [setC_get]
 unfold ckF
 by_cases h:i=k
 ·subst h; rw [if_pos rfl,if_pos (by omega)]
 ·rw [if_neg h]
  by_cases h2:i<k
  ·rw [if_pos h2,if_pos (by omega)]
  ·rw [if_neg h2,if_neg (by omega)]
theorem ckF_all:ckF l l.length=mostF l:=by
 funext i
 unfold ckF
 split
 ·rfl
 ·rename_i h
  rw [mostF_ge (by omega)]
theorem lCk_ok:LSound Try.prog true (.block 0 (.loop (loopB 0 (bodyOf Try.prog 21)))) (ntOf Try.prog 21) (lCk l t):=by
 by_cases hn:l.length<=6
 ·refine loop_row hmix good0 (un:=10) (ds:=dsCk) (ns:=[0]) (nx:=1) (fun i:Nat=>VCk l t i) (fun i=>[.fam [] 6 (ckF l i) 67]) (fun i=>i<=l.length) (fun i=>l.length - i) (fun _ e vs bs=>e=.exit 0/\bs=[.fam [] 6 (mostF l) 67]/\vs=VCk l t l.length) noL_ok ?_ ?_
  ·rintro i h0
   refine cast (ck_ev l t i _ _).symm ?_
   by_cases hlt:i<l.length
   ·refine cond_dk (by omega) (cond_dk ⟨by omega,by omega⟩ (cond_dk ⟨by omega,by omega⟩ (cond_dk (by omega) (cond_r (by omega) ⟨i+1,by omega,by dsimp only; omega,rfl,?_,fun _ _ _ h=>h⟩))))
    rw [show (i:Int).toNat=i by omega,Nat.mul_one]
    dsimp only
    rw [<- ckF_s]
    exact fitBs_refl _
   ·obtain rfl:i=l.length:=by omega
    refine cond_d (fun h=>by omega) (fun _=>⟨rfl,?_,rfl⟩)
    rw [ckF_all]
  ·rintro lock tt h K ⟨hf,_,k1⟩
   refine ⟨0,hf,Nat.zero_le _,?_⟩
   rintro e vs bs ⟨rfl,rfl,rfl⟩
   exact k1
 ·rintro lock tt h K ⟨hf,hc,_⟩
  exact (hn hc).elim
theorem casks_v (hn:l.length<=6):∃ h',CallsV Try.prog 21 [.tp (stD l::tsL t)] ⟨0,[]⟩ (.ret (.agg (nL (mostF l)))) h':=by
 have hall:LoopsOk Try.prog 21 [(0,lCk l t)]:=fun x hx=>by
  simp only [List.mem_singleton] at hx
  subst hx
  exact ⟨by kernel_rfl,lCk_ok⟩
 obtain ⟨r,h',rfl,hc⟩:=of_callN (callL_good hmix noSp hall (un:=10) 20) (f:=21) (args:=[.tp (stD l::tsL t)]) (h:=⟨0,[]⟩) (K:=fun r _=>r=.ret (.agg (nL (mostF l)))) (by
  refine cast (ckf_ev l t _).symm ?_
  exact ⟨fitP_self rfl,hn,rfl⟩)
 exact ⟨h',hc⟩
theorem casksT_ok:SpOk Try.prog casksT.1 casksT.2:=by
 intro lock args h K hK
 simp only [casksT] at hK
 split at hK
 ·obtain ⟨l,t,hc,hn,hK⟩:=hK
  obtain ⟨h',hv⟩:=casks_v (t:=t) hn
  exact ⟨_,h,hK,lockP_refl _ _,calls_lendDP 4 hv rfl ⟨hc,trivial⟩⟩
 ·exact hK.elim
theorem vb_tab:∀ f T,tabS [volT,blT] f=some T->SpOk Try.prog f T:=tab_ok _ (fun x hx=>by
 simp only [List.mem_cons,List.not_mem_nil,or_false] at hx
 rcases hx with rfl | rfl
 ·exact volT_ok
 ·exact blT_ok)
theorem meets_v {y m:Int} (hh:conB l t n) (hy:0<=y/\y<=1000):∃ h',CallsV Try.prog 19 [.tp (stD l::tsL t),.agg (nL n),I y,I m] ⟨0,[]⟩ (.ret (.bool (meetsF l t n y m))) h':=by
 obtain ⟨r,h',rfl,hc⟩:=of_callN (noL_good vb_tab) (f:=19) (args:=[.tp (stD l::tsL t),.agg (nL n),I y,I m]) (h:=⟨0,[]⟩) (K:=fun r _=>r=.ret (.bool (meetsF l t n y m))) (by
  refine cast (me_ev l t n y m _).symm ⟨l,t,n,rfl,rfl,hh.1,hh.2.1,?_⟩
  unfold meetsF
  refine cond_d (fun h=>?_) (fun h1=>cond_d (fun h=>?_) (fun h2=>⟨l,t,n,rfl,rfl,⟨hh,hy⟩,?_⟩))
  ·rw [if_pos h]
  ·rw [if_neg h1,decide_eq_true h]; rfl
  ·rintro V rfl
   rw [if_neg h1,decide_eq_false h2]; rfl)
 exact ⟨h',hc⟩
theorem meetsT_ok:SpOk Try.prog meetsT.1 meetsT.2:=by
 intro lock args h K hK
 simp only [meetsT] at hK
 split at hK
 ·obtain ⟨l,t,n,hc,rfl,⟨hh,hy⟩,hK⟩:=hK
  obtain ⟨h',hv⟩:=meets_v hh hy
  exact ⟨_,h,hK,lockP_refl _ _,calls_lendDP 4 hv rfl ⟨hc,isD_nL,⟨rfl,rfl⟩,⟨rfl,rfl⟩,trivial⟩⟩
 ·exact hK.elim
theorem li_get {m j:Nat} (hm:m<=6) (hj:j<m):chG n j=[I ((ch n).getD j 0)]:=by
 rw [ch_get (by omega)]; rfl
theorem list_v {m:Nat} (hm:m<=6):CallsV Try.prog 23 [.agg (nL n),I m] ⟨0,[]⟩ (.ret (.sl 1 m)) ⟨2,[(1,.vec m (chG n) 1 3)]⟩:=by
 obtain ⟨r,h',⟨rfl,h1⟩,hc⟩:=of_callN good0 (f:=23) (args:=[.agg (nL n),I m]) (h:=⟨0,[]⟩) (K:=fun r h'=>r=.ret (.sl 1 m)/\(VB.vec m (chG n) 1 3).fit (h'.at 1)) (by
  refine cast (li_ev n m _).symm ?_
  have e:((m:Int) - 0).toNat=m:=by omega
  refine cond_dk (by omega) (cond_dk (by omega) (cond_k ?_ ⟨?_,?_⟩))
  ·rw [e]
   unfold roomB
   simp only [Bool.and_eq_true,Nat.ble_eq]
   omega
  ·rw [e,Nat.zero_add]
  ·rw [e]
   refine ⟨Nat.zero_add m,rfl,rfl,fun j hj=>?_⟩
   rw [li_get hm hj]
   show catG 0 _ _ j=_
   unfold catG
   rw [blt_f (by omega),Nat.sub_zero]
   show [I ((ch n).getD (0*1+j) 0)]=_
   rw [Nat.zero_mul,Nat.zero_add])
 exact calls_weak hc (Nat.zero_le _) ⟨h1,trivial⟩ rfl rfl
theorem listT_ok:SpOk Try.prog listT.1 listT.2:=by
 intro lock args h K hK
 simp only [listT] at hK
 split at hK
 ·obtain ⟨n,m,rfl,rfl,hm,hK⟩:=hK
  exact ⟨_,_,hK,lockP_refl _ _,calls_lift0 (calls_tell (list_v (n:=n) hm) rfl (fun R R' x _ hv hx=>hv x hx)) rfl rfl⟩
 ·exact hK.elim
end
def rfOf:Code->Option (Code × Code)
 | .rangeFunc _ _ ac bd=>some (ac,bd)
 | .seq a b=>match rfOf a with
  | some r=>some r
  | none=>rfOf b
 | .block _ b=>rfOf b
 | _=>none
def rfAs (P:Program) (f:FuncId):Code:=match rfOf (bodyOf P f) with
 | some (ac,_)=>ac
 | none=>.skip
def rfBd (P:Program) (f:FuncId):Code:=match rfOf (bodyOf P f) with
 | some (_,bd)=>bd
 | none=>.skip
noncomputable def asC:Code:=rfAs Try.prog 9
noncomputable def bdC:Code:=rfBd Try.prog 9
def slC (l:List Stk) (t:Tst) (y m:Int) (w:Bool):Slots:=[(38,VV.func 42 [] [VV.ptr (VA.own (9) 0),VV.ptr (VA.own (10) 0)]),(37,VV.agg (nL (mostF l))),(36,VV.ptr (VA.own (6) 0)),(35,VV.ptr (VA.own (6) 0)),(12,VV.ptr (VA.own (8) 0)),(34,VV.func 19 [VV.ptr (VA.own (6) 0)] []),(33,VV.ptr (VA.own (6) 0)),(11,VV.ptr (VA.own (7) 0)),(32,VV.ptr (VA.own (6) 0)),(31,VV.agg [VV.tl l.length 5 (stG l),VV.tl t.T.length 1 (dG t.T),I t.far,I t.least]),(30,VV.agg [VV.tl t.T.length 1 (dG t.T),I t.far,I t.least]),(29,VV.tl l.length 5 (stG l)),(20,VV.bool false),(20,VV.bool !decide (m<=(1048576:Int))),(28,VV.bool !decide (m<=(1048576:Int))),(27,VV.bool !decide (m<=(1048576:Int))),(24,VV.bool false),(26,VV.bool (decide (m<=(1048576:Int)))),(24,VV.bool false),(25,I m),(24,VV.bool false),(24,VV.bool !decide (y<=(100:Int))),(23,VV.bool !decide (y<=(100:Int))),(22,VV.bool (decide (y<=(100:Int)))),(21,I y),(15,VV.bool false),(15,VV.bool !w),(19,VV.bool !w),(18,VV.bool w),(17,VV.agg [VV.tl t.T.length 1 (dG t.T),I t.far,I t.least]),(16,VV.tl l.length 5 (stG l)),(10,I 0),(9,VV.ptr (VA.own (5) 0)),(8,VV.ptr (VA.own (4) 0)),(7,VV.ptr (VA.own (3) 0)),(6,VV.ptr (VA.own (2) 0)),(5,VV.ptr (VA.own (1) 0)),(4,VV.ptr (VA.own 0 0)),(0,stD l),(1,VV.agg (tsL t)),(2,I y),(3,I m)]
noncomputable def recC (l:List Stk) (t:Tst) (y m:Int) (w:Bool):VB:=.loop true none (slC l t y m w) 66 [39] asC bdC
def dsC:List Nat:=[4,0,1,2]
def VC:List VV:=[.ptr (.own 12 0),.yld 11,.ptr (.own 9 0),.ptr (.own 10 0)]
def nsC:List Nat:=[0,1,2,3,4,5,6,7,8,9,10,11,12]
noncomputable def BC (l:List Stk) (t:Tst) (y m:Int) (w:Bool) (best:VV) (least:Int) (n:Nat->Int):List VB:=[.cells [stD l] 30,.cells (tsL t) 32,.cells [I y] 3,.cells [I m] 3,.cells [best] 22,.cells [I least] 3,.cells (stD l::tsL t) 61,.cells [.ptr (.own 6 0)] 59,.cells [.func 19 [.ptr (.own 6 0)] []] 62,.cells [.ptr (.own 6 0)] 59,faN (mostF l),recC l t y m w,.fam [] 6 n 67]
def bV (L:Nat):Option (Nat->Int)->VV
 | none=>.nils
 | some c=>.tl L 1 (chG c)
def asR (l:List Stk) (t:Tst):FuncId × Spec1:=(16,fun _ args h K=>match args with
 | [x,y]=>isD h 2 x (stD l)/\isD h 2 y (.agg (tsL t))/\K (.ret (.bool (okAll l t))) h
 | _=>False)
def casksR (l:List Stk) (t:Tst):FuncId × Spec1:=(21,fun _ args h K=>match args with
 | [c]=>isD h 4 c (.tp (stD l::tsL t))/\l.length<=6/\K (.ret (.agg (nL (mostF l)))) h
 | _=>False)
def costR (l:List Stk) (t:Tst):FuncId × Spec1:=(22,fun _ args h K=>match args with
 | [c,.agg ns]=>∃ (n:Nat->Int),isD h 4 c (.tp (stD l::tsL t))/\ns=nL n/\nB n/\lB l/\K (.ret (I (costF l n))) h
 | _=>False)
def meetsR (l:List Stk) (t:Tst):FuncId × Spec1:=(19,fun _ args h K=>match args with
 | [c,.agg ns,.int .i64 y,.int .i64 m]=>∃ (n:Nat->Int),isD h 4 c (.tp (stD l::tsL t))/\ns=nL n/\(conB l t n/\0<=y/\y<=1000)/\K (.ret (.bool (meetsF l t n y m))) h
 | _=>False)
def scanC (most:Nat->Int):Nat->(Nat->Int)->Nat × (Nat->Int)
 | 0,n=>(0,n)
 | k+1,n=>if n k=most k then scanC most k (setC n k 0) else (k+1,n)
def dsI:List Nat:=[5,4,0,1,2]
def VI (i:Int):List VV:=[I i,.ptr (.own 12 0),.yld 11,.ptr (.own 9 0),.ptr (.own 10 0)]
theorem in_ev (l:List Stk) (t:Tst) (y m:Int) (w:Bool) (b:Option (Nat->Int)) (least i:Int) (n:Nat->Int) (X:VEx->List VV->List VB->Prop):codeE Try.prog (callN Try.prog noSpec noL 10 20) (fun _=>none) true 10 (ntOf Try.prog 42) 0 (loopB 2 (bodyOf Try.prog 42)) (dsI.zip (VI i)) ⟨14,nsC.zip (BC l t y m w (bV l.length b) least n)⟩ (obs 14 dsI nsC X) =
 (bif decide (i ≥ (0:Int)) then
 bif decide ((0:Int)<=i/\i<(↑6:Int)) then
 bif decide (i.toNat*(1)<6) then
 bif decide ((0:Int)<=i/\i<(↑6:Int)) then
 bif decide (i.toNat*(1)<6) then
 bif decide (n (i.toNat*(1))=(fun (k:Nat)=>(ch (mostF l)).getD k (0:Int)) (i.toNat*(1))) then
 bif decide ((0:Int)<=i/\i<(↑6:Int)) then
 bif decide (i.toNat*(1)+(1)<=6) then
 bif inK IntKind.i64 (i - (1:Int)) then
 bif belBs 14 (List.map (VH.mk 14 ((12,VB.fam [] 6 (setF n (i.toNat*(1)) [(0:Int)]) (67:TypeId))::nsC.zip (BC l t y m w (bV l.length b) least n))).at nsC) && VEx.bel 14 VEx.normal then
 X VEx.normal [I (i - (1:Int)),VV.ptr (VA.own 12 0),VV.yld 11,VV.ptr (VA.own 9 0),VV.ptr (VA.own 10 0)] [VB.cells [VV.tl l.length 5 (stG l)] (30:TypeId),VB.cells [VV.tl t.T.length 1 (dG t.T),I t.far,I t.least] (32:TypeId),VB.cells [I y] (3:TypeId),VB.cells [I m] (3:TypeId),VB.cells [bV l.length b] (22:TypeId),VB.cells [I least] (3:TypeId),VB.cells [VV.tl l.length 5 (stG l),VV.tl t.T.length 1 (dG t.T),I t.far,I t.least] (61:TypeId),VB.cells [VV.ptr (VA.own 6 0)] (59:TypeId),VB.cells [VV.func (19:FuncId) [VV.ptr (VA.own 6 0)] []] (62:TypeId),VB.cells [VV.ptr (VA.own 6 0)] (59:TypeId),VB.fam [] 6 (fun (k:Nat)=>(ch (mostF l)).getD k (0:Int)) (67:TypeId),VB.loop true none (slC l t y m w) 66 [39] asC bdC,VB.fam [] 6 (setF n (i.toNat*(1)) [(0:Int)]) (67:TypeId)]
 else False
 else False
 else False
 else False
 else bif belBs 14 (List.map (VH.mk 14 (nsC.zip (BC l t y m w (bV l.length b) least n))).at nsC) && VEx.bel 14 (VEx.exit 2) then
 X (VEx.exit 2) [I i,VV.ptr (VA.own 12 0),VV.yld 11,VV.ptr (VA.own 9 0),VV.ptr (VA.own 10 0)] [VB.cells [VV.tl l.length 5 (stG l)] (30:TypeId),VB.cells [VV.tl t.T.length 1 (dG t.T),I t.far,I t.least] (32:TypeId),VB.cells [I y] (3:TypeId),VB.cells [I m] (3:TypeId),VB.cells [bV l.length b] (22:TypeId),VB.cells [I least] (3:TypeId),VB.cells [VV.tl l.length 5 (stG l),VV.tl t.T.length 1 (dG t.T),I t.far,I t.least] (61:TypeId),VB.cells [VV.ptr (VA.own 6 0)] (59:TypeId),VB.cells [VV.func (19:FuncId) [VV.ptr (VA.own 6 0)] []] (62:TypeId),VB.cells [VV.ptr (VA.own 6 0)] (59:TypeId),VB.fam [] 6 (fun (k:Nat)=>(ch (mostF l)).getD k (0:Int)) (67:TypeId),VB.loop true none (slC l t y m w) 66 [39] asC bdC,VB.fam [] 6 n (67:TypeId)]
 else False
 else False
 else False
 else False
 else False
 else bif belBs 14 (List.map (VH.mk 14 (nsC.zip (BC l t y m w (bV l.length b) least n))).at nsC) && VEx.bel 14 (VEx.exit 2) then
 X (VEx.exit 2) [I i,VV.ptr (VA.own 12 0),VV.yld 11,VV.ptr (VA.own 9 0),VV.ptr (VA.own 10 0)] [VB.cells [VV.tl l.length 5 (stG l)] (30:TypeId),VB.cells [VV.tl t.T.length 1 (dG t.T),I t.far,I t.least] (32:TypeId),VB.cells [I y] (3:TypeId),VB.cells [I m] (3:TypeId),VB.cells [bV l.length b] (22:TypeId),VB.cells [I least] (3:TypeId),VB.cells [VV.tl l.length 5 (stG l),VV.tl t.T.length 1 (dG t.T),I t.far,I t.least] (61:TypeId),VB.cells [VV.ptr (VA.own 6 0)] (59:TypeId),VB.cells [VV.func (19:FuncId) [VV.ptr (VA.own 6 0)] []] (62:TypeId),VB.cells [VV.ptr (VA.own 6 0)] (59:TypeId),VB.fam [] 6 (fun (k:Nat)=>(ch (mostF l)).getD k (0:Int)) (67:TypeId),VB.loop true none (slC l t y m w) 66 [39] asC bdC,VB.fam [] 6 n (67:TypeId)]
 else False):=by kernel_rfl
noncomputable def lI (l:List Stk) (t:Tst) (y m:Int) (w:Bool):LT:=fun lock tt h K=>
 ∃ b least n,FitP lock h tt ⟨14,nsC.zip (BC l t y m w (bV l.length b) least n)⟩ (dsI.zip (VI (l.length - 1)))/\l.length<=6/\∀ (k:Nat) (n':Nat->Int),scanC (mostF l) l.length n=(k,n')->K .normal (dsI.zip (VI (k - 1))) ⟨14,nsC.zip (BC l t y m w (bV l.length b) least n')⟩
theorem cr_ev (l:List Stk) (t:Tst) (y m:Int) (w:Bool) (b:Option (Nat->Int)) (least:Int) (n:Nat->Int) (X:VEx->List VV->List VB->Prop):codeE Try.prog (callN Try.prog (tabS [costR l t,meetsR l t,listT]) noL 10 20) (tabB [(2,lI l t y m w)]) true 10 (ntOf Try.prog 42) 0 (loopB 0 (bodyOf Try.prog 42)) (dsC.zip VC) ⟨13,nsC.zip (BC l t y m w (bV l.length b) least n)⟩ (obs 13 dsC nsC X) =
 (∃ (n_1:Nat->Int),isD (VH.mk (14) ((11,VB.gone)::(13,VB.fam [] (6) (setF (fun (_:Nat)=>(0:Int)) 0 [n (0+0),n (0+1),n (0+2),n (0+3),n (0+4),n (0+5)]) 67)::(13,VB.fam [] (6) (fun (_:Nat)=>(0:Int)) 67)::nsC.zip (BC l t y m w (bV l.length b) least n))) 4 (VV.ptr (VA.own 6 0)) (VV.tp (stD l::tsL t))/\[I (setF (fun (_:Nat)=>(0:Int)) 0 [n (0+0),n (0+1),n (0+2),n (0+3),n (0+4),n (0+5)] (0+0)),I (setF (fun (_:Nat)=>(0:Int)) 0 [n (0+0),n (0+1),n (0+2),n (0+3),n (0+4),n (0+5)] (0+1)),I (setF (fun (_:Nat)=>(0:Int)) 0 [n (0+0),n (0+1),n (0+2),n (0+3),n (0+4),n (0+5)] (0+2)),I (setF (fun (_:Nat)=>(0:Int)) 0 [n (0+0),n (0+1),n (0+2),n (0+3),n (0+4),n (0+5)] (0+3)),I (setF (fun (_:Nat)=>(0:Int)) 0 [n (0+0),n (0+1),n (0+2),n (0+3),n (0+4),n (0+5)] (0+4)),I (setF (fun (_:Nat)=>(0:Int)) 0 [n (0+0),n (0+1),n (0+2),n (0+3),n (0+4),n (0+5)] (0+5))]=nL n_1/\nB n_1/\lB l/\bif decide (least<(0:Int)) then
 ∃ (n_2:Nat->Int),isD (VH.mk (14) ((11,VB.gone)::(13,VB.fam [] (6) (setF (fun (_:Nat)=>(0:Int)) 0 [n (0+0),n (0+1),n (0+2),n (0+3),n (0+4),n (0+5)]) 67)::(13,VB.fam [] (6) (fun (_:Nat)=>(0:Int)) 67)::nsC.zip (BC l t y m w (bV l.length b) least n))) 4 (VV.ptr (VA.own 6 0)) (VV.tp (stD l::tsL t))/\[I (setF (fun (_:Nat)=>(0:Int)) 0 [n (0+0),n (0+1),n (0+2),n (0+3),n (0+4),n (0+5)] (0+0)),I (setF (fun (_:Nat)=>(0:Int)) 0 [n (0+0),n (0+1),n (0+2),n (0+3),n (0+4),n (0+5)] (0+1)),I (setF (fun (_:Nat)=>(0:Int)) 0 [n (0+0),n (0+1),n (0+2),n (0+3),n (0+4),n (0+5)] (0+2)),I (setF (fun (_:Nat)=>(0:Int)) 0 [n (0+0),n (0+1),n (0+2),n (0+3),n (0+4),n (0+5)] (0+3)),I (setF (fun (_:Nat)=>(0:Int)) 0 [n (0+0),n (0+1),n (0+2),n (0+3),n (0+4),n (0+5)] (0+4)),I (setF (fun (_:Nat)=>(0:Int)) 0 [n (0+0),n (0+1),n (0+2),n (0+3),n (0+4),n (0+5)] (0+5))]=nL n_2/\(conB l t n_2/\(0:Int)<=y/\y<=(1000:Int))/\bif meetsF l t n_2 y m then
 ∃ (n_3:Nat->Int),∃ (m_1:Nat),[I (setF (fun (_:Nat)=>(0:Int)) 0 [n (0+0),n (0+1),n (0+2),n (0+3),n (0+4),n (0+5)] (0+0)),I (setF (fun (_:Nat)=>(0:Int)) 0 [n (0+0),n (0+1),n (0+2),n (0+3),n (0+4),n (0+5)] (0+1)),I (setF (fun (_:Nat)=>(0:Int)) 0 [n (0+0),n (0+1),n (0+2),n (0+3),n (0+4),n (0+5)] (0+2)),I (setF (fun (_:Nat)=>(0:Int)) 0 [n (0+0),n (0+1),n (0+2),n (0+3),n (0+4),n (0+5)] (0+3)),I (setF (fun (_:Nat)=>(0:Int)) 0 [n (0+0),n (0+1),n (0+2),n (0+3),n (0+4),n (0+5)] (0+4)),I (setF (fun (_:Nat)=>(0:Int)) 0 [n (0+0),n (0+1),n (0+2),n (0+3),n (0+4),n (0+5)] (0+5))]=nL n_3/\(↑l.length:Int)=(↑m_1:Int)/\m_1<=6/\bif inK IntKind.i64 ((↑l.length:Int) - (1:Int)) then
 ∃ (b_1:Option (Nat->Int)),∃ (least_1:Int),∃ (n_4:Nat->Int),FitP 0 (VH.mk (14) ((11,VB.loop true none (slC l t y m w) 66 [39] asC bdC)::(5,VB.cells [I (costF l n_1)] (3:TypeId))::(4,VB.cells [VV.tl m_1 1 (chG n_3)] (22:TypeId))::(11,VB.gone)::(13,VB.fam [] (6) (setF (fun (_:Nat)=>(0:Int)) 0 [n (0+0),n (0+1),n (0+2),n (0+3),n (0+4),n (0+5)]) 67)::(13,VB.fam [] (6) (fun (_:Nat)=>(0:Int)) 67)::nsC.zip (BC l t y m w (bV l.length b) least n))) ((5,I ((↑l.length:Int) - (1:Int)))::(15,I ((↑l.length:Int) - (1:Int)))::(14,I (↑l.length:Int))::(13,VV.tl l.length 5 (stG l))::(12,VV.ptr (VA.own 6 0))::(11,VV.ptr (VA.own 6 0))::(10,VV.ptr (VA.own 6 0))::(9,VV.bool false)::(9,VV.bool !true)::(8,VV.bool true)::(7,VV.agg [I (n (0+0)),I (n (0+1)),I (n (0+2)),I (n (0+3)),I (n (0+4)),I (n (0+5))])::(6,VV.yld 11)::dsC.zip VC) (VH.mk 14 (nsC.zip (BC l t y m w (bV l.length b_1) least_1 n_4))) (dsI.zip (VI ((↑l.length:Int) - (1:Int))))/\l.length<=6/\∀ (k:Nat) (n':Nat->Int),scanC (mostF l) l.length n_4=(k,n')->bif decide ((↑k:Int) - (1:Int)<(0:Int)) then
 bif belBs 13 (List.map (VH.mk 14 (nsC.zip (BC l t y m w (bV l.length b_1) least_1 n'))).at nsC) && VEx.bel 13 VEx.ret then
 X VEx.ret [VV.ptr (VA.own 12 0),VV.yld 11,VV.ptr (VA.own 9 0),VV.ptr (VA.own 10 0)] [VB.cells [VV.tl l.length 5 (stG l)] (30:TypeId),VB.cells [VV.tl t.T.length 1 (dG t.T),I t.far,I t.least] (32:TypeId),VB.cells [I y] (3:TypeId),VB.cells [I m] (3:TypeId),VB.cells [bV l.length b_1] (22:TypeId),VB.cells [I least_1] (3:TypeId),VB.cells [VV.tl l.length 5 (stG l),VV.tl t.T.length 1 (dG t.T),I t.far,I t.least] (61:TypeId),VB.cells [VV.ptr (VA.own 6 0)] (59:TypeId),VB.cells [VV.func (19:FuncId) [VV.ptr (VA.own 6 0)] []] (62:TypeId),VB.cells [VV.ptr (VA.own 6 0)] (59:TypeId),VB.fam [] 6 (fun (k:Nat)=>(ch (mostF l)).getD k (0:Int)) (67:TypeId),VB.loop true none (slC l t y m w) 66 [39] asC bdC,VB.fam [] 6 n' (67:TypeId)]
 else False
 else bif decide ((0:Int)<=(↑k:Int) - (1:Int)/\(↑k:Int) - (1:Int)<(↑6:Int)) then
 bif decide (((↑k:Int) - (1:Int)).toNat*(1)<6) then
 bif inK IntKind.i64 (n' (((↑k:Int) - (1:Int)).toNat*(1))+(1:Int)) then
 bif decide ((0:Int)<=(↑k:Int) - (1:Int)/\(↑k:Int) - (1:Int)<(↑6:Int)) then
 bif decide (((↑k:Int) - (1:Int)).toNat*(1)+(1)<=6) then
 bif belBs 13 (List.map (VH.mk 14 ((12,VB.fam [] 6 (setF n' (((↑k:Int) - (1:Int)).toNat*(1)) [n' (((↑k:Int) - (1:Int)).toNat*(1))+(1:Int)]) (67:TypeId))::nsC.zip (BC l t y m w (bV l.length b_1) least_1 n'))).at nsC) && VEx.bel 13 VEx.normal then
 X VEx.normal [VV.ptr (VA.own 12 0),VV.yld 11,VV.ptr (VA.own 9 0),VV.ptr (VA.own 10 0)] [VB.cells [VV.tl l.length 5 (stG l)] (30:TypeId),VB.cells [VV.tl t.T.length 1 (dG t.T),I t.far,I t.least] (32:TypeId),VB.cells [I y] (3:TypeId),VB.cells [I m] (3:TypeId),VB.cells [bV l.length b_1] (22:TypeId),VB.cells [I least_1] (3:TypeId),VB.cells [VV.tl l.length 5 (stG l),VV.tl t.T.length 1 (dG t.T),I t.far,I t.least] (61:TypeId),VB.cells [VV.ptr (VA.own 6 0)] (59:TypeId),VB.cells [VV.func (19:FuncId) [VV.ptr (VA.own 6 0)] []] (62:TypeId),VB.cells [VV.ptr (VA.own 6 0)] (59:TypeId),VB.fam [] 6 (fun (k:Nat)=>(ch (mostF l)).getD k (0:Int)) (67:TypeId),VB.loop true none (slC l t y m w) 66 [39] asC bdC,VB.fam [] 6 (setF n' (((↑k:Int) - (1:Int)).toNat*(1)) [n' (((↑k:Int) - (1:Int)).toNat*(1))+(1:Int)]) (67:TypeId)]
 else False
 else False
 else False
 else False
 else False
 else False
 else False
 else bif inK IntKind.i64 ((↑l.length:Int) - (1:Int)) then
 ∃ (b_1:Option (Nat->Int)),∃ (least_1:Int),∃ (n_3:Nat->Int),FitP 0 (VH.mk (14) ((11,VB.loop true none (slC l t y m w) 66 [39] asC bdC)::(11,VB.gone)::(13,VB.fam [] (6) (setF (fun (_:Nat)=>(0:Int)) 0 [n (0+0),n (0+1),n (0+2),n (0+3),n (0+4),n (0+5)]) 67)::(13,VB.fam [] (6) (fun (_:Nat)=>(0:Int)) 67)::nsC.zip (BC l t y m w (bV l.length b) least n))) ((5,I ((↑l.length:Int) - (1:Int)))::(15,I ((↑l.length:Int) - (1:Int)))::(14,I (↑l.length:Int))::(13,VV.tl l.length 5 (stG l))::(12,VV.ptr (VA.own 6 0))::(11,VV.ptr (VA.own 6 0))::(10,VV.ptr (VA.own 6 0))::(9,VV.bool false)::(9,VV.bool !true)::(8,VV.bool true)::(7,VV.agg [I (n (0+0)),I (n (0+1)),I (n (0+2)),I (n (0+3)),I (n (0+4)),I (n (0+5))])::(6,VV.yld 11)::dsC.zip VC) (VH.mk 14 (nsC.zip (BC l t y m w (bV l.length b_1) least_1 n_3))) (dsI.zip (VI ((↑l.length:Int) - (1:Int))))/\l.length<=6/\∀ (k:Nat) (n':Nat->Int),scanC (mostF l) l.length n_3=(k,n')->bif decide ((↑k:Int) - (1:Int)<(0:Int)) then
 bif belBs 13 (List.map (VH.mk 14 (nsC.zip (BC l t y m w (bV l.length b_1) least_1 n'))).at nsC) && VEx.bel 13 VEx.ret then
 X VEx.ret [VV.ptr (VA.own 12 0),VV.yld 11,VV.ptr (VA.own 9 0),VV.ptr (VA.own 10 0)] [VB.cells [VV.tl l.length 5 (stG l)] (30:TypeId),VB.cells [VV.tl t.T.length 1 (dG t.T),I t.far,I t.least] (32:TypeId),VB.cells [I y] (3:TypeId),VB.cells [I m] (3:TypeId),VB.cells [bV l.length b_1] (22:TypeId),VB.cells [I least_1] (3:TypeId),VB.cells [VV.tl l.length 5 (stG l),VV.tl t.T.length 1 (dG t.T),I t.far,I t.least] (61:TypeId),VB.cells [VV.ptr (VA.own 6 0)] (59:TypeId),VB.cells [VV.func (19:FuncId) [VV.ptr (VA.own 6 0)] []] (62:TypeId),VB.cells [VV.ptr (VA.own 6 0)] (59:TypeId),VB.fam [] 6 (fun (k:Nat)=>(ch (mostF l)).getD k (0:Int)) (67:TypeId),VB.loop true none (slC l t y m w) 66 [39] asC bdC,VB.fam [] 6 n' (67:TypeId)]
 else False
 else bif decide ((0:Int)<=(↑k:Int) - (1:Int)/\(↑k:Int) - (1:Int)<(↑6:Int)) then
 bif decide (((↑k:Int) - (1:Int)).toNat*(1)<6) then
 bif inK IntKind.i64 (n' (((↑k:Int) - (1:Int)).toNat*(1))+(1:Int)) then
 bif decide ((0:Int)<=(↑k:Int) - (1:Int)/\(↑k:Int) - (1:Int)<(↑6:Int)) then
 bif decide (((↑k:Int) - (1:Int)).toNat*(1)+(1)<=6) then
 bif belBs 13 (List.map (VH.mk 14 ((12,VB.fam [] 6 (setF n' (((↑k:Int) - (1:Int)).toNat*(1)) [n' (((↑k:Int) - (1:Int)).toNat*(1))+(1:Int)]) (67:TypeId))::nsC.zip (BC l t y m w (bV l.length b_1) least_1 n'))).at nsC) && VEx.bel 13 VEx.normal then
 X VEx.normal [VV.ptr (VA.own 12 0),VV.yld 11,VV.ptr (VA.own 9 0),VV.ptr (VA.own 10 0)] [VB.cells [VV.tl l.length 5 (stG l)] (30:TypeId),VB.cells [VV.tl t.T.length 1 (dG t.T),I t.far,I t.least] (32:TypeId),VB.cells [I y] (3:TypeId),VB.cells [I m] (3:TypeId),VB.cells [bV l.length b_1] (22:TypeId),VB.cells [I least_1] (3:TypeId),VB.cells [VV.tl l.length 5 (stG l),VV.tl t.T.length 1 (dG t.T),I t.far,I t.least] (61:TypeId),VB.cells [VV.ptr (VA.own 6 0)] (59:TypeId),VB.cells [VV.func (19:FuncId) [VV.ptr (VA.own 6 0)] []] (62:TypeId),VB.cells [VV.ptr (VA.own 6 0)] (59:TypeId),VB.fam [] 6 (fun (k:Nat)=>(ch (mostF l)).getD k (0:Int)) (67:TypeId),VB.loop true none (slC l t y m w) 66 [39] asC bdC,VB.fam [] 6 (setF n' (((↑k:Int) - (1:Int)).toNat*(1)) [n' (((↑k:Int) - (1:Int)).toNat*(1))+(1:Int)]) (67:TypeId)]
 else False
 else False
 else False
 else False
 else False
 else False
 else False
 else bif decide (costF l n_1<least) then
 ∃ (n_2:Nat->Int),isD (VH.mk (14) ((11,VB.gone)::(13,VB.fam [] (6) (setF (fun (_:Nat)=>(0:Int)) 0 [n (0+0),n (0+1),n (0+2),n (0+3),n (0+4),n (0+5)]) 67)::(13,VB.fam [] (6) (fun (_:Nat)=>(0:Int)) 67)::nsC.zip (BC l t y m w (bV l.length b) least n))) 4 (VV.ptr (VA.own 6 0)) (VV.tp (stD l::tsL t))/\[I (setF (fun (_:Nat)=>(0:Int)) 0 [n (0+0),n (0+1),n (0+2),n (0+3),n (0+4),n (0+5)] (0+0)),I (setF (fun (_:Nat)=>(0:Int)) 0 [n (0+0),n (0+1),n (0+2),n (0+3),n (0+4),n (0+5)] (0+1)),I (setF (fun (_:Nat)=>(0:Int)) 0 [n (0+0),n (0+1),n (0+2),n (0+3),n (0+4),n (0+5)] (0+2)),I (setF (fun (_:Nat)=>(0:Int)) 0 [n (0+0),n (0+1),n (0+2),n (0+3),n (0+4),n (0+5)] (0+3)),I (setF (fun (_:Nat)=>(0:Int)) 0 [n (0+0),n (0+1),n (0+2),n (0+3),n (0+4),n (0+5)] (0+4)),I (setF (fun (_:Nat)=>(0:Int)) 0 [n (0+0),n (0+1),n (0+2),n (0+3),n (0+4),n (0+5)] (0+5))]=nL n_2/\(conB l t n_2/\(0:Int)<=y/\y<=(1000:Int))/\bif meetsF l t n_2 y m then
 ∃ (n_3:Nat->Int),∃ (m_1:Nat),[I (setF (fun (_:Nat)=>(0:Int)) 0 [n (0+0),n (0+1),n (0+2),n (0+3),n (0+4),n (0+5)] (0+0)),I (setF (fun (_:Nat)=>(0:Int)) 0 [n (0+0),n (0+1),n (0+2),n (0+3),n (0+4),n (0+5)] (0+1)),I (setF (fun (_:Nat)=>(0:Int)) 0 [n (0+0),n (0+1),n (0+2),n (0+3),n (0+4),n (0+5)] (0+2)),I (setF (fun (_:Nat)=>(0:Int)) 0 [n (0+0),n (0+1),n (0+2),n (0+3),n (0+4),n (0+5)] (0+3)),I (setF (fun (_:Nat)=>(0:Int)) 0 [n (0+0),n (0+1),n (0+2),n (0+3),n (0+4),n (0+5)] (0+4)),I (setF (fun (_:Nat)=>(0:Int)) 0 [n (0+0),n (0+1),n (0+2),n (0+3),n (0+4),n (0+5)] (0+5))]=nL n_3/\(↑l.length:Int)=(↑m_1:Int)/\m_1<=6/\bif inK IntKind.i64 ((↑l.length:Int) - (1:Int)) then
 ∃ (b_1:Option (Nat->Int)),∃ (least_1:Int),∃ (n_4:Nat->Int),FitP 0 (VH.mk (14) ((11,VB.loop true none (slC l t y m w) 66 [39] asC bdC)::(5,VB.cells [I (costF l n_1)] (3:TypeId))::(4,VB.cells [VV.tl m_1 1 (chG n_3)] (22:TypeId))::(11,VB.gone)::(13,VB.fam [] (6) (setF (fun (_:Nat)=>(0:Int)) 0 [n (0+0),n (0+1),n (0+2),n (0+3),n (0+4),n (0+5)]) 67)::(13,VB.fam [] (6) (fun (_:Nat)=>(0:Int)) 67)::nsC.zip (BC l t y m w (bV l.length b) least n))) ((5,I ((↑l.length:Int) - (1:Int)))::(15,I ((↑l.length:Int) - (1:Int)))::(14,I (↑l.length:Int))::(13,VV.tl l.length 5 (stG l))::(12,VV.ptr (VA.own 6 0))::(11,VV.ptr (VA.own 6 0))::(10,VV.ptr (VA.own 6 0))::(9,VV.bool false)::(9,VV.bool !true)::(8,VV.bool true)::(7,VV.agg [I (n (0+0)),I (n (0+1)),I (n (0+2)),I (n (0+3)),I (n (0+4)),I (n (0+5))])::(6,VV.yld 11)::dsC.zip VC) (VH.mk 14 (nsC.zip (BC l t y m w (bV l.length b_1) least_1 n_4))) (dsI.zip (VI ((↑l.length:Int) - (1:Int))))/\l.length<=6/\∀ (k:Nat) (n':Nat->Int),scanC (mostF l) l.length n_4=(k,n')->bif decide ((↑k:Int) - (1:Int)<(0:Int)) then
 bif belBs 13 (List.map (VH.mk 14 (nsC.zip (BC l t y m w (bV l.length b_1) least_1 n'))).at nsC) && VEx.bel 13 VEx.ret then
 X VEx.ret [VV.ptr (VA.own 12 0),VV.yld 11,VV.ptr (VA.own 9 0),VV.ptr (VA.own 10 0)] [VB.cells [VV.tl l.length 5 (stG l)] (30:TypeId),VB.cells [VV.tl t.T.length 1 (dG t.T),I t.far,I t.least] (32:TypeId),VB.cells [I y] (3:TypeId),VB.cells [I m] (3:TypeId),VB.cells [bV l.length b_1] (22:TypeId),VB.cells [I least_1] (3:TypeId),VB.cells [VV.tl l.length 5 (stG l),VV.tl t.T.length 1 (dG t.T),I t.far,I t.least] (61:TypeId),VB.cells [VV.ptr (VA.own 6 0)] (59:TypeId),VB.cells [VV.func (19:FuncId) [VV.ptr (VA.own 6 0)] []] (62:TypeId),VB.cells [VV.ptr (VA.own 6 0)] (59:TypeId),VB.fam [] 6 (fun (k:Nat)=>(ch (mostF l)).getD k (0:Int)) (67:TypeId),VB.loop true none (slC l t y m w) 66 [39] asC bdC,VB.fam [] 6 n' (67:TypeId)]
 else False
 else bif decide ((0:Int)<=(↑k:Int) - (1:Int)/\(↑k:Int) - (1:Int)<(↑6:Int)) then
 bif decide (((↑k:Int) - (1:Int)).toNat*(1)<6) then
 bif inK IntKind.i64 (n' (((↑k:Int) - (1:Int)).toNat*(1))+(1:Int)) then
 bif decide ((0:Int)<=(↑k:Int) - (1:Int)/\(↑k:Int) - (1:Int)<(↑6:Int)) then
 bif decide (((↑k:Int) - (1:Int)).toNat*(1)+(1)<=6) then
 bif belBs 13 (List.map (VH.mk 14 ((12,VB.fam [] 6 (setF n' (((↑k:Int) - (1:Int)).toNat*(1)) [n' (((↑k:Int) - (1:Int)).toNat*(1))+(1:Int)]) (67:TypeId))::nsC.zip (BC l t y m w (bV l.length b_1) least_1 n'))).at nsC) && VEx.bel 13 VEx.normal then
 X VEx.normal [VV.ptr (VA.own 12 0),VV.yld 11,VV.ptr (VA.own 9 0),VV.ptr (VA.own 10 0)] [VB.cells [VV.tl l.length 5 (stG l)] (30:TypeId),VB.cells [VV.tl t.T.length 1 (dG t.T),I t.far,I t.least] (32:TypeId),VB.cells [I y] (3:TypeId),VB.cells [I m] (3:TypeId),VB.cells [bV l.length b_1] (22:TypeId),VB.cells [I least_1] (3:TypeId),VB.cells [VV.tl l.length 5 (stG l),VV.tl t.T.length 1 (dG t.T),I t.far,I t.least] (61:TypeId),VB.cells [VV.ptr (VA.own 6 0)] (59:TypeId),VB.cells [VV.func (19:FuncId) [VV.ptr (VA.own 6 0)] []] (62:TypeId),VB.cells [VV.ptr (VA.own 6 0)] (59:TypeId),VB.fam [] 6 (fun (k:Nat)=>(ch (mostF l)).getD k (0:Int)) (67:TypeId),VB.loop true none (slC l t y m w) 66 [39] asC bdC,VB.fam [] 6 (setF n' (((↑k:Int) - (1:Int)).toNat*(1)) [n' (((↑k:Int) - (1:Int)).toNat*(1))+(1:Int)]) (67:TypeId)]
 else False
 else False
 else False
 else False
 else False
 else False
 else False
 else bif inK IntKind.i64 ((↑l.length:Int) - (1:Int)) then
 ∃ (b_1:Option (Nat->Int)),∃ (least_1:Int),∃ (n_3:Nat->Int),FitP 0 (VH.mk (14) ((11,VB.loop true none (slC l t y m w) 66 [39] asC bdC)::(11,VB.gone)::(13,VB.fam [] (6) (setF (fun (_:Nat)=>(0:Int)) 0 [n (0+0),n (0+1),n (0+2),n (0+3),n (0+4),n (0+5)]) 67)::(13,VB.fam [] (6) (fun (_:Nat)=>(0:Int)) 67)::nsC.zip (BC l t y m w (bV l.length b) least n))) ((5,I ((↑l.length:Int) - (1:Int)))::(15,I ((↑l.length:Int) - (1:Int)))::(14,I (↑l.length:Int))::(13,VV.tl l.length 5 (stG l))::(12,VV.ptr (VA.own 6 0))::(11,VV.ptr (VA.own 6 0))::(10,VV.ptr (VA.own 6 0))::(9,VV.bool false)::(9,VV.bool !true)::(8,VV.bool true)::(7,VV.agg [I (n (0+0)),I (n (0+1)),I (n (0+2)),I (n (0+3)),I (n (0+4)),I (n (0+5))])::(6,VV.yld 11)::dsC.zip VC) (VH.mk 14 (nsC.zip (BC l t y m w (bV l.length b_1) least_1 n_3))) (dsI.zip (VI ((↑l.length:Int) - (1:Int))))/\l.length<=6/\∀ (k:Nat) (n':Nat->Int),scanC (mostF l) l.length n_3=(k,n')->bif decide ((↑k:Int) - (1:Int)<(0:Int)) then
 bif belBs 13 (List.map (VH.mk 14 (nsC.zip (BC l t y m w (bV l.length b_1) least_1 n'))).at nsC) && VEx.bel 13 VEx.ret then
 X VEx.ret [VV.ptr (VA.own 12 0),VV.yld 11,VV.ptr (VA.own 9 0),VV.ptr (VA.own 10 0)] [VB.cells [VV.tl l.length 5 (stG l)] (30:TypeId),VB.cells [VV.tl t.T.length 1 (dG t.T),I t.far,I t.least] (32:TypeId),VB.cells [I y] (3:TypeId),VB.cells [I m] (3:TypeId),VB.cells [bV l.length b_1] (22:TypeId),VB.cells [I least_1] (3:TypeId),VB.cells [VV.tl l.length 5 (stG l),VV.tl t.T.length 1 (dG t.T),I t.far,I t.least] (61:TypeId),VB.cells [VV.ptr (VA.own 6 0)] (59:TypeId),VB.cells [VV.func (19:FuncId) [VV.ptr (VA.own 6 0)] []] (62:TypeId),VB.cells [VV.ptr (VA.own 6 0)] (59:TypeId),VB.fam [] 6 (fun (k:Nat)=>(ch (mostF l)).getD k (0:Int)) (67:TypeId),VB.loop true none (slC l t y m w) 66 [39] asC bdC,VB.fam [] 6 n' (67:TypeId)]
 else False
 else bif decide ((0:Int)<=(↑k:Int) - (1:Int)/\(↑k:Int) - (1:Int)<(↑6:Int)) then
 bif decide (((↑k:Int) - (1:Int)).toNat*(1)<6) then
 bif inK IntKind.i64 (n' (((↑k:Int) - (1:Int)).toNat*(1))+(1:Int)) then
 bif decide ((0:Int)<=(↑k:Int) - (1:Int)/\(↑k:Int) - (1:Int)<(↑6:Int)) then
 bif decide (((↑k:Int) - (1:Int)).toNat*(1)+(1)<=6) then
 bif belBs 13 (List.map (VH.mk 14 ((12,VB.fam [] 6 (setF n' (((↑k:Int) - (1:Int)).toNat*(1)) [n' (((↑k:Int) - (1:Int)).toNat*(1))+(1:Int)]) (67:TypeId))::nsC.zip (BC l t y m w (bV l.length b_1) least_1 n'))).at nsC) && VEx.bel 13 VEx.normal then
 X VEx.normal [VV.ptr (VA.own 12 0),VV.yld 11,VV.ptr (VA.own 9 0),VV.ptr (VA.own 10 0)] [VB.cells [VV.tl l.length 5 (stG l)] (30:TypeId),VB.cells [VV.tl t.T.length 1 (dG t.T),I t.far,I t.least] (32:TypeId),VB.cells [I y] (3:TypeId),VB.cells [I m] (3:TypeId),VB.cells [bV l.length b_1] (22:TypeId),VB.cells [I least_1] (3:TypeId),VB.cells [VV.tl l.length 5 (stG l),VV.tl t.T.length 1 (dG t.T),I t.far,I t.least] (61:TypeId),VB.cells [VV.ptr (VA.own 6 0)] (59:TypeId),VB.cells [VV.func (19:FuncId) [VV.ptr (VA.own 6 0)] []] (62:TypeId),VB.cells [VV.ptr (VA.own 6 0)] (59:TypeId),VB.fam [] 6 (fun (k:Nat)=>(ch (mostF l)).getD k (0:Int)) (67:TypeId),VB.loop true none (slC l t y m w) 66 [39] asC bdC,VB.fam [] 6 (setF n' (((↑k:Int) - (1:Int)).toNat*(1)) [n' (((↑k:Int) - (1:Int)).toNat*(1))+(1:Int)]) (67:TypeId)]
 else False
 else False
 else False
 else False
 else False
 else False
 else False
 else bif inK IntKind.i64 ((↑l.length:Int) - (1:Int)) then
 ∃ (b_1:Option (Nat->Int)),∃ (least_1:Int),∃ (n_2:Nat->Int),FitP 0 (VH.mk (14) ((11,VB.loop true none (slC l t y m w) 66 [39] asC bdC)::(11,VB.gone)::(13,VB.fam [] (6) (setF (fun (_:Nat)=>(0:Int)) 0 [n (0+0),n (0+1),n (0+2),n (0+3),n (0+4),n (0+5)]) 67)::(13,VB.fam [] (6) (fun (_:Nat)=>(0:Int)) 67)::nsC.zip (BC l t y m w (bV l.length b) least n))) ((5,I ((↑l.length:Int) - (1:Int)))::(15,I ((↑l.length:Int) - (1:Int)))::(14,I (↑l.length:Int))::(13,VV.tl l.length 5 (stG l))::(12,VV.ptr (VA.own 6 0))::(11,VV.ptr (VA.own 6 0))::(10,VV.ptr (VA.own 6 0))::(9,VV.bool false)::(9,VV.bool !true)::(8,VV.bool true)::(7,VV.agg [I (n (0+0)),I (n (0+1)),I (n (0+2)),I (n (0+3)),I (n (0+4)),I (n (0+5))])::(6,VV.yld 11)::dsC.zip VC) (VH.mk 14 (nsC.zip (BC l t y m w (bV l.length b_1) least_1 n_2))) (dsI.zip (VI ((↑l.length:Int) - (1:Int))))/\l.length<=6/\∀ (k:Nat) (n':Nat->Int),scanC (mostF l) l.length n_2=(k,n')->bif decide ((↑k:Int) - (1:Int)<(0:Int)) then
 bif belBs 13 (List.map (VH.mk 14 (nsC.zip (BC l t y m w (bV l.length b_1) least_1 n'))).at nsC) && VEx.bel 13 VEx.ret then
 X VEx.ret [VV.ptr (VA.own 12 0),VV.yld 11,VV.ptr (VA.own 9 0),VV.ptr (VA.own 10 0)] [VB.cells [VV.tl l.length 5 (stG l)] (30:TypeId),VB.cells [VV.tl t.T.length 1 (dG t.T),I t.far,I t.least] (32:TypeId),VB.cells [I y] (3:TypeId),VB.cells [I m] (3:TypeId),VB.cells [bV l.length b_1] (22:TypeId),VB.cells [I least_1] (3:TypeId),VB.cells [VV.tl l.length 5 (stG l),VV.tl t.T.length 1 (dG t.T),I t.far,I t.least] (61:TypeId),VB.cells [VV.ptr (VA.own 6 0)] (59:TypeId),VB.cells [VV.func (19:FuncId) [VV.ptr (VA.own 6 0)] []] (62:TypeId),VB.cells [VV.ptr (VA.own 6 0)] (59:TypeId),VB.fam [] 6 (fun (k:Nat)=>(ch (mostF l)).getD k (0:Int)) (67:TypeId),VB.loop true none (slC l t y m w) 66 [39] asC bdC,VB.fam [] 6 n' (67:TypeId)]
 else False
 else bif decide ((0:Int)<=(↑k:Int) - (1:Int)/\(↑k:Int) - (1:Int)<(↑6:Int)) then
 bif decide (((↑k:Int) - (1:Int)).toNat*(1)<6) then
 bif inK IntKind.i64 (n' (((↑k:Int) - (1:Int)).toNat*(1))+(1:Int)) then
 bif decide ((0:Int)<=(↑k:Int) - (1:Int)/\(↑k:Int) - (1:Int)<(↑6:Int)) then
 bif decide (((↑k:Int) - (1:Int)).toNat*(1)+(1)<=6) then
 bif belBs 13 (List.map (VH.mk 14 ((12,VB.fam [] 6 (setF n' (((↑k:Int) - (1:Int)).toNat*(1)) [n' (((↑k:Int) - (1:Int)).toNat*(1))+(1:Int)]) (67:TypeId))::nsC.zip (BC l t y m w (bV l.length b_1) least_1 n'))).at nsC) && VEx.bel 13 VEx.normal then
 X VEx.normal [VV.ptr (VA.own 12 0),VV.yld 11,VV.ptr (VA.own 9 0),VV.ptr (VA.own 10 0)] [VB.cells [VV.tl l.length 5 (stG l)] (30:TypeId),VB.cells [VV.tl t.T.length 1 (dG t.T),I t.far,I t.least] (32:TypeId),VB.cells [I y] (3:TypeId),VB.cells [I m] (3:TypeId),VB.cells [bV l.length b_1] (22:TypeId),VB.cells [I least_1] (3:TypeId),VB.cells [VV.tl l.length 5 (stG l),VV.tl t.T.length 1 (dG t.T),I t.far,I t.least] (61:TypeId),VB.cells [VV.ptr (VA.own 6 0)] (59:TypeId),VB.cells [VV.func (19:FuncId) [VV.ptr (VA.own 6 0)] []] (62:TypeId),VB.cells [VV.ptr (VA.own 6 0)] (59:TypeId),VB.fam [] 6 (fun (k:Nat)=>(ch (mostF l)).getD k (0:Int)) (67:TypeId),VB.loop true none (slC l t y m w) 66 [39] asC bdC,VB.fam [] 6 (setF n' (((↑k:Int) - (1:Int)).toNat*(1)) [n' (((↑k:Int) - (1:Int)).toNat*(1))+(1:Int)]) (67:TypeId)]
 else False
 else False
 else False
 else False
 else False
 else False
 else False):=by kernel_rfl
def stepC (l:List Stk) (t:Tst) (y m:Int) (b:Option (Nat->Int)) (c:Nat->Int):Option (Nat->Int):=match b with
 | none=>if meetsF l t c y m then some c else none
 | some d=>if costF l c<costF l d/\meetsF l t c y m=true then some c else some d
def bestF (l:List Stk) (t:Tst) (y m:Int):Nat->Option (Nat->Int)
 | 0=>none
 | j+1=>stepC l t y m (bestF l t y m j) (chAt (mostF l) l.length j)
def lstF (l:List Stk):Option (Nat->Int)->Int
 | none=>-1
 | some c=>costF l c
abbrev nAll (l:List Stk):Nat:=(allC (mostF l) l.length).length
def chpF (l:List Stk) (t:Tst) (y m:Int):Option (Nat->Int):=bestF l t y m (nAll l)
noncomputable def lC (l:List Stk) (t:Tst) (y m:Int) (w:Bool):LT:=fun lock tt h K=>
 FitP lock h tt ⟨13,nsC.zip (BC l t y m w .nils (-1) fun _=>0)⟩ (dsC.zip VC)/\(lB l/\pB l t.T.length/\tB t/\0<=y/\y<=1000) /\
  (chpF l t y m=none->∀ n',K .ret (dsC.zip VC) ⟨13,nsC.zip (BC l t y m w .nils (-1) n')⟩) /\
  ∀ c n',chpF l t y m=some c->K .ret (dsC.zip VC) ⟨13,nsC.zip (BC l t y m w (.tl l.length 1 (chG c)) (costF l c) n')⟩
theorem c_ev (l:List Stk) (t:Tst) (y m:Int) (Q:VRes->Prop):callN Try.prog (tabS [asR l t,casksR l t]) (atF 42 [(0,lC l t y m (okAll l t))]) 10 20 0 (.fn 9) [stD l,.agg (tsL t),I y,I m] ⟨0,[]⟩ (fun r h=>Q r) =
 (isD (VH.mk (6) [(5,VB.cells [I 0] 3),(4,VB.cells [VV.nils] 22),(3,VB.cells [I m] 3),(2,VB.cells [I y] 3),(1,VB.cells [VV.tl t.T.length 1 (dG t.T),I t.far,I t.least] 32),(0,VB.cells [VV.tl l.length 5 (stG l)] 30)]) 2 (VV.tl l.length 5 (stG l)) (stD l)/\isD (VH.mk (6) [(5,VB.cells [I 0] 3),(4,VB.cells [VV.nils] 22),(3,VB.cells [I m] 3),(2,VB.cells [I y] 3),(1,VB.cells [VV.tl t.T.length 1 (dG t.T),I t.far,I t.least] 32),(0,VB.cells [VV.tl l.length 5 (stG l)] 30)]) 2 (VV.agg [VV.tl t.T.length 1 (dG t.T),I t.far,I t.least]) (VV.agg (tsL t))/\bif !okAll l t then
 Q (VRes.ret (VV.tup [VV.nils,I 0,I 1]))
 else bif decide ((0:Int)<=y) then
 bif !decide (y<=(100:Int)) then
 Q (VRes.ret (VV.tup [VV.nils,I 0,I 2]))
 else bif decide ((0:Int)<=m) then
 bif !decide (m<=(1048576:Int)) then
 Q (VRes.ret (VV.tup [VV.nils,I 0,I 2]))
 else isD (maskH [0,1,2,3,4,5,6,7,8] (VH.mk (9) [(5,VB.cells [I (-1)] 3),(8,VB.cells [VV.func 19 [VV.ptr (VA.own (6) 0)] []] 62),(8,VB.cells [VV.nilf] 62),(7,VB.cells [VV.ptr (VA.own (6) 0)] 59),(7,VB.cells [VV.nilp] 59),(6,VB.cells [VV.tl l.length 5 (stG l),VV.tl t.T.length 1 (dG t.T),I t.far,I t.least] 61),(5,VB.cells [I 0] 3),(4,VB.cells [VV.nils] 22),(3,VB.cells [I m] 3),(2,VB.cells [I y] 3),(1,VB.cells [VV.tl t.T.length 1 (dG t.T),I t.far,I t.least] 32),(0,VB.cells [VV.tl l.length 5 (stG l)] 30)])) 4 (VV.ptr (VA.own (6) 0)) (VV.tp (stD l::tsL t))/\l.length<=6/\FitP 0 (VH.mk 13 (nsC.zip (BC l t y m (okAll l t) VV.nils (-1:Int) fun (_:Nat)=>(0:Int)))) (dsC.zip VC) (VH.mk 13 (nsC.zip (BC l t y m (okAll l t) VV.nils (-1:Int) fun (_:Nat)=>(0:Int)))) (dsC.zip VC)/\(lB l/\pB l t.T.length/\tB t/\(0:Int)<=y/\y<=(1000:Int))/\(chpF l t y m=none->∀ (n':Nat->Int),Q (VRes.ret (VV.tup [VV.nils,I 0,I 4])))/\∀ (c n':Nat->Int),chpF l t y m=some c->bif decide (costF l c<(0:Int)) then
 Q (VRes.ret (VV.tup [VV.nils,I 0,I 4]))
 else Q (VRes.ret (VV.tup [VV.tl l.length 1 (chG c),I (costF l c),I 0]))
 else Q (VRes.ret (VV.tup [VV.nils,I 0,I 2]))
 else Q (VRes.ret (VV.tup [VV.nils,I 0,I 2]))):=by kernel_rfl
theorem costR_ok (l:List Stk) (t:Tst):SpOk Try.prog (costR l t).1 (costR l t).2:=by
 intro lock args h K hK
 simp only [costR] at hK
 split at hK
 ·obtain ⟨n,hc,rfl,h1,h2,hK⟩:=hK
  exact costT_ok lock _ h K ⟨l,t,n,hc,rfl,h1,h2,hK⟩
 ·exact hK.elim
theorem meetsR_ok (l:List Stk) (t:Tst):SpOk Try.prog (meetsR l t).1 (meetsR l t).2:=by
 intro lock args h K hK
 simp only [meetsR] at hK
 split at hK
 ·obtain ⟨n,hc,rfl,h1,hK⟩:=hK
  exact meetsT_ok lock _ h K ⟨l,t,n,hc,rfl,h1,hK⟩
 ·exact hK.elim
theorem asR_ok (l:List Stk) (t:Tst):SpOk Try.prog (asR l t).1 (asR l t).2:=by
 intro lock args h K hK
 simp only [asR] at hK
 split at hK
 ·obtain ⟨h1,h2,hK⟩:=hK
  exact asT_ok lock _ h K ⟨l,t,h1,h2,hK⟩
 ·exact hK.elim
theorem casksR_ok (l:List Stk) (t:Tst):SpOk Try.prog (casksR l t).1 (casksR l t).2:=by
 intro lock args h K hK
 simp only [casksR] at hK
 split at hK
 ·obtain ⟨h1,h2,hK⟩:=hK
  exact casksT_ok lock _ h K ⟨l,t,h1,h2,hK⟩
 ·exact hK.elim
theorem scan_nxt {most:Nat->Int}:∀ (k:Nat) (n:Nat->Int),(scanC most k n).1<=k/\nxtC most k n=match scanC most k n with
  | (0,_)=>none
  | (i+1,n')=>some (setC n' i (n' i+1))
 | 0,n=>⟨Nat.le_refl _,rfl⟩
 | k+1,n=>by
  unfold scanC nxtC
  by_cases h:n k=most k
  ·rw [if_pos h,if_pos h]
   obtain ⟨h1,h2⟩:=scan_nxt (most:=most) k (setC n k 0)
   exact ⟨by omega,h2⟩
  ·rw [if_neg h,if_neg h]
   exact ⟨Nat.le_refl _,rfl⟩
section
variable {l:List Stk} {t:Tst} {y m:Int} {w:Bool}
abbrev SI:=(Option (Nat->Int) × Int) × Nat × (Nat->Int)
noncomputable def OI (l:List Stk) (t:Tst) (y m:Int) (w:Bool) (s:SI) (e:VEx) (vs:List VV) (bs:List VB):Prop:=
 e=.exit 2/\vs=VI ((scanC (mostF l) s.2.1 s.2.2).1 - 1)/\bs=BC l t y m w (bV l.length s.1.1) s.1.2 (scanC (mostF l) s.2.1 s.2.2).2
theorem lI_ok:LSound Try.prog true (.block 2 (.loop (loopB 2 (bodyOf Try.prog 42)))) (ntOf Try.prog 42) (lI l t y m w):=by
 by_cases hn:l.length<=6
 ·refine loop_row hmix good0 (un:=10) (ds:=dsI) (ns:=nsC) (nx:=14) (fun s:SI=>VI (s.2.1 - 1)) (fun s=>BC l t y m w (bV l.length s.1.1) s.1.2 s.2.2) (fun s=>s.2.1<=l.length) (fun s=>s.2.1) (OI l t y m w) noL_ok ?_ ?_
  ·rintro ⟨⟨b,least⟩,k,n⟩ h0
   dsimp only at h0 ⊢
   refine cast (in_ev l t y m w b least (k - 1) n _).symm ?_
   have hbel:∀ (n':Nat->Int) (e:VEx),e.bel 14=true->(belBs 14 (BC l t y m w (bV l.length b) least n') && e.bel 14)=true:=fun n' e he=>by
    rw [he]
    cases b <;> rfl
   cases k with
   | zero=>
    refine cond_d (fun h=>by omega) (fun _=>cond_k (hbel n _ rfl) ⟨rfl,rfl,rfl⟩)
   | succ k=>
    have e:(((k+1:Nat):Int) - 1)=(k:Int):=by omega
    rw [e]
    have e2:(k:Int).toNat*1=k:=by omega
    rw [e2,show (fun k=>(ch (mostF l)).getD k (0:Int)) k=mostF l k from ch_get (by omega)]
    refine cond_d (fun _=>?_) (fun h=>by omega)
    refine cond_dk ⟨by omega,by omega⟩ (cond_dk (by omega) (cond_dk ⟨by omega,by omega⟩ (cond_dk (by omega) (cond_d (fun g=>cond_dk ⟨by omega,by omega⟩ (cond_dk (by omega) (cond_r (by omega) (cond_k (hbel (setC n k 0) _ rfl) ?_)))) (fun g=>cond_k (hbel n _ rfl) ?_)))))
    ·refine ⟨((b,least),k,setC n k 0),?_,?_,rfl,fitBs_refl _,fun e vs bs he=>?_⟩
     ·show k<=_; omega
     ·show k<k+1; omega
     ·have hs:scanC (mostF l) (k+1) n=scanC (mostF l) k (setC n k 0):=by
       show (if _ then _ else _)=_
       rw [if_pos g]
      obtain ⟨h1,h2,h3⟩:=he
      refine ⟨h1,?_,?_⟩
      ·rw [h2]; dsimp only; rw [hs]
      ·rw [h3]; dsimp only; rw [hs]
    ·have hs:scanC (mostF l) (k+1) n=(k+1,n):=by
      show (if _ then _ else _)=_
      rw [if_neg g]
     refine ⟨rfl,?_,?_⟩
     ·dsimp only; rw [hs]; dsimp only; rw [e]; rfl
     ·dsimp only; rw [hs]; rfl
  ·rintro lock tt h K ⟨b,least,n,hf,_,k1⟩
   refine ⟨((b,least),l.length,n),hf,Nat.le_refl _,?_⟩
   rintro e vs bs ⟨rfl,rfl,rfl⟩
   exact k1 _ _ rfl
 ·rintro lock tt h K ⟨b,least,n,hf,hc,_⟩
  exact (hn hc).elim
theorem lsp_one {f:FuncId} {o i n:Nat} {b:Code} {T0:LT} (hb0:blocksOf i (loopB o (bodyOf Try.prog f))=[b]) (h0:LSound Try.prog true (.block i b) n T0):∀ id T,tabB [(i,T0)] id=some T->∀ b' ∈ blocksOf id (loopB o (bodyOf Try.prog f)),LSound Try.prog true (.block id b') n T:=by
 intro id T hT b' hb
 simp only [tabB] at hT
 cases hid:Nat.beq id i with
 | false=>rw [hid] at hT; cases hT
 | true=>
  rw [hid] at hT
  have:=Nat.eq_of_beq_eq_true hid
  subst this
  cases hT
  rw [hb0] at hb
  simp only [List.mem_singleton] at hb
  subst hb
  exact h0
theorem cm_tab:∀ f T,tabS [costR l t,meetsR l t,listT] f=some T->SpOk Try.prog f T:=tab_ok _ (fun x hx=>by
 simp only [List.mem_cons,List.not_mem_nil,or_false] at hx
 rcases hx with rfl | rfl | rfl
 ·exact costR_ok l t
 ·exact meetsR_ok l t
 ·exact listT_ok)
theorem mostF_bd (hl:lB l) (i:Nat):0<=mostF l i/\mostF l i<=6:=by
 by_cases h:i<l.length
 ·exact (hl.2 i h).1
 ·rw [mostF_ge (by omega)]; omega
theorem chAt_nB (hl:lB l) {j:Nat} (hj:j<nAll l):nB (chAt (mostF l) l.length j):=fun i hi=>by
 obtain ⟨h1,h2⟩:=(all_mem (fun i _=>(mostF_bd hl i).1)).1 (chAt_mem hj)
 by_cases h:i<l.length
 ·have:=h1 i h
  have:=mostF_bd hl i
  omega
 ·rw [h2 i (by omega)]; omega
theorem bestF_mem:∀ {j:Nat} {c:Nat->Int},bestF l t y m j=some c->∃ i,i<j/\c=chAt (mostF l) l.length i
 | 0,_,h=>by cases h
 | j+1,c,h=>by
  unfold bestF stepC at h
  cases hb:bestF l t y m j with
  | none=>
   rw [hb] at h
   dsimp only at h
   split at h
   ·cases h; exact ⟨j,by omega,rfl⟩
   ·cases h
  | some d=>
   rw [hb] at h
   dsimp only at h
   have hd:=hb
   split at h
   ·cases h; exact ⟨j,by omega,rfl⟩
   ·cases h
    obtain ⟨i,hi,e⟩:=bestF_mem hd
    exact ⟨i,by omega,e⟩
noncomputable def OC (l:List Stk) (t:Tst) (y m:Int) (w:Bool) (_:Nat) (e:VEx) (vs:List VV) (bs:List VB):Prop:=
 e=.ret/\vs=VC/\∃ n',bs=BC l t y m w (bV l.length (chpF l t y m)) (lstF l (chpF l t y m)) n'
theorem lC_ok:LSound Try.prog true (.block 0 (.loop (loopB 0 (bodyOf Try.prog 42)))) (ntOf Try.prog 42) (lC l t y m w):=by
 by_cases hh:lB l/\pB l t.T.length/\tB t/\0<=y/\y<=1000
 ·obtain ⟨hl,hp,ht,hy⟩:=hh
  have hl6:=hl.1
  have hm0:∀ i,i<l.length->0<=mostF l i:=fun i _=>(mostF_bd hl i).1
  refine loop_row hmix (noL_good (cm_tab (l:=l) (t:=t))) (lsp:=tabB [(2,lI l t y m w)]) (un:=10) (ds:=dsC) (ns:=nsC) (nx:=13) (fun _:Nat=>VC) (fun j=>BC l t y m w (bV l.length (bestF l t y m j)) (lstF l (bestF l t y m j)) (chAt (mostF l) l.length j)) (fun j=>j<nAll l) (fun j=>nAll l - j) (OC l t y m w) (lsp_one (by kernel_rfl) lI_ok) ?_ ?_
  ·rintro j hj
   refine cast (cr_ev l t y m w _ _ _ _).symm ?_
   have hn:=chAt_nB hl hj
   have hnx:=scan_nxt (most:=mostF l) l.length (chAt (mostF l) l.length j)
   have hnext:=chAt_next hm0 hj
   have hs:bestF l t y m (j+1)=stepC l t y m (bestF l t y m j) (chAt (mostF l) l.length j):=rfl
   have hcost:=cost_bd (n:=chAt (mostF l) l.length j) hn hl
   have hbn:∀ d,bestF l t y m j=some d->0<=costF l d:=fun d hd=>by
    obtain ⟨i,hi,rfl⟩:=bestF_mem hd
    exact (cost_bd (chAt_nB hl (Nat.lt_trans hi hj)) hl).1
   generalize hRQ:RoundQ (σ:=Nat) _ _ _ _ _ j=RQ
   have fin:∀ (b':Option (Nat->Int)) (least:Int),bestF l t y m (j+1)=b'->least=lstF l b'->∀ (k:Nat) (n':Nat->Int),scanC (mostF l) l.length (chAt (mostF l) l.length j)=(k,n') ->
    (bif decide ((k:Int) - 1<0) then (bif belBs 13 (BC l t y m w (bV l.length b') least n') && VEx.bel 13 VEx.ret then RQ .ret VC (BC l t y m w (bV l.length b') least n') else False)
    else bif decide (0<=(k:Int) - 1/\(k:Int) - 1<(6:Nat)) then (bif decide (((k:Int) - 1).toNat*1<6) then (bif inK .i64 (n' (((k:Int) - 1).toNat*1)+1) then (bif decide (0<=(k:Int) - 1/\(k:Int) - 1<(6:Nat)) then (bif decide (((k:Int) - 1).toNat*1+1<=6) then
     (bif belBs 13 (BC l t y m w (bV l.length b') least (setF n' (((k:Int) - 1).toNat*1) [n' (((k:Int) - 1).toNat*1)+1])) && VEx.bel 13 VEx.normal then RQ .normal VC (BC l t y m w (bV l.length b') least (setF n' (((k:Int) - 1).toNat*1) [n' (((k:Int) - 1).toNat*1)+1])) else False) else False) else False) else False) else False) else False):=by
    rintro b' least hb rfl k n' hk
    have hbel:∀ (n':Nat->Int) (e:VEx),e.bel 13=true->(belBs 13 (BC l t y m w (bV l.length b') (lstF l b') n') && e.bel 13)=true:=fun n' e he=>by
     rw [he]
     cases b' <;> rfl
    rw [hk] at hnx
    obtain ⟨hk1,hnx⟩:=hnx
    dsimp only at hk1
    cases k with
    | zero=>
     dsimp only at hnx
     have hj1:j+1=nAll l:=by
      rcases hnext with ⟨h1,_⟩ | ⟨_,h2⟩
      ·exact h1
      ·rw [hnx] at h2; cases h2
     refine cond_d (fun _=>cond_k (hbel n' _ rfl) ?_) (fun h=>by omega)
     rw [<- hRQ]
     have hc:chpF l t y m=b':=by rw [<- hb,hj1]; rfl
     exact ⟨rfl,rfl,n',by rw [hc]⟩
    | succ k=>
     dsimp only at hnx
     have e:(((k+1:Nat):Int) - 1)=(k:Int):=by omega
     rw [e]
     have e2:(k:Int).toNat*1=k:=by omega
     rw [e2]
     obtain ⟨hj1,hch⟩:j+1<nAll l/\chAt (mostF l) l.length (j+1)=setC n' k (n' k+1):=by
      rcases hnext with ⟨_,h2⟩ | ⟨h1,h2⟩
      ·rw [hnx] at h2; cases h2
      ·rw [hnx] at h2
       injection h2 with h2
       exact ⟨h1,h2.symm⟩
     have hb6:=chAt_nB hl hj1 k (by omega)
     rw [hch,setC_same] at hb6
     refine cond_d (fun h=>by omega) (fun _=>cond_dk ⟨by omega,by omega⟩ (cond_dk (by omega) (cond_r (by omega) (cond_dk ⟨by omega,by omega⟩ (cond_dk (by omega) (cond_k (hbel _ _ rfl) ?_))))))
     rw [<- hRQ]
     refine ⟨j+1,hj1,by dsimp only; omega,rfl,?_,fun _ _ _ h=>h⟩
     dsimp only
     rw [hb,hch]
     exact fitBs_refl _
   refine ⟨chAt (mostF l) l.length j,⟨_,_,rfl,isD_l,⟨rfl,rfl,fun _ _=>rfl⟩,⟨rfl,rfl⟩,⟨rfl,rfl⟩,trivial⟩,rfl,hn,hl,?_⟩
   have hF:∀ (b':Option (Nat->Int)) (least:Int) (h:VH) (tt:Slots),h.nx=14->fitB (nsC.zip (BC l t y m w (bV l.length b') least (chAt (mostF l) l.length j))) h->fitS (dsI.zip (VI (l.length - 1))) tt->FitP 0 h tt ⟨14,nsC.zip (BC l t y m w (bV l.length b') least (chAt (mostF l) l.length j))⟩ (dsI.zip (VI (l.length - 1))):=fun _ _ _ _ h1 h2 h3=>⟨⟨rfl,h1,h2⟩,h3⟩
   have hir : -9223372036854775808<=(l.length:Int) - 1/\(l.length:Int) - 1<=9223372036854775807:=by omega
   have hcon:conB l t (chAt (mostF l) l.length j)/\0<=y/\y<=1000:=⟨⟨hn,hl,hp,ht⟩,hy⟩
   have hc6:∀ h:VH,(h.at 6).cs? = some (stD l::tsL t,61)->isD h 4 (.ptr (.own 6 0)) (.tp (stD l::tsL t)):=fun h h6=>⟨_,_,h6,isD_l,⟨rfl,rfl,fun _ _=>rfl⟩,⟨rfl,rfl⟩,⟨rfl,rfl⟩,trivial⟩
   cases hb:bestF l t y m j with
   | none=>
    rw [hb] at hs
    refine cond_d (fun _=>⟨chAt (mostF l) l.length j,hc6 _ rfl,rfl,hcon,cond_i (fun g=>?_) (fun g=>?_)⟩) (fun h=>(h (by show (-1:Int)<0; omega)).elim)
    ·refine ⟨chAt (mostF l) l.length j,l.length,rfl,rfl,hl6,cond_r hir ⟨some (chAt (mostF l) l.length j),_,chAt (mostF l) l.length j,hF _ _ _ _ rfl ?_ ?_,hl6,fin _ _ ?_ rfl⟩⟩
     ·exact ⟨VB.fit_refl _,VB.fit_refl _,VB.fit_refl _,VB.fit_refl _,VB.fit_refl _,VB.fit_refl _,VB.fit_refl _,VB.fit_refl _,VB.fit_refl _,VB.fit_refl _,VB.fit_refl _,VB.fit_refl _,VB.fit_refl _,trivial⟩
     ·exact ⟨rfl,rfl,rfl,rfl,rfl,trivial⟩
     ·rw [hs]; unfold stepC; dsimp only; rw [if_pos g]
    ·refine cond_r hir ⟨none,_,chAt (mostF l) l.length j,hF _ _ _ _ rfl ?_ ?_,hl6,fin _ _ ?_ rfl⟩
     ·exact ⟨VB.fit_refl _,VB.fit_refl _,VB.fit_refl _,VB.fit_refl _,VB.fit_refl _,VB.fit_refl _,VB.fit_refl _,VB.fit_refl _,VB.fit_refl _,VB.fit_refl _,VB.fit_refl _,VB.fit_refl _,VB.fit_refl _,trivial⟩
     ·exact ⟨rfl,rfl,rfl,rfl,rfl,trivial⟩
     ·rw [hs]; unfold stepC; dsimp only; rw [if_neg (by rw [g]; simp)]
   | some d=>
    rw [hb] at hs
    have hd0:=hbn d hb
    have hsame:bestF l t y m (j+1)=some d->_:=fun e=>fin (some d) (costF l d) e rfl
    refine cond_d (fun h=>(by have h:costF l d<0:=h; omega)) (fun _=>cond_d (fun g1=>⟨chAt (mostF l) l.length j,hc6 _ rfl,rfl,hcon,cond_i (fun g=>?_) (fun g=>?_)⟩) (fun g1=>?_))
    ·refine ⟨chAt (mostF l) l.length j,l.length,rfl,rfl,hl6,cond_r hir ⟨some (chAt (mostF l) l.length j),_,chAt (mostF l) l.length j,hF _ _ _ _ rfl ?_ ?_,hl6,fin _ _ ?_ rfl⟩⟩
     ·exact ⟨VB.fit_refl _,VB.fit_refl _,VB.fit_refl _,VB.fit_refl _,VB.fit_refl _,VB.fit_refl _,VB.fit_refl _,VB.fit_refl _,VB.fit_refl _,VB.fit_refl _,VB.fit_refl _,VB.fit_refl _,VB.fit_refl _,trivial⟩
     ·exact ⟨rfl,rfl,rfl,rfl,rfl,trivial⟩
     ·rw [hs]; unfold stepC; dsimp only; rw [if_pos ⟨g1,g⟩]
    ·refine cond_r hir ⟨some d,_,chAt (mostF l) l.length j,hF _ _ _ _ rfl ?_ ?_,hl6,hsame ?_⟩
     ·exact ⟨VB.fit_refl _,VB.fit_refl _,VB.fit_refl _,VB.fit_refl _,VB.fit_refl _,VB.fit_refl _,VB.fit_refl _,VB.fit_refl _,VB.fit_refl _,VB.fit_refl _,VB.fit_refl _,VB.fit_refl _,VB.fit_refl _,trivial⟩
     ·exact ⟨rfl,rfl,rfl,rfl,rfl,trivial⟩
     ·rw [hs]; unfold stepC; dsimp only; rw [if_neg (by rw [g]; simp)]
    ·refine cond_r hir ⟨some d,_,chAt (mostF l) l.length j,hF _ _ _ _ rfl ?_ ?_,hl6,hsame ?_⟩
     ·exact ⟨VB.fit_refl _,VB.fit_refl _,VB.fit_refl _,VB.fit_refl _,VB.fit_refl _,VB.fit_refl _,VB.fit_refl _,VB.fit_refl _,VB.fit_refl _,VB.fit_refl _,VB.fit_refl _,VB.fit_refl _,VB.fit_refl _,trivial⟩
     ·exact ⟨rfl,rfl,rfl,rfl,rfl,trivial⟩
     ·rw [hs]; unfold stepC; dsimp only; rw [if_neg (by intro h; exact g1 h.1)]
  ·rintro lock tt h K ⟨hf,_,k1,k2⟩
   refine ⟨0,?_,all_pos hm0,?_⟩
   ·rw [chAt_zero hm0]; exact hf
   ·rintro e vs bs ⟨rfl,rfl,n',rfl⟩
    cases hb:chpF l t y m with
    | none=>exact k1 hb n'
    | some c=>exact k2 c n' hb
 ·rintro lock tt h K ⟨hf,hc,_⟩
  exact (hh hc).elim
end
section
variable (l:List Stk) (t:Tst) (y m:Int)
open Classical in
noncomputable def chpE:Int:=if okAll l t=false then 1 else if ¬ ((0<=y/\y<=100)/\0<=m/\m<=1048576) then 2 else if chpF l t y m=none then 4 else 0
def rErr (e:Int):VRes:=.ret (.tup [.nils,I 0,I e])
def rChp (c:Nat->Int):VRes:=.ret (.tup [.tl l.length 1 (chG c),I (costF l c),I 0])
theorem chp_v:∃ r h',CallsV Try.prog 9 [stD l,.agg (tsL t),I y,I m] ⟨0,[]⟩ r h'/\((chpE l t y m ≠ 0/\r=rErr (chpE l t y m)) ∨ (chpE l t y m=0/\∃ c,chpF l t y m=some c/\r=rChp l c)):=by
 have hall:LoopsOk Try.prog 42 [(0,lC l t y m (okAll l t))]:=fun x hx=>by
  simp only [List.mem_singleton] at hx
  subst hx
  exact ⟨by kernel_rfl,lC_ok⟩
 have htab:∀ f T,tabS [asR l t,casksR l t] f=some T->SpOk Try.prog f T:=tab_ok _ (fun x hx=>by
  simp only [List.mem_cons,List.not_mem_nil,or_false] at hx
  rcases hx with rfl | rfl
  ·exact asR_ok l t
  ·exact casksR_ok l t)
 obtain ⟨r,h',hr,hc⟩:=of_callN (callL_good hmix htab hall (un:=10) 20) (f:=9) (args:=[stD l,.agg (tsL t),I y,I m]) (h:=⟨0,[]⟩) (K:=fun r _=>(chpE l t y m ≠ 0/\r=rErr (chpE l t y m)) ∨ (chpE l t y m=0/\∃ c,chpF l t y m=some c/\r=rChp l c)) (by
  refine cast (c_ev l t y m _).symm ⟨isD_l,⟨⟨rfl,rfl,fun _ _=>rfl⟩,⟨rfl,rfl⟩,⟨rfl,rfl⟩,trivial⟩,?_⟩
  have err:∀ e:Int,e ≠ 0->chpE l t y m=e->(chpE l t y m ≠ 0/\rErr e=rErr (chpE l t y m)) ∨ (chpE l t y m=0/\∃ c,chpF l t y m=some c/\rErr e=rChp l c):=fun e h h'=>.inl ⟨by rw [h']; exact h,by rw [h']⟩
  refine cond_i (fun h1=>err 1 (by decide) ?_) (fun h1=>?_)
  ·unfold chpE; rw [if_pos (by simpa using h1)]
  have h1:okAll l t=true:=by simpa using h1
  have e1:chpE l t y m=if ¬ ((0<=y/\y<=100)/\0<=m/\m<=1048576) then 2 else if chpF l t y m=none then 4 else 0:=by unfold chpE; rw [if_neg (by rw [h1]; simp)]
  refine cond_d (fun g1=>cond_nd (fun g2=>err 2 (by decide) ?_) (fun g2=>cond_d (fun g3=>cond_nd (fun g4=>err 2 (by decide) ?_) (fun g4=>?_)) (fun g3=>err 2 (by decide) ?_))) (fun g1=>err 2 (by decide) ?_)
  ·rw [e1,if_pos (by omega)]
  ·rw [e1,if_pos (by omega)]
  ·rw [if_neg (by omega)] at e1
   obtain ⟨hl,hp,ht,_⟩:=okAll_l h1
   refine ⟨⟨_,_,rfl,isD_l,⟨rfl,rfl,fun _ _=>rfl⟩,⟨rfl,rfl⟩,⟨rfl,rfl⟩,trivial⟩,hl.1,fitP_self rfl,⟨hl,hp,okT_tB ht,by omega,by omega⟩,fun hb n'=>err 4 (by decide) ?_,fun c n' hb=>?_⟩
   ·rw [e1,if_pos hb]
   ·rw [if_neg (by rw [hb]; simp)] at e1
    refine cond_d (fun h=>?_) (fun _=>.inr ⟨e1,c,hb,rfl⟩)
    obtain ⟨i,hi,rfl⟩:=bestF_mem hb
    have:=(cost_bd (chAt_nB hl hi) hl).1
    omega
  ·rw [e1,if_pos (by omega)]
  ·rw [e1,if_pos (by omega)])
 exact ⟨r,h',hc,hr⟩
end
def dsJ:List Nat:=[3,2,1,0]
def VJ (t:Tst) (i:Int):List VV:=[I i,.bool false,.ptr (.own 0 0),.agg (tsL t)]
def BJ (t:Tst):List VB:=[.cells (tsL t) 32]
theorem rt_ev (t:Tst) (i:Int) (X:VEx->List VV->List VB->Prop):codeE Try.prog (callN Try.prog noSpec noL 10 20) (fun _=>none) true 10 (ntOf Try.prog 5) 0 (loopB 0 (bodyOf Try.prog 5)) (dsJ.zip (VJ t i)) ⟨1,[0].zip (BJ t)⟩ (obs 1 dsJ [0] X) =
 (bif decide (i<(↑t.T.length:Int)) then
 bif decide ((0:Int)<=i/\i<(↑t.T.length:Int)) then
 bif decide ((0:Int)<=t.T.getD i.toNat (0:Int)) then
 bif !decide (t.T.getD i.toNat (0:Int)<=(1000:Int)) then
 X VEx.ret [I i,VV.bool false,VV.ptr (VA.own 0 0),VV.agg [VV.tl t.T.length 1 (dG t.T),I t.far,I t.least]] [VB.cells [VV.tl t.T.length 1 (dG t.T),I t.far,I t.least] (32:TypeId)]
 else bif inK IntKind.i64 (i+(1:Int)) then
 X VEx.normal [I (i+(1:Int)),VV.bool false,VV.ptr (VA.own 0 0),VV.agg [VV.tl t.T.length 1 (dG t.T),I t.far,I t.least]] [VB.cells [VV.tl t.T.length 1 (dG t.T),I t.far,I t.least] (32:TypeId)]
 else False
 else X VEx.ret [I i,VV.bool false,VV.ptr (VA.own 0 0),VV.agg [VV.tl t.T.length 1 (dG t.T),I t.far,I t.least]] [VB.cells [VV.tl t.T.length 1 (dG t.T),I t.far,I t.least] (32:TypeId)]
 else False
 else X (VEx.exit 0) [I i,VV.bool false,VV.ptr (VA.own 0 0),VV.agg [VV.tl t.T.length 1 (dG t.T),I t.far,I t.least]] [VB.cells [VV.tl t.T.length 1 (dG t.T),I t.far,I t.least] (32:TypeId)]):=by kernel_rfl
def lJ (t:Tst):LT:=fun lock tt h K=>
 FitP lock h tt ⟨1,[0].zip (BJ t)⟩ (dsJ.zip (VJ t 0))/\t.T.length<=100000/\(anyN t.T=false->K .normal (dsJ.zip (VJ t t.T.length)) ⟨1,[0].zip (BJ t)⟩)/\(anyN t.T=true->∀ i:Int,K .ret (dsJ.zip (VJ t i)) ⟨1,[0].zip (BJ t)⟩)
theorem rtf_ev (t:Tst) (Q:VRes->Prop):callN Try.prog noSpec (atF 5 [(0,lJ t)]) 10 20 0 (.fn 5) [.agg (tsL t)] ⟨0,[]⟩ (fun r h=>Q r) =
 (FitP 0 (VH.mk 1 ([0].zip (BJ t))) (dsJ.zip (VJ t (0:Int))) (VH.mk 1 ([0].zip (BJ t))) (dsJ.zip (VJ t (0:Int)))/\t.T.length<=100000/\(anyN t.T=false->bif decide ((1:Int)<=(↑t.T.length:Int)) then
 bif decide ((↑t.T.length:Int)<=(4:Int)) then
 bif decide ((0:Int)<=t.far) then
 bif decide (t.far<=(1000:Int)) then
 bif decide ((0:Int)<=t.least) then
 Q (VRes.ret (VV.bool (decide (t.least<=(100:Int)))))
 else Q (VRes.ret (VV.bool false))
 else Q (VRes.ret (VV.bool false))
 else Q (VRes.ret (VV.bool false))
 else Q (VRes.ret (VV.bool false))
 else Q (VRes.ret (VV.bool false)))/\(anyN t.T=true->∀ (i:Int),Q (VRes.ret (VV.bool false)))):=by kernel_rfl
end Go.Sx.Bln
