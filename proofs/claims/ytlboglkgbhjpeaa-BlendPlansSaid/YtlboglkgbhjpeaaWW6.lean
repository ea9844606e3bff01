/- stream: Cf4 Cg4 Cn4 Co4 Mc1 Fb3 Fc1 Ma2 Ob3 Lc1 Lc3 Oc1 Oc2, in one text. -/
import Derived.Test.YtlboglkgbhjpeaaWW5
import Derived.Test.YtlboglkgbhjpeaaWW3
import Derived.Test.YtlboglkgbhjpeaaWW4
namespace Go.Sx.Bln
open Go Go.Sx Go.Proofs
set_option maxRecDepth 1000000
section
variable {l:List Stk} {t:Tst} {P:List (List Int)} {Y k:Nat} {y S d:Int} {own:Int} {a:Nat->Int}
noncomputable def OJ4 (l:List Stk) (t:Tst) (P:List (List Int)) (Y:Nat) (y S own d:Int) (a:Nat->Int) (s:(Mde × Lst) × Nat × (Nat->Int)) (e:VEx) (vs:List VV) (bs:List VB):Prop:=
 e=.exit 2/\vs=VFi4 ((scanC a s.2.1 s.2.2).1 - 1)/\bs=BFo4 l t P Y y S own d a s.1.1 s.1.2 (scanC a s.2.1 s.2.2).2
theorem lIo4_ok:LSound Try.prog true (.block 2 (.loop (loopB 2 (bodyOf Try.prog 74)))) (ntOf Try.prog 74) (lIo4 l t P Y y S own d a):=by
 by_cases hn:l.length<=6
 ·refine loop_row hmix good0 (un:=10) (ds:=dsI) (ns:=nsFo4) (nx:=24) (fun s:(Mde × Lst) × Nat × (Nat->Int)=>VFi4 (s.2.1 - 1)) (fun s=>BFo4 l t P Y y S own d a s.1.1 s.1.2 s.2.2) (fun s=>s.2.1<=l.length) (fun s=>s.2.1) (OJ4 l t P Y y S own d a) noL_ok ?_ ?_
  ·rintro ⟨⟨M,es⟩,k,n⟩ h0
   dsimp only at h0 ⊢
   refine cast (ino4_ev l t P Y y S own d (k - 1) a M es n _).symm ?_
   cases k with
   | zero=>exact cond_d (fun h=>by omega) (fun _=>⟨rfl,rfl,rfl⟩)
   | succ k=>
    have e:(((k+1:Nat):Int) - 1)=(k:Int):=by omega
    rw [e]
    have e2:(k:Int).toNat*1=k:=by omega
    rw [e2,show (fun k=>(ch a).getD k (0:Int)) k=a k from ch_get (by omega)]
    refine cond_d (fun _=>?_) (fun h=>by omega)
    refine cond_dk ⟨by omega,by omega⟩ (cond_dk (by omega) (cond_dk ⟨by omega,by omega⟩ (cond_dk (by omega) (cond_d (fun g=>cond_dk ⟨by omega,by omega⟩ (cond_dk (by omega) (cond_r (by omega) ?_))) (fun g=>?_)))))
    ·refine ⟨((M,es),k,setC n k 0),?_,?_,rfl,fitBs_refl _,fun e vs bs he=>?_⟩
     ·show k<=_; omega
     ·show k<k+1; omega
     ·have hs:scanC a (k+1) n=scanC a k (setC n k 0):=by
       show (if _ then _ else _)=_
       rw [if_pos g]
      obtain ⟨h1,h2,h3⟩:=he
      refine ⟨h1,?_,?_⟩
      ·rw [h2]; dsimp only; rw [hs]
      ·rw [h3]; dsimp only; rw [hs]
    ·have hs:scanC a (k+1) n=(k+1,n):=by
      show (if _ then _ else _)=_
      rw [if_neg g]
     refine ⟨rfl,?_,?_⟩
     ·dsimp only; rw [hs]; dsimp only; rw [e]; rfl
     ·dsimp only; rw [hs]
  ·rintro lock tt h K ⟨M,es,n,hf,_,k1⟩
   refine ⟨((M,es),l.length,n),hf,Nat.le_refl _,?_⟩
   rintro e vs bs ⟨rfl,rfl,rfl⟩
   exact k1 _ _ rfl
 ·rintro lock tt h K ⟨M,es,n,hf,hc,_⟩
  exact (hn hc).elim
theorem lG4_ok {r:Nat}:LSound Try.prog true (.block 2 (.loop (loopB 2 (bodyOf Try.prog 44)))) (ntOf Try.prog 44) (lG4 l t P Y k y S a r):=by
 by_cases hh:y=((Y - (k+1):Nat):Int)/\k+1<=Y/\Cfg l t P Y/\r<16
 ·obtain ⟨hy,hk,cf,hr⟩:=hh
  have hp4:=cf.P4
  refine loop_row hmix good0 (un:=10) (ds:=dsG4) (ns:=nsF4) (nx:=16) (fun s:(Mde × Lst) × Nat=>VG4 P y S a r s.2 (grpF P (Y - (k+1)) r s.2).2 (grpF P (Y - (k+1)) r s.2).1) (fun s=>BF4 l t P Y y S a s.1.1 s.1.2) (fun s=>s.2<=P.length) (fun s=>P.length - s.2)
   (fun s e vs bs=>e=.exit 2/\vs=VG4 P y S a r P.length (grpF P (Y - (k+1)) r P.length).2 (grpF P (Y - (k+1)) r P.length).1/\bs=BF4 l t P Y y S a s.1.1 s.1.2) noL_ok ?_ ?_
  ·rintro ⟨⟨M,es⟩,i⟩ h0
   dsimp only at h0 ⊢
   refine cast (gi4_ev l t P Y M es y S i _ _ r a _).symm ?_
   have hgb:=grpF_le cf.nd (Y - (k+1)) r i
   have hs:grpF P (Y - (k+1)) r (i+1)=if r.testBit i/\((grpF P (Y - (k+1)) r i).2<0 ∨ (P.getD i []).getD (Y - (k+1)) 0=(grpF P (Y - (k+1)) r i).2) then ((grpF P (Y - (k+1)) r i).1 ||| 2 ^ i,(P.getD i []).getD (Y - (k+1)) 0) else grpF P (Y - (k+1)) r i:=rfl
   have h16:(grpF P (Y - (k+1)) r i).1<16:=Nat.lt_of_lt_of_le hgb (Nat.pow_le_pow_right (n:=2) (by omega) (show i<=4 by omega))
   generalize hRQ:RoundQ (σ:=(Mde × Lst) × Nat) _ _ _ _ _ ((M,es),i)=RQ
   have fin:∀ (o':Nat) (d':Int),grpF P (Y - (k+1)) r (i+1)=(o',d')->i<P.length->RQ .normal (VG4 P y S a r ((i:Int)+1) d' o') (BF4 l t P Y y S a M es):=by
    intro o' d' he hlt
    rw [<- hRQ]
    refine ⟨((M,es),i+1),?_,?_,?_,fitBs_refl _,fun _ _ _ h=>h⟩
    ·show i+1<=_; omega
    ·show P.length - (i+1)<P.length - i; omega
    ·dsimp only; rw [he]; rfl
   generalize hg:grpF P (Y - (k+1)) r i=g at hs h16 ⊢
   obtain ⟨o,dd⟩:=g
   dsimp only at hs h16 ⊢
   by_cases hlt:i<P.length
   ·have hidx:(0:Int)<=y/\y<((P.getD i []).length:Nat):=by rw [cf.len i hlt]; omega
    have hi4:i<4:=by omega
    have hpow:(1:Int)*(2:Int) ^ min i IntKind.i64.bits<=8/\0<=(1:Int)*(2:Int) ^ min i IntKind.i64.bits:=by
     match i,hi4 with
     | 0,_=>exact ⟨by decide,by decide⟩
     | 1,_=>exact ⟨by decide,by decide⟩
     | 2,_=>exact ⟨by decide,by decide⟩
     | 3,_=>exact ⟨by decide,by decide⟩
    have ey:y.toNat=Y - (k+1):=by omega
    refine cond_dk (by omega) (cond_dk ⟨by omega,by omega⟩ (cond_d (fun h=>by omega) (fun _=>?_)))
    rw [show (i:Int).toNat=i by omega,ey,or_v o h16 i hi4]
    refine cond_d (fun b=>?_) (fun b=>?_)
    ·have b:=(bit_v r hr i hi4).1 b
     refine cond_d (fun g1=>cond_d (fun h=>by omega) (fun _=>cond_r (by omega) (cond_dk hidx (cond_r (by omega) (fin _ _ ?_ hlt))))) (fun g1=>cond_dk hidx (cond_d (fun g2=>cond_d (fun h=>by omega) (fun _=>cond_r (by omega) (cond_dk hidx (cond_r (by omega) (fin _ _ ?_ hlt))))) (fun g2=>cond_r (by omega) (fin _ _ ?_ hlt))))
     ·rw [hs,if_pos ⟨b,.inl g1⟩]
     ·rw [hs,if_pos ⟨b,.inr g2⟩]
     ·rw [hs,if_neg (fun h=>h.2.elim g1 g2)]
    ·have b:¬ r.testBit i=true:=fun h=>b ((bit_v r hr i hi4).2 h)
     refine cond_r (by omega) (fin _ _ ?_ hlt)
     rw [hs,if_neg (fun h=>b h.1)]
   ·obtain rfl:i=P.length:=by omega
    refine cond_d (fun h=>by omega) (fun _=>?_)
    rw [<- hRQ]
    refine ⟨rfl,?_,rfl⟩
    rw [hg]; rfl
  ·rintro lock tt h K ⟨M,es,hf,_,k1⟩
   refine ⟨((M,es),0),hf,Nat.zero_le _,?_⟩
   rintro e vs bs ⟨rfl,rfl,rfl⟩
   exact k1 _ _ rfl
 ·rintro lock tt h K ⟨M,es,hf,hc,_⟩
  exact (hh hc).elim
end
section
variable {l:List Stk} {t:Tst} {D0 D1 D2 D3:List Int} {Y k:Nat}
theorem hc64 {h:VH} (h6:(h.at 2).cs? = some (stD l::tsL t,74)):isD h 4 (.ptr (.own 2 0)) (.tp (stD l::tsL t)):=⟨_,_,h6,isD_l,⟨rfl,rfl,fun _ _=>rfl⟩,⟨rfl,rfl⟩,⟨rfl,rfl⟩,trivial⟩
structure WS4 where
 M0:Mde
 j:Nat
 M:Mde
 es:Lst
noncomputable def OW4 (l:List Stk) (t:Tst) (P:List (List Int)) (Y k:Nat) (y S d:Int) (O:Nat) (a:Nat->Int) (s:WS4) (e:VEx) (vs:List VV) (bs:List VB):Prop:=
 e=.ret/\vs=VFo4/\∃ st n',(PostW l t P Y k O d a s.M0 false st/\bs=BFo4 l t P Y y S O d a st.M st.es n') ∨ (PostW l t P Y k O d a s.M0 true st/\bs=BFoT4 l t P Y y S O d a st.M st.es n')
theorem lFo4_ok (hfind:SpOk Try.prog (findR4 l t [D0,D1,D2,D3] Y k).1 (findR4 l t [D0,D1,D2,D3] Y k).2) {y S d:Int} {O:Nat} {a:Nat->Int}:LSound Try.prog true (.block 0 (.loop (loopB 0 (bodyOf Try.prog 74)))) (ntOf Try.prog 74) (lFo4 l t [D0,D1,D2,D3] Y k y S d O a):=by
 by_cases hh:y=(Y:Int) - (k+1:Nat)/\Cfg l t [D0,D1,D2,D3] Y/\k+1<=Y/\O<2 ^ [D0,D1,D2,D3].length/\leftB l a
 ·obtain ⟨hy,cf,hk,hO,ha⟩:=hh
  have hl6:=cf.hl.1
  have hY4:=cf.Y4
  have hm0:∀ i,i<l.length->0<=a i:=fun i hi=>(ha.1 i hi).1
  have hO16:O<16:=Nat.lt_of_lt_of_le hO (Nat.pow_le_pow_right (n:=2) (by omega) (show 4<=4 by omega))
  have htab:∀ f T,tabS [meetsR l t,lessT,findR4 l t [D0,D1,D2,D3] Y k] f=some T->SpOk Try.prog f T:=tab_ok _ (fun x hx=>by
   simp only [List.mem_cons,List.not_mem_nil,or_false] at hx
   rcases hx with rfl | rfl | rfl
   ·exact meetsR_ok l t
   ·exact lessT_ok
   ·exact hfind)
  refine loop_row hmix (noL_good htab) (lsp:=tabB [(2,lIo4 l t [D0,D1,D2,D3] Y y S O d a)]) (un:=10) (ds:=dsC) (ns:=nsFo4) (nx:=23) (fun _:WS4=>VFo4) (fun s=>BFo4 l t [D0,D1,D2,D3] Y y S O d a s.M s.es (chAt a l.length s.j))
   (fun s=>s.j<(allC a l.length).length/\LostOk l t [D0,D1,D2,D3] Y s.es/\Same Y (k+1) O s.M0 s.M/\∀ i,i<s.j->meetsF l t (chAt a l.length i) y d=true->planF l t [D0,D1,D2,D3] Y k O (lsF a (chAt a l.length i) 6)=none) (fun s=>(allC a l.length).length - s.j) (OW4 l t [D0,D1,D2,D3] Y k y S d O a) (lsp_one (by kernel_rfl) lIo4_ok) ?_ ?_
  ·rintro ⟨M0,j,M,es⟩ ⟨hj,hlost,hsame,hbad⟩
   dsimp only at hj hlost hsame hbad
   refine cast (fr4_ev l t D0 D1 D2 D3 Y k M es y S d O a _ _).symm ?_
   have hcm:=chAt_mem (most:=a) (k:=l.length) hj
   obtain ⟨hleft,hbd,hnc⟩:=left_less ha hcm hl6
   have hnx:=scan_nxt (most:=a) l.length (chAt a l.length j)
   have hnext:=chAt_next hm0 hj
   have hsucc:∀ x,meetsF l t (chAt a l.length j) y d=true->planF l t [D0,D1,D2,D3] Y k O (lsF a (chAt a l.length j) 6)=some x->folF l t [D0,D1,D2,D3] Y k a O d=some (chAt a l.length j,x):=fun x g1 g2=>by
    refine tryF_some (c0:=fun _=>0) hj (fun i hi hm=>hbad i hi ?_) ?_ g2
    ·rw [hy]; exact hm
    ·show meetsF l t (chAt a l.length j) _ d=true
     rw [<- hy]; exact g1
   generalize hRQ:RoundQ (σ:=WS4) _ _ _ _ _ ⟨M0,j,M,es⟩=RQ
   generalize hcj:chAt a l.length j=c at hcm hleft hbd hnc hnx hnext hsucc ⊢
   have fin:∀ (M':Mde) (es':Lst),LostOk l t [D0,D1,D2,D3] Y es'->Same Y (k+1) O M0 M'->(meetsF l t c y d=true->planF l t [D0,D1,D2,D3] Y k O (lsF a c 6)=none)->∀ (k2:Nat) (n':Nat->Int),scanC a l.length c=(k2,n') ->
    (bif decide ((k2:Int) - 1<0) then RQ .ret VFo4 (BFo4 l t [D0,D1,D2,D3] Y y S O d a M' es' n')
    else bif decide (0<=(k2:Int) - 1/\(k2:Int) - 1<(6:Nat)) then (bif decide (((k2:Int) - 1).toNat*1<6) then (bif inK .i64 (n' (((k2:Int) - 1).toNat*1)+1) then (bif decide (0<=(k2:Int) - 1/\(k2:Int) - 1<(6:Nat)) then (bif decide (((k2:Int) - 1).toNat*1+1<=6) then
     RQ .normal VFo4 (BFo4 l t [D0,D1,D2,D3] Y y S O d a M' es' (setF n' (((k2:Int) - 1).toNat*1) [n' (((k2:Int) - 1).toNat*1)+1])) else False) else False) else False) else False) else False):=by
    intro M' es' hl' hs' hno k2 n' hk2
    have hbad':∀ i,i<j+1->meetsF l t (chAt a l.length i) y d=true->planF l t [D0,D1,D2,D3] Y k O (lsF a (chAt a l.length i) 6)=none:=fun i hi hm=>by
     by_cases e:i=j
     ·subst e; rw [hcj] at hm ⊢; exact hno hm
     ·exact hbad i (by omega) hm
    rw [hk2] at hnx
    obtain ⟨hk1,hnx⟩:=hnx
    dsimp only at hk1
    cases k2 with
    | zero=>
     dsimp only at hnx
     have hj1:j+1=(allC a l.length).length:=by
      rcases hnext with ⟨h1,_⟩ | ⟨_,h2⟩
      ·exact h1
      ·rw [hnx] at h2; cases h2
     refine cond_d (fun _=>?_) (fun h=>by omega)
     rw [<- hRQ]
     refine ⟨rfl,rfl,⟨M',es'⟩,n',.inl ⟨?_,rfl⟩⟩
     have hf:folF l t [D0,D1,D2,D3] Y k a O d=none:=tryF_none (fun c' hc' hm'=>by
      obtain ⟨i,hi,rfl⟩:=List.getElem_of_mem hc'
      have e:chAt a l.length i=(allC a l.length)[i]:=by
       unfold chAt
       rw [List.getD_eq_getElem?_getD,List.getElem?_eq_getElem hi]; rfl
      rw [<- e]
      refine hbad' i (by omega) ?_
      rw [e,hy]; exact hm')
     exact ⟨by rw [hf]; rfl,hl',hs',fun c' x' he=>by rw [hf] at he; cases he⟩
    | succ k2=>
     dsimp only at hnx
     have e:(((k2+1:Nat):Int) - 1)=(k2:Int):=by omega
     rw [e]
     have e2:(k2:Int).toNat*1=k2:=by omega
     rw [e2]
     obtain ⟨hj1,hch⟩:j+1<(allC a l.length).length/\chAt a l.length (j+1)=setC n' k2 (n' k2+1):=by
      rcases hnext with ⟨_,h2⟩ | ⟨h1,h2⟩
      ·rw [hnx] at h2; cases h2
      ·rw [hnx] at h2
       injection h2 with h2
       exact ⟨h1,h2.symm⟩
     have hb6:=(left_less ha (chAt_mem hj1) hl6).2.2 k2 (by omega)
     rw [hch,setC_same] at hb6
     refine cond_d (fun h=>by omega) (fun _=>cond_dk ⟨by omega,by omega⟩ (cond_dk (by omega) (cond_r (by omega) (cond_dk ⟨by omega,by omega⟩ (cond_dk (by omega) ?_)))))
     rw [<- hRQ]
     refine ⟨⟨M0,j+1,M',es'⟩,⟨hj1,hl',hs',hbad'⟩,?_,rfl,?_,fun _ _ _ h=>h⟩
     ·show (allC a l.length).length - (j+1)<(allC a l.length).length - j
      omega
     ·dsimp only
      rw [hch]
      exact fitBs_refl _
   have hir : -9223372036854775808<=(l.length:Int) - 1/\(l.length:Int) - 1<=9223372036854775807:=by omega
   have hF:∀ (M':Mde) (es':Lst) (h:VH) (tt:Slots),h.nx=24->fitB (nsFo4.zip (BFo4 l t [D0,D1,D2,D3] Y y S O d a M' es' c)) h->fitS (dsI.zip (VFi4 (l.length - 1))) tt->FitP 0 h tt ⟨24,nsFo4.zip (BFo4 l t [D0,D1,D2,D3] Y y S O d a M' es' c)⟩ (dsI.zip (VFi4 (l.length - 1))):=fun _ _ _ _ h1 h2 h3=>⟨⟨rfl,h1,h2⟩,h3⟩
   refine ⟨c,hc64 rfl,rfl,⟨⟨hnc,cf.hl,cf.hp,cf.ht⟩,by omega,by omega⟩,cond_i (fun g=>?_) (fun g=>?_)⟩
   ·have g:meetsF l t c y d=false:=by simpa using g
    refine cond_r hir ⟨M,es,c,hF M es _ _ rfl ?_ ?_,hl6,fin M es hlost hsame (fun h=>by rw [g] at h; cases h)⟩
    ·exact (by repeat (first | exact trivial | refine ⟨VB.fit_refl _,?_⟩))
    ·exact ⟨rfl,rfl,rfl,rfl,rfl,trivial⟩
   ·have g:meetsF l t c y d=true:=by simpa using g
    refine cond_r (by omega) ⟨a,c,rfl,rfl,hbd,O,lsF a c 6,M,es,⟨rfl,rfl,rfl,rfl⟩,⟨rfl,by omega⟩,⟨rfl,rfl,rfl,rfl,rfl,rfl,rfl,rfl,rfl,rfl,rfl,rfl,rfl,rfl,rfl,trivial⟩,⟨by omega,rfl,rfl⟩,⟨by omega,hO,hleft,hlost⟩,?_⟩
    rintro b s ⟨p1,p2,p3,p4⟩
    refine cond_i (fun g2=>?_) (fun g2=>?_)
    ·have g2:b=false:=by simpa using g2
     refine cond_r hir ⟨s.M,s.es,c,hF s.M s.es _ _ rfl ?_ ?_,hl6,fin s.M s.es p2 (hsame.trans p3.later) (fun _=>?_)⟩
     ·exact (by repeat (first | exact trivial | refine ⟨VB.fit_refl _,?_⟩))
     ·exact ⟨rfl,rfl,rfl,rfl,rfl,trivial⟩
     ·rw [g2] at p1
      cases hx:planF l t [D0,D1,D2,D3] Y k O (lsF a c 6) with
      | none=>rfl
      | some x=>rw [hx] at p1; cases p1
    ·have g2:b=true:=by simpa using g2
     subst g2
     obtain ⟨x,hx⟩:∃ x,planF l t [D0,D1,D2,D3] Y k O (lsF a c 6)=some x:=by
      cases hx:planF l t [D0,D1,D2,D3] Y k O (lsF a c 6) with
      | none=>rw [hx] at p1; cases p1
      | some x=>exact ⟨x,rfl⟩
     have hyY:(0:Int)<=y/\y<(Y:Int):=⟨by omega,by omega⟩
     have hyY6:0+y.toNat*6+6<=Y*6:=by omega
     have fin2:∀ M2:Mde,(∀ i,i < [D0,D1,D2,D3].length->M2 i=if O.testBit i=true then wrM (s.M i) y c else s.M i)->(∀ i,[D0,D1,D2,D3].length<=i->M2 i=s.M i)->∀ bs,bs=BFoT4 l t [D0,D1,D2,D3] Y y S O d a M2 s.es c->RQ .ret VFo4 bs:=by
      rintro M2 h2 h3 bs rfl
      rw [<- hRQ]
      exact ⟨rfl,rfl,⟨M2,s.es⟩,c,.inr ⟨postW_true hk hO (by omega) (hsucc x g hx) hx hsame ⟨p1,p2,p3,p4⟩ h2 h3,rfl⟩⟩
     have fin3:∀ {m0 m1 m2 m3:Nat->Int},(m0=if O.testBit 0=true then wrM (s.M 0) y c else s.M 0)->(m1=if O.testBit 1=true then wrM (s.M 1) y c else s.M 1)->(m2=if O.testBit 2=true then wrM (s.M 2) y c else s.M 2)->(m3=if O.testBit 3=true then wrM (s.M 3) y c else s.M 3)->RQ .ret VFo4 (BFoT4 l t [D0,D1,D2,D3] Y y S O d a (fun i=>if i=0 then m0 else if i=1 then m1 else if i=2 then m2 else if i=3 then m3 else s.M i) s.es c):=fun h0 h1 h2 h3=>fin2 _ (fun i hi=>by
      match i,hi with
      | 0,_=>exact h0
      | 1,_=>exact h1
      | 2,_=>exact h2
      | 3,_=>exact h3
      | _+4,hi=>exact absurd hi (by show ¬ _+4<4; omega)) (fun i hi=>by
      have hi:4<=i:=hi
      rw [if_neg (show ¬ i=0 by omega),if_neg (show ¬ i=1 by omega),if_neg (show ¬ i=2 by omega),if_neg (show ¬ i=3 by omega)]) _ rfl
     refine cond_d (fun b0=>cond_dk hyY (cond_dk hyY6 ?_)) (fun b0=>?_)
     ·have b0:O.testBit 0=true:=(bit_v O hO16 0 (by omega)).1 b0
      refine cond_d (fun b1=>cond_dk hyY (cond_dk hyY6 ?_)) (fun b1=>?_)
      ·have b1:O.testBit 1=true:=(bit_v O hO16 1 (by omega)).1 b1
       refine cond_d (fun b2=>cond_dk hyY (cond_dk hyY6 ?_)) (fun b2=>?_)
       ·have b2:O.testBit 2=true:=(bit_v O hO16 2 (by omega)).1 b2
        refine cond_d (fun b3=>cond_dk hyY (cond_dk hyY6 ?_)) (fun b3=>?_)
        ·have b3:O.testBit 3=true:=(bit_v O hO16 3 (by omega)).1 b3
         exact fin3 (if_pos b0).symm (if_pos b1).symm (if_pos b2).symm (if_pos b3).symm
        ·have b3:¬ O.testBit 3=true:=fun h=>b3 ((bit_v O hO16 3 (by omega)).2 h)
         exact fin3 (if_pos b0).symm (if_pos b1).symm (if_pos b2).symm (if_neg b3).symm
       ·have b2:¬ O.testBit 2=true:=fun h=>b2 ((bit_v O hO16 2 (by omega)).2 h)
        refine cond_d (fun b3=>cond_dk hyY (cond_dk hyY6 ?_)) (fun b3=>?_)
        ·have b3:O.testBit 3=true:=(bit_v O hO16 3 (by omega)).1 b3
         exact fin3 (if_pos b0).symm (if_pos b1).symm (if_neg b2).symm (if_pos b3).symm
        ·have b3:¬ O.testBit 3=true:=fun h=>b3 ((bit_v O hO16 3 (by omega)).2 h)
         exact fin3 (if_pos b0).symm (if_pos b1).symm (if_neg b2).symm (if_neg b3).symm
      ·have b1:¬ O.testBit 1=true:=fun h=>b1 ((bit_v O hO16 1 (by omega)).2 h)
       refine cond_d (fun b2=>cond_dk hyY (cond_dk hyY6 ?_)) (fun b2=>?_)
       ·have b2:O.testBit 2=true:=(bit_v O hO16 2 (by omega)).1 b2
        refine cond_d (fun b3=>cond_dk hyY (cond_dk hyY6 ?_)) (fun b3=>?_)
        ·have b3:O.testBit 3=true:=(bit_v O hO16 3 (by omega)).1 b3
         exact fin3 (if_pos b0).symm (if_neg b1).symm (if_pos b2).symm (if_pos b3).symm
        ·have b3:¬ O.testBit 3=true:=fun h=>b3 ((bit_v O hO16 3 (by omega)).2 h)
         exact fin3 (if_pos b0).symm (if_neg b1).symm (if_pos b2).symm (if_neg b3).symm
       ·have b2:¬ O.testBit 2=true:=fun h=>b2 ((bit_v O hO16 2 (by omega)).2 h)
        refine cond_d (fun b3=>cond_dk hyY (cond_dk hyY6 ?_)) (fun b3=>?_)
        ·have b3:O.testBit 3=true:=(bit_v O hO16 3 (by omega)).1 b3
         exact fin3 (if_pos b0).symm (if_neg b1).symm (if_neg b2).symm (if_pos b3).symm
        ·have b3:¬ O.testBit 3=true:=fun h=>b3 ((bit_v O hO16 3 (by omega)).2 h)
         exact fin3 (if_pos b0).symm (if_neg b1).symm (if_neg b2).symm (if_neg b3).symm
     ·have b0:¬ O.testBit 0=true:=fun h=>b0 ((bit_v O hO16 0 (by omega)).2 h)
      refine cond_d (fun b1=>cond_dk hyY (cond_dk hyY6 ?_)) (fun b1=>?_)
      ·have b1:O.testBit 1=true:=(bit_v O hO16 1 (by omega)).1 b1
       refine cond_d (fun b2=>cond_dk hyY (cond_dk hyY6 ?_)) (fun b2=>?_)
       ·have b2:O.testBit 2=true:=(bit_v O hO16 2 (by omega)).1 b2
        refine cond_d (fun b3=>cond_dk hyY (cond_dk hyY6 ?_)) (fun b3=>?_)
        ·have b3:O.testBit 3=true:=(bit_v O hO16 3 (by omega)).1 b3
         exact fin3 (if_neg b0).symm (if_pos b1).symm (if_pos b2).symm (if_pos b3).symm
        ·have b3:¬ O.testBit 3=true:=fun h=>b3 ((bit_v O hO16 3 (by omega)).2 h)
         exact fin3 (if_neg b0).symm (if_pos b1).symm (if_pos b2).symm (if_neg b3).symm
       ·have b2:¬ O.testBit 2=true:=fun h=>b2 ((bit_v O hO16 2 (by omega)).2 h)
        refine cond_d (fun b3=>cond_dk hyY (cond_dk hyY6 ?_)) (fun b3=>?_)
        ·have b3:O.testBit 3=true:=(bit_v O hO16 3 (by omega)).1 b3
         exact fin3 (if_neg b0).symm (if_pos b1).symm (if_neg b2).symm (if_pos b3).symm
        ·have b3:¬ O.testBit 3=true:=fun h=>b3 ((bit_v O hO16 3 (by omega)).2 h)
         exact fin3 (if_neg b0).symm (if_pos b1).symm (if_neg b2).symm (if_neg b3).symm
      ·have b1:¬ O.testBit 1=true:=fun h=>b1 ((bit_v O hO16 1 (by omega)).2 h)
       refine cond_d (fun b2=>cond_dk hyY (cond_dk hyY6 ?_)) (fun b2=>?_)
       ·have b2:O.testBit 2=true:=(bit_v O hO16 2 (by omega)).1 b2
        refine cond_d (fun b3=>cond_dk hyY (cond_dk hyY6 ?_)) (fun b3=>?_)
        ·have b3:O.testBit 3=true:=(bit_v O hO16 3 (by omega)).1 b3
         exact fin3 (if_neg b0).symm (if_neg b1).symm (if_pos b2).symm (if_pos b3).symm
        ·have b3:¬ O.testBit 3=true:=fun h=>b3 ((bit_v O hO16 3 (by omega)).2 h)
         exact fin3 (if_neg b0).symm (if_neg b1).symm (if_pos b2).symm (if_neg b3).symm
       ·have b2:¬ O.testBit 2=true:=fun h=>b2 ((bit_v O hO16 2 (by omega)).2 h)
        refine cond_d (fun b3=>cond_dk hyY (cond_dk hyY6 ?_)) (fun b3=>?_)
        ·have b3:O.testBit 3=true:=(bit_v O hO16 3 (by omega)).1 b3
         exact fin3 (if_neg b0).symm (if_neg b1).symm (if_neg b2).symm (if_pos b3).symm
        ·have b3:¬ O.testBit 3=true:=fun h=>b3 ((bit_v O hO16 3 (by omega)).2 h)
         exact fin3 (if_neg b0).symm (if_neg b1).symm (if_neg b2).symm (if_neg b3).symm
  ·rintro lock tt h K ⟨M,es,hf,⟨_,_,hpw⟩,k1,k2⟩
   refine ⟨⟨M,0,M,es⟩,?_,⟨all_pos hm0,hpw.2.2.2,Same.refl _ _ _ _,fun i hi=>absurd hi (Nat.not_lt_zero i)⟩,?_⟩
   ·dsimp only
    rw [chAt_zero hm0]; exact hf
   ·rintro e vs bs ⟨rfl,rfl,st,n',⟨hp,rfl⟩ | ⟨hp,rfl⟩⟩
    ·exact k1 st n' hp
    ·exact k2 st n' hp
 ·rintro lock tt h K ⟨M,es,hf,⟨h1,h2,h3⟩,_⟩
  exact (hh ⟨h1,h2,h3.1,h3.2.1,h3.2.2.1⟩).elim
end
section
variable {l:List Stk} {t:Tst} {D0 D1 D2 D3:List Int} {Y k:Nat}
theorem lift4 {f:FuncId} {args:List VV} {b:Bool} {s:St} {M:Mde} {es:Lst} {nx:Nat} {bs:List (Nat × VB)} (ha:belL 15 args=true) (hr:renL id args=args) (hnx:15<=nx) (hat:atL nsB4 (BP4 l t [D0,D1,D2,D3] Y M es) ⟨nx,bs⟩)
  (hc:CallsV Try.prog f args ⟨15,nsB4.zip (BP4 l t [D0,D1,D2,D3] Y M es)⟩ (.ret (.bool b)) ⟨15,nsB4.zip (BP4 l t [D0,D1,D2,D3] Y s.M s.es)⟩) :
  CallsV Try.prog f args ⟨nx,bs⟩ (.ret (.bool b)) ⟨nx,(7,.fam [] (Y*6) (s.M 0) 80)::(8,.fam [] (Y*6) (s.M 1) 80)::(9,.fam [] (Y*6) (s.M 2) 80)::(10,.fam [] (Y*6) (s.M 3) 80)::(11,.map kS .bool s.es)::bs⟩:=by
 obtain ⟨e0,e1,e2,e3,e4,e5,e6,e7,e8,e9,e10,e11,e12,e13,e14,_⟩:=hat
 have:=calls_ren (P:=Try.prog) (h:=⟨nx,bs⟩) (h1:=⟨nx,(7,.fam [] (Y*6) (s.M 0) 80)::(8,.fam [] (Y*6) (s.M 1) 80)::(9,.fam [] (Y*6) (s.M 2) 80)::(10,.fam [] (Y*6) (s.M 3) 80)::(11,.map kS .bool s.es)::bs⟩) id (fun _ _ _ _ h=>h) hc (fun n hn=>by
  have hn:n<15:=hn
  match n,hn with
  | 0,_=>exact ⟨trivial,e0⟩
  | 1,_=>exact ⟨trivial,e1⟩
  | 2,_=>exact ⟨trivial,e2⟩
  | 3,_=>exact ⟨trivial,e3⟩
  | 4,_=>exact ⟨trivial,e4⟩
  | 5,_=>exact ⟨trivial,e5⟩
  | 6,_=>exact ⟨trivial,e6⟩
  | 7,_=>exact ⟨trivial,e7⟩
  | 8,_=>exact ⟨trivial,e8⟩
  | 9,_=>exact ⟨trivial,e9⟩
  | 10,_=>exact ⟨trivial,e10⟩
  | 11,_=>exact ⟨trivial,e11⟩
  | 12,_=>exact ⟨trivial,e12⟩
  | 13,_=>exact ⟨trivial,e13⟩
  | 14,_=>exact ⟨trivial,e14⟩
  | _+15,hn=>exact absurd hn (by omega)) (fun n hn=>by
  have hn:n<15:=hn
  match n,hn with
  | 0,_=>exact ⟨trivial,rfl,e0⟩
  | 1,_=>exact ⟨trivial,rfl,e1⟩
  | 2,_=>exact ⟨trivial,rfl,e2⟩
  | 3,_=>exact ⟨trivial,rfl,e3⟩
  | 4,_=>exact ⟨trivial,rfl,e4⟩
  | 5,_=>exact ⟨trivial,rfl,e5⟩
  | 6,_=>exact ⟨trivial,rfl,e6⟩
  | 7,_=>exact ⟨trivial,rfl,at_lt (show 7<nx by omega)⟩
  | 8,_=>exact ⟨trivial,rfl,at_lt (show 8<nx by omega)⟩
  | 9,_=>exact ⟨trivial,rfl,at_lt (show 9<nx by omega)⟩
  | 10,_=>exact ⟨trivial,rfl,at_lt (show 10<nx by omega)⟩
  | 11,_=>exact ⟨trivial,rfl,at_lt (show 11<nx by omega)⟩
  | 12,_=>exact ⟨trivial,rfl,e12⟩
  | 13,_=>exact ⟨trivial,rfl,e13⟩
  | 14,_=>exact ⟨trivial,rfl,e14⟩
  | _+15,hn=>exact absurd hn (by omega)) (fun q hq=>by
  have hq:∀ n,n<15->n ≠ q:=fun n hn=>hq n hn
  rw [at_ne (hq 7 (by omega)),at_ne (hq 8 (by omega)),at_ne (hq 9 (by omega)),at_ne (hq 10 (by omega)),at_ne (hq 11 (by omega))]) (fun n hn=>by
  have hn:n<15:=hn
  match n,hn with
  | 0,_=>rfl
  | 1,_=>rfl
  | 2,_=>rfl
  | 3,_=>rfl
  | 4,_=>rfl
  | 5,_=>rfl
  | 6,_=>rfl
  | 7,_=>rfl
  | 8,_=>rfl
  | 9,_=>rfl
  | 10,_=>rfl
  | 11,_=>rfl
  | 12,_=>rfl
  | 13,_=>rfl
  | 14,_=>rfl
  | _+15,hn=>exact absurd hn (by omega)) ha rfl
 rw [hr] at this
 exact this
theorem follow_v4 (hfind:SpOk Try.prog (findR4 l t [D0,D1,D2,D3] Y k).1 (findR4 l t [D0,D1,D2,D3] Y k).2) (cf:Cfg l t [D0,D1,D2,D3] Y) {y S d:Int} {O:Nat} {a:Nat->Int} {M:Mde} {es:Lst} (hy:y=(Y:Int) - (k+1:Nat)) (hp:PreW l t [D0,D1,D2,D3] Y k O a es) :
  ∃ b s,PostW l t [D0,D1,D2,D3] Y k O d a M b s/\CallsV Try.prog 40 [.agg (I y::I S::nL a),I O,I d,.ptr (.own 3 0),.ptr (.own 13 0),.ptr (.own 1 0),.ptr (.own 6 0)] ⟨15,nsB4.zip (BP4 l t [D0,D1,D2,D3] Y M es)⟩ (.ret (.bool b)) ⟨15,nsB4.zip (BP4 l t [D0,D1,D2,D3] Y s.M s.es)⟩:=by
 have hall:LoopsOk Try.prog 74 [(0,lFo4 l t [D0,D1,D2,D3] Y k y S d O a)]:=fun x hx=>by
  simp only [List.mem_singleton] at hx
  subst hx
  exact ⟨by kernel_rfl,lFo4_ok hfind⟩
 obtain ⟨r,h',⟨b,s,hw,rfl,hf⟩,hc⟩:=of_callN (callL_good hmix noSp hall (un:=10) 20) (f:=40) (args:=[.agg (I y::I S::nL a),I O,I d,.ptr (.own 3 0),.ptr (.own 13 0),.ptr (.own 1 0),.ptr (.own 6 0)]) (h:=⟨15,nsB4.zip (BP4 l t [D0,D1,D2,D3] Y M es)⟩) (K:=fun r h'=>∃ b s,PostW l t [D0,D1,D2,D3] Y k O d a M b s/\r=.ret (.bool b)/\fitB (nsB4.zip (BP4 l t [D0,D1,D2,D3] Y s.M s.es)) h') (by
  refine cast (fob4_ev l t D0 D1 D2 D3 Y k M es y S d O a _).symm ⟨M,es,⟨⟨rfl,rfl,by repeat (first | exact trivial | refine ⟨VB.fit_refl _,?_⟩)⟩,rfl,rfl,rfl,rfl,trivial⟩,⟨hy,cf,hp⟩,fun s n' hw=>⟨false,s,hw,rfl,by repeat (first | exact trivial | refine ⟨VB.fit_refl _,?_⟩)⟩,fun s n' hw=>⟨true,s,hw,rfl,by repeat (first | exact trivial | refine ⟨VB.fit_refl _,?_⟩)⟩⟩)
 exact ⟨b,s,hw,calls_weak hc (Nat.le_refl _) hf rfl rfl⟩
theorem folR4_ok (hfind:SpOk Try.prog (findR4 l t [D0,D1,D2,D3] Y k).1 (findR4 l t [D0,D1,D2,D3] Y k).2) (cf:Cfg l t [D0,D1,D2,D3] Y):SpOk Try.prog (folR4 l t [D0,D1,D2,D3] Y k).1 (folR4 l t [D0,D1,D2,D3] Y k).2:=by
 intro lock args h K hK
 simp only [folR4] at hK
 split at hK
 ·rename_i nx bs
  obtain ⟨S',O,a,M,es,⟨rfl,rfl,rfl,rfl⟩,⟨rfl,hnx⟩,hat,⟨hy,rfl,rfl,rfl⟩,hp,hK⟩:=hK
  obtain ⟨b,s,hw,hc⟩:=follow_v4 hfind cf hy hp
  exact ⟨_,_,hK b s hw,lock0 _ _,lift4 rfl rfl hnx hat hc⟩
 ·exact hK.elim
structure FS4 where
 M0:Mde
 r:Nat
 acc:Rsl
 s:St
def OF4 (l:List Stk) (t:Tst) (P:List (List Int)) (Y k:Nat) (y:Int) (S:Nat) (a:Nat->Int) (f:FS4) (e:VEx) (vs:List VV) (bs:List VB):Prop:=
 (e=.exit 0/\vs=VF4 y S a 0/\∃ st,PostF l t P Y (k+1) S a f.M0 true st/\bs=BF4 l t P Y y S a st.M st.es) ∨ (e=.ret/\∃ (r:Int) (st:St),PostF l t P Y (k+1) S a f.M0 false st/\vs=VF4 y S a r/\bs=BF4 l t P Y y S a st.M st.es)
theorem lFi4_ok (hfol:SpOk Try.prog (folR4 l t [D0,D1,D2,D3] Y k).1 (folR4 l t [D0,D1,D2,D3] Y k).2) {y:Int} {S:Nat} {a:Nat->Int}:LSound Try.prog true (.block 0 (.loop (loopB 0 (bodyOf Try.prog 44)))) (ntOf Try.prog 44) (lFi4 l t [D0,D1,D2,D3] Y k y S a):=by
 by_cases hh:y=(Y:Int) - (k+1:Nat)/\Cfg l t [D0,D1,D2,D3] Y/\k+1<=Y/\leftB l a
 ·obtain ⟨hy,cf,hk,ha⟩:=hh
  refine loop_rowD hmix (noL_good (tab1 hfol)) (un:=10) (ds:=dsF4) (ns:=nsF4) (nx:=16) (lsp:=fun f:FS4=>tabB [(2,lG4 l t [D0,D1,D2,D3] Y k y S a f.r)]) (fun f:FS4=>VF4 y S a f.r) (fun f=>BF4 l t [D0,D1,D2,D3] Y y S a f.s.M f.s.es) (fun f=>DoneF l t [D0,D1,D2,D3] Y k S a f.M0 f.r f.acc f.s) (fun f=>f.r) (OF4 l t [D0,D1,D2,D3] Y k y S a) (fun _ _=>lsp_one (by kernel_rfl) lG4_ok) ?_ ?_
  ·rintro ⟨M0,r,acc,s⟩ hd
   dsimp only at hd ⊢
   refine cast (gm4_ev l t D0 D1 D2 D3 Y k s.M s.es y S r a _).symm ?_
   have hr16:r<16:=Nat.lt_of_lt_of_le hd.lt (Nat.pow_le_pow_right (n:=2) (by omega) (show 4<=4 by omega))
   by_cases hr:r=0
   ·subst hr
    refine cond_d (fun h=>by omega) (fun _=>.inl ⟨rfl,rfl,s,done_end hd,rfl⟩)
   ·refine cond_dk (by omega) ⟨s.M,s.es,⟨⟨rfl,rfl,by repeat (first | exact trivial | refine ⟨VB.fit_refl _,?_⟩)⟩,rfl,rfl,rfl,rfl,rfl,rfl,rfl,rfl,rfl,rfl,rfl,rfl,rfl,trivial⟩,⟨by omega,hk,cf,hr16⟩,?_⟩
    intro o d hg
    have ho:o<2 ^ [D0,D1,D2,D3].length:=by
     have:=grpF_le cf.nd (Y - (k+1)) r [D0,D1,D2,D3].length
     rw [hg] at this; exact this
    have ho16:o<16:=Nat.lt_of_lt_of_le ho (Nat.pow_le_pow_right (n:=2) (by omega) (show 4<=4 by omega))
    refine ⟨S,o,a,s.M,s.es,⟨rfl,rfl,rfl,rfl⟩,⟨rfl,by omega⟩,⟨rfl,rfl,rfl,rfl,rfl,rfl,rfl,rfl,rfl,rfl,rfl,rfl,rfl,rfl,rfl,trivial⟩,⟨hy,rfl,rfl,rfl⟩,⟨hk,ho,ha,hd.lost⟩,?_⟩
    intro b s' hw
    obtain ⟨d1,d2⟩:=done_step cf.nd hd hr hg (s':=s')
    refine cond_i (fun g=>?_) (fun g=>?_)
    ·have g:b=false:=by simpa using g
     subst g
     obtain ⟨z1,z2,z3⟩:=d2 hw
     refine ⟨key82,.inr ⟨rfl,r,⟨s'.M,setE s'.es (kyF y S a) 1⟩,⟨by rw [z1]; rfl,?_,z3,fun x hx=>by rw [z1] at hx; cases hx⟩,rfl,rfl⟩⟩
     have:=lost_set z2 hk z1
     rw [<- hy] at this
     exact this
    ·have g:b=true:=by simpa using g
     subst g
     obtain ⟨acc',hd',hlt⟩:=d1 hw
     rw [andnot_v r hr16 o ho16]
     exact ⟨⟨M0,_,acc',s'⟩,hd',hlt,rfl,fitBs_refl _,fun _ _ _ h=>h⟩
  ·rintro lock tt h K ⟨M,es,hf,⟨_,_,hp⟩,k1,k2⟩
   refine ⟨⟨M,S,fun _ _ _=>0,⟨M,es⟩⟩,hf,done_start hp,?_⟩
   rintro e vs bs (⟨rfl,rfl,st,hp,rfl⟩ | ⟨rfl,r,st,hp,rfl,rfl⟩)
   ·exact k1 st hp
   ·exact k2 st r hp
 ·rintro lock tt h K ⟨M,es,hf,⟨h1,h2,h3⟩,_⟩
  exact (hh ⟨h1,h2,h3.1,h3.2.2.1⟩).elim
theorem find_z4 (cf:Cfg l t [D0,D1,D2,D3] Y) {y:Int} {S:Nat} {a:Nat->Int} {M:Mde} {es:Lst} (hy:y=(Y:Int)) (hp:PreF l t [D0,D1,D2,D3] Y 0 S a es) :
  ∃ b s,PostF l t [D0,D1,D2,D3] Y 0 S a M b s/\CallsV Try.prog 44 [.agg (I y::I S::nL a),.ptr (.own 4 0),.ptr (.own 12 0),.ptr (.own 1 0),.ptr (.own 14 0)] ⟨15,nsB4.zip (BP4 l t [D0,D1,D2,D3] Y M es)⟩ (.ret (.bool b)) ⟨15,nsB4.zip (BP4 l t [D0,D1,D2,D3] Y s.M s.es)⟩:=by
 have hall:LoopsOk Try.prog 44 [(0,lZ)]:=fun x hx=>by
  simp only [List.mem_singleton] at hx
  subst hx
  exact ⟨by kernel_rfl,lZ_ok⟩
 obtain ⟨r,h',⟨rfl,hf⟩,hc⟩:=of_callN (callL_good hmix noSp hall (un:=10) 20) (f:=44) (args:=[.agg (I y::I S::nL a),.ptr (.own 4 0),.ptr (.own 12 0),.ptr (.own 1 0),.ptr (.own 14 0)]) (h:=⟨15,nsB4.zip (BP4 l t [D0,D1,D2,D3] Y M es)⟩) (K:=fun r h'=>r=.ret (.bool true)/\fitB (nsB4.zip (BP4 l t [D0,D1,D2,D3] Y M es)) h') (by
  refine cast (fiz4_ev l t D0 D1 D2 D3 Y M es y S a _).symm (cond_dk hy ⟨rfl,by repeat (first | exact trivial | refine ⟨VB.fit_refl _,?_⟩)⟩))
 exact ⟨true,⟨M,es⟩,⟨rfl,hp.2.2.2,Same.refl _ _ _ _,fun x _ i y j _ _ h1 h2=>by omega⟩,calls_weak hc (Nat.le_refl _) hf rfl rfl⟩
theorem find_s4 (hfol:SpOk Try.prog (folR4 l t [D0,D1,D2,D3] Y k).1 (folR4 l t [D0,D1,D2,D3] Y k).2) (cf:Cfg l t [D0,D1,D2,D3] Y) {y:Int} {S:Nat} {a:Nat->Int} {M:Mde} {es:Lst} (hy:y=(Y:Int) - (k+1:Nat)) (hp:PreF l t [D0,D1,D2,D3] Y (k+1) S a es) :
  ∃ b s,PostF l t [D0,D1,D2,D3] Y (k+1) S a M b s/\CallsV Try.prog 44 [.agg (I y::I S::nL a),.ptr (.own 4 0),.ptr (.own 12 0),.ptr (.own 1 0),.ptr (.own 14 0)] ⟨15,nsB4.zip (BP4 l t [D0,D1,D2,D3] Y M es)⟩ (.ret (.bool b)) ⟨15,nsB4.zip (BP4 l t [D0,D1,D2,D3] Y s.M s.es)⟩:=by
 have hall:LoopsOk Try.prog 44 [(0,lFi4 l t [D0,D1,D2,D3] Y k y S a)]:=fun x hx=>by
  simp only [List.mem_singleton] at hx
  subst hx
  exact ⟨by kernel_rfl,lFi4_ok hfol⟩
 obtain ⟨r,h',⟨b,s,hw,rfl,hf⟩,hc⟩:=of_callN (callL_good hmix noSp hall (un:=10) 20) (f:=44) (args:=[.agg (I y::I S::nL a),.ptr (.own 4 0),.ptr (.own 12 0),.ptr (.own 1 0),.ptr (.own 14 0)]) (h:=⟨15,nsB4.zip (BP4 l t [D0,D1,D2,D3] Y M es)⟩) (K:=fun r h'=>∃ b s,PostF l t [D0,D1,D2,D3] Y (k+1) S a M b s/\r=.ret (.bool b)/\fitB (nsB4.zip (BP4 l t [D0,D1,D2,D3] Y s.M s.es)) h') (by
  refine cast (fib4_ev l t D0 D1 D2 D3 Y k M es y S a _).symm ?_
  have hk:=hp.1
  refine cond_d (fun h=>by omega) (fun _=>⟨key82,cond_d (fun h=>⟨false,⟨M,es⟩,?_,rfl,by repeat (first | exact trivial | refine ⟨VB.fit_refl _,?_⟩)⟩) (fun _=>⟨M,es,⟨⟨rfl,rfl,by repeat (first | exact trivial | refine ⟨VB.fit_refl _,?_⟩)⟩,rfl,rfl,rfl,rfl,rfl,rfl,rfl,rfl,trivial⟩,⟨hy,cf,hp⟩,fun s hw=>⟨true,s,hw,rfl,by repeat (first | exact trivial | refine ⟨VB.fit_refl _,?_⟩)⟩,fun s r hw=>⟨false,s,hw,rfl,by repeat (first | exact trivial | refine ⟨VB.fit_refl _,?_⟩)⟩⟩)⟩)
  have h:valOf es (kyF y S a)=1:=h
  have hn:=lost_get cf.hl.1 hp.2.2.2 (S:=S) (a:=a) hk (by rw [<- hy,h]; omega)
  exact ⟨by rw [hn]; rfl,hp.2.2.2,Same.refl _ _ _ _,fun x hx=>by rw [hn] at hx; cases hx⟩)
 exact ⟨b,s,hw,calls_weak hc (Nat.le_refl _) hf rfl rfl⟩
theorem findR4_ok (cf:Cfg l t [D0,D1,D2,D3] Y):∀ k:Nat,SpOk Try.prog (findR4 l t [D0,D1,D2,D3] Y k).1 (findR4 l t [D0,D1,D2,D3] Y k).2:=by
 have key:∀ k:Nat,(∀ (y:Int) (S:Nat) (a:Nat->Int) (M:Mde) (es:Lst),y=(Y:Int) - k->PreF l t [D0,D1,D2,D3] Y k S a es->∃ b s,PostF l t [D0,D1,D2,D3] Y k S a M b s/\CallsV Try.prog 44 [.agg (I y::I S::nL a),.ptr (.own 4 0),.ptr (.own 12 0),.ptr (.own 1 0),.ptr (.own 14 0)] ⟨15,nsB4.zip (BP4 l t [D0,D1,D2,D3] Y M es)⟩ (.ret (.bool b)) ⟨15,nsB4.zip (BP4 l t [D0,D1,D2,D3] Y s.M s.es)⟩)->SpOk Try.prog (findR4 l t [D0,D1,D2,D3] Y k).1 (findR4 l t [D0,D1,D2,D3] Y k).2:=by
  intro k hv lock args h K hK
  simp only [findR4] at hK
  split at hK
  ·rename_i nx bs
   obtain ⟨S',a,M,es,⟨rfl,rfl,rfl,rfl⟩,⟨rfl,hnx⟩,hat,⟨hy,rfl,rfl⟩,hp,hK⟩:=hK
   obtain ⟨b,s,hw,hc⟩:=hv _ S' a M es hy hp
   exact ⟨_,_,hK b s hw,lock0 _ _,lift4 rfl rfl hnx hat hc⟩
  ·exact hK.elim
 intro k
 induction k with
 | zero=>exact key 0 (fun y S a M es hy hp=>find_z4 cf (by omega) hp)
 | succ k ih=>exact key (k+1) (fun y S a M es hy hp=>find_s4 (folR4_ok ih cf) cf hy hp)
end
def nsPl4:List Nat:=[5,7,8,9,10]
def BPl4 (Y:Nat) (M:Mde):List VB:=[.cells [sFa 7 Y,sFa 8 Y,sFa 9 Y,sFa 10 Y] 76,.fam [] (Y*6) (M 0) 80,.fam [] (Y*6) (M 1) 80,.fam [] (Y*6) (M 2) 80,.fam [] (Y*6) (M 3) 80]
def lCp4 (l:List Stk) (t:Tst) (P:List (List Int)) (Y:Nat):LT:=fun lock tt h K=>match h.nx with
 | 15=>∃ (M:Mde),FitP lock h tt ⟨15,nsPl4.zip (BPl4 Y M)⟩ ((18,.nils)::dsPl.zip (VPl l t P Y 4 0 .nils 0))/\K .normal ((18,.tl Y 1 (rowG l.length M 0))::(18::dsPl).zip (.sl 15 Y::VPl l t P Y 4 0 .nils Y)) ⟨16,(15,.gone)::(15::nsPl4).zip (.vec Y (rowG l.length M 0) 1 23::(BPl4 Y M))⟩
 | 18=>∃ (M:Mde) (gO:Nat->List VV),FitP lock h tt ⟨18,(17::nsPl4).zip (.vec 1 gO 1 26::BPl4 Y M)⟩ ((18,.nils)::dsPl.zip (VPl l t P Y 4 1 (.sl 17 1) 0))/\K .normal ((18,.tl Y 1 (rowG l.length M 1))::(18::dsPl).zip (.sl 18 Y::VPl l t P Y 4 1 (.sl 17 1) Y)) ⟨19,(18,.gone)::(18::(17::nsPl4)).zip (.vec Y (rowG l.length M 1) 1 23::(.vec 1 gO 1 26::BPl4 Y M))⟩
 | 20=>∃ (M:Mde) (gO:Nat->List VV),FitP lock h tt ⟨20,(17::nsPl4).zip (.vec 2 gO 1 26::BPl4 Y M)⟩ ((18,.nils)::dsPl.zip (VPl l t P Y 4 2 (.sl 17 2) 0))/\K .normal ((18,.tl Y 1 (rowG l.length M 2))::(18::dsPl).zip (.sl 20 Y::VPl l t P Y 4 2 (.sl 17 2) Y)) ⟨21,(20,.gone)::(20::(17::nsPl4)).zip (.vec Y (rowG l.length M 2) 1 23::(.vec 2 gO 1 26::BPl4 Y M))⟩
 | 22=>∃ (M:Mde) (gO:Nat->List VV),FitP lock h tt ⟨22,(17::nsPl4).zip (.vec 3 gO 1 26::BPl4 Y M)⟩ ((18,.nils)::dsPl.zip (VPl l t P Y 4 3 (.sl 17 3) 0))/\K .normal ((18,.tl Y 1 (rowG l.length M 3))::(18::dsPl).zip (.sl 22 Y::VPl l t P Y 4 3 (.sl 17 3) Y)) ⟨23,(22,.gone)::(22::(17::nsPl4)).zip (.vec Y (rowG l.length M 3) 1 23::(.vec 3 gO 1 26::BPl4 Y M))⟩
 | _=>False
theorem cp40_ev (l:List Stk) (t:Tst) (P:List (List Int)) (Y y:Nat) (M:Mde) (g:Nat->List VV) (X:VEx->List VV->List VB->Prop):codeE Try.prog (callN Try.prog (tabS [listT]) noL 10 20) (fun _=>none) true 10 (ntOf Try.prog 17) 0 (loopB 5 (bodyOf Try.prog 17)) ((18::dsPl).zip (.sl 15 y::VPl l t P Y 4 0 .nils y)) ⟨16,(15::nsPl4).zip (.vec y g 1 23::(BPl4 Y M))⟩ (obs 16 (18::dsPl) (15::nsPl4) X) =
 (let z1:=[M 0 (0+(↑y:Int).toNat*(6)+0),M 0 (0+(↑y:Int).toNat*(6)+1),M 0 (0+(↑y:Int).toNat*(6)+2),M 0 (0+(↑y:Int).toNat*(6)+3),M 0 (0+(↑y:Int).toNat*(6)+4),M 0 (0+(↑y:Int).toNat*(6)+5)];
 (bif decide ((↑y:Int)<(↑Y:Int)) then
 bif decide ((0:Int)<=(↑y:Int)/\(↑y:Int)<(↑Y:Int)) then
 bif decide (0+(↑y:Int).toNat*(6)+(6)<=Y*6) then
 ∃ (n:Nat->Int),∃ (m:Nat),[I (setF (fun (_:Nat)=>(0:Int)) 0 z1 (0+0)),I (setF (fun (_:Nat)=>(0:Int)) 0 z1 (0+1)),I (setF (fun (_:Nat)=>(0:Int)) 0 z1 (0+2)),I (setF (fun (_:Nat)=>(0:Int)) 0 z1 (0+3)),I (setF (fun (_:Nat)=>(0:Int)) 0 z1 (0+4)),I (setF (fun (_:Nat)=>(0:Int)) 0 z1 (0+5))]=nL n/\(↑l.length:Int)=(↑m:Int)/\m<=6/\bif y.beq y then
 bif roomB (y+1) (24) then
 bif inK .i64 ((↑y:Int)+(1:Int)) then
 X .normal [VV.sl 15 (y+1),I ((↑y:Int)+(1:Int)),I (↑Y:Int),VV.slice (.fa (7+0) 0 0) Y Y,I (↑0:Int),I (↑4:Int),VV.slice (.own 5 0) 4 4,VV.nils,I 0,VV.nils,VV.ptr (.own 1 0),VV.ptr (.own 0 0),VV.tl l.length 5 (stG l),VV.agg [VV.tl t.T.length 1 (dG t.T),I t.far,I t.least],VV.tl P.length 1 (pthG P)] [VB.vec (y+1) (catG y g (oneL 1 [VV.tl m 1 (chG n)])) (1) 23,VB.cells [sFa 7 Y,sFa 8 Y,sFa 9 Y,sFa 10 Y] 76,VB.fam [] (Y*6) (M 0) 80,VB.fam [] (Y*6) (M 1) 80,VB.fam [] (Y*6) (M 2) 80,VB.fam [] (Y*6) (M 3) 80]
 else False
 else False
 else False
 else False
 else False
 else X (.exit 5) [VV.sl 15 y,I (↑y:Int),I (↑Y:Int),VV.slice (.fa (7+0) 0 0) Y Y,I (↑0:Int),I (↑4:Int),VV.slice (.own 5 0) 4 4,VV.nils,I 0,VV.nils,VV.ptr (.own 1 0),VV.ptr (.own 0 0),VV.tl l.length 5 (stG l),VV.agg [VV.tl t.T.length 1 (dG t.T),I t.far,I t.least],VV.tl P.length 1 (pthG P)] [VB.vec y g 1 23,VB.cells [sFa 7 Y,sFa 8 Y,sFa 9 Y,sFa 10 Y] 76,VB.fam [] (Y*6) (M 0) 80,VB.fam [] (Y*6) (M 1) 80,VB.fam [] (Y*6) (M 2) 80,VB.fam [] (Y*6) (M 3) 80])):=by kernel_rfl
theorem cp41_ev (l:List Stk) (t:Tst) (P:List (List Int)) (Y y:Nat) (M:Mde) (g gO:Nat->List VV) (X:VEx->List VV->List VB->Prop):codeE Try.prog (callN Try.prog (tabS [listT]) noL 10 20) (fun _=>none) true 10 (ntOf Try.prog 17) 0 (loopB 5 (bodyOf Try.prog 17)) ((18::dsPl).zip (.sl 18 y::VPl l t P Y 4 1 (.sl 17 1) y)) ⟨19,(18::(17::nsPl4)).zip (.vec y g 1 23::(.vec 1 gO 1 26::BPl4 Y M))⟩ (obs 19 (18::dsPl) (18::(17::nsPl4)) X) =
 (let z1:=[M 1 (0+(↑y:Int).toNat*(6)+0),M 1 (0+(↑y:Int).toNat*(6)+1),M 1 (0+(↑y:Int).toNat*(6)+2),M 1 (0+(↑y:Int).toNat*(6)+3),M 1 (0+(↑y:Int).toNat*(6)+4),M 1 (0+(↑y:Int).toNat*(6)+5)];
 (bif decide ((↑y:Int)<(↑Y:Int)) then
 bif decide ((0:Int)<=(↑y:Int)/\(↑y:Int)<(↑Y:Int)) then
 bif decide (0+(↑y:Int).toNat*(6)+(6)<=Y*6) then
 ∃ (n:Nat->Int),∃ (m:Nat),[I (setF (fun (_:Nat)=>(0:Int)) 0 z1 (0+0)),I (setF (fun (_:Nat)=>(0:Int)) 0 z1 (0+1)),I (setF (fun (_:Nat)=>(0:Int)) 0 z1 (0+2)),I (setF (fun (_:Nat)=>(0:Int)) 0 z1 (0+3)),I (setF (fun (_:Nat)=>(0:Int)) 0 z1 (0+4)),I (setF (fun (_:Nat)=>(0:Int)) 0 z1 (0+5))]=nL n/\(↑l.length:Int)=(↑m:Int)/\m<=6/\bif y.beq y then
 bif roomB (y+1) (24) then
 bif inK .i64 ((↑y:Int)+(1:Int)) then
 X .normal [VV.sl 18 (y+1),I ((↑y:Int)+(1:Int)),I (↑Y:Int),VV.slice (.fa (7+1) 0 0) Y Y,I (↑1:Int),I (↑4:Int),VV.slice (.own 5 0) 4 4,VV.sl 17 1,I 0,VV.nils,VV.ptr (.own 1 0),VV.ptr (.own 0 0),VV.tl l.length 5 (stG l),VV.agg [VV.tl t.T.length 1 (dG t.T),I t.far,I t.least],VV.tl P.length 1 (pthG P)] [VB.vec (y+1) (catG y g (oneL 1 [VV.tl m 1 (chG n)])) (1) 23,VB.vec 1 gO 1 26,VB.cells [sFa 7 Y,sFa 8 Y,sFa 9 Y,sFa 10 Y] 76,VB.fam [] (Y*6) (M 0) 80,VB.fam [] (Y*6) (M 1) 80,VB.fam [] (Y*6) (M 2) 80,VB.fam [] (Y*6) (M 3) 80]
 else False
 else False
 else False
 else False
 else False
 else X (.exit 5) [VV.sl 18 y,I (↑y:Int),I (↑Y:Int),VV.slice (.fa (7+1) 0 0) Y Y,I (↑1:Int),I (↑4:Int),VV.slice (.own 5 0) 4 4,VV.sl 17 1,I 0,VV.nils,VV.ptr (.own 1 0),VV.ptr (.own 0 0),VV.tl l.length 5 (stG l),VV.agg [VV.tl t.T.length 1 (dG t.T),I t.far,I t.least],VV.tl P.length 1 (pthG P)] [VB.vec y g 1 23,VB.vec 1 gO 1 26,VB.cells [sFa 7 Y,sFa 8 Y,sFa 9 Y,sFa 10 Y] 76,VB.fam [] (Y*6) (M 0) 80,VB.fam [] (Y*6) (M 1) 80,VB.fam [] (Y*6) (M 2) 80,VB.fam [] (Y*6) (M 3) 80])):=by kernel_rfl
theorem cp42_ev (l:List Stk) (t:Tst) (P:List (List Int)) (Y y:Nat) (M:Mde) (g gO:Nat->List VV) (X:VEx->List VV->List VB->Prop):codeE Try.prog (callN Try.prog (tabS [listT]) noL 10 20) (fun _=>none) true 10 (ntOf Try.prog 17) 0 (loopB 5 (bodyOf Try.prog 17)) ((18::dsPl).zip (.sl 20 y::VPl l t P Y 4 2 (.sl 17 2) y)) ⟨21,(20::(17::nsPl4)).zip (.vec y g 1 23::(.vec 2 gO 1 26::BPl4 Y M))⟩ (obs 21 (18::dsPl) (20::(17::nsPl4)) X) =
 (let z1:=[M 2 (0+(↑y:Int).toNat*(6)+0),M 2 (0+(↑y:Int).toNat*(6)+1),M 2 (0+(↑y:Int).toNat*(6)+2),M 2 (0+(↑y:Int).toNat*(6)+3),M 2 (0+(↑y:Int).toNat*(6)+4),M 2 (0+(↑y:Int).toNat*(6)+5)];
 (bif decide ((↑y:Int)<(↑Y:Int)) then
 bif decide ((0:Int)<=(↑y:Int)/\(↑y:Int)<(↑Y:Int)) then
 bif decide (0+(↑y:Int).toNat*(6)+(6)<=Y*6) then
 ∃ (n:Nat->Int),∃ (m:Nat),[I (setF (fun (_:Nat)=>(0:Int)) 0 z1 (0+0)),I (setF (fun (_:Nat)=>(0:Int)) 0 z1 (0+1)),I (setF (fun (_:Nat)=>(0:Int)) 0 z1 (0+2)),I (setF (fun (_:Nat)=>(0:Int)) 0 z1 (0+3)),I (setF (fun (_:Nat)=>(0:Int)) 0 z1 (0+4)),I (setF (fun (_:Nat)=>(0:Int)) 0 z1 (0+5))]=nL n/\(↑l.length:Int)=(↑m:Int)/\m<=6/\bif y.beq y then
 bif roomB (y+1) (24) then
 bif inK .i64 ((↑y:Int)+(1:Int)) then
 X .normal [VV.sl 20 (y+1),I ((↑y:Int)+(1:Int)),I (↑Y:Int),VV.slice (.fa (7+2) 0 0) Y Y,I (↑2:Int),I (↑4:Int),VV.slice (.own 5 0) 4 4,VV.sl 17 2,I 0,VV.nils,VV.ptr (.own 1 0),VV.ptr (.own 0 0),VV.tl l.length 5 (stG l),VV.agg [VV.tl t.T.length 1 (dG t.T),I t.far,I t.least],VV.tl P.length 1 (pthG P)] [VB.vec (y+1) (catG y g (oneL 1 [VV.tl m 1 (chG n)])) (1) 23,VB.vec 2 gO 1 26,VB.cells [sFa 7 Y,sFa 8 Y,sFa 9 Y,sFa 10 Y] 76,VB.fam [] (Y*6) (M 0) 80,VB.fam [] (Y*6) (M 1) 80,VB.fam [] (Y*6) (M 2) 80,VB.fam [] (Y*6) (M 3) 80]
 else False
 else False
 else False
 else False
 else False
 else X (.exit 5) [VV.sl 20 y,I (↑y:Int),I (↑Y:Int),VV.slice (.fa (7+2) 0 0) Y Y,I (↑2:Int),I (↑4:Int),VV.slice (.own 5 0) 4 4,VV.sl 17 2,I 0,VV.nils,VV.ptr (.own 1 0),VV.ptr (.own 0 0),VV.tl l.length 5 (stG l),VV.agg [VV.tl t.T.length 1 (dG t.T),I t.far,I t.least],VV.tl P.length 1 (pthG P)] [VB.vec y g 1 23,VB.vec 2 gO 1 26,VB.cells [sFa 7 Y,sFa 8 Y,sFa 9 Y,sFa 10 Y] 76,VB.fam [] (Y*6) (M 0) 80,VB.fam [] (Y*6) (M 1) 80,VB.fam [] (Y*6) (M 2) 80,VB.fam [] (Y*6) (M 3) 80])):=by kernel_rfl
theorem cp43_ev (l:List Stk) (t:Tst) (P:List (List Int)) (Y y:Nat) (M:Mde) (g gO:Nat->List VV) (X:VEx->List VV->List VB->Prop):codeE Try.prog (callN Try.prog (tabS [listT]) noL 10 20) (fun _=>none) true 10 (ntOf Try.prog 17) 0 (loopB 5 (bodyOf Try.prog 17)) ((18::dsPl).zip (.sl 22 y::VPl l t P Y 4 3 (.sl 17 3) y)) ⟨23,(22::(17::nsPl4)).zip (.vec y g 1 23::(.vec 3 gO 1 26::BPl4 Y M))⟩ (obs 23 (18::dsPl) (22::(17::nsPl4)) X) =
 (let z1:=[M 3 (0+(↑y:Int).toNat*(6)+0),M 3 (0+(↑y:Int).toNat*(6)+1),M 3 (0+(↑y:Int).toNat*(6)+2),M 3 (0+(↑y:Int).toNat*(6)+3),M 3 (0+(↑y:Int).toNat*(6)+4),M 3 (0+(↑y:Int).toNat*(6)+5)];
 (bif decide ((↑y:Int)<(↑Y:Int)) then
 bif decide ((0:Int)<=(↑y:Int)/\(↑y:Int)<(↑Y:Int)) then
 bif decide (0+(↑y:Int).toNat*(6)+(6)<=Y*6) then
 ∃ (n:Nat->Int),∃ (m:Nat),[I (setF (fun (_:Nat)=>(0:Int)) 0 z1 (0+0)),I (setF (fun (_:Nat)=>(0:Int)) 0 z1 (0+1)),I (setF (fun (_:Nat)=>(0:Int)) 0 z1 (0+2)),I (setF (fun (_:Nat)=>(0:Int)) 0 z1 (0+3)),I (setF (fun (_:Nat)=>(0:Int)) 0 z1 (0+4)),I (setF (fun (_:Nat)=>(0:Int)) 0 z1 (0+5))]=nL n/\(↑l.length:Int)=(↑m:Int)/\m<=6/\bif y.beq y then
 bif roomB (y+1) (24) then
 bif inK .i64 ((↑y:Int)+(1:Int)) then
 X .normal [VV.sl 22 (y+1),I ((↑y:Int)+(1:Int)),I (↑Y:Int),VV.slice (.fa (7+3) 0 0) Y Y,I (↑3:Int),I (↑4:Int),VV.slice (.own 5 0) 4 4,VV.sl 17 3,I 0,VV.nils,VV.ptr (.own 1 0),VV.ptr (.own 0 0),VV.tl l.length 5 (stG l),VV.agg [VV.tl t.T.length 1 (dG t.T),I t.far,I t.least],VV.tl P.length 1 (pthG P)] [VB.vec (y+1) (catG y g (oneL 1 [VV.tl m 1 (chG n)])) (1) 23,VB.vec 3 gO 1 26,VB.cells [sFa 7 Y,sFa 8 Y,sFa 9 Y,sFa 10 Y] 76,VB.fam [] (Y*6) (M 0) 80,VB.fam [] (Y*6) (M 1) 80,VB.fam [] (Y*6) (M 2) 80,VB.fam [] (Y*6) (M 3) 80]
 else False
 else False
 else False
 else False
 else False
 else X (.exit 5) [VV.sl 22 y,I (↑y:Int),I (↑Y:Int),VV.slice (.fa (7+3) 0 0) Y Y,I (↑3:Int),I (↑4:Int),VV.slice (.own 5 0) 4 4,VV.sl 17 3,I 0,VV.nils,VV.ptr (.own 1 0),VV.ptr (.own 0 0),VV.tl l.length 5 (stG l),VV.agg [VV.tl t.T.length 1 (dG t.T),I t.far,I t.least],VV.tl P.length 1 (pthG P)] [VB.vec y g 1 23,VB.vec 3 gO 1 26,VB.cells [sFa 7 Y,sFa 8 Y,sFa 9 Y,sFa 10 Y] 76,VB.fam [] (Y*6) (M 0) 80,VB.fam [] (Y*6) (M 1) 80,VB.fam [] (Y*6) (M 2) 80,VB.fam [] (Y*6) (M 3) 80])):=by kernel_rfl
def hpn4_1 (D0:List Int) (D1:List Int) (D2:List Int) (D3:List Int) (t:Tst):VH:=VH.mk (2) [(1,VB.cells [VV.tl [D0,D1,D2,D3].length 1 (pthG [D0,D1,D2,D3])] 26),(0,VB.cells [VV.tl t.T.length 1 (dG t.T),I t.far,I t.least] 25)]
def hpn4_2 (D0:List Int) (D1:List Int) (D2:List Int) (D3:List Int) (l:List Stk) (t:Tst):VH:=let z1:=(↑([D0,D1,D2,D3].getD (Int.toNat (0:Int)) []).length:Int); VH.mk (15) ((13,VB.cells [VV.func 44 [] [VV.ptr (.own (4) 0),VV.ptr (.own (12) 0),VV.ptr (.own (1) 0),VV.ptr (.own (14) 0)]] 78)::(14,VB.cells [VV.func 40 [] [VV.ptr (.own (3) 0),VV.ptr (.own (13) 0),VV.ptr (.own (1) 0),VV.ptr (.own (6) 0)]] 88)::(14,VB.cells [VV.nilf] 88)::(13,VB.cells [VV.nilf] 78)::(12,VB.cells [VV.mp (11)] 77)::(12,VB.cells [VV.opq (Value.map none)] 77)::(11,VB.map ([PK.int IntKind.i64] ++ ([PK.int IntKind.i64] ++ ((List.replicate 6 [PK.int IntKind.i64]).flatten ++ []))) PK.bool [])::(5,VB.cells [VV.slice (.fa (7) 0 0) z1.toNat z1.toNat,VV.slice (.fa (8) 0 0) z1.toNat z1.toNat,VV.slice (.fa (9) 0 0) z1.toNat z1.toNat,VV.slice (.fa (10) 0 0) z1.toNat z1.toNat] 76)::([(10,VB.fam [] (z1.toNat*(6)) (fun (_:Nat)=>(0:Int)) 80)] ++ (5,VB.cells [VV.slice (.fa (7) 0 0) z1.toNat z1.toNat,VV.slice (.fa (8) 0 0) z1.toNat z1.toNat,VV.slice (.fa (9) 0 0) z1.toNat z1.toNat,VV.nils] 76)::([(9,VB.fam [] (z1.toNat*(6)) (fun (_:Nat)=>(0:Int)) 80)] ++ (5,VB.cells [VV.slice (.fa (7) 0 0) z1.toNat z1.toNat,VV.slice (.fa (8) 0 0) z1.toNat z1.toNat,VV.nils,VV.nils] 76)::([(8,VB.fam [] (z1.toNat*(6)) (fun (_:Nat)=>(0:Int)) 80)] ++ (5,VB.cells [VV.slice (.fa (7) 0 0) z1.toNat z1.toNat,VV.nils,VV.nils,VV.nils] 76)::([(7,VB.fam [] (z1.toNat*(6)) (fun (_:Nat)=>(0:Int)) 80)] ++ [(6,VB.cells [VV.slice (.own (5) 0) (4) (4)] 75),(6,VB.cells [VV.nils] 75),(5,VB.cells [VV.nils,VV.nils,VV.nils,VV.nils] 76),(4,VB.cells [I z1] 3),(4,VB.cells [I 0] 3),(3,VB.cells [VV.ptr (.own (2) 0)] 72),(3,VB.cells [VV.nilp] 72),(2,VB.cells (stD l::tsL t) 74),(1,VB.cells [VV.tl [D0,D1,D2,D3].length 1 (pthG [D0,D1,D2,D3])] 26),(0,VB.cells [VV.tl t.T.length 1 (dG t.T),I t.far,I t.least] 25)])))))
def hpn4_3 (D0:List Int) (D1:List Int) (D2:List Int) (D3:List Int) (l:List Stk) (s:St) (t:Tst):VH:=let z1:=(↑([D0,D1,D2,D3].getD (Int.toNat (0:Int)) []).length:Int); VH.mk (15) [(7,VB.fam [] (D0.length*6) (s.M 0) 80),(8,VB.fam [] (D0.length*6) (s.M 1) 80),(9,VB.fam [] (D0.length*6) (s.M 2) 80),(10,VB.fam [] (D0.length*6) (s.M 3) 80),(11,VB.map kS PK.bool s.es),(13,VB.cells [VV.func 44 [] [VV.ptr (.own (4) 0),VV.ptr (.own (12) 0),VV.ptr (.own (1) 0),VV.ptr (.own (14) 0)]] 78),(14,VB.cells [VV.func 40 [] [VV.ptr (.own (3) 0),VV.ptr (.own (13) 0),VV.ptr (.own (1) 0),VV.ptr (.own (6) 0)]] 88),(14,VB.cells [VV.nilf] 88),(13,VB.cells [VV.nilf] 78),(12,VB.cells [VV.mp (11)] 77),(12,VB.cells [VV.opq (Value.map none)] 77),(11,VB.map kS PK.bool []),(5,VB.cells [VV.slice (.fa (7) 0 0) z1.toNat z1.toNat,VV.slice (.fa (8) 0 0) z1.toNat z1.toNat,VV.slice (.fa (9) 0 0) z1.toNat z1.toNat,VV.slice (.fa (10) 0 0) z1.toNat z1.toNat] 76),(10,VB.fam [] (z1.toNat*(6)) (fun (_:Nat)=>(0:Int)) 80),(5,VB.cells [VV.slice (.fa (7) 0 0) z1.toNat z1.toNat,VV.slice (.fa (8) 0 0) z1.toNat z1.toNat,VV.slice (.fa (9) 0 0) z1.toNat z1.toNat,VV.nils] 76),(9,VB.fam [] (z1.toNat*(6)) (fun (_:Nat)=>(0:Int)) 80),(5,VB.cells [VV.slice (.fa (7) 0 0) z1.toNat z1.toNat,VV.slice (.fa (8) 0 0) z1.toNat z1.toNat,VV.nils,VV.nils] 76),(8,VB.fam [] (z1.toNat*(6)) (fun (_:Nat)=>(0:Int)) 80),(5,VB.cells [VV.slice (.fa (7) 0 0) z1.toNat z1.toNat,VV.nils,VV.nils,VV.nils] 76),(7,VB.fam [] (z1.toNat*(6)) (fun (_:Nat)=>(0:Int)) 80),(6,VB.cells [VV.slice (.own (5) 0) (4) (4)] 75),(6,VB.cells [VV.nils] 75),(5,VB.cells [VV.nils,VV.nils,VV.nils,VV.nils] 76),(4,VB.cells [I z1] 3),(4,VB.cells [I 0] 3),(3,VB.cells [VV.ptr (.own (2) 0)] 72),(3,VB.cells [VV.nilp] 72),(2,VB.cells (stD l::tsL t) 74),(1,VB.cells [VV.tl [D0,D1,D2,D3].length 1 (pthG [D0,D1,D2,D3])] 26),(0,VB.cells [VV.tl t.T.length 1 (dG t.T),I t.far,I t.least] 25)]
def hpn4_4 (D0:List Int) (D1:List Int) (D2:List Int) (D3:List Int) (l:List Stk) (s:St) (t:Tst):VH:=let z1:=(↑([D0,D1,D2,D3].getD (Int.toNat (0:Int)) []).length:Int); VH.mk (15) ((7,VB.fam [] (D0.length*6) (s.M 0) 80)::(8,VB.fam [] (D0.length*6) (s.M 1) 80)::(9,VB.fam [] (D0.length*6) (s.M 2) 80)::(10,VB.fam [] (D0.length*6) (s.M 3) 80)::(11,VB.map kS PK.bool s.es)::(13,VB.cells [VV.func 44 [] [VV.ptr (.own (4) 0),VV.ptr (.own (12) 0),VV.ptr (.own (1) 0),VV.ptr (.own (14) 0)]] 78)::(14,VB.cells [VV.func 40 [] [VV.ptr (.own (3) 0),VV.ptr (.own (13) 0),VV.ptr (.own (1) 0),VV.ptr (.own (6) 0)]] 88)::(14,VB.cells [VV.nilf] 88)::(13,VB.cells [VV.nilf] 78)::(12,VB.cells [VV.mp (11)] 77)::(12,VB.cells [VV.opq (Value.map none)] 77)::(11,VB.map ([PK.int IntKind.i64] ++ ([PK.int IntKind.i64] ++ ((List.replicate 6 [PK.int IntKind.i64]).flatten ++ []))) PK.bool [])::(5,VB.cells [VV.slice (.fa (7) 0 0) z1.toNat z1.toNat,VV.slice (.fa (8) 0 0) z1.toNat z1.toNat,VV.slice (.fa (9) 0 0) z1.toNat z1.toNat,VV.slice (.fa (10) 0 0) z1.toNat z1.toNat] 76)::([(10,VB.fam [] (z1.toNat*(6)) (fun (_:Nat)=>(0:Int)) 80)] ++ (5,VB.cells [VV.slice (.fa (7) 0 0) z1.toNat z1.toNat,VV.slice (.fa (8) 0 0) z1.toNat z1.toNat,VV.slice (.fa (9) 0 0) z1.toNat z1.toNat,VV.nils] 76)::([(9,VB.fam [] (z1.toNat*(6)) (fun (_:Nat)=>(0:Int)) 80)] ++ (5,VB.cells [VV.slice (.fa (7) 0 0) z1.toNat z1.toNat,VV.slice (.fa (8) 0 0) z1.toNat z1.toNat,VV.nils,VV.nils] 76)::([(8,VB.fam [] (z1.toNat*(6)) (fun (_:Nat)=>(0:Int)) 80)] ++ (5,VB.cells [VV.slice (.fa (7) 0 0) z1.toNat z1.toNat,VV.nils,VV.nils,VV.nils] 76)::([(7,VB.fam [] (z1.toNat*(6)) (fun (_:Nat)=>(0:Int)) 80)] ++ [(6,VB.cells [VV.slice (.own (5) 0) (4) (4)] 75),(6,VB.cells [VV.nils] 75),(5,VB.cells [VV.nils,VV.nils,VV.nils,VV.nils] 76),(4,VB.cells [I z1] 3),(4,VB.cells [I 0] 3),(3,VB.cells [VV.ptr (.own (2) 0)] 72),(3,VB.cells [VV.nilp] 72),(2,VB.cells (stD l::tsL t) 74),(1,VB.cells [VV.tl [D0,D1,D2,D3].length 1 (pthG [D0,D1,D2,D3])] 26),(0,VB.cells [VV.tl t.T.length 1 (dG t.T),I t.far,I t.least] 25)])))))
def hpn4_5 (D0:List Int) (M:Mde) (l:List Stk):VH:=VH.mk (18) ((17,VB.vec 1 ((oneL 1 [VV.tl D0.length 1 (rowG l.length M 0)])) (1) 26)::(16,VB.vec 1 ((oneL 1 [VV.tl D0.length 1 (rowG l.length M 0)])) (1) 26)::(15,VB.gone)::(15::nsPl4).zip (VB.vec D0.length (rowG l.length M 0) 1 23::BPl4 D0.length M))
theorem pq4_ev (l:List Stk) (t:Tst) (D0 D1 D2 D3:List Int) (Q:VRes->VH->Prop):callN Try.prog (tabS [asR l t,casksR l t,apR [D0,D1,D2,D3],findR4 l t [D0,D1,D2,D3] D0.length D0.length,listT]) (atF 17 [(5,lCp4 l t [D0,D1,D2,D3] D0.length)]) 10 20 0 (.fn 17) [stD l,.agg (tsL t),pthD [D0,D1,D2,D3]] ⟨0,[]⟩ (fun r h=>Q r h) =
 (let z2:=([D0,D1,D2,D3].getD (Int.toNat (0:Int)) []);
 let z1:=(↑z2.length:Int);
 let z3:=((0:Int)+(1:Int)+(1:Int)+(1:Int));
 (isD (hpn4_1 D0 D1 D2 D3 t) 2 (VV.tl l.length 5 (stG l)) (stD l)/\isD (hpn4_1 D0 D1 D2 D3 t) 2 (VV.agg [VV.tl t.T.length 1 (dG t.T),I t.far,I t.least]) (VV.agg (tsL t))/\bif !okAll l t then
 Q (.ret (.tup [VV.nils,I 1])) (hpn4_1 D0 D1 D2 D3 t)
 else isD (hpn4_1 D0 D1 D2 D3 t) 4 (VV.tl [D0,D1,D2,D3].length 1 (pthG [D0,D1,D2,D3])) (pthD [D0,D1,D2,D3])/\pthB [D0,D1,D2,D3]/\bif !okPaths [D0,D1,D2,D3] then
 Q (.ret (.tup [VV.nils,I 2])) (hpn4_1 D0 D1 D2 D3 t)
 else bif decide ((0:Int)<=z1/\z1=z1) then
 bif roomB z1.toNat (48) then
 bif decide ((0:Int)<=z1/\z1=z1) then
 bif roomB z1.toNat (48) then
 bif decide ((0:Int)<=z1/\z1=z1) then
 bif roomB z1.toNat (48) then
 bif decide ((0:Int)<=z1/\z1=z1) then
 bif roomB z1.toNat (48) then
 isD (maskH [0,1,2,3,4,5,6,7,8,9,10,11,12,13,14] (hpn4_2 D0 D1 D2 D3 l t)) 4 (VV.ptr (.own (2) 0)) (VV.tp (stD l::tsL t))/\l.length<=6/\∃ (S':Nat),∃ (a:Nat->Int),∃ (M:Mde),∃ (es:Lst),(VV.ptr (.own 4 0)=VV.ptr (.own 4 0)/\VV.ptr (.own 12 0)=VV.ptr (.own 12 0)/\VV.ptr (.own 1 0)=VV.ptr (.own 1 0)/\VV.ptr (.own 14 0)=VV.ptr (.own 14 0))/\(0=0/\15<=15)/\atL nsB4 (BP4 l t [D0,D1,D2,D3] D0.length M es) (hpn4_2 D0 D1 D2 D3 l t)/\((0:Int)=(↑D0.length:Int) - (↑D0.length:Int)/\(1:Int)*(2:Int) ^ min (↑[D0,D1,D2,D3].length:Int).toNat IntKind.i64.bits - (1:Int)=(↑S':Int)/\[I (mostF l 0),I (mostF l 1),I (mostF l 2),I (mostF l 3),I (mostF l 4),I (mostF l 5)]=nL a)/\PreF l t [D0,D1,D2,D3] D0.length D0.length S' a es/\∀ (b:Bool) (s:St),PostF l t [D0,D1,D2,D3] D0.length D0.length S' a M b s->bif !b then
 Q (.ret (.tup [VV.nils,I 4])) (hpn4_3 D0 D1 D2 D3 l s t)
 else ∃ (M:Mde),FitP 0 (hpn4_4 D0 D1 D2 D3 l s t) [(73,I 0),(72,I (↑z1.toNat:Int)),(71,VV.slice (.fa (7) 0 0) z1.toNat z1.toNat),(18,VV.nils),(17,VV.slice (.fa (7) 0 0) z1.toNat z1.toNat),(70,VV.slice (.fa (7) 0 0) z1.toNat z1.toNat),(69,VV.ptr (.own (5) 0)),(68,VV.bool true),(68,VV.bool (decide ((0:Int)<(↑(4):Int)))),(67,I 0),(66,I (↑(4):Int)),(65,VV.slice (.own (5) 0) (4) (4)),(15,VV.nils),(64,VV.bool false),(64,VV.bool !b),(63,VV.bool b),(62,VV.agg [I 0,I ((1:Int)*(2:Int) ^ min (↑[D0,D1,D2,D3].length:Int).toNat IntKind.i64.bits - (1:Int)),I (mostF l 0),I (mostF l 1),I (mostF l 2),I (mostF l 3),I (mostF l 4),I (mostF l 5)]),(61,VV.agg (nL (mostF l))),(60,VV.ptr (.own (2) 0)),(59,I ((1:Int)*(2:Int) ^ min (↑[D0,D1,D2,D3].length:Int).toNat IntKind.i64.bits - (1:Int))),(58,I ((1:Int)*(2:Int) ^ min (↑[D0,D1,D2,D3].length:Int).toNat IntKind.i64.bits)),(57,I (↑[D0,D1,D2,D3].length:Int)),(56,VV.tl [D0,D1,D2,D3].length 1 (pthG [D0,D1,D2,D3])),(55,VV.func 44 [] [VV.ptr (.own (4) 0),VV.ptr (.own (12) 0),VV.ptr (.own (1) 0),VV.ptr (.own (14) 0)]),(54,VV.func 44 [] [VV.ptr (.own (4) 0),VV.ptr (.own (12) 0),VV.ptr (.own (1) 0),VV.ptr (.own (14) 0)]),(14,VV.ptr (.own (14) 0)),(53,VV.func 40 [] [VV.ptr (.own (3) 0),VV.ptr (.own (13) 0),VV.ptr (.own (1) 0),VV.ptr (.own (6) 0)]),(13,VV.ptr (.own (13) 0)),(12,VV.ptr (.own (12) 0)),(52,VV.mp (11)),(44,VV.bool false),(44,VV.bool (decide ((0:Int)+(1:Int)+(1:Int)+(1:Int)+(1:Int)<(↑(4):Int)))),(43,I ((0:Int)+(1:Int)+(1:Int)+(1:Int)+(1:Int))),(51,I ((0:Int)+(1:Int)+(1:Int)+(1:Int)+(1:Int))),(50,VV.ptr (.own (5) (3))),(49,VV.slice (.fa (10) 0 0) z1.toNat z1.toNat),(48,I z1),(47,I z3),(46,VV.slice (.own (5) 0) (4) (4)),(11,I z3),(45,I z3),(44,VV.bool true),(44,VV.bool (decide ((0:Int)+(1:Int)+(1:Int)+(1:Int)<(↑(4):Int)))),(43,I z3),(51,I z3),(50,VV.ptr (.own (5) (2))),(49,VV.slice (.fa (9) 0 0) z1.toNat z1.toNat),(48,I z1),(47,I ((0:Int)+(1:Int)+(1:Int))),(46,VV.slice (.own (5) 0) (4) (4)),(11,I ((0:Int)+(1:Int)+(1:Int))),(45,I ((0:Int)+(1:Int)+(1:Int))),(44,VV.bool true),(44,VV.bool (decide ((0:Int)+(1:Int)+(1:Int)<(↑(4):Int)))),(43,I ((0:Int)+(1:Int)+(1:Int))),(51,I ((0:Int)+(1:Int)+(1:Int))),(50,VV.ptr (.own (5) (1))),(49,VV.slice (.fa (8) 0 0) z1.toNat z1.toNat),(48,I z1),(47,I ((0:Int)+(1:Int))),(46,VV.slice (.own (5) 0) (4) (4)),(11,I ((0:Int)+(1:Int))),(45,I ((0:Int)+(1:Int))),(44,VV.bool true),(44,VV.bool (decide ((0:Int)+(1:Int)<(↑(4):Int)))),(43,I ((0:Int)+(1:Int))),(51,I ((0:Int)+(1:Int))),(50,VV.ptr (.own (5) 0)),(49,VV.slice (.fa (7) 0 0) z1.toNat z1.toNat),(48,I z1),(47,I 0),(46,VV.slice (.own (5) 0) (4) (4)),(11,I 0),(45,I 0),(44,VV.bool true),(44,VV.bool (decide ((0:Int)<(↑(4):Int)))),(43,I 0),(42,I (↑(4):Int)),(41,VV.slice (.own (5) 0) (4) (4)),(10,VV.ptr (.own (6) 0)),(40,VV.slice (.own (5) 0) (4) (4)),(39,I (↑[D0,D1,D2,D3].length:Int)),(38,VV.tl [D0,D1,D2,D3].length 1 (pthG [D0,D1,D2,D3])),(9,VV.ptr (.own (4) 0)),(37,I z1),(36,VV.tl z2.length 1 (dG z2)),(35,VV.tp [VV.tl z2.length 1 (dG z2)]),(34,VV.tl [D0,D1,D2,D3].length 1 (pthG [D0,D1,D2,D3])),(8,VV.ptr (.own (3) 0)),(33,VV.ptr (.own (2) 0)),(32,VV.agg (stD l::tsL t)),(31,VV.agg [VV.tl t.T.length 1 (dG t.T),I t.far,I t.least]),(30,VV.tl l.length 5 (stG l)),(26,VV.bool false),(26,VV.bool !okPaths [D0,D1,D2,D3]),(29,VV.bool !okPaths [D0,D1,D2,D3]),(28,VV.bool (okPaths [D0,D1,D2,D3])),(27,VV.tl [D0,D1,D2,D3].length 1 (pthG [D0,D1,D2,D3])),(21,VV.bool false),(21,VV.bool !okAll l t),(25,VV.bool !okAll l t),(24,VV.bool (okAll l t)),(23,VV.agg [VV.tl t.T.length 1 (dG t.T),I t.far,I t.least]),(22,VV.tl l.length 5 (stG l)),(7,I 0),(6,VV.nils),(5,VV.ptr (.own (1) 0)),(4,VV.ptr (.own 0 0)),(0,stD l),(1,VV.agg (tsL t)),(2,pthD [D0,D1,D2,D3])] (VH.mk 15 (nsPl4.zip (BPl4 D0.length M))) ((18,VV.nils)::dsPl.zip (VPl l t [D0,D1,D2,D3] D0.length 4 0 VV.nils 0))/\∃ (M_1:Mde),∃ (gO:Nat->List VV),FitP 0 (hpn4_5 D0 M l) ((73,I 0)::(72,I (↑D0.length:Int))::(71,VV.slice (.fa 8 0 0) D0.length D0.length)::(18,VV.nils)::(17,VV.slice (.fa 8 0 0) D0.length D0.length)::(70,VV.slice (.fa 8 0 0) D0.length D0.length)::(69,VV.ptr (.own 5 (1)))::(68,VV.bool true)::(68,VV.bool (decide ((↑0:Int)+(1:Int)<(↑4:Int))))::(67,I ((↑0:Int)+(1:Int)))::(89,I ((↑0:Int)+(1:Int)))::(15,VV.sl (17) 1)::(88,VV.sl (17) 1)::(87,VV.sl (16) 1)::(86,VV.tl D0.length 1 (rowG l.length M 0))::(85,VV.nils)::(18,VV.tl D0.length 1 (rowG l.length M 0))::(18::dsPl).zip (VV.sl 15 D0.length::VPl l t [D0,D1,D2,D3] D0.length 4 0 VV.nils D0.length)) (VH.mk 18 ((17::nsPl4).zip (VB.vec 1 gO 1 26::BPl4 D0.length M_1))) ((18,VV.nils)::dsPl.zip (VPl l t [D0,D1,D2,D3] D0.length 4 1 (VV.sl 17 1) 0))/\∃ (M:Mde),∃ (gO_1:Nat->List VV),FitP 0 (VH.mk (20) ((17,VB.vec (1+1) (catG 1 gO (oneL 1 [VV.tl D0.length 1 (rowG l.length M_1 1)])) (1) 26)::(19,VB.vec 1 ((oneL 1 [VV.tl D0.length 1 (rowG l.length M_1 1)])) (1) 26)::(18,VB.gone)::(18::17::nsPl4).zip (VB.vec D0.length (rowG l.length M_1 1) 1 23::VB.vec 1 gO 1 26::BPl4 D0.length M_1))) ((73,I 0)::(72,I (↑D0.length:Int))::(71,VV.slice (.fa 9 0 0) D0.length D0.length)::(18,VV.nils)::(17,VV.slice (.fa 9 0 0) D0.length D0.length)::(70,VV.slice (.fa 9 0 0) D0.length D0.length)::(69,VV.ptr (.own 5 (2)))::(68,VV.bool true)::(68,VV.bool (decide ((↑1:Int)+(1:Int)<(↑4:Int))))::(67,I ((↑1:Int)+(1:Int)))::(89,I ((↑1:Int)+(1:Int)))::(15,VV.sl 17 (1+1))::(88,VV.sl 17 (1+1))::(87,VV.sl (19) 1)::(86,VV.tl D0.length 1 (rowG l.length M_1 1))::(85,VV.sl 17 1)::(18,VV.tl D0.length 1 (rowG l.length M_1 1))::(18::dsPl).zip (VV.sl 18 D0.length::VPl l t [D0,D1,D2,D3] D0.length 4 1 (VV.sl 17 1) D0.length)) (VH.mk 20 ((17::nsPl4).zip (VB.vec 2 gO_1 1 26::BPl4 D0.length M))) ((18,VV.nils)::dsPl.zip (VPl l t [D0,D1,D2,D3] D0.length 4 2 (VV.sl 17 2) 0))/\∃ (M_2:Mde),∃ (gO:Nat->List VV),FitP 0 (VH.mk (22) ((17,VB.vec (2+1) (catG 2 gO_1 (oneL 1 [VV.tl D0.length 1 (rowG l.length M 2)])) (1) 26)::(21,VB.vec 1 ((oneL 1 [VV.tl D0.length 1 (rowG l.length M 2)])) (1) 26)::(20,VB.gone)::(20::17::nsPl4).zip (VB.vec D0.length (rowG l.length M 2) 1 23::VB.vec 2 gO_1 1 26::BPl4 D0.length M))) ((73,I 0)::(72,I (↑D0.length:Int))::(71,VV.slice (.fa 10 0 0) D0.length D0.length)::(18,VV.nils)::(17,VV.slice (.fa 10 0 0) D0.length D0.length)::(70,VV.slice (.fa 10 0 0) D0.length D0.length)::(69,VV.ptr (.own 5 (3)))::(68,VV.bool true)::(68,VV.bool (decide ((↑2:Int)+(1:Int)<(↑4:Int))))::(67,I ((↑2:Int)+(1:Int)))::(89,I ((↑2:Int)+(1:Int)))::(15,VV.sl 17 (2+1))::(88,VV.sl 17 (2+1))::(87,VV.sl (21) 1)::(86,VV.tl D0.length 1 (rowG l.length M 2))::(85,VV.sl 17 2)::(18,VV.tl D0.length 1 (rowG l.length M 2))::(18::dsPl).zip (VV.sl 20 D0.length::VPl l t [D0,D1,D2,D3] D0.length 4 2 (VV.sl 17 2) D0.length)) (VH.mk 22 ((17::nsPl4).zip (VB.vec 3 gO 1 26::BPl4 D0.length M_2))) ((18,VV.nils)::dsPl.zip (VPl l t [D0,D1,D2,D3] D0.length 4 3 (VV.sl 17 3) 0))/\Q (.ret (.tup [VV.sl 17 (3+1),I 0])) (VH.mk (24) [(17,VB.vec (3+1) (catG 3 gO (oneL 1 [VV.tl D0.length 1 (rowG l.length M_2 3)])) (1) 26),(23,VB.vec 1 ((oneL 1 [VV.tl D0.length 1 (rowG l.length M_2 3)])) (1) 26),(22,VB.gone),(22,VB.vec D0.length (rowG l.length M_2 3) 1 23),(17,VB.vec 3 gO 1 26),(5,VB.cells [VV.slice (.fa 7 0 0) D0.length D0.length,VV.slice (.fa 8 0 0) D0.length D0.length,VV.slice (.fa 9 0 0) D0.length D0.length,VV.slice (.fa 10 0 0) D0.length D0.length] 76),(7,VB.fam [] (D0.length*6) (M_2 0) 80),(8,VB.fam [] (D0.length*6) (M_2 1) 80),(9,VB.fam [] (D0.length*6) (M_2 2) 80),(10,VB.fam [] (D0.length*6) (M_2 3) 80)])
 else False
 else False
 else False
 else False
 else False
 else False
 else False
 else False)):=by kernel_rfl
section
variable {l:List Stk} {t:Tst} {P:List (List Int)} {Y:Nat}
theorem cpr40 {M:Mde} (hY:Y<=4) (hl6:l.length<=6):LSound Try.prog true (.block 5 (.loop (loopB 5 (bodyOf Try.prog 17)))) (ntOf Try.prog 17) (fun lock tt h K=>FitP lock h tt ⟨15,nsPl4.zip (BPl4 Y M)⟩ ((18,.nils)::dsPl.zip (VPl l t P Y 4 0 .nils 0))/\K .normal ((18,.tl Y 1 (rowG l.length M 0))::(18::dsPl).zip (.sl 15 Y::VPl l t P Y 4 0 .nils Y)) ⟨16,(15,.gone)::(15::nsPl4).zip (.vec Y (rowG l.length M 0) 1 23::(BPl4 Y M))⟩):=by
 refine copy_row (n:=15) (ns:=nsPl4) (BL:=(BPl4 Y M)) rfl ?_ rfl
 refine loop_row hmix (noL_good (tab1 listT_ok)) (un:=10) (ds:=18::dsPl) (ns:=15::nsPl4) (nx:=16) (fun y:Nat=>.sl 15 y::VPl l t P Y 4 0 .nils y) (fun y=>.vec y (rowG l.length M 0) 1 23::(BPl4 Y M)) (fun y=>y<=Y) (fun y=>Y - y) (fun _ ex vs bs=>ex=.exit 5/\bs=.vec Y (rowG l.length M 0) 1 23::(BPl4 Y M)/\vs=.sl 15 Y::VPl l t P Y 4 0 .nils Y) noL_ok ?_ ?_
 ·rintro y h0
  refine cast (cp40_ev l t P Y y M _ _).symm ?_
  refine cond_d (fun hy=>cond_dk ⟨by omega,by omega⟩ (cond_dk (by omega) ⟨fun j=>M 0 (y*6+j),l.length,g6_row,rfl,hl6,cond_k (Nat.beq_refl _) (cond_k (roomC y (by omega)) (cond_r (by omega) ⟨y+1,by show y+1<=Y; omega,by dsimp only; omega,rfl,⟨⟨rfl,rfl,rfl,fun j hj=>cat_row hj⟩,fitBs_refl _⟩,fun _ _ _ h=>h⟩))⟩)) (fun hy=>?_)
  obtain rfl:y=Y:=by omega
  exact ⟨rfl,rfl,rfl⟩
 ·rintro lock tt h K ⟨hf,k1⟩
  refine ⟨0,hf,Nat.zero_le _,?_⟩
  rintro ex vs bs ⟨rfl,rfl,rfl⟩
  exact k1
theorem cpr41 {M:Mde} {gO:Nat->List VV} (hY:Y<=4) (hl6:l.length<=6):LSound Try.prog true (.block 5 (.loop (loopB 5 (bodyOf Try.prog 17)))) (ntOf Try.prog 17) (fun lock tt h K=>FitP lock h tt ⟨18,(17::nsPl4).zip (.vec 1 gO 1 26::BPl4 Y M)⟩ ((18,.nils)::dsPl.zip (VPl l t P Y 4 1 (.sl 17 1) 0))/\K .normal ((18,.tl Y 1 (rowG l.length M 1))::(18::dsPl).zip (.sl 18 Y::VPl l t P Y 4 1 (.sl 17 1) Y)) ⟨19,(18,.gone)::(18::(17::nsPl4)).zip (.vec Y (rowG l.length M 1) 1 23::(.vec 1 gO 1 26::BPl4 Y M))⟩):=by
 refine copy_row (n:=18) (ns:=(17::nsPl4)) (BL:=(.vec 1 gO 1 26::BPl4 Y M)) rfl ?_ rfl
 refine loop_row hmix (noL_good (tab1 listT_ok)) (un:=10) (ds:=18::dsPl) (ns:=18::(17::nsPl4)) (nx:=19) (fun y:Nat=>.sl 18 y::VPl l t P Y 4 1 (.sl 17 1) y) (fun y=>.vec y (rowG l.length M 1) 1 23::(.vec 1 gO 1 26::BPl4 Y M)) (fun y=>y<=Y) (fun y=>Y - y) (fun _ ex vs bs=>ex=.exit 5/\bs=.vec Y (rowG l.length M 1) 1 23::(.vec 1 gO 1 26::BPl4 Y M)/\vs=.sl 18 Y::VPl l t P Y 4 1 (.sl 17 1) Y) noL_ok ?_ ?_
 ·rintro y h0
  refine cast (cp41_ev l t P Y y M _ _ _).symm ?_
  refine cond_d (fun hy=>cond_dk ⟨by omega,by omega⟩ (cond_dk (by omega) ⟨fun j=>M 1 (y*6+j),l.length,g6_row,rfl,hl6,cond_k (Nat.beq_refl _) (cond_k (roomC y (by omega)) (cond_r (by omega) ⟨y+1,by show y+1<=Y; omega,by dsimp only; omega,rfl,⟨⟨rfl,rfl,rfl,fun j hj=>cat_row hj⟩,fitBs_refl _⟩,fun _ _ _ h=>h⟩))⟩)) (fun hy=>?_)
  obtain rfl:y=Y:=by omega
  exact ⟨rfl,rfl,rfl⟩
 ·rintro lock tt h K ⟨hf,k1⟩
  refine ⟨0,hf,Nat.zero_le _,?_⟩
  rintro ex vs bs ⟨rfl,rfl,rfl⟩
  exact k1
theorem cpr42 {M:Mde} {gO:Nat->List VV} (hY:Y<=4) (hl6:l.length<=6):LSound Try.prog true (.block 5 (.loop (loopB 5 (bodyOf Try.prog 17)))) (ntOf Try.prog 17) (fun lock tt h K=>FitP lock h tt ⟨20,(17::nsPl4).zip (.vec 2 gO 1 26::BPl4 Y M)⟩ ((18,.nils)::dsPl.zip (VPl l t P Y 4 2 (.sl 17 2) 0))/\K .normal ((18,.tl Y 1 (rowG l.length M 2))::(18::dsPl).zip (.sl 20 Y::VPl l t P Y 4 2 (.sl 17 2) Y)) ⟨21,(20,.gone)::(20::(17::nsPl4)).zip (.vec Y (rowG l.length M 2) 1 23::(.vec 2 gO 1 26::BPl4 Y M))⟩):=by
 refine copy_row (n:=20) (ns:=(17::nsPl4)) (BL:=(.vec 2 gO 1 26::BPl4 Y M)) rfl ?_ rfl
 refine loop_row hmix (noL_good (tab1 listT_ok)) (un:=10) (ds:=18::dsPl) (ns:=20::(17::nsPl4)) (nx:=21) (fun y:Nat=>.sl 20 y::VPl l t P Y 4 2 (.sl 17 2) y) (fun y=>.vec y (rowG l.length M 2) 1 23::(.vec 2 gO 1 26::BPl4 Y M)) (fun y=>y<=Y) (fun y=>Y - y) (fun _ ex vs bs=>ex=.exit 5/\bs=.vec Y (rowG l.length M 2) 1 23::(.vec 2 gO 1 26::BPl4 Y M)/\vs=.sl 20 Y::VPl l t P Y 4 2 (.sl 17 2) Y) noL_ok ?_ ?_
 ·rintro y h0
  refine cast (cp42_ev l t P Y y M _ _ _).symm ?_
  refine cond_d (fun hy=>cond_dk ⟨by omega,by omega⟩ (cond_dk (by omega) ⟨fun j=>M 2 (y*6+j),l.length,g6_row,rfl,hl6,cond_k (Nat.beq_refl _) (cond_k (roomC y (by omega)) (cond_r (by omega) ⟨y+1,by show y+1<=Y; omega,by dsimp only; omega,rfl,⟨⟨rfl,rfl,rfl,fun j hj=>cat_row hj⟩,fitBs_refl _⟩,fun _ _ _ h=>h⟩))⟩)) (fun hy=>?_)
  obtain rfl:y=Y:=by omega
  exact ⟨rfl,rfl,rfl⟩
 ·rintro lock tt h K ⟨hf,k1⟩
  refine ⟨0,hf,Nat.zero_le _,?_⟩
  rintro ex vs bs ⟨rfl,rfl,rfl⟩
  exact k1
theorem cpr43 {M:Mde} {gO:Nat->List VV} (hY:Y<=4) (hl6:l.length<=6):LSound Try.prog true (.block 5 (.loop (loopB 5 (bodyOf Try.prog 17)))) (ntOf Try.prog 17) (fun lock tt h K=>FitP lock h tt ⟨22,(17::nsPl4).zip (.vec 3 gO 1 26::BPl4 Y M)⟩ ((18,.nils)::dsPl.zip (VPl l t P Y 4 3 (.sl 17 3) 0))/\K .normal ((18,.tl Y 1 (rowG l.length M 3))::(18::dsPl).zip (.sl 22 Y::VPl l t P Y 4 3 (.sl 17 3) Y)) ⟨23,(22,.gone)::(22::(17::nsPl4)).zip (.vec Y (rowG l.length M 3) 1 23::(.vec 3 gO 1 26::BPl4 Y M))⟩):=by
 refine copy_row (n:=22) (ns:=(17::nsPl4)) (BL:=(.vec 3 gO 1 26::BPl4 Y M)) rfl ?_ rfl
 refine loop_row hmix (noL_good (tab1 listT_ok)) (un:=10) (ds:=18::dsPl) (ns:=22::(17::nsPl4)) (nx:=23) (fun y:Nat=>.sl 22 y::VPl l t P Y 4 3 (.sl 17 3) y) (fun y=>.vec y (rowG l.length M 3) 1 23::(.vec 3 gO 1 26::BPl4 Y M)) (fun y=>y<=Y) (fun y=>Y - y) (fun _ ex vs bs=>ex=.exit 5/\bs=.vec Y (rowG l.length M 3) 1 23::(.vec 3 gO 1 26::BPl4 Y M)/\vs=.sl 22 Y::VPl l t P Y 4 3 (.sl 17 3) Y) noL_ok ?_ ?_
 ·rintro y h0
  refine cast (cp43_ev l t P Y y M _ _ _).symm ?_
  refine cond_d (fun hy=>cond_dk ⟨by omega,by omega⟩ (cond_dk (by omega) ⟨fun j=>M 3 (y*6+j),l.length,g6_row,rfl,hl6,cond_k (Nat.beq_refl _) (cond_k (roomC y (by omega)) (cond_r (by omega) ⟨y+1,by show y+1<=Y; omega,by dsimp only; omega,rfl,⟨⟨rfl,rfl,rfl,fun j hj=>cat_row hj⟩,fitBs_refl _⟩,fun _ _ _ h=>h⟩))⟩)) (fun hy=>?_)
  obtain rfl:y=Y:=by omega
  exact ⟨rfl,rfl,rfl⟩
 ·rintro lock tt h K ⟨hf,k1⟩
  refine ⟨0,hf,Nat.zero_le _,?_⟩
  rintro ex vs bs ⟨rfl,rfl,rfl⟩
  exact k1
theorem lCp4_ok (hY:Y<=4) (hl6:l.length<=6):LSound Try.prog true (.block 5 (.loop (loopB 5 (bodyOf Try.prog 17)))) (ntOf Try.prog 17) (lCp4 l t P Y):=by
 intro lock tt h K hK
 unfold lCp4 at hK
 split at hK
 ·obtain ⟨M,hf,k1⟩:=hK
  exact cpr40 hY hl6 lock tt h K ⟨hf,k1⟩
 ·obtain ⟨M,gO,hf,k1⟩:=hK
  exact cpr41 hY hl6 lock tt h K ⟨hf,k1⟩
 ·obtain ⟨M,gO,hf,k1⟩:=hK
  exact cpr42 hY hl6 lock tt h K ⟨hf,k1⟩
 ·obtain ⟨M,gO,hf,k1⟩:=hK
  exact cpr43 hY hl6 lock tt h K ⟨hf,k1⟩
 ·exact hK.elim
end
theorem plp4 {l:List Stk} {t:Tst} {D0 D1 D2 D3:List Int} (h1:okAll l t=true) (h2:okPaths [D0,D1,D2,D3]=true) (cf:Cfg l t [D0,D1,D2,D3] D0.length) (hpb:pthB [D0,D1,D2,D3]):∃ r h',CallsV Try.prog 17 [stD l,.agg (tsL t),pthD [D0,D1,D2,D3]] ⟨0,[]⟩ r h'/\PlnK l t [D0,D1,D2,D3] D0.length r h':=by
 have hl6:=cf.hl.1
 have hY:=cf.Y4
 have hrm:roomB ((([D0,D1,D2,D3].getD (Int.toNat 0) []).length:Int)).toNat 48=true:=roomY _ hY
 have htab:∀ f T,tabS [asR l t,casksR l t,apR [D0,D1,D2,D3],findR4 l t [D0,D1,D2,D3] D0.length D0.length,listT] f=some T->SpOk Try.prog f T:=tab_ok _ (fun x hx=>by
  simp only [List.mem_cons,List.not_mem_nil,or_false] at hx
  rcases hx with rfl | rfl | rfl | rfl | rfl
  ·exact asR_ok l t
  ·exact casksR_ok l t
  ·exact apR_ok _
  ·exact findR4_ok cf D0.length
  ·exact listT_ok)
 have hall:LoopsOk Try.prog 17 [(5,lCp4 l t [D0,D1,D2,D3] D0.length)]:=fun x hx=>by
  simp only [List.mem_singleton] at hx
  subst hx
  exact ⟨by kernel_rfl,lCp4_ok hY hl6⟩
 obtain ⟨r,h',hk,hc⟩:=of_callN (callL_good hmix htab hall (un:=10) 20) (f:=17) (args:=[stD l,.agg (tsL t),pthD [D0,D1,D2,D3]]) (h:=⟨0,[]⟩) (K:=PlnK l t [D0,D1,D2,D3] D0.length) (by
  refine cast (pq4_ev l t D0 D1 D2 D3 _).symm ⟨isD_l,⟨⟨rfl,rfl,fun _ _=>rfl⟩,⟨rfl,rfl⟩,⟨rfl,rfl⟩,trivial⟩,cond_i (fun h=>by rw [h1] at h; cases h) (fun _=>⟨⟨rfl,rfl,fun _ _=>rfl⟩,hpb,cond_i (fun h=>by rw [h2] at h; cases h) (fun _=>?_)⟩)⟩
  refine cond_dk ⟨by omega,rfl⟩ (cond_k hrm (cond_dk ⟨by omega,rfl⟩ (cond_k hrm (cond_dk ⟨by omega,rfl⟩ (cond_k hrm (cond_dk ⟨by omega,rfl⟩ (cond_k hrm (⟨hc64 rfl,hl6,15,mostF l,fun _ _=>0,[],⟨rfl,rfl,rfl,rfl⟩,⟨rfl,Nat.le_refl _⟩,⟨rfl,rfl,rfl,rfl,rfl,rfl,rfl,rfl,rfl,rfl,rfl,rfl,rfl,rfl,rfl,trivial⟩,⟨by omega,rfl,rfl⟩,⟨Nat.le_refl _,(by show 15<2 ^ 4; decide),most_left cf.hl,lost_nil⟩,?_⟩))))))))
  rintro b s ⟨p1,p2,p3,p4⟩
  refine cond_i (fun g=>?_) (fun g=>?_)
  ·have g:b=false:=by simpa using g
   subst g
   refine .inl ⟨?_,rfl⟩
   cases hx:planF l t [D0,D1,D2,D3] D0.length D0.length 15 (mostF l) with
   | none=>exact hx
   | some x=>rw [hx] at p1; cases p1
  ·have g:b=true:=by simpa using g
   subst g
   obtain ⟨x,hx⟩:∃ x,planF l t [D0,D1,D2,D3] D0.length D0.length 15 (mostF l)=some x:=by
    cases hx:planF l t [D0,D1,D2,D3] D0.length D0.length 15 (mostF l) with
    | none=>rw [hx] at p1; cases p1
    | some x=>exact ⟨x,rfl⟩
   refine ⟨s.M,⟨⟨rfl,rfl,rfl,⟨rfl,rfl,rfl,fun _ _=>rfl⟩,⟨rfl,rfl,rfl,fun _ _=>rfl⟩,⟨rfl,rfl,rfl,fun _ _=>rfl⟩,⟨rfl,rfl,rfl,fun _ _=>rfl⟩,trivial⟩,rfl,rfl,rfl,rfl,rfl,rfl,rfl,rfl,rfl,rfl,rfl,rfl,rfl,rfl,rfl,trivial⟩,s.M,_,⟨⟨rfl,rfl,VB.fit_refl _,VB.fit_refl _,VB.fit_refl _,VB.fit_refl _,VB.fit_refl _,VB.fit_refl _,trivial⟩,rfl,rfl,rfl,rfl,rfl,rfl,rfl,rfl,rfl,rfl,rfl,rfl,rfl,rfl,rfl,trivial⟩,s.M,_,⟨⟨rfl,rfl,VB.fit_refl _,VB.fit_refl _,VB.fit_refl _,VB.fit_refl _,VB.fit_refl _,VB.fit_refl _,trivial⟩,rfl,rfl,rfl,rfl,rfl,rfl,rfl,rfl,rfl,rfl,rfl,rfl,rfl,rfl,rfl,trivial⟩,s.M,_,⟨⟨rfl,rfl,VB.fit_refl _,VB.fit_refl _,VB.fit_refl _,VB.fit_refl _,VB.fit_refl _,VB.fit_refl _,trivial⟩,rfl,rfl,rfl,rfl,rfl,rfl,rfl,rfl,rfl,rfl,rfl,rfl,rfl,rfl,rfl,trivial⟩,.inr ⟨x,17,_,_,hx,rfl,rfl,fun i hi=>?_⟩⟩
   have hi:i<4:=hi
   match i,hi with
   | 0,_=>exact tl_weak rfl (fun y hy=>wk_ch (fun j hj=>p4 x hx 0 y j (by omega) rfl (by omega) hy))
   | 1,_=>exact tl_weak rfl (fun y hy=>wk_ch (fun j hj=>p4 x hx 1 y j (by omega) rfl (by omega) hy))
   | 2,_=>exact tl_weak rfl (fun y hy=>wk_ch (fun j hj=>p4 x hx 2 y j (by omega) rfl (by omega) hy))
   | 3,_=>exact tl_weak rfl (fun y hy=>wk_ch (fun j hj=>p4 x hx 3 y j (by omega) rfl (by omega) hy))
   | _+4,hi=>exact absurd hi (by omega))
 exact ⟨r,h',hc,hk⟩
section
variable {l:List Stk} {t:Tst}
theorem len_1 {α:Type} {d:List α} (h:d.length=1):∃ a,d=[a]:=by
 match d,h with
 | [a],_=>exact ⟨a,rfl⟩
theorem len_2 {α:Type} {d:List α} (h:d.length=2):∃ a b,d=[a,b]:=by
 match d,h with
 | [a,b],_=>exact ⟨a,b,rfl⟩
theorem len_3 {α:Type} {d:List α} (h:d.length=3):∃ a b c,d=[a,b,c]:=by
 match d,h with
 | [a,b,c],_=>exact ⟨a,b,c,rfl⟩
theorem len_4 {α:Type} {d:List α} (h:d.length=4):∃ a b c e,d=[a,b,c,e]:=by
 match d,h with
 | [a,b,c,e],_=>exact ⟨a,b,c,e,rfl⟩
theorem pl_1 {d0:List Int} (ho:okAll l t=true) (hp:okPaths [d0]=true):PlnOut l t [d0]:=by
 obtain ⟨r,h',hc,hk⟩:=plp1 ho hp (cfg_of ho hp) (pthB_of hp)
 exact pln_out ho hp hc hk
theorem pl_2 {d0 d1:List Int} (ho:okAll l t=true) (hp:okPaths [d0,d1]=true):PlnOut l t [d0,d1]:=by
 obtain ⟨r,h',hc,hk⟩:=plp2 ho hp (cfg_of ho hp) (pthB_of hp)
 exact pln_out ho hp hc hk
theorem pl_3 {d0 d1 d2:List Int} (ho:okAll l t=true) (hp:okPaths [d0,d1,d2]=true):PlnOut l t [d0,d1,d2]:=by
 obtain ⟨r,h',hc,hk⟩:=plp3 ho hp (cfg_of ho hp) (pthB_of hp)
 exact pln_out ho hp hc hk
theorem pl_4 {d0 d1 d2 d3:List Int} (ho:okAll l t=true) (hp:okPaths [d0,d1,d2,d3]=true):PlnOut l t [d0,d1,d2,d3]:=by
 obtain ⟨r,h',hc,hk⟩:=plp4 ho hp (cfg_of ho hp) (pthB_of hp)
 exact pln_out ho hp hc hk
theorem pln_v {p:List (List Int)} (hb:pthB p):PlnOut l t p:=by
 cases ho:okAll l t with
 | false=>exact plnE_v (.inl ho)
 | true=>
  cases hp:okPaths p with
  | false=>exact plnE_v (.inr ⟨hb,hp⟩)
  | true=>
   have h:=(paths_of hp).1
   rcases (by omega:p.length=1 ∨ p.length=2 ∨ p.length=3 ∨ p.length=4) with e | e | e | e
   ·obtain ⟨d0,rfl⟩:=len_1 e
    exact pl_1 ho hp
   ·obtain ⟨d0,d1,rfl⟩:=len_2 e
    exact pl_2 ho hp
   ·obtain ⟨d0,d1,d2,rfl⟩:=len_3 e
    exact pl_3 ho hp
   ·obtain ⟨d0,d1,d2,d3,rfl⟩:=len_4 e
    exact pl_4 ho hp
end
section
variable {l:List Stk} {t:Tst} {y m:Int}
end
section
variable {l:List Stk} {t:Tst} {y m:Int}
end
section
variable {l l':List Stk} {t:Tst} {p:List (List Int)}
theorem all_bit {n i:Nat}:(2 ^ n - 1).testBit i=decide (i<n):=Nat.testBit_two_pow_sub_one n i
theorem all_lt {n:Nat}:2 ^ n - 1<2 ^ n:=by have:=Nat.two_pow_pos n; omega
end
section
variable {l:List Stk} {t:Tst} {p:List (List Int)} {m:Int}
theorem anyNd_iff {D:List Int}:anyNd D=true ↔ ∃ i,i<D.length/\okW (D.getD i 0)=false:=by
 unfold anyNd
 rw [List.any_eq_true]
 constructor
 ·rintro ⟨i,h1,h2⟩
  exact ⟨i,List.mem_range.1 h1,by unfold qNd at h2; simpa using h2⟩
 ·rintro ⟨i,h1,h2⟩
  exact ⟨i,List.mem_range.2 h1,by unfold qNd; simpa using h2⟩
theorem anyPt_iff:anyPt p=true ↔ ∃ i,i<p.length/\okPt p (p.getD i [])=false:=by
 unfold anyPt
 rw [List.any_eq_true]
 constructor
 ·rintro ⟨i,h1,h2⟩
  exact ⟨i,List.mem_range.1 h1,by unfold qPt at h2; simpa using h2⟩
 ·rintro ⟨i,h1,h2⟩
  exact ⟨i,List.mem_range.2 h1,by unfold qPt; simpa using h2⟩
theorem lRPj_ok {i:Nat}:LSound Try.prog true (.block 2 (.loop (loopB 2 (bodyOf Try.prog 33)))) (ntOf Try.prog 33) (lRPj p i):=by
 by_cases hh:i<p.length/\(p.getD i []).length<=100000
 ·obtain ⟨hi,hil⟩:=hh
  refine loop_row hmix good0 (un:=10) (ds:=dsRPi) (ns:=[]) (nx:=0) (fun k:Nat=>VRPi p i k) (fun _=>[]) (fun k=>k<=(p.getD i []).length/\∀ j,j<k->okW ((p.getD i []).getD j 0)=true) (fun k=>(p.getD i []).length - k) (fun _ ex vs bs=>bs=[]/\((ex=.exit 2/\anyNd (p.getD i [])=false/\vs=VRPi p i (p.getD i []).length) ∨ (ex=.ret/\anyNd (p.getD i [])=true/\∃ k,vs=VRPi p i k))) noL_ok ?_ ?_
  ·rintro k ⟨h0,h1⟩
   refine cast (rpi_ev p i k _).symm ?_
   rw [show (i:Int).toNat=i by omega,show (k:Int).toNat=k by omega]
   refine cond_dk ⟨by omega,by omega⟩ (cond_d (fun hk=>?_) (fun hk=>?_))
   ·have bad:okW ((p.getD i []).getD k 0)=false->RoundQ (fun k:Nat=>VRPi p i k) (fun _=>[]) (fun k=>k<=(p.getD i []).length/\∀ j,j<k->okW ((p.getD i []).getD j 0)=true) (fun k=>(p.getD i []).length - k) (fun _ ex vs bs=>bs=[]/\((ex=.exit 2/\anyNd (p.getD i [])=false/\vs=VRPi p i (p.getD i []).length) ∨ (ex=.ret/\anyNd (p.getD i [])=true/\∃ k,vs=VRPi p i k))) k .ret (VRPi p i k) []:=fun h=>⟨rfl,.inr ⟨rfl,anyNd_iff.2 ⟨k,by omega,h⟩,k,rfl⟩⟩
    refine cond_dk ⟨by omega,by omega⟩ (cond_dk ⟨by omega,by omega⟩ (cond_d (fun g1=>cond_nd (fun g2=>bad ?_) (fun g2=>cond_r (by omega) ⟨k+1,⟨by omega,fun j hj=>?_⟩,by dsimp only; omega,rfl,trivial,fun _ _ _ h=>h⟩)) (fun g1=>bad ?_)))
    ·unfold okW; rw [decide_eq_false (by omega)]
    ·by_cases e:j=k
     ·subst e; unfold okW; rw [decide_eq_true ⟨g1,g2⟩]
     ·exact h1 j (by omega)
    ·unfold okW; rw [decide_eq_false (by omega)]
   ·obtain rfl:k=(p.getD i []).length:=by omega
    refine ⟨rfl,.inl ⟨rfl,?_,rfl⟩⟩
    cases hb:anyNd (p.getD i []) with
    | false=>rfl
    | true=>
     obtain ⟨j,g1,g2⟩:=anyNd_iff.1 hb
     rw [h1 j g1] at g2; cases g2
  ·rintro lock tt h K ⟨hf,_,k1,k2⟩
   refine ⟨0,hf,⟨Nat.zero_le _,fun j hj=>absurd hj (Nat.not_lt_zero _)⟩,?_⟩
   rintro ex vs bs ⟨rfl,⟨rfl,h1,rfl⟩ | ⟨rfl,h1,k,rfl⟩⟩
   ·exact k1 h1
   ·exact k2 k h1
 ·rintro lock tt h K ⟨hf,hc,_⟩
  exact (hh hc).elim
theorem lRPp_ok:LSound Try.prog true (.block 0 (.loop (loopB 0 (bodyOf Try.prog 33)))) (ntOf Try.prog 33) (lRPp p):=by
 by_cases hb:pthB p
 ·obtain ⟨⟨hp1,hp2⟩,hpl⟩:=hb
  refine loop_rowD hmix good0 (un:=10) (ds:=dsRPo) (ns:=[]) (nx:=0) (lsp:=fun i:Nat=>tabB [(2,lRPj p i)]) (fun i:Nat=>VRPo p i) (fun _=>[]) (fun i=>i<=p.length/\∀ j,j<i->okPt p (p.getD j [])=true) (fun i=>p.length - i) (fun _ ex vs bs=>bs=[]/\((ex=.exit 0/\anyPt p=false/\vs=VRPo p p.length) ∨ (ex=.ret/\anyPt p=true/\∃ i,vs=VRPo p i))) (fun i _=>lsp_many (fun x hx=>by
   simp only [List.mem_singleton] at hx
   subst hx
   exact ⟨_,by kernel_rfl,lRPj_ok⟩)) ?_ ?_
  ·rintro i ⟨h0,h1⟩
   refine cast (rpp_ev p i _).symm ?_
   rw [show (i:Int).toNat=i by omega,show Int.toNat 0=0 from rfl]
   refine cond_d (fun hi=>?_) (fun hi=>?_)
   ·refine cond_dk ⟨by omega,by omega⟩ (cond_dk ⟨by omega,by omega⟩ (cond_nd (fun g=>?_) (fun g=>⟨fitP_self rfl,⟨by omega,hpl i⟩,fun g2=>cond_r (by omega) ⟨i+1,⟨by omega,fun j hj=>?_⟩,by dsimp only; omega,rfl,trivial,fun _ _ _ h=>h⟩,fun k g2=>?_⟩)))
    ·refine ⟨rfl,.inr ⟨rfl,anyPt_iff.2 ⟨i,by omega,?_⟩,i,rfl⟩⟩
     unfold okPt; rw [decide_eq_false (by omega)]; rfl
    ·by_cases e:j=i
     ·subst e; unfold okPt; rw [decide_eq_true (by omega),g2]; rfl
     ·exact h1 j (by omega)
    ·refine ⟨rfl,.inr ⟨rfl,anyPt_iff.2 ⟨i,by omega,?_⟩,i,rfl⟩⟩
     unfold okPt; rw [g2]; simp
   ·obtain rfl:i=p.length:=by omega
    refine ⟨rfl,.inl ⟨rfl,?_,rfl⟩⟩
    cases hb:anyPt p with
    | false=>rfl
    | true=>
     obtain ⟨j,g1,g2⟩:=anyPt_iff.1 hb
     rw [h1 j g1] at g2; cases g2
  ·rintro lock tt h K ⟨hf,_,k1,k2⟩
   refine ⟨0,hf,⟨Nat.zero_le _,fun j hj=>absurd hj (Nat.not_lt_zero _)⟩,?_⟩
   rintro ex vs bs ⟨rfl,⟨rfl,h1,rfl⟩ | ⟨rfl,h1,k,rfl⟩⟩
   ·exact k1 h1
   ·exact k2 k h1
 ·rintro lock tt h K ⟨hf,hc,_⟩
  exact (hb hc).elim
theorem rpathsG_v (hp:p=[] ∨ pthB p):∃ h',CallsV Try.prog 33 [pthD p] ⟨0,[]⟩ (.ret (.bool (okPaths p))) h':=by
 have hall:LoopsOk Try.prog 33 [(0,lRPp p)]:=fun x hx=>by
  simp only [List.mem_singleton] at hx
  subst hx
  exact ⟨by kernel_rfl,lRPp_ok⟩
 obtain ⟨r,h',rfl,hc⟩:=of_callN (callL_good hmix noSp hall (un:=10) 20) (f:=33) (args:=[pthD p]) (h:=⟨0,[]⟩) (K:=fun r _=>r=.ret (.bool (okPaths p))) (by
  refine cast (rpq_ev p _).symm ?_
  rw [show Int.toNat 0=0 from rfl]
  unfold okPaths
  refine cond_d (fun g1=>cond_nd (fun g2=>?_) (fun g2=>cond_dk ⟨by omega,by omega⟩ (cond_d (fun g3=>cond_nd (fun g4=>?_) (fun g4=>⟨fitP_self rfl,?_,fun h=>?_,fun i h=>?_⟩)) (fun g3=>?_)))) (fun g1=>?_)
  ·rw [decide_eq_false (p:=1<=p.length/\p.length<=4) (by omega)]; rfl
  ·rw [decide_eq_false (p:=1<=(p.getD 0 []).length/\(p.getD 0 []).length<=4) (by omega)]; simp
  ·rcases hp with rfl | hp
   ·simp at g1
   ·exact hp
  ·rw [decide_eq_true (p:=1<=p.length/\p.length<=4) (by omega),decide_eq_true (p:=1<=(p.getD 0 []).length/\(p.getD 0 []).length<=4) (by omega),h]; rfl
  ·rw [h]; simp
  ·rw [decide_eq_false (p:=1<=(p.getD 0 []).length/\(p.getD 0 []).length<=4) (by omega)]; simp
  ·rw [decide_eq_false (p:=1<=p.length/\p.length<=4) (by omega)]; rfl)
 exact ⟨h',hc⟩
theorem rpG_ok (p:List (List Int)):SpOk Try.prog (rpG p).1 (rpG p).2:=by
 intro lock args h K hK
 simp only [rpG] at hK
 split at hK
 ·obtain ⟨h1,h2,hK⟩:=hK
  obtain ⟨h',hc⟩:=rpathsG_v h2
  exact ⟨_,h,hK,lockP_refl _ _,calls_lendDP 4 hc rfl ⟨h1,trivial⟩⟩
 ·exact hK.elim
theorem ckD_ok (l:List Stk):SpOk Try.prog (ckD l).1 (ckD l).2:=by
 intro lock args h K hK
 simp only [ckD] at hK
 split at hK
 ·obtain ⟨rfl,hn,hK⟩:=hK
  have h1:=calls_tell (v2:=.tl l.length 1 (chG (mostF l))) (casks_n hn) rfl (fun R R' x hle hv hx=>hv x hx)
  exact ⟨_,h,hK,lockP_refl _ _,calls_lift0 h1 rfl rfl⟩
 ·exact hK.elim
theorem bits_id (n:Nat):bitsOf n id (2 ^ n - 1):=fun i=>by
 rw [all_bit,decide_eq_true_eq]
 exact ⟨fun h=>⟨i,h,rfl⟩,fun ⟨q,h1,h2⟩=>by have h2:q=i:=h2; omega⟩
theorem plnS_ok (l:List Stk) (t:Tst) (p:List (List Int)):SpOk Try.prog (plnS l t p).1 (plnS l t p).2:=by
 intro lock args h K hK
 simp only [plnS] at hK
 split at hK
 ·rename_i x z q m L y w nx bs
  obtain ⟨rfl,rfl,rfl,rfl,⟨rfl,g,ty,hm,rfl,hg⟩,⟨rfl,ho,hp⟩,k1,k2⟩:=hK
  have cf:=cfg_of ho hp
  obtain ⟨hP,_⟩:=paths_of hp
  obtain ⟨v,h',hc,q1,q2⟩:=plan_v cf hP.1 (p.getD 0 []).length p.length id (2 ^ p.length - 1) (mostF l) (Nat.le_refl _) (by omega) (bits_id _) all_lt (most_left cf.hl)
  rw [Int.sub_self] at hc
  have key:∀ v2:VV,(VRes.ret v2).bel 0=true->CallsV Try.prog 50 [stD l,.agg (tsL t),pthD p,.tl p.length 1 (uS id),I 0,chaD l (mostF l)] ⟨0,[]⟩ (.ret v2) h'->CallsV Try.prog 50 [stD l,.agg (tsL t),pthD p,.sl m p.length,I 0,chaD l (mostF l)] ⟨nx,bs⟩ (.ret v2) ⟨nx,(m,.gone)::bs⟩:=fun v2 hb hc=>by
   have hc3:CallsV Try.prog 50 [stD l,.agg (tsL t),pthD p,.tl p.length 1 (uS id),I 0,chaD l (mostF l)] ⟨nx,(m,.gone)::bs⟩ (.ret v2) ⟨nx,(m,.gone)::bs⟩:=calls_lift0 hc rfl hb
   have hc4:CallsV Try.prog 50 [stD l,.agg (tsL t),pthD p,.tl p.length 1 g,I 0,chaD l (mostF l)] ⟨nx,(m,.gone)::bs⟩ (.ret v2) ⟨nx,(m,.gone)::bs⟩:=calls_args hc3 (fun R xs hx=>by
    obtain ⟨_,_,a1,⟨_,_,a2,⟨_,_,a3,⟨_,_,a4,a5,rfl⟩,rfl⟩,rfl⟩,rfl⟩:=hx
    exact ⟨_,_,a1,⟨_,_,a2,⟨_,_,a3,⟨_,_,wk_one (tl_weak rfl fun i hi=>by rw [hg i hi]; exact wkL_refl _) _ a4,a5,rfl⟩,rfl⟩,rfl⟩,rfl⟩)
   exact calls_told (h:=⟨nx,bs⟩) (m:=m) (L:=p.length) (s:=1) (g:=g) (t:=ty) hc4 hm (fun R R' xs hle hv hxs=>by
    obtain ⟨_,_,a1,⟨_,_,a2,⟨_,_,a3,⟨_,_,a4,a5,rfl⟩,rfl⟩,rfl⟩,rfl⟩:=hxs
    exact ⟨_,_,VRel.mono hle _ _ a1,⟨_,_,VRel.mono hle _ _ a2,⟨_,_,VRel.mono hle _ _ a3,⟨_,_,hv _ a4,VRelL.mono hle _ _ a5,rfl⟩,rfl⟩,rfl⟩,rfl⟩)
  cases hx:planF l t p (p.getD 0 []).length (p.getD 0 []).length (2 ^ p.length - 1) (mostF l) with
  | none=>
   obtain rfl:=q1 hx
   exact ⟨_,_,k1 hx,lock0 _ _,key _ rfl hc⟩
  | some x=>
   obtain rfl:=q2 x hx
   refine ⟨_,_,k2 x hx,lock0 _ _,key _ rfl (calls_res hc (fun R y hy=>?_))⟩
   obtain ⟨xs,⟨y0,ys,a1,a2,rfl⟩,rfl⟩:=hy
   refine ⟨_,⟨y0,_,wk_one (tl_weak rfl (fun i hi=>tl_weak rfl (fun y' hy'=>?_))) y0 a1,a2,rfl⟩,rfl⟩
   dsimp only
   rw [Nat.sub_self,Nat.zero_add]
   exact wkL_refl _
 ·exact hK.elim
theorem lRQ_ok:LSound Try.prog true (.block 0 (.loop (loopB 0 (bodyOf Try.prog 21)))) (ntOf Try.prog 21) (lRQ l t p):=by
 by_cases hn:p.length<=100
 ·have h1:LSound Try.prog true (.block 0 (.loop (loopB 0 (bodyOf Try.prog 21)))) (ntOf Try.prog 21) (fun lock tt h K=>FitP lock h tt ⟨2,[0,1].zip (BRQ t 0)⟩ (dsRQ.zip (VRQ l t p 0))/\K .normal (dsRQ.zip (VRQ l t p p.length)) ⟨2,[0,1].zip (BRQ t p.length)⟩):=by
   refine loop_row hmix good0 (un:=10) (ds:=dsRQ) (ns:=[0,1]) (nx:=2) (fun i:Nat=>VRQ l t p i) (fun i=>BRQ t i) (fun i=>i<=p.length) (fun i=>p.length - i) (fun _ e vs bs=>e=.exit 0/\bs=BRQ t p.length/\vs=VRQ l t p p.length) noL_ok ?_ ?_
   ·rintro i h0
    refine cast (rq21_ev l t p i _).symm ?_
    by_cases hlt:i<p.length
    ·refine cond_dk (by omega) (cond_k (Nat.beq_refl _) (cond_k (room8 (by omega)) (cond_r (by omega) ⟨i+1,by omega,by dsimp only; omega,rfl,⟨VB.fit_refl _,⟨rfl,rfl,rfl,fun q hq=>?_⟩,trivial⟩,fun _ _ _ h=>h⟩)))
     by_cases hq2:q<i
     ·rw [catG_lt hq2]
     ·obtain rfl:q=i:=by omega
      rw [catG_ge (Nat.le_refl _),Nat.sub_self]
      rfl
    ·obtain rfl:i=p.length:=by omega
     exact cond_d (fun h=>by omega) (fun _=>⟨rfl,rfl,rfl⟩)
   ·rintro lock tt h K ⟨hf,k1⟩
    refine ⟨0,hf,Nat.zero_le _,?_⟩
    rintro e vs bs ⟨rfl,rfl,rfl⟩
    exact k1
  refine ghost_row (d:=8) (nx:=1) (bs:=[0].zip [.cells (tsL t) 25]) (t0:=(9,I 0)::[7,6,4,0,1,2].zip ((VRQ l t p 0).drop 2)) (uS id) 1 3 h1 (by
   rintro lock t h K ⟨hf,hc,k1⟩
   refine ⟨⟨hf.1,?_⟩,⟨⟨rfl,rfl,VB.fit_refl _,VB.fit_refl _,trivial⟩,rfl,rfl,rfl,rfl,rfl,rfl,rfl,rfl,trivial⟩,k1⟩
   obtain ⟨e1,e2,e3⟩:=hf.2
   exact ⟨e2,e1,e3⟩)
 ·rintro lock tt h K ⟨hf,hc,_⟩
  exact (hn hc).elim
def PlnOutR (l:List Stk) (t:Tst) (p:List (List Int)):Prop:=∃ r h',CallsV Try.prog 21 [stD l,.agg (tsL t),pthD p] ⟨0,[]⟩ r h'/\((plE l t p ≠ 0/\r=.ret (.tup [.nils,I (plE l t p)])) ∨ (plE l t p=0/\∃ x,planF l t p (p.getD 0 []).length (p.getD 0 []).length (2 ^ p.length - 1) (mostF l)=some x/\r=.ret (.tup [plnD l.length p.length (p.getD 0 []).length x,I 0])))
theorem rplan_v (hp:p=[] ∨ pthB p) (hl0:l.length<=100000) (ht0:t.T.length<=100000):PlnOutR l t p:=by
 have hall:LoopsOk Try.prog 21 [(0,lRQ l t p)]:=fun x hx=>by
  simp only [List.mem_singleton] at hx
  subst hx
  exact ⟨by kernel_rfl,lRQ_ok⟩
 have htab:∀ f T,tabS [rtR t,rsR l t,rpG p,ckD l,plnS l t p] f=some T->SpOk Try.prog f T:=tab_ok _ (fun x hx=>by
  simp only [List.mem_cons,List.not_mem_nil,or_false] at hx
  rcases hx with rfl | rfl | rfl | rfl | rfl
  ·exact rtR_ok t
  ·exact rsR_ok l t
  ·exact rpG_ok p
  ·exact ckD_ok l
  ·exact plnS_ok l t p)
 obtain ⟨r,h',hr,hc⟩:=of_callN (callL_good hmix htab hall (un:=10) 20) (f:=21) (args:=[stD l,.agg (tsL t),pthD p]) (h:=⟨0,[]⟩) (K:=fun r _=>((plE l t p ≠ 0/\r=.ret (.tup [.nils,I (plE l t p)])) ∨ (plE l t p=0/\∃ x,planF l t p (p.getD 0 []).length (p.getD 0 []).length (2 ^ p.length - 1) (mostF l)=some x/\r=.ret (.tup [plnD l.length p.length (p.getD 0 []).length x,I 0])))) (by
  refine cast (rqf21_ev l t p _).symm ⟨isD_t,ht0,?_⟩
  have err:∀ e:Int,e ≠ 0->plE l t p=e->((plE l t p ≠ 0/\VRes.ret (.tup [.nils,I e])=.ret (.tup [.nils,I (plE l t p)])) ∨ (plE l t p=0/\∃ x,planF l t p (p.getD 0 []).length (p.getD 0 []).length (2 ^ p.length - 1) (mostF l)=some x/\VRes.ret (.tup [.nils,I e])=.ret (.tup [plnD l.length p.length (p.getD 0 []).length x,I 0]))):=fun e h h'=>.inl ⟨by rw [h']; exact h,by rw [h']⟩
  have eall:okAll l t=(okT t && (decide (l.length<=6) && !anyS l t)):=by unfold okAll; rw [Bool.and_assoc]
  refine cond_i (fun h1=>err 1 (by decide) (plE_1 ?_)) (fun h1=>⟨isD_l,isD_t,⟨hl0,ht0⟩,cond_i (fun h2=>err 1 (by decide) (plE_1 ?_)) (fun h2=>?_)⟩)
  ·rw [eall,show okT t=false from Bool.not_eq_true' _ ▸ h1]; rfl
  ·rw [eall,show (decide (l.length<=6) && !anyS l t)=false from Bool.not_eq_true' _ ▸ h2,Bool.and_false]
  have ho:okAll l t=true:=by
   rw [eall,show okT t=true from Bool.not_eq_false' _ ▸ h1,show (decide (l.length<=6) && !anyS l t)=true from Bool.not_eq_false' _ ▸ h2]
   rfl
  refine ⟨⟨rfl,rfl,fun _ _=>rfl⟩,hp,cond_i (fun h3=>err 2 (by decide) (plE_2 ho ?_)) (fun h3=>?_)⟩
  ·rw [Bool.not_eq_true'] at h3; exact h3
  have hp2:okPaths p=true:=by rw [Bool.not_eq_false'] at h3; exact h3
  obtain ⟨hl,_⟩:=okAll_l ho
  have h4:=(paths_of hp2).1
  refine ⟨fitP_self rfl,by omega,rfl,hl.1,rfl,rfl,rfl,rfl,⟨rfl,uS id,3,rfl,rfl,fun _ _=>rfl⟩,⟨rfl,ho,hp2⟩,fun hx=>err 4 (by decide) (plE_n ho hp2 hx),fun x hx=>.inr ⟨plE_s ho hp2 hx,x,hx,rfl⟩⟩)
 exact ⟨r,h',hc,hr⟩
theorem rpl_any (hp:p=[] ∨ pthB p) (hl0:l.length<=100000) (ht0:t.T.length<=100000):∃ h',CallsV Try.prog 21 [stD l,.agg (tsL t),pthD p] ⟨0,[]⟩ (.ret (.tup [.any,I (plE l t p)])) h':=by
 obtain ⟨r,h',hc,⟨_,rfl⟩ | ⟨he,x,_,rfl⟩⟩:=rplan_v (l:=l) (t:=t) hp hl0 ht0
 ·refine ⟨h',calls_res hc (fun R x hx=>?_)⟩
  obtain ⟨xs,⟨y,ys,_,h2,rfl⟩,rfl⟩:=hx
  exact ⟨_,⟨y,ys,trivial,h2,rfl⟩,rfl⟩
 ·refine ⟨h',calls_res hc (fun R x hx=>?_)⟩
  obtain ⟨xs,⟨y,ys,_,h2,rfl⟩,rfl⟩:=hx
  rw [he]
  exact ⟨_,⟨y,ys,trivial,h2,rfl⟩,rfl⟩
theorem rpl1_ok (l:List Stk) (t:Tst):SpOk Try.prog (rpl1 l t).1 (rpl1 l t).2:=by
 intro lock args h K hK
 simp only [rpl1] at hK
 split at hK
 ·obtain ⟨h1,h2,d,h3,⟨hl0,ht0,hd⟩,hK⟩:=hK
  have hb:pthB [d]:=⟨⟨Nat.le_refl _,by show 1<=100000; omega⟩,fun i=>by
   match i with
   | 0=>exact hd
   | _+1=>exact Nat.zero_le _⟩
  obtain ⟨h',hc⟩:=rpl_any (l:=l) (t:=t) (.inr hb) hl0 ht0
  exact ⟨_,h,hK _ rfl,lockP_refl _ _,calls_lendDP 4 hc rfl ⟨h1,h2,h3,trivial⟩⟩
 ·exact hK.elim
theorem rlasts_v (hl0:l.length<=100000) (ht0:t.T.length<=100000):∃ h',CallsV Try.prog 23 [stD l,.agg (tsL t),I m] ⟨0,[]⟩ (.ret (.tup [I (lasN l t m),I (lasE l t m)])) h':=by
 have htab:∀ f T,tabS [rtR t,rsR l t,rpl1 l t] f=some T->SpOk Try.prog f T:=tab_ok _ (fun x hx=>by
  simp only [List.mem_cons,List.not_mem_nil,or_false] at hx
  rcases hx with rfl | rfl | rfl
  ·exact rtR_ok t
  ·exact rsR_ok l t
  ·exact rpl1_ok l t)
 obtain ⟨r,h',rfl,hc⟩:=of_callN (noL_good htab) (f:=23) (args:=[stD l,.agg (tsL t),I m]) (h:=⟨0,[]⟩) (K:=fun r _=>r=.ret (.tup [I (lasN l t m),I (lasE l t m)])) (by
  refine cast (rla_ev l t m _).symm ⟨isD_t,ht0,?_⟩
  have eall:okAll l t=(okT t && (decide (l.length<=6) && !anyS l t)):=by unfold okAll; rw [Bool.and_assoc]
  have err1:okAll l t=false->VRes.ret (.tup [I 0,I 1])=.ret (.tup [I (lasN l t m),I (lasE l t m)]):=fun ho=>by
   have e1:lasE l t m=1:=by unfold lasE; rw [if_pos ho]
   have e2:lasN l t m=0:=by unfold lasN; rw [if_pos (by rw [e1]; decide)]
   rw [e1,e2]
  refine cond_i (fun h1=>err1 ?_) (fun h1=>⟨isD_l,isD_t,⟨hl0,ht0⟩,cond_i (fun h2=>err1 ?_) (fun h2=>?_)⟩)
  ·rw [eall,show okT t=false from Bool.not_eq_true' _ ▸ h1]; rfl
  ·rw [eall,show (decide (l.length<=6) && !anyS l t)=false from Bool.not_eq_true' _ ▸ h2,Bool.and_false]
  have ho:okAll l t=true:=by
   rw [eall,show okT t=true from Bool.not_eq_false' _ ▸ h1,show (decide (l.length<=6) && !anyS l t)=true from Bool.not_eq_false' _ ▸ h2]
   rfl
  by_cases h0:0<=m
  ·refine cond_dk h0 (cond_nd (fun h1=>?_) (fun h1=>?_))
   ·have e1:lasE l t m=2:=by unfold lasE; rw [if_neg (by rw [ho]; simp),if_pos (fun h=>h1 h.2)]
    have e2:lasN l t m=0:=by unfold lasN; rw [if_pos (by rw [e1]; decide)]
    rw [e1,e2]
   ·have e1:lasE l t m=0:=by unfold lasE; rw [if_neg (by rw [ho]; simp),if_neg (fun h=>h ⟨h0,h1⟩)]
    have e2:lasN l t m=lasF l t m:=by unfold lasN; rw [if_neg (fun h=>h e1)]
    rw [e1,e2]
    unfold lasF
    refine ⟨isD_l,isD_t,[m],isD_pth rfl rfl rfl (fun j hj=>by match j,hj with | 0,_=>rfl | _+1,hj=>exact absurd hj (by simp)),⟨hl0,ht0,by simp⟩,fun e he=>cond_nd (fun h=>?_) (fun h=>?_)⟩
    ·rw [if_pos (by rw [<- he]; exact h)]
    rw [if_neg (fun hn=>hn (he.symm.trans h))]
    refine ⟨isD_l,isD_t,[m,m],isD_pth rfl rfl rfl (fun j hj=>by match j,hj with | 0,_=>rfl | 1,_=>rfl | _+2,hj=>exact absurd hj (by simp)),⟨hl0,ht0,by simp⟩,fun e he=>cond_nd (fun h=>?_) (fun h=>?_)⟩
    ·rw [if_pos (by rw [<- he]; exact h)]; rfl
    rw [if_neg (fun hn=>hn (he.symm.trans h))]
    refine ⟨isD_l,isD_t,[m,m,m],isD_pth rfl rfl rfl (fun j hj=>by match j,hj with | 0,_=>rfl | 1,_=>rfl | 2,_=>rfl | _+3,hj=>exact absurd hj (by simp)),⟨hl0,ht0,by simp⟩,fun e he=>cond_nd (fun h=>?_) (fun h=>?_)⟩
    ·rw [if_pos (by rw [<- he]; exact h)]; rfl
    rw [if_neg (fun hn=>hn (he.symm.trans h))]
    refine ⟨isD_l,isD_t,[m,m,m,m],isD_pth rfl rfl rfl (fun j hj=>by match j,hj with | 0,_=>rfl | 1,_=>rfl | 2,_=>rfl | 3,_=>rfl | _+4,hj=>exact absurd hj (by simp)),⟨hl0,ht0,by simp⟩,fun e he=>cond_nd (fun h=>?_) (fun h=>?_)⟩
    ·rw [if_pos (by rw [<- he]; exact h)]; rfl
    rw [if_neg (fun hn=>hn (he.symm.trans h))]
  ·refine cond_d (fun h=>(h0 h).elim) (fun _=>?_)
   have e1:lasE l t m=2:=by unfold lasE; rw [if_neg (by rw [ho]; simp),if_pos (fun h=>h0 h.1)]
   have e2:lasN l t m=0:=by unfold lasN; rw [if_pos (by rw [e1]; decide)]
   rw [e1,e2])
 exact ⟨h',hc⟩
theorem apN_ok (p:List (List Int)):SpOk Try.prog (apN p).1 (apN p).2:=by
 intro lock args h K hK
 simp only [apN] at hK
 split at hK
 ·obtain ⟨hx,⟨h1,h2⟩,hK⟩:=hK
  obtain ⟨h',hv⟩:=paths_v h1
  rw [h2] at hv
  exact ⟨_,h,hK,lockP_refl _ _,calls_lendDP 4 hv rfl ⟨hx,trivial⟩⟩
 ·exact hK.elim
theorem plnA_v (hp:p=[] ∨ pthB p):PlnOut l t p:=by
 rcases hp with rfl | hp
 ·cases ho:okAll l t with
  | false=>exact plnE_v (.inl ho)
  | true=>
   have hp:okPaths []=false:=rfl
   have htab:∀ f T,tabS [asK l t true,apN []] f=some T->SpOk Try.prog f T:=tab_ok _ (fun x hx=>by
    simp only [List.mem_cons,List.not_mem_nil,or_false] at hx
    rcases hx with rfl | rfl
    ·exact asK_ok l t true
    ·exact apN_ok [])
   obtain ⟨r,h',rfl,hc⟩:=of_callN (noL_good htab) (f:=17) (args:=[stD l,.agg (tsL t),pthD []]) (h:=⟨0,[]⟩) (K:=fun r _=>r=.ret (.tup [.nils,I 2])) (cast (ple3_ev l t [] _).symm ⟨isD_l,isD_t,ho,⟨rfl,rfl,fun _ _=>rfl⟩,⟨fun i=>Nat.zero_le _,hp⟩,rfl⟩)
   exact ⟨_,_,hc,.inl ⟨by rw [plE_2 ho hp]; decide,by rw [plE_2 ho hp]⟩⟩
 ·exact pln_v hp
end
def grY (l:List Stk) (t:Tst) (b:Bool):FuncId × Spec1:=(14,fun _ args h K=>match args with
 | [x,z,.int .i64 m]=>isD h 4 x (stD l)/\isD h 4 z (.agg (tsL t))/\greatF l t m=b/\K (.ret (.bool b)) h
 | _=>False)
theorem grY_ok (l:List Stk) (t:Tst) (b:Bool):SpOk Try.prog (grY l t b).1 (grY l t b).2:=by
 intro lock args h K hK
 simp only [grY] at hK
 split at hK
 ·obtain ⟨h1,h2,rfl,hK⟩:=hK
  exact greatT_ok lock _ h K ⟨l,t,h1,h2,hK⟩
 ·exact hK.elim
section
variable {l:List Stk} {t:Tst} {m le:Int}
end
def wiK (p:List (List Int)) (b:Bool):FuncId × Spec1:=(15,fun _ args h K=>match args with
 | [x]=>isD h 4 x (pthD p)/\K (.ret (.bool b)) h
 | _=>False)
def plT (f:FuncId) (l:List Stk) (t:Tst) (p:List (List Int)) (R:VRes):FuncId × Spec1:=(f,fun _ args h K=>match args with
 | [x,z,w]=>x=stD l/\z=.agg (tsL t)/\w=pthD p/\K R h
 | _=>False)
def laT (f:FuncId) (l:List Stk) (t:Tst) (m n e:Int):FuncId × Spec1:=(f,fun _ args h K=>match args with
 | [x,z,.int .i64 m']=>isD h 4 x (stD l)/\isD h 4 z (.agg (tsL t))/\m'=m/\K (.ret (.tup [I n,I e])) h
 | _=>False)
theorem bpg_ev (l:List Stk) (t:Tst) (p:List (List Int)) (m:Int) (Q:VRes->Prop):callN Try.prog (tabS [grY l t true,alT]) noL 10 20 0 (.fn 4) [stD l,.agg (tsL t),pthD p,I m] ⟨0,[]⟩ (fun r _=>Q r) =
 (isD (VH.mk (0+1) [(0,VB.cells (tsL t) 25)]) 4 (stD l) (stD l)/\isD (VH.mk (0+1) [(0,VB.cells (tsL t) 25)]) 4 (VV.agg (tsL t)) (VV.agg (tsL t))/\greatF l t (36:Int)=true/\Q (VRes.ret (VV.bool true))):=by kernel_rfl
theorem bpw_ev (l:List Stk) (t:Tst) (p:List (List Int)) (m:Int) (Q:VRes->Prop):callN Try.prog (tabS [grY l t false,wiK p true,alT]) noL 10 20 0 (.fn 4) [stD l,.agg (tsL t),pthD p,I m] ⟨0,[]⟩ (fun r _=>Q r) =
 (isD (VH.mk (0+1) [(0,VB.cells (tsL t) 25)]) 4 (stD l) (stD l)/\isD (VH.mk (0+1) [(0,VB.cells (tsL t) 25)]) 4 (VV.agg (tsL t)) (VV.agg (tsL t))/\greatF l t (36:Int)=false/\isD (VH.mk (0+1) [(0,VB.cells (tsL t) 25)]) 4 (pthD p) (pthD p)/\Q (VRes.ret (VV.bool true))):=by kernel_rfl
theorem bpe_ev (l:List Stk) (t:Tst) (p:List (List Int)) (m e n g:Int) (Q:VRes->Prop):callN Try.prog (tabS [grY l t false,wiK p false,plT 17 l t p (.ret (.tup [.nils,I e])),plT 21 l t p (.ret (.tup [.nils,I e])),laT 22 l t m n g,laT 23 l t m n g,alT]) noL 10 20 0 (.fn 4) [stD l,.agg (tsL t),pthD p,I m] ⟨0,[]⟩ (fun r _=>Q r) =
 (isD (VH.mk (0+1) [(0,VB.cells (tsL t) 25)]) 4 (stD l) (stD l)/\isD (VH.mk (0+1) [(0,VB.cells (tsL t) 25)]) 4 (VV.agg (tsL t)) (VV.agg (tsL t))/\greatF l t (36:Int)=false/\isD (VH.mk (0+1) [(0,VB.cells (tsL t) 25)]) 4 (pthD p) (pthD p)/\stD l=stD l/\VV.agg (tsL t)=VV.agg (tsL t)/\pthD p=pthD p/\stD l=stD l/\VV.agg (tsL t)=VV.agg (tsL t)/\pthD p=pthD p/\isD (VH.mk (0+1) [(0,VB.cells (tsL t) 25)]) 4 (stD l) (stD l)/\isD (VH.mk (0+1) [(0,VB.cells (tsL t) 25)]) 4 (VV.agg (tsL t)) (VV.agg (tsL t))/\m=m/\isD (VH.mk (0+1) [(0,VB.cells (tsL t) 25)]) 4 (stD l) (stD l)/\isD (VH.mk (0+1) [(0,VB.cells (tsL t) 25)]) 4 (VV.agg (tsL t)) (VV.agg (tsL t))/\m=m/\bif decide (e=e) then
 bif decide (n=n) then
 bif decide (g=g) then
 Q (VRes.ret (VV.bool true))
 else Q (VRes.ret (VV.bool false))
 else Q (VRes.ret (VV.bool false))
 else Q (VRes.ret (VV.bool false))):=by kernel_rfl
theorem bps_ev (l:List Stk) (t:Tst) (p:List (List Int)) (m n g:Int) (x:Rsl) (Q:VRes->Prop):callN Try.prog (tabS [grY l t false,wiK p false,plT 17 l t p (.ret (.tup [plnD l.length p.length (p.getD 0 []).length x,I 0])),plT 21 l t p (.ret (.tup [plnD l.length p.length (p.getD 0 []).length x,I 0])),laT 22 l t m n g,laT 23 l t m n g,spR,alT]) noL 10 20 0 (.fn 4) [stD l,.agg (tsL t),pthD p,I m] ⟨0,[]⟩ (fun r _=>Q r) =
 (isD (VH.mk (0+1) [(0,VB.cells (tsL t) 25)]) 4 (stD l) (stD l)/\isD (VH.mk (0+1) [(0,VB.cells (tsL t) 25)]) 4 (VV.agg (tsL t)) (VV.agg (tsL t))/\greatF l t (36:Int)=false/\isD (VH.mk (0+1) [(0,VB.cells (tsL t) 25)]) 4 (pthD p) (pthD p)/\stD l=stD l/\VV.agg (tsL t)=VV.agg (tsL t)/\pthD p=pthD p/\stD l=stD l/\VV.agg (tsL t)=VV.agg (tsL t)/\pthD p=pthD p/\isD (VH.mk (0+1) [(0,VB.cells (tsL t) 25)]) 4 (stD l) (stD l)/\isD (VH.mk (0+1) [(0,VB.cells (tsL t) 25)]) 4 (VV.agg (tsL t)) (VV.agg (tsL t))/\m=m/\isD (VH.mk (0+1) [(0,VB.cells (tsL t) 25)]) 4 (stD l) (stD l)/\isD (VH.mk (0+1) [(0,VB.cells (tsL t) 25)]) 4 (VV.agg (tsL t)) (VV.agg (tsL t))/\m=m/\∃ (x':VV),∃ (y':VV),∃ (p_1:Nat),∃ (q:Nat->Nat),∃ (r:Nat->Nat->Nat),∃ (v:Nat->Nat->Nat->Int),isD (VH.mk (0+1) [(0,VB.cells (tsL t) 25)]) 2 (VV.tl p.length 1 (plnG l.length (p.getD 0 []).length x)) x'/\isD (VH.mk (0+1) [(0,VB.cells (tsL t) 25)]) 2 (VV.tl p.length 1 (plnG l.length (p.getD 0 []).length x)) y'/\(wkL [x'] [d3 p_1 q r v]/\wkL [y'] [d3 p_1 q r v])/\okD p_1 q r/\bif decide (n=n) then
 bif decide (g=g) then
 Q (VRes.ret (VV.bool true))
 else Q (VRes.ret (VV.bool false))
 else Q (VRes.ret (VV.bool false))):=by kernel_rfl
section
variable {l:List Stk} {t:Tst} {p:List (List Int)} {m:Int}
theorem wiK_ok {b:Bool} (h:∃ h',CallsV Try.prog 15 [pthD p] ⟨0,[]⟩ (.ret (.bool b)) h'):SpOk Try.prog (wiK p b).1 (wiK p b).2:=by
 intro lock args h0 K hK
 simp only [wiK] at hK
 split at hK
 ·obtain ⟨h1,hK⟩:=hK
  obtain ⟨h',hc⟩:=h
  exact ⟨_,h0,hK,lockP_refl _ _,calls_lendDP 4 hc rfl ⟨h1,trivial⟩⟩
 ·exact hK.elim
theorem plT_ok {f:FuncId} {v:VV} (hb:(VRes.ret v).bel 0=true) (h:∃ h',CallsV Try.prog f [stD l,.agg (tsL t),pthD p] ⟨0,[]⟩ (.ret v) h'):SpOk Try.prog (plT f l t p (.ret v)).1 (plT f l t p (.ret v)).2:=by
 intro lock args h0 K hK
 simp only [plT] at hK
 split at hK
 ·obtain ⟨rfl,rfl,rfl,hK⟩:=hK
  obtain ⟨h',hc⟩:=h
  exact ⟨_,h0,hK,lockP_refl _ _,calls_lift0 hc rfl hb⟩
 ·exact hK.elim
theorem laT_ok {f:FuncId} {n e:Int} (h:∃ h',CallsV Try.prog f [stD l,.agg (tsL t),I m] ⟨0,[]⟩ (.ret (.tup [I n,I e])) h'):SpOk Try.prog (laT f l t m n e).1 (laT f l t m n e).2:=by
 intro lock args h0 K hK
 simp only [laT] at hK
 split at hK
 ·obtain ⟨h1,h2,rfl,hK⟩:=hK
  obtain ⟨h',hc⟩:=h
  exact ⟨_,h0,hK,lockP_refl _ _,calls_lendDP 4 hc rfl ⟨h1,h2,⟨rfl,rfl⟩,trivial⟩⟩
 ·exact hK.elim
theorem wide_pth (h:p.length<=6/\∀ i,(p.getD i []).length<=6):p=[] ∨ pthB p:=by
 cases p with
 | nil=>exact .inl rfl
 | cons a r=>exact .inr ⟨⟨Nat.succ_pos _,by omega⟩,fun i=>by have:=h.2 i; omega⟩
theorem plans_law:∃ h',CallsV Try.prog 4 [stD l,.agg (tsL t),pthD p,I m] ⟨0,[]⟩ (.ret (.bool true)) h':=by
 have isP:∀ {h:VH},isD h 4 (pthD p) (pthD p):=fun {h}=>⟨rfl,rfl,fun _ _=>rfl⟩
 cases hg:greatF l t 36 with
 | true=>
  have htab:∀ f T,tabS [grY l t true,alT] f=some T->SpOk Try.prog f T:=tab_ok _ (fun x hx=>by
   simp only [List.mem_cons,List.not_mem_nil,or_false] at hx
   rcases hx with rfl | rfl
   ·exact grY_ok l t true
   ·exact alT_ok)
  obtain ⟨r,h',rfl,hc⟩:=of_callN (noL_good htab) (f:=4) (args:=[stD l,.agg (tsL t),pthD p,I m]) (h:=⟨0,[]⟩) (K:=fun r _=>r=.ret (.bool true)) (cast (bpg_ev l t p m _).symm ⟨isD_l,isD_t,hg,rfl⟩)
  exact ⟨h',hc⟩
 | false=>
  obtain ⟨b,h2,hw,hb⟩:=wide_v (p:=p)
  cases b with
  | true=>
   have htab:∀ f T,tabS [grY l t false,wiK p true,alT] f=some T->SpOk Try.prog f T:=tab_ok _ (fun x hx=>by
    simp only [List.mem_cons,List.not_mem_nil,or_false] at hx
    rcases hx with rfl | rfl | rfl
    ·exact grY_ok l t false
    ·exact wiK_ok ⟨_,hw⟩
    ·exact alT_ok)
   obtain ⟨r,h',rfl,hc⟩:=of_callN (noL_good htab) (f:=4) (args:=[stD l,.agg (tsL t),pthD p,I m]) (h:=⟨0,[]⟩) (K:=fun r _=>r=.ret (.bool true)) (cast (bpw_ev l t p m _).symm ⟨isD_l,isD_t,hg,isP,rfl⟩)
   exact ⟨h',hc⟩
  | false=>
   have hpb:=wide_pth (hb rfl)
   obtain ⟨hl8,ht6,_⟩:=great_len hg
   obtain ⟨rA,hA,hcA,hkA⟩:=plnA_v (l:=l) (t:=t) hpb
   obtain ⟨rB,hB,hcB,hkB⟩:=rplan_v (l:=l) (t:=t) hpb (by omega) (by omega)
   have hLa:=lasts_v (l:=l) (t:=t) (m:=m)
   have hLb:=rlasts_v (l:=l) (t:=t) (m:=m) (by omega) (by omega)
   rcases hkA with ⟨he,rfl⟩ | ⟨he,x,hx,rfl⟩
   ·rcases hkB with ⟨_,rfl⟩ | ⟨he2,_⟩
    ·have htab:∀ f T,tabS [grY l t false,wiK p false,plT 17 l t p (.ret (.tup [.nils,I (plE l t p)])),plT 21 l t p (.ret (.tup [.nils,I (plE l t p)])),laT 22 l t m (lasN l t m) (lasE l t m),laT 23 l t m (lasN l t m) (lasE l t m),alT] f=some T->SpOk Try.prog f T:=tab_ok _ (fun x hx=>by
      simp only [List.mem_cons,List.not_mem_nil,or_false] at hx
      rcases hx with rfl | rfl | rfl | rfl | rfl | rfl | rfl
      ·exact grY_ok l t false
      ·exact wiK_ok ⟨_,hw⟩
      ·exact plT_ok rfl ⟨_,hcA⟩
      ·exact plT_ok rfl ⟨_,hcB⟩
      ·exact laT_ok hLa
      ·exact laT_ok hLb
      ·exact alT_ok)
     obtain ⟨r,h',rfl,hc⟩:=of_callN (noL_good htab) (f:=4) (args:=[stD l,.agg (tsL t),pthD p,I m]) (h:=⟨0,[]⟩) (K:=fun r _=>r=.ret (.bool true)) (cast (bpe_ev l t p m _ _ _ _).symm ⟨isD_l,isD_t,hg,isP,rfl,rfl,rfl,rfl,rfl,rfl,isD_l,isD_t,rfl,isD_l,isD_t,rfl,cond_dk rfl (cond_dk rfl (cond_dk rfl rfl))⟩)
     exact ⟨h',hc⟩
    ·exact (he he2).elim
   ·rcases hkB with ⟨he2,_⟩ | ⟨_,x2,hx2,rfl⟩
    ·exact (he2 he).elim
    ·rw [hx] at hx2
     cases hx2
     have htab:∀ f T,tabS [grY l t false,wiK p false,plT 17 l t p (.ret (.tup [plnD l.length p.length (p.getD 0 []).length x,I 0])),plT 21 l t p (.ret (.tup [plnD l.length p.length (p.getD 0 []).length x,I 0])),laT 22 l t m (lasN l t m) (lasE l t m),laT 23 l t m (lasN l t m) (lasE l t m),spR,alT] f=some T->SpOk Try.prog f T:=tab_ok _ (fun x hx=>by
      simp only [List.mem_cons,List.not_mem_nil,or_false] at hx
      rcases hx with rfl | rfl | rfl | rfl | rfl | rfl | rfl | rfl
      ·exact grY_ok l t false
      ·exact wiK_ok ⟨_,hw⟩
      ·exact plT_ok rfl ⟨_,hcA⟩
      ·exact plT_ok rfl ⟨_,hcB⟩
      ·exact laT_ok hLa
      ·exact laT_ok hLb
      ·exact spR_ok
      ·exact alT_ok)
     have hY:=(hb rfl).2 0
     have hP6:=(hb rfl).1
     have hwk:wkL [VV.tl p.length 1 (plnG l.length (p.getD 0 []).length x)] [d3 p.length (fun _=>(p.getD 0 []).length) (fun _ _=>l.length) x]:=wkL_refl _
     obtain ⟨r,h',rfl,hc⟩:=of_callN (noL_good htab) (f:=4) (args:=[stD l,.agg (tsL t),pthD p,I m]) (h:=⟨0,[]⟩) (K:=fun r _=>r=.ret (.bool true)) (cast (bps_ev l t p m _ _ x _).symm ⟨isD_l,isD_t,hg,isP,rfl,rfl,rfl,rfl,rfl,rfl,isD_l,isD_t,rfl,isD_l,isD_t,rfl,plnD l.length p.length (p.getD 0 []).length x,plnD l.length p.length (p.getD 0 []).length x,p.length,(fun _=>(p.getD 0 []).length),(fun _ _=>l.length),x,⟨rfl,rfl,fun _ _=>rfl⟩,⟨rfl,rfl,fun _ _=>rfl⟩,⟨hwk,hwk⟩,⟨by omega,fun _=>by dsimp only; omega,fun _ _=>by dsimp only; omega⟩,cond_dk rfl (cond_dk rfl rfl)⟩)
     exact ⟨h',hc⟩
end
end Go.Sx.Bln
