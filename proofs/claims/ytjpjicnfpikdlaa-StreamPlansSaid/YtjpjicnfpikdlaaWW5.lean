/- stream: Qf3 Qf4, in one text. -/
import Derived.Test.YtjpjicnfpikdlaaWW2
import Derived.Test.YtjpjicnfpikdlaaWW4
namespace Go.Sx.Srn
open Go Go.Sx Go.Proofs
set_option maxRecDepth 1000000
section
variable {R W:List Int} {l:List Brn} {B S E T:List Int} {hour more er:Int}
theorem otF_len (h:B.length ≠ 0):(otF l B).length=l.length:=by
 unfold otF
 rw [if_neg h,List.length_map,List.length_range]
theorem otF_len0 (h:B.length=0):(otF l B).length=0:=by
 unfold otF
 rw [if_pos h]
 rfl
theorem otF_get (h:B.length ≠ 0) {i:Nat} (hi:i<l.length):(otF l B).getD i 0=otX l B i:=by
 unfold otF
 rw [if_neg h,List.getD_eq_getElem?_getD,List.getElem?_map,List.getElem?_range hi]
 rfl
theorem otF_le:(otF l B).length<=l.length:=by
 by_cases h:B.length=0
 ·rw [otF_len0 h]; omega
 ·rw [otF_len h]; omega
theorem otX_bd {n:Nat} (hl:lsB n l) {i:Nat} (hi:i<l.length):(l.getD i z0).rd<=otX l B i/\otX l B i+(l.getD i z0).hr<=(l.getD i z0).du:=by
 obtain ⟨b1,b2,b3,⟨b4,b5⟩,_,_⟩:=hl.2 i hi
 have h1:=Int.emod_nonneg (B.getD (i % B.length) 0) (b:=(l.getD i z0).du - (l.getD i z0).hr - (l.getD i z0).rd+1) (by omega)
 have h2:=Int.emod_lt_of_pos (B.getD (i % B.length) 0) (b:=(l.getD i z0).du - (l.getD i z0).hr - (l.getD i z0).rd+1) (by omega)
 unfold otX
 omega
theorem otF_dv {n:Nat} (hl:lsB n l):dvB l (otF l B):=by
 intro i hi
 by_cases h:B.length=0
 ·rw [otF_len0 h] at hi; omega
 ·rw [otF_len h] at hi
  rw [otF_get h hi]
  exact otX_bd hl hi
theorem lOs_ok:LSound Try.prog true (.block 0 (.loop (loopB 0 (bodyOf Try.prog 10)))) (ntOf Try.prog 10) (fun lock tt h K=>FitP lock h tt ⟨1,[0].zip [.vec 0 (dG []) 1 3]⟩ (dsO.zip (VO R l B hour more S er 0 (.sl 0 0)))/\(lsB R.length l/\R.length<=168/\byB B)/\∀ E:List Int,E=otF l B->K .normal (dsO.zip (VO R l B hour more S er E.length (.sl 0 E.length))) ⟨1,[0].zip [.vec E.length (dG E) 1 3]⟩):=by
 by_cases hc:lsB R.length l/\R.length<=168/\byB B
 ·obtain ⟨hl,h168,hB⟩:=hc
  have hl6:=hl.1
  refine loop_row hmix good0 (un:=10) (ds:=dsO) (ns:=[0]) (nx:=1) (fun i:Nat=>VO R l B hour more S er i (.sl 0 i)) (fun i=>[.vec i (dG (otF l B)) 1 3]) (fun i=>i<=(otF l B).length) (fun i=>(otF l B).length - i) (fun _ e vs bs=>e=.exit 0/\vs=VO R l B hour more S er (otF l B).length (.sl 0 (otF l B).length)/\bs=[.vec (otF l B).length (dG (otF l B)) 1 3]) noL_ok ?_ ?_
  ·rintro i h0
   have h0:i<=(otF l B).length:=h0
   refine cast (spo_ev R l B hour more S er i (dG (otF l B)) _).symm ?_
   refine cond_d (fun hi=>cond_d (fun hb=>?_) (fun hb=>?_)) (fun hi=>?_)
   ·have hb:B.length ≠ 0:=by omega
    have hi:i<l.length:=by omega
    have hlen:(otF l B).length=l.length:=otF_len hb
    obtain ⟨b1,b2,b3,⟨b4,b5⟩,_,_⟩:=hl.2 i hi
    have e1:remZ (i:Int) (B.length:Int)=((i % B.length:Nat):Int):=by rw [remZ_nn (by omega)]; exact (Int.natCast_emod _ _).symm
    have hm:=Nat.mod_lt i (show 0<B.length by omega)
    have hBi:=hB.2 (i % B.length)
    have hx:=otX_bd (B:=B) hl hi
    have e2:(l.getD i z0).rd+remZ (B.getD (i % B.length) 0) ((l.getD i z0).du - (l.getD i z0).hr - (l.getD i z0).rd+1)=otX l B i:=by rw [remZ_nn hBi.1]; rfl
    rw [e1]
    refine cond_dk ⟨by omega,by omega⟩ (cond_d (fun h=>by omega) (fun _=>cond_dk ⟨by omega,by omega⟩ (cond_r ⟨by show _<=B.getD (i % B.length) 0; omega,by show B.getD (i % B.length) 0<=_; omega⟩ (cond_dk ⟨by omega,by omega⟩ (cond_dk ⟨by omega,by omega⟩ (cond_r ⟨by show _<=(l.getD i z0).du - (l.getD i z0).hr; omega,by show (l.getD i z0).du - (l.getD i z0).hr<=_; omega⟩ (cond_dk ⟨by omega,by omega⟩ (cond_r ⟨by show _<=(l.getD i z0).du - (l.getD i z0).hr - (l.getD i z0).rd; omega,by show (l.getD i z0).du - (l.getD i z0).hr - (l.getD i z0).rd<=_; omega⟩ (cond_r ⟨by show _<=(l.getD i z0).du - (l.getD i z0).hr - (l.getD i z0).rd+1; omega,by show (l.getD i z0).du - (l.getD i z0).hr - (l.getD i z0).rd+1<=_; omega⟩ (cond_d (fun h=>?_) (fun _=>cond_r ?_ (cond_k (Nat.beq_refl _) (cond_k (room8 (by omega)) (cond_r (by omega) ⟨i+1,by show i+1<=_; omega,by dsimp only; omega,rfl,⟨⟨rfl,rfl,rfl,fun j hj=>?_⟩,trivial⟩,fun _ _ _ h=>h⟩))))))))))))))
    ·have h:(l.getD i z0).du - (l.getD i z0).hr - (l.getD i z0).rd+1=0:=h
     omega
    ·show -9223372036854775808<=(l.getD i z0).rd+remZ (B.getD (i % B.length) 0) ((l.getD i z0).du - (l.getD i z0).hr - (l.getD i z0).rd+1)/\(l.getD i z0).rd+remZ (B.getD (i % B.length) 0) ((l.getD i z0).du - (l.getD i z0).hr - (l.getD i z0).rd+1)<=9223372036854775807
     rw [e2]
     omega
    ·show catG i (dG (otF l B)) (fun j=>List.take 1 (List.drop (j*1) [I ((l.getD i z0).rd+remZ (B.getD (i % B.length) 0) ((l.getD i z0).du - (l.getD i z0).hr - (l.getD i z0).rd+1))])) j=dG (otF l B) j
     rw [e2]
     by_cases hji:j<i
     ·rw [catG_lt hji]
     ·obtain rfl:j=i:=by omega
      rw [catG_ge (Nat.le_refl _),Nat.sub_self]
      unfold dG
      rw [otF_get hb hi]
      rfl
   ·have e:(otF l B).length=0:=otF_len0 (by omega)
    obtain rfl:i=(otF l B).length:=by omega
    exact ⟨rfl,rfl,rfl⟩
   ·have:=otF_le (l:=l) (B:=B)
    obtain rfl:i=(otF l B).length:=by omega
    exact ⟨rfl,rfl,rfl⟩
  ·rintro lock tt h K ⟨hf,_,k1⟩
   refine ⟨0,?_,Nat.zero_le _,?_⟩
   ·obtain ⟨⟨f1,f2,f3⟩,f4⟩:=hf
    refine ⟨⟨f1,f2,?_⟩,f4⟩
    obtain ⟨g1,_⟩:=f3
    exact ⟨by
     obtain ⟨g',e',_⟩:=VB.fit_vec g1
     rw [e']
     exact ⟨rfl,rfl,rfl,fun j hj=>absurd hj (Nat.not_lt_zero _)⟩,trivial⟩
   ·rintro e vs bs ⟨rfl,rfl,rfl⟩
    exact k1 _ rfl
 ·rintro lock tt h K ⟨hf,hc2,_⟩
  exact (hc hc2).elim
theorem lO_ok:LSound Try.prog true (.block 0 (.loop (loopB 0 (bodyOf Try.prog 10)))) (ntOf Try.prog 10) (lO R l B hour more er):=by
 rintro lock t h K ⟨S,hf,hc,k1⟩
 have key:LSound Try.prog true (.block 0 (.loop (loopB 0 (bodyOf Try.prog 10)))) (ntOf Try.prog 10) (fun lock tt h K=>FitP lock h tt ⟨0,([]:List Nat).zip []⟩ (dsO.zip (VO R l B hour more S er 0 .nils))/\(lsB R.length l/\R.length<=168/\byB B)/\∀ E:List Int,E=otF l B->K .normal (dsO.zip (VO R l B hour more S er E.length (.sl 0 E.length))) ⟨1,[0].zip [.vec E.length (dG E) 1 3]⟩):=
  ghost_row (d:=13) (nx:=0) (bs:=[]) (t0:=[14,12,11,10,0,1,2,3,4].zip [I 0,I er,inD S,.bool false,inD R,buD l,byD B,.int .u8 hour,.int .u32 more]) (dG []) 1 3 (lOs_ok (R:=R) (l:=l) (B:=B) (S:=S) (hour:=hour) (more:=more) (er:=er)) (by
   rintro lock t h K ⟨hf,hc,k1⟩
   refine ⟨⟨hf.1,?_⟩,⟨⟨rfl,rfl,VB.fit_refl _,trivial⟩,rfl,rfl,rfl,rfl,rfl,rfl,rfl,rfl,rfl,rfl,trivial⟩,hc,k1⟩
   obtain ⟨h1,h2,h3⟩:=hf.2
   exact ⟨h2,h1,h3⟩)
 exact key lock t h K ⟨hf,hc,k1⟩
theorem lC_ok:LSound Try.prog true (.block 2 (.loop (loopB 2 (bodyOf Try.prog 10)))) (ntOf Try.prog 10) (lC R l hour more):=by
 rintro lock t h K ⟨S,E,c,late,hf,hc,k1⟩
 obtain ⟨hl,h168,hlen,hd⟩:=hc
 have hl6:=hl.1
 have key:LSound Try.prog true (.block 2 (.loop (loopB 2 (bodyOf Try.prog 10)))) (ntOf Try.prog 10) (fun lock tt h K=>FitP lock h tt ⟨1,([]:List Nat).zip []⟩ (dsC.zip (VC R l hour more S E 0 c late))/\K .normal (dsC.zip (VC R l hour more S E S.length c late)) ⟨1,([]:List Nat).zip []⟩):=by
  refine loop_row hmix good0 (un:=10) (ds:=dsC) (ns:=[]) (nx:=1) (fun i:Nat=>VC R l hour more S E i c late) (fun _=>[]) (fun i=>i<=S.length) (fun i=>S.length - i) (fun _ e vs bs=>e=.exit 2/\bs=[]/\vs=VC R l hour more S E S.length c late) noL_ok ?_ ?_
  ·rintro i h0
   have h0:i<=S.length:=h0
   refine cast (spc_ev R l hour more S E i c late _).symm ?_
   refine cond_d (fun hi=>?_) (fun hi=>?_)
   ·have hi:i<S.length:=by omega
    obtain ⟨b1,b2,b3,⟨b4,b5⟩,_,_⟩:=hl.2 i (by omega)
    obtain ⟨d1,d2⟩:=hd i hi
    refine cond_dk ⟨by omega,by omega⟩ (cond_dk ⟨by omega,by omega⟩ (cond_d (fun h=>?_) (fun _=>cond_dk ⟨by omega,by omega⟩ (cond_dk ⟨by omega,by omega⟩ (cond_r ⟨by show _<=S.getD i 0+(l.getD i z0).hr; omega,by show S.getD i 0+(l.getD i z0).hr<=_; omega⟩ (cond_dk ⟨by omega,by omega⟩ (cond_d (fun h=>?_) (fun _=>cond_r (by omega) ⟨i+1,by show i+1<=_; omega,by dsimp only; omega,rfl,trivial,fun _ _ _ h=>h⟩))))))))
    ·have h:S.getD i 0<(l.getD i z0).rd:=h
     omega
    ·have h:S.getD i 0+(l.getD i z0).hr > (l.getD i z0).du:=h
     omega
   ·obtain rfl:i=S.length:=by omega
    exact ⟨rfl,rfl,rfl⟩
  ·rintro lock tt h K ⟨hf,k1⟩
   refine ⟨0,hf,Nat.zero_le _,?_⟩
   rintro e vs bs ⟨rfl,rfl,rfl⟩
   exact k1
 exact key lock t h K ⟨hf,k1⟩
theorem lX_ok:LSound Try.prog true (.block 4 (.loop (loopB 4 (bodyOf Try.prog 10)))) (ntOf Try.prog 10) (lX R l hour more):=by
 rintro lock t h K ⟨S,E,e0,hf,⟨hn,hlen,hlx⟩,k1⟩
 have key:LSound Try.prog true (.block 4 (.loop (loopB 4 (bodyOf Try.prog 10)))) (ntOf Try.prog 10) (fun lock tt h K=>FitP lock h tt ⟨1,([]:List Nat).zip []⟩ (dsX.zip (VX R l hour more S E 0 e0))/\∀ i:Nat,K .normal (dsX.zip (VX R l hour more S E i e0)) ⟨1,([]:List Nat).zip []⟩):=by
  refine loop_row hmix good0 (un:=10) (ds:=dsX) (ns:=[]) (nx:=1) (fun i:Nat=>VX R l hour more S E i e0) (fun _=>[]) (fun i=>i<=S.length/\∀ j,j<i->S.getD j 0=E.getD j 0) (fun i=>S.length - i) (fun _ e vs bs=>e=.exit 4/\bs=[]/\∃ i:Nat,vs=VX R l hour more S E i e0) noL_ok ?_ ?_
  ·rintro i ⟨h0,hp⟩
   refine cast (spx_ev R l hour more S E i e0 _).symm ?_
   refine cond_d (fun hi=>?_) (fun hi=>⟨rfl,rfl,i,rfl⟩)
   have hi:i<S.length:=by omega
   refine cond_dk ⟨by omega,by omega⟩ (cond_dk ⟨by omega,by omega⟩ (cond_nd (fun hne=>cond_dk ⟨by omega,by omega⟩ (cond_dk ⟨by omega,by omega⟩ (cond_d (fun hlt=>?_) (fun _=>⟨rfl,rfl,i,rfl⟩)))) (fun heq=>cond_r (by omega) ⟨i+1,⟨by omega,fun j hj=>?_⟩,by dsimp only; omega,rfl,trivial,fun _ _ _ h=>h⟩)))
   ·have hlt:E.getD i 0<S.getD i 0:=hlt
    rcases hlx with rfl | ⟨k,k2,k3⟩
    ·omega
    ·by_cases h1:k<i
     ·have:=hp k h1
      omega
     ·by_cases h2:k=i
      ·subst h2; omega
      ·have:=k3 i (by omega)
       omega
   ·by_cases h1:j<i
    ·exact hp j h1
    ·obtain rfl:j=i:=by omega
     exact heq
  ·rintro lock tt h K ⟨hf,k1⟩
   refine ⟨0,hf,⟨Nat.zero_le _,fun j hj=>absurd hj (Nat.not_lt_zero _)⟩,?_⟩
   rintro e vs bs ⟨rfl,rfl,i,rfl⟩
   exact k1 i
 exact key lock t h K ⟨hf,k1⟩
theorem runA_ok:SpOk Try.prog (runA l er).1 (runA l er).2:=by
 intro lock args h K hK
 simp only [runA] at hK
 split at hK
 ·rename_i n s g y
  obtain ⟨W,⟨rfl,rfl,hg⟩,rfl,he,hK⟩:=hK
  obtain ⟨h',hc⟩:=runs_v (R:=W) (l:=l)
  rw [he] at hc
  have h2:CallsV Try.prog 21 [inD W,buD l] h (.ret (.tup [inD (rsD W l),I er])) h:=calls_lift0 hc rfl rfl
  refine ⟨_,h,hK _ rfl,lockP_refl _ _,fun B R w xs em hx=>h2 B R w xs em ?_⟩
  obtain ⟨y0,_,k0,k1,rfl⟩:=hx
  exact ⟨_,_,tl_congr hg k0,k1,rfl⟩
 ·exact hK.elim
theorem plA_ok:SpOk Try.prog (plA l).1 (plA l).2:=by
 intro lock args h K hK
 simp only [plA] at hK
 split at hK
 ·obtain ⟨W,D,hx,rfl,hz,⟨hc,hn⟩,hK⟩:=hK
  obtain ⟨h',hc⟩:=plan_v hc hn
  exact ⟨_,h,hK _ _ rfl rfl,lockP_refl _ _,calls_lendDP 3 hc rfl ⟨hx,⟨rfl,rfl,fun _ _=>rfl⟩,hz,trivial⟩⟩
 ·exact hK.elim
theorem rmY_ok:SpOk Try.prog (rmY R).1 (rmY R).2:=by
 intro lock args h K hK
 simp only [rmY] at hK
 split at hK
 ·rename_i x
  obtain ⟨rfl,hR,hK⟩:=hK
  refine rmR_ok R lock [inD R] h K ?_
  have h1:anyRm R=false:=by
   cases ha:anyRm R with
   | false=>rfl
   | true=>
    obtain ⟨i,hi,ho⟩:=anyRm_iff.1 ha
    have:=hR.2 i hi
    unfold okRm at ho
    rw [decide_eq_true (show 0<=R.getD i 0/\R.getD i 0<=8796093022208 from this)] at ho
    cases ho
  show isD h 3 (inD R) (inD R)/\R.length<=100000/\K (.ret (.bool (!anyRm R && decide (R.length<=168)))) h
  have:=hR.1
  refine ⟨isD_in,by omega,?_⟩
  rw [h1,decide_eq_true this]
  exact hK
 ·exact hK.elim
theorem brY_ok:SpOk Try.prog (brY R l).1 (brY R l).2:=by
 intro lock args h K hK
 simp only [brY] at hK
 split at hK
 ·rename_i x y
  obtain ⟨rfl,rfl,⟨hn,hl⟩,hK⟩:=hK
  refine brR_ok R l lock [I R.length,buD l] h K ?_
  have h1:anyBr l R=false:=by
   cases ha:anyBr l R with
   | false=>rfl
   | true=>
    obtain ⟨i,hi,ho⟩:=anyBr_iff.1 ha
    have h2:=hl.2 i hi
    unfold brB at h2
    unfold okBr at ho
    rw [decide_eq_true h2] at ho
    cases ho
  show (R.length:Int)=R.length/\isD h 3 (buD l) (buD l)/\(R.length<=100000/\l.length<=100000)/\K (.ret (.bool (!anyBr l R && decide (l.length<=6)))) h
  have:=hl.1
  refine ⟨rfl,⟨rfl,rfl,fun _ _=>rfl⟩,⟨by omega,by omega⟩,?_⟩
  rw [h1,decide_eq_true this]
  exact hK
 ·exact hK.elim
theorem set_get {k:Nat} {v:Int} (hk:k<R.length) (j:Nat):(R.set k v).getD j 0=if j=k then v else R.getD j 0:=by
 rw [List.getD_eq_getElem?_getD,List.getD_eq_getElem?_getD,List.getElem?_set]
 by_cases h:k=j
 ·subst h
  rw [if_pos rfl,if_pos hk,if_pos rfl]
  rfl
 ·rw [if_neg h,if_neg (fun e=>h e.symm)]
theorem tail_ok {en:Int} (hR:rmB R) (hl:lsB R.length l) (h20:R.length<=20) (hS:bestR R l=some S) (hen:en=endF l S S.length) (hh:0<=hour/\hour<=255) (hm:0<=more/\more<=4294967295):(bif decide ((↑R.length:Int)=(0:Int)) then
 VRes.ret (VV.bool true)=.ret (.bool true)
 else bif roomB (0+R.length) (8) then
 bif inK .i64 hour then
 bif decide ((↑(0+R.length):Int)=(0:Int)) then
 False
 else bif decide ((0:Int)<=remZ hour (↑(0+R.length):Int)/\remZ hour (↑(0+R.length):Int)<(↑(0+R.length):Int)) then
 bif (0+R.length).beq (0+R.length) && Nat.ble 1 Try.prog.types[3].size then
 bif (0+R.length).beq (0+R.length) then
 bif inK .i64 more then
 bif inK .i64 (R.getD ((remZ hour (↑(0+R.length):Int)).toNat - 0) (0:Int)+more) then
 bif decide ((0:Int)<=remZ hour (↑(0+R.length):Int)/\remZ hour (↑(0+R.length):Int)<(↑(0+R.length):Int)) then
 bif (0+R.length).beq (0+R.length) && Nat.ble 1 Try.prog.types[3].size then
 bif (0+R.length).beq (0+R.length) && [I (min (8796093022208:Int) (R.getD ((remZ hour (↑(0+R.length):Int)).toNat - 0) (0:Int)+more))].all VV.one && belL 0 [I (min (8796093022208:Int) (R.getD ((remZ hour (↑(0+R.length):Int)).toNat - 0) (0:Int)+more))] then
 bif (0+R.length).beq (0+R.length) && Nat.ble 1 (1) then
 ∃ (W:List Int),(0+R.length=W.length/\1=1/\∀ (j:Nat),j<0+R.length->atG (remZ hour (↑(0+R.length):Int)).toNat (catG 0 (fun (j:Nat)=>List.take (1) (List.drop (j*(1)) [])) (dG R)) [I (min (8796093022208:Int) (R.getD ((remZ hour (↑(0+R.length):Int)).toNat - 0) (0:Int)+more))] j=dG W j)/\buD l=buD l/\rsE W l=(0:Int)/\∀ (S:List Int),S=rsD W l->bif !decide ((↑S.length:Int)=(↑l.length:Int)) then
 VRes.ret (VV.bool false)=.ret (.bool true)
 else ∃ (W:List Int),∃ (D:List Int),isD (VH.mk (2) ((1,VB.gone)::(1,VB.vec (0+R.length) (atG (remZ hour (↑(0+R.length):Int)).toNat (catG 0 (fun (j:Nat)=>List.take (1) (List.drop (j*(1)) [])) (dG R)) [I (min (8796093022208:Int) (R.getD ((remZ hour (↑(0+R.length):Int)).toNat - 0) (0:Int)+more))]) (1) 3)::(1,VB.vec (0+R.length) (catG 0 (fun (j:Nat)=>List.take (1) (List.drop (j*(1)) [])) (dG R)) (1) 3)::(1,VB.vec 0 (fun (j:Nat)=>List.take (1) (List.drop (j*(1)) [])) (1) 3)::[].zip [])) 3 (VV.tl (0+R.length) (1) (atG (remZ hour (↑(0+R.length):Int)).toNat (catG 0 (fun (j:Nat)=>List.take (1) (List.drop (j*(1)) [])) (dG R)) [I (min (8796093022208:Int) (R.getD ((remZ hour (↑(0+R.length):Int)).toNat - 0) (0:Int)+more))])) (inD W)/\buD l=buD l/\isD (VH.mk (2) ((1,VB.gone)::(1,VB.vec (0+R.length) (atG (remZ hour (↑(0+R.length):Int)).toNat (catG 0 (fun (j:Nat)=>List.take (1) (List.drop (j*(1)) [])) (dG R)) [I (min (8796093022208:Int) (R.getD ((remZ hour (↑(0+R.length):Int)).toNat - 0) (0:Int)+more))]) (1) 3)::(1,VB.vec (0+R.length) (catG 0 (fun (j:Nat)=>List.take (1) (List.drop (j*(1)) [])) (dG R)) (1) 3)::(1,VB.vec 0 (fun (j:Nat)=>List.take (1) (List.drop (j*(1)) [])) (1) 3)::[].zip [])) 3 (inD S) (inD D)/\(cnP l D/\W.length<=100000)/\∀ (b:Bool) (e:Int),b=okP W l D->(e=if okP W l D=true then
 endF l D D.length
 else (0:Int))->bif decide (e<=en) then
 VRes.ret (VV.bool true)=.ret (.bool true)
 else VRes.ret (VV.bool false)=.ret (.bool true)
 else False
 else False
 else False
 else False
 else False
 else False
 else False
 else False
 else False
 else False
 else False):=by
 refine cond_d (fun _=>rfl) (fun h0=>?_)
 have hn:0<R.length:=by omega
 have hk0:=Int.emod_nonneg hour (b:=(R.length:Int)) (by omega)
 have hk1:=Int.emod_lt_of_pos hour (b:=(R.length:Int)) (by omega)
 obtain ⟨k,hk⟩:∃ k:Nat,remZ hour (↑(0+R.length):Int)=(k:Int):=⟨(hour % (R.length:Int)).toNat,by rw [remZ_nn hh.1,Nat.zero_add]; omega⟩
 have hkl:k<R.length:=by
  rw [remZ_nn hh.1,Nat.zero_add] at hk
  omega
 rw [hk]
 have hRk:=hR.2 k hkl
 have hW:(R.set k (min 8796093022208 (R.getD k 0+more))).length=R.length:=List.length_set
 have hget:=fun j=>set_get (v:=min 8796093022208 (R.getD k 0+more)) hkl j
 generalize hWe:R.set k (min 8796093022208 (R.getD k 0+more))=W at hW hget
 have hWb:rmB W:=by
  refine ⟨by have:=hR.1; omega,fun j hj=>?_⟩
  have:=hR.2 j (by omega)
  rw [hget j]
  split
  ·omega
  ·exact this
 have hup:∀ i,i<R.length->R.getD i 0<=W.getD i 0:=fun i hi=>by
  rw [hget i]
  split
  ·rename_i e
   subst e
   omega
  ·omega
 obtain ⟨T,hT,hTp,hTe⟩:=best_room hR hWb hl hW hup hS
 have hok:okRuns W l=true:=okRuns_iff.2 ⟨hWb,by rw [hW]; exact hl⟩
 have e1:rsE W l=0:=by unfold rsE; rw [if_neg (by rw [hok]; simp),hT,if_neg (by simp)]
 have e2:rsD W l=T:=by unfold rsD; rw [if_neg (by rw [hok]; simp),hT]; rfl
 have hel:∀ j:Nat,j<0+R.length->atG (k:Int).toNat (catG 0 (fun j=>List.take 1 (List.drop (j*1) [])) (dG R)) [I (min 8796093022208 (R.getD ((k:Int).toNat - 0) 0+more))] j=dG W j:=fun j _=>by
  show (bif Nat.beq j k then [I (min 8796093022208 (R.getD k 0+more))] else catG 0 (fun j=>List.take 1 (List.drop (j*1) [])) (dG R) j)=[I (W.getD j 0)]
  rw [hget j]
  by_cases h:j=k
  ·subst h
   rw [Nat.beq_refl,if_pos rfl]
   rfl
  ·rw [beq_f h,if_neg h,cond_false,catG_ge (Nat.zero_le _)]
   rfl
 have h168:=hR.1
 refine cond_k (room8 (by omega)) (cond_r (by omega) (cond_d (fun h=>by omega) (fun _=>cond_dk ⟨by omega,by omega⟩ (cond_k (by rw [Nat.beq_refl]; rfl) (cond_k (Nat.beq_refl _) (cond_r (by omega) (cond_r ⟨by show _<=R.getD k 0+more; omega,by show R.getD k 0+more<=_; omega⟩ (cond_dk ⟨by omega,by omega⟩ (cond_k (by rw [Nat.beq_refl]; rfl) (cond_k (by rw [Nat.beq_refl]; rfl) (cond_k (by rw [Nat.beq_refl]; rfl) ⟨W,⟨by omega,rfl,hel⟩,rfl,e1,?_⟩)))))))))))
 rintro S2 hS2
 rw [e2] at hS2
 subst hS2
 refine cond_nd (fun h=>(h (by rw [hTp.1])).elim) (fun _=>⟨W,S2,⟨by omega,rfl,hel⟩,rfl,isD_in,⟨dvB_cnP hl (by omega) (by rw [hTp.1]; omega) hTp.2.2,by omega⟩,?_⟩)
 rintro b e _ he
 rw [if_pos hTp.2.1] at he
 exact cond_dk (by omega) rfl
theorem rest_ok {c:Bool} {late e:Int} {E1:List Int} (hR:rmB R) (hl:lsB R.length l) (h20:R.length<=20) (hS:bestR R l=some S) (hen:e=endF l S S.length) (hh:0<=hour/\hour<=255) (hm:0<=more/\more<=4294967295) (hE:c=true->planB R l E1/\late=endF l E1 E1.length) {b:Bool}:(bif c then
 bif decide (late<e) then
 VRes.ret (VV.bool false)=.ret (.bool true)
 else bif c then
 bif decide (late=e) then
 ∃ (S_2:List Int),∃ (E:List Int),∃ (e_1:Int),FitP 0 (VH.mk 1 ([].zip [])) ((20,I 0)::(199,VV.bool true)::(199,VV.bool (decide (late=e)))::(198,VV.bool (decide (late=e)))::(195,VV.bool true)::(197,I e)::(195,VV.bool true)::(196,I late)::(195,VV.bool true)::(195,VV.bool c)::(194,VV.bool c)::(193,VV.bool false)::(193,VV.bool (decide (late<e)))::(192,VV.bool (decide (late<e)))::(186,VV.bool false)::(191,VV.bool (decide (late<e)))::(188,VV.bool true)::(190,I e)::(188,VV.bool true)::(189,I late)::(188,VV.bool true)::(188,VV.bool c)::(186,VV.bool false)::(187,VV.bool c)::(186,VV.bool false)::(186,VV.bool !b)::(185,VV.bool !b)::(184,VV.bool b)::(19,VV.bool b)::(18,I e)::(183,VV.bool b)::(182,I e)::(177,VV.tup [I e,VV.bool b])::(181,VV.tup [I e,VV.bool b])::(180,inD S)::(179,buD l)::(178,inD R)::dsC.zip (VC R l hour more S E1 S.length c late)) (VH.mk 1 ([].zip [])) (dsX.zip (VX R l hour more S_2 E 0 e_1))/\(S_2.length<=100000/\E.length=S_2.length/\(E=S_2 ∨ lexP S_2 E))/\∀ (i:Nat),bif decide ((↑R.length:Int)=(0:Int)) then
 VRes.ret (VV.bool true)=.ret (.bool true)
 else bif roomB (0+R.length) (8) then
 bif inK .i64 hour then
 bif decide ((↑(0+R.length):Int)=(0:Int)) then
 False
 else bif decide ((0:Int)<=remZ hour (↑(0+R.length):Int)/\remZ hour (↑(0+R.length):Int)<(↑(0+R.length):Int)) then
 bif (0+R.length).beq (0+R.length) && Nat.ble 1 Try.prog.types[3].size then
 bif (0+R.length).beq (0+R.length) then
 bif inK .i64 more then
 bif inK .i64 (R.getD ((remZ hour (↑(0+R.length):Int)).toNat - 0) (0:Int)+more) then
 bif decide ((0:Int)<=remZ hour (↑(0+R.length):Int)/\remZ hour (↑(0+R.length):Int)<(↑(0+R.length):Int)) then
 bif (0+R.length).beq (0+R.length) && Nat.ble 1 Try.prog.types[3].size then
 bif (0+R.length).beq (0+R.length) && [I (min (8796093022208:Int) (R.getD ((remZ hour (↑(0+R.length):Int)).toNat - 0) (0:Int)+more))].all VV.one && belL 0 [I (min (8796093022208:Int) (R.getD ((remZ hour (↑(0+R.length):Int)).toNat - 0) (0:Int)+more))] then
 bif (0+R.length).beq (0+R.length) && Nat.ble 1 (1) then
 ∃ (W:List Int),(0+R.length=W.length/\1=1/\∀ (j:Nat),j<0+R.length->atG (remZ hour (↑(0+R.length):Int)).toNat (catG 0 (fun (j:Nat)=>List.take (1) (List.drop (j*(1)) [])) (dG R)) [I (min (8796093022208:Int) (R.getD ((remZ hour (↑(0+R.length):Int)).toNat - 0) (0:Int)+more))] j=dG W j)/\buD l=buD l/\rsE W l=(0:Int)/\∀ (S:List Int),S=rsD W l->bif !decide ((↑S.length:Int)=(↑l.length:Int)) then
 VRes.ret (VV.bool false)=.ret (.bool true)
 else ∃ (W:List Int),∃ (D:List Int),isD (VH.mk (2) ((1,VB.gone)::(1,VB.vec (0+R.length) (atG (remZ hour (↑(0+R.length):Int)).toNat (catG 0 (fun (j:Nat)=>List.take (1) (List.drop (j*(1)) [])) (dG R)) [I (min (8796093022208:Int) (R.getD ((remZ hour (↑(0+R.length):Int)).toNat - 0) (0:Int)+more))]) (1) 3)::(1,VB.vec (0+R.length) (catG 0 (fun (j:Nat)=>List.take (1) (List.drop (j*(1)) [])) (dG R)) (1) 3)::(1,VB.vec 0 (fun (j:Nat)=>List.take (1) (List.drop (j*(1)) [])) (1) 3)::[].zip [])) 3 (VV.tl (0+R.length) (1) (atG (remZ hour (↑(0+R.length):Int)).toNat (catG 0 (fun (j:Nat)=>List.take (1) (List.drop (j*(1)) [])) (dG R)) [I (min (8796093022208:Int) (R.getD ((remZ hour (↑(0+R.length):Int)).toNat - 0) (0:Int)+more))])) (inD W)/\buD l=buD l/\isD (VH.mk (2) ((1,VB.gone)::(1,VB.vec (0+R.length) (atG (remZ hour (↑(0+R.length):Int)).toNat (catG 0 (fun (j:Nat)=>List.take (1) (List.drop (j*(1)) [])) (dG R)) [I (min (8796093022208:Int) (R.getD ((remZ hour (↑(0+R.length):Int)).toNat - 0) (0:Int)+more))]) (1) 3)::(1,VB.vec (0+R.length) (catG 0 (fun (j:Nat)=>List.take (1) (List.drop (j*(1)) [])) (dG R)) (1) 3)::(1,VB.vec 0 (fun (j:Nat)=>List.take (1) (List.drop (j*(1)) [])) (1) 3)::[].zip [])) 3 (inD S) (inD D)/\(cnP l D/\W.length<=100000)/\∀ (b:Bool) (e:Int),b=okP W l D->(e=if okP W l D=true then
 endF l D D.length
 else (0:Int))->bif decide (e<=e_1) then
 VRes.ret (VV.bool true)=.ret (.bool true)
 else VRes.ret (VV.bool false)=.ret (.bool true)
 else False
 else False
 else False
 else False
 else False
 else False
 else False
 else False
 else False
 else False
 else False
 else bif decide ((↑R.length:Int)=(0:Int)) then
 VRes.ret (VV.bool true)=.ret (.bool true)
 else bif roomB (0+R.length) (8) then
 bif inK .i64 hour then
 bif decide ((↑(0+R.length):Int)=(0:Int)) then
 False
 else bif decide ((0:Int)<=remZ hour (↑(0+R.length):Int)/\remZ hour (↑(0+R.length):Int)<(↑(0+R.length):Int)) then
 bif (0+R.length).beq (0+R.length) && Nat.ble 1 Try.prog.types[3].size then
 bif (0+R.length).beq (0+R.length) then
 bif inK .i64 more then
 bif inK .i64 (R.getD ((remZ hour (↑(0+R.length):Int)).toNat - 0) (0:Int)+more) then
 bif decide ((0:Int)<=remZ hour (↑(0+R.length):Int)/\remZ hour (↑(0+R.length):Int)<(↑(0+R.length):Int)) then
 bif (0+R.length).beq (0+R.length) && Nat.ble 1 Try.prog.types[3].size then
 bif (0+R.length).beq (0+R.length) && [I (min (8796093022208:Int) (R.getD ((remZ hour (↑(0+R.length):Int)).toNat - 0) (0:Int)+more))].all VV.one && belL 0 [I (min (8796093022208:Int) (R.getD ((remZ hour (↑(0+R.length):Int)).toNat - 0) (0:Int)+more))] then
 bif (0+R.length).beq (0+R.length) && Nat.ble 1 (1) then
 ∃ (W:List Int),(0+R.length=W.length/\1=1/\∀ (j:Nat),j<0+R.length->atG (remZ hour (↑(0+R.length):Int)).toNat (catG 0 (fun (j:Nat)=>List.take (1) (List.drop (j*(1)) [])) (dG R)) [I (min (8796093022208:Int) (R.getD ((remZ hour (↑(0+R.length):Int)).toNat - 0) (0:Int)+more))] j=dG W j)/\buD l=buD l/\rsE W l=(0:Int)/\∀ (S:List Int),S=rsD W l->bif !decide ((↑S.length:Int)=(↑l.length:Int)) then
 VRes.ret (VV.bool false)=.ret (.bool true)
 else ∃ (W:List Int),∃ (D:List Int),isD (VH.mk (2) ((1,VB.gone)::(1,VB.vec (0+R.length) (atG (remZ hour (↑(0+R.length):Int)).toNat (catG 0 (fun (j:Nat)=>List.take (1) (List.drop (j*(1)) [])) (dG R)) [I (min (8796093022208:Int) (R.getD ((remZ hour (↑(0+R.length):Int)).toNat - 0) (0:Int)+more))]) (1) 3)::(1,VB.vec (0+R.length) (catG 0 (fun (j:Nat)=>List.take (1) (List.drop (j*(1)) [])) (dG R)) (1) 3)::(1,VB.vec 0 (fun (j:Nat)=>List.take (1) (List.drop (j*(1)) [])) (1) 3)::[].zip [])) 3 (VV.tl (0+R.length) (1) (atG (remZ hour (↑(0+R.length):Int)).toNat (catG 0 (fun (j:Nat)=>List.take (1) (List.drop (j*(1)) [])) (dG R)) [I (min (8796093022208:Int) (R.getD ((remZ hour (↑(0+R.length):Int)).toNat - 0) (0:Int)+more))])) (inD W)/\buD l=buD l/\isD (VH.mk (2) ((1,VB.gone)::(1,VB.vec (0+R.length) (atG (remZ hour (↑(0+R.length):Int)).toNat (catG 0 (fun (j:Nat)=>List.take (1) (List.drop (j*(1)) [])) (dG R)) [I (min (8796093022208:Int) (R.getD ((remZ hour (↑(0+R.length):Int)).toNat - 0) (0:Int)+more))]) (1) 3)::(1,VB.vec (0+R.length) (catG 0 (fun (j:Nat)=>List.take (1) (List.drop (j*(1)) [])) (dG R)) (1) 3)::(1,VB.vec 0 (fun (j:Nat)=>List.take (1) (List.drop (j*(1)) [])) (1) 3)::[].zip [])) 3 (inD S) (inD D)/\(cnP l D/\W.length<=100000)/\∀ (b:Bool) (e_1:Int),b=okP W l D->(e_1=if okP W l D=true then
 endF l D D.length
 else (0:Int))->bif decide (e_1<=e) then
 VRes.ret (VV.bool true)=.ret (.bool true)
 else VRes.ret (VV.bool false)=.ret (.bool true)
 else False
 else False
 else False
 else False
 else False
 else False
 else False
 else False
 else False
 else False
 else False
 else bif decide ((↑R.length:Int)=(0:Int)) then
 VRes.ret (VV.bool true)=.ret (.bool true)
 else bif roomB (0+R.length) (8) then
 bif inK .i64 hour then
 bif decide ((↑(0+R.length):Int)=(0:Int)) then
 False
 else bif decide ((0:Int)<=remZ hour (↑(0+R.length):Int)/\remZ hour (↑(0+R.length):Int)<(↑(0+R.length):Int)) then
 bif (0+R.length).beq (0+R.length) && Nat.ble 1 Try.prog.types[3].size then
 bif (0+R.length).beq (0+R.length) then
 bif inK .i64 more then
 bif inK .i64 (R.getD ((remZ hour (↑(0+R.length):Int)).toNat - 0) (0:Int)+more) then
 bif decide ((0:Int)<=remZ hour (↑(0+R.length):Int)/\remZ hour (↑(0+R.length):Int)<(↑(0+R.length):Int)) then
 bif (0+R.length).beq (0+R.length) && Nat.ble 1 Try.prog.types[3].size then
 bif (0+R.length).beq (0+R.length) && [I (min (8796093022208:Int) (R.getD ((remZ hour (↑(0+R.length):Int)).toNat - 0) (0:Int)+more))].all VV.one && belL 0 [I (min (8796093022208:Int) (R.getD ((remZ hour (↑(0+R.length):Int)).toNat - 0) (0:Int)+more))] then
 bif (0+R.length).beq (0+R.length) && Nat.ble 1 (1) then
 ∃ (W:List Int),(0+R.length=W.length/\1=1/\∀ (j:Nat),j<0+R.length->atG (remZ hour (↑(0+R.length):Int)).toNat (catG 0 (fun (j:Nat)=>List.take (1) (List.drop (j*(1)) [])) (dG R)) [I (min (8796093022208:Int) (R.getD ((remZ hour (↑(0+R.length):Int)).toNat - 0) (0:Int)+more))] j=dG W j)/\buD l=buD l/\rsE W l=(0:Int)/\∀ (S:List Int),S=rsD W l->bif !decide ((↑S.length:Int)=(↑l.length:Int)) then
 VRes.ret (VV.bool false)=.ret (.bool true)
 else ∃ (W:List Int),∃ (D:List Int),isD (VH.mk (2) ((1,VB.gone)::(1,VB.vec (0+R.length) (atG (remZ hour (↑(0+R.length):Int)).toNat (catG 0 (fun (j:Nat)=>List.take (1) (List.drop (j*(1)) [])) (dG R)) [I (min (8796093022208:Int) (R.getD ((remZ hour (↑(0+R.length):Int)).toNat - 0) (0:Int)+more))]) (1) 3)::(1,VB.vec (0+R.length) (catG 0 (fun (j:Nat)=>List.take (1) (List.drop (j*(1)) [])) (dG R)) (1) 3)::(1,VB.vec 0 (fun (j:Nat)=>List.take (1) (List.drop (j*(1)) [])) (1) 3)::[].zip [])) 3 (VV.tl (0+R.length) (1) (atG (remZ hour (↑(0+R.length):Int)).toNat (catG 0 (fun (j:Nat)=>List.take (1) (List.drop (j*(1)) [])) (dG R)) [I (min (8796093022208:Int) (R.getD ((remZ hour (↑(0+R.length):Int)).toNat - 0) (0:Int)+more))])) (inD W)/\buD l=buD l/\isD (VH.mk (2) ((1,VB.gone)::(1,VB.vec (0+R.length) (atG (remZ hour (↑(0+R.length):Int)).toNat (catG 0 (fun (j:Nat)=>List.take (1) (List.drop (j*(1)) [])) (dG R)) [I (min (8796093022208:Int) (R.getD ((remZ hour (↑(0+R.length):Int)).toNat - 0) (0:Int)+more))]) (1) 3)::(1,VB.vec (0+R.length) (catG 0 (fun (j:Nat)=>List.take (1) (List.drop (j*(1)) [])) (dG R)) (1) 3)::(1,VB.vec 0 (fun (j:Nat)=>List.take (1) (List.drop (j*(1)) [])) (1) 3)::[].zip [])) 3 (inD S) (inD D)/\(cnP l D/\W.length<=100000)/\∀ (b:Bool) (e_1:Int),b=okP W l D->(e_1=if okP W l D=true then
 endF l D D.length
 else (0:Int))->bif decide (e_1<=e) then
 VRes.ret (VV.bool true)=.ret (.bool true)
 else VRes.ret (VV.bool false)=.ret (.bool true)
 else False
 else False
 else False
 else False
 else False
 else False
 else False
 else False
 else False
 else False
 else False
 else bif c then
 bif decide (late=e) then
 ∃ (S_2:List Int),∃ (E:List Int),∃ (e_1:Int),FitP 0 (VH.mk 1 ([].zip [])) ((20,I 0)::(199,VV.bool true)::(199,VV.bool (decide (late=e)))::(198,VV.bool (decide (late=e)))::(195,VV.bool true)::(197,I e)::(195,VV.bool true)::(196,I late)::(195,VV.bool true)::(195,VV.bool c)::(194,VV.bool c)::(193,VV.bool false)::(193,VV.bool false)::(192,VV.bool false)::(186,VV.bool false)::(191,udf)::(188,VV.bool false)::(190,udf)::(188,VV.bool false)::(189,udf)::(188,VV.bool false)::(188,VV.bool c)::(186,VV.bool false)::(187,VV.bool c)::(186,VV.bool false)::(186,VV.bool !b)::(185,VV.bool !b)::(184,VV.bool b)::(19,VV.bool b)::(18,I e)::(183,VV.bool b)::(182,I e)::(177,VV.tup [I e,VV.bool b])::(181,VV.tup [I e,VV.bool b])::(180,inD S)::(179,buD l)::(178,inD R)::dsC.zip (VC R l hour more S E1 S.length c late)) (VH.mk 1 ([].zip [])) (dsX.zip (VX R l hour more S_2 E 0 e_1))/\(S_2.length<=100000/\E.length=S_2.length/\(E=S_2 ∨ lexP S_2 E))/\∀ (i:Nat),bif decide ((↑R.length:Int)=(0:Int)) then
 VRes.ret (VV.bool true)=.ret (.bool true)
 else bif roomB (0+R.length) (8) then
 bif inK .i64 hour then
 bif decide ((↑(0+R.length):Int)=(0:Int)) then
 False
 else bif decide ((0:Int)<=remZ hour (↑(0+R.length):Int)/\remZ hour (↑(0+R.length):Int)<(↑(0+R.length):Int)) then
 bif (0+R.length).beq (0+R.length) && Nat.ble 1 Try.prog.types[3].size then
 bif (0+R.length).beq (0+R.length) then
 bif inK .i64 more then
 bif inK .i64 (R.getD ((remZ hour (↑(0+R.length):Int)).toNat - 0) (0:Int)+more) then
 bif decide ((0:Int)<=remZ hour (↑(0+R.length):Int)/\remZ hour (↑(0+R.length):Int)<(↑(0+R.length):Int)) then
 bif (0+R.length).beq (0+R.length) && Nat.ble 1 Try.prog.types[3].size then
 bif (0+R.length).beq (0+R.length) && [I (min (8796093022208:Int) (R.getD ((remZ hour (↑(0+R.length):Int)).toNat - 0) (0:Int)+more))].all VV.one && belL 0 [I (min (8796093022208:Int) (R.getD ((remZ hour (↑(0+R.length):Int)).toNat - 0) (0:Int)+more))] then
 bif (0+R.length).beq (0+R.length) && Nat.ble 1 (1) then
 ∃ (W:List Int),(0+R.length=W.length/\1=1/\∀ (j:Nat),j<0+R.length->atG (remZ hour (↑(0+R.length):Int)).toNat (catG 0 (fun (j:Nat)=>List.take (1) (List.drop (j*(1)) [])) (dG R)) [I (min (8796093022208:Int) (R.getD ((remZ hour (↑(0+R.length):Int)).toNat - 0) (0:Int)+more))] j=dG W j)/\buD l=buD l/\rsE W l=(0:Int)/\∀ (S:List Int),S=rsD W l->bif !decide ((↑S.length:Int)=(↑l.length:Int)) then
 VRes.ret (VV.bool false)=.ret (.bool true)
 else ∃ (W:List Int),∃ (D:List Int),isD (VH.mk (2) ((1,VB.gone)::(1,VB.vec (0+R.length) (atG (remZ hour (↑(0+R.length):Int)).toNat (catG 0 (fun (j:Nat)=>List.take (1) (List.drop (j*(1)) [])) (dG R)) [I (min (8796093022208:Int) (R.getD ((remZ hour (↑(0+R.length):Int)).toNat - 0) (0:Int)+more))]) (1) 3)::(1,VB.vec (0+R.length) (catG 0 (fun (j:Nat)=>List.take (1) (List.drop (j*(1)) [])) (dG R)) (1) 3)::(1,VB.vec 0 (fun (j:Nat)=>List.take (1) (List.drop (j*(1)) [])) (1) 3)::[].zip [])) 3 (VV.tl (0+R.length) (1) (atG (remZ hour (↑(0+R.length):Int)).toNat (catG 0 (fun (j:Nat)=>List.take (1) (List.drop (j*(1)) [])) (dG R)) [I (min (8796093022208:Int) (R.getD ((remZ hour (↑(0+R.length):Int)).toNat - 0) (0:Int)+more))])) (inD W)/\buD l=buD l/\isD (VH.mk (2) ((1,VB.gone)::(1,VB.vec (0+R.length) (atG (remZ hour (↑(0+R.length):Int)).toNat (catG 0 (fun (j:Nat)=>List.take (1) (List.drop (j*(1)) [])) (dG R)) [I (min (8796093022208:Int) (R.getD ((remZ hour (↑(0+R.length):Int)).toNat - 0) (0:Int)+more))]) (1) 3)::(1,VB.vec (0+R.length) (catG 0 (fun (j:Nat)=>List.take (1) (List.drop (j*(1)) [])) (dG R)) (1) 3)::(1,VB.vec 0 (fun (j:Nat)=>List.take (1) (List.drop (j*(1)) [])) (1) 3)::[].zip [])) 3 (inD S) (inD D)/\(cnP l D/\W.length<=100000)/\∀ (b:Bool) (e:Int),b=okP W l D->(e=if okP W l D=true then
 endF l D D.length
 else (0:Int))->bif decide (e<=e_1) then
 VRes.ret (VV.bool true)=.ret (.bool true)
 else VRes.ret (VV.bool false)=.ret (.bool true)
 else False
 else False
 else False
 else False
 else False
 else False
 else False
 else False
 else False
 else False
 else False
 else bif decide ((↑R.length:Int)=(0:Int)) then
 VRes.ret (VV.bool true)=.ret (.bool true)
 else bif roomB (0+R.length) (8) then
 bif inK .i64 hour then
 bif decide ((↑(0+R.length):Int)=(0:Int)) then
 False
 else bif decide ((0:Int)<=remZ hour (↑(0+R.length):Int)/\remZ hour (↑(0+R.length):Int)<(↑(0+R.length):Int)) then
 bif (0+R.length).beq (0+R.length) && Nat.ble 1 Try.prog.types[3].size then
 bif (0+R.length).beq (0+R.length) then
 bif inK .i64 more then
 bif inK .i64 (R.getD ((remZ hour (↑(0+R.length):Int)).toNat - 0) (0:Int)+more) then
 bif decide ((0:Int)<=remZ hour (↑(0+R.length):Int)/\remZ hour (↑(0+R.length):Int)<(↑(0+R.length):Int)) then
 bif (0+R.length).beq (0+R.length) && Nat.ble 1 Try.prog.types[3].size then
 bif (0+R.length).beq (0+R.length) && [I (min (8796093022208:Int) (R.getD ((remZ hour (↑(0+R.length):Int)).toNat - 0) (0:Int)+more))].all VV.one && belL 0 [I (min (8796093022208:Int) (R.getD ((remZ hour (↑(0+R.length):Int)).toNat - 0) (0:Int)+more))] then
 bif (0+R.length).beq (0+R.length) && Nat.ble 1 (1) then
 ∃ (W:List Int),(0+R.length=W.length/\1=1/\∀ (j:Nat),j<0+R.length->atG (remZ hour (↑(0+R.length):Int)).toNat (catG 0 (fun (j:Nat)=>List.take (1) (List.drop (j*(1)) [])) (dG R)) [I (min (8796093022208:Int) (R.getD ((remZ hour (↑(0+R.length):Int)).toNat - 0) (0:Int)+more))] j=dG W j)/\buD l=buD l/\rsE W l=(0:Int)/\∀ (S:List Int),S=rsD W l->bif !decide ((↑S.length:Int)=(↑l.length:Int)) then
 VRes.ret (VV.bool false)=.ret (.bool true)
 else ∃ (W:List Int),∃ (D:List Int),isD (VH.mk (2) ((1,VB.gone)::(1,VB.vec (0+R.length) (atG (remZ hour (↑(0+R.length):Int)).toNat (catG 0 (fun (j:Nat)=>List.take (1) (List.drop (j*(1)) [])) (dG R)) [I (min (8796093022208:Int) (R.getD ((remZ hour (↑(0+R.length):Int)).toNat - 0) (0:Int)+more))]) (1) 3)::(1,VB.vec (0+R.length) (catG 0 (fun (j:Nat)=>List.take (1) (List.drop (j*(1)) [])) (dG R)) (1) 3)::(1,VB.vec 0 (fun (j:Nat)=>List.take (1) (List.drop (j*(1)) [])) (1) 3)::[].zip [])) 3 (VV.tl (0+R.length) (1) (atG (remZ hour (↑(0+R.length):Int)).toNat (catG 0 (fun (j:Nat)=>List.take (1) (List.drop (j*(1)) [])) (dG R)) [I (min (8796093022208:Int) (R.getD ((remZ hour (↑(0+R.length):Int)).toNat - 0) (0:Int)+more))])) (inD W)/\buD l=buD l/\isD (VH.mk (2) ((1,VB.gone)::(1,VB.vec (0+R.length) (atG (remZ hour (↑(0+R.length):Int)).toNat (catG 0 (fun (j:Nat)=>List.take (1) (List.drop (j*(1)) [])) (dG R)) [I (min (8796093022208:Int) (R.getD ((remZ hour (↑(0+R.length):Int)).toNat - 0) (0:Int)+more))]) (1) 3)::(1,VB.vec (0+R.length) (catG 0 (fun (j:Nat)=>List.take (1) (List.drop (j*(1)) [])) (dG R)) (1) 3)::(1,VB.vec 0 (fun (j:Nat)=>List.take (1) (List.drop (j*(1)) [])) (1) 3)::[].zip [])) 3 (inD S) (inD D)/\(cnP l D/\W.length<=100000)/\∀ (b:Bool) (e_1:Int),b=okP W l D->(e_1=if okP W l D=true then
 endF l D D.length
 else (0:Int))->bif decide (e_1<=e) then
 VRes.ret (VV.bool true)=.ret (.bool true)
 else VRes.ret (VV.bool false)=.ret (.bool true)
 else False
 else False
 else False
 else False
 else False
 else False
 else False
 else False
 else False
 else False
 else False
 else bif decide ((↑R.length:Int)=(0:Int)) then
 VRes.ret (VV.bool true)=.ret (.bool true)
 else bif roomB (0+R.length) (8) then
 bif inK .i64 hour then
 bif decide ((↑(0+R.length):Int)=(0:Int)) then
 False
 else bif decide ((0:Int)<=remZ hour (↑(0+R.length):Int)/\remZ hour (↑(0+R.length):Int)<(↑(0+R.length):Int)) then
 bif (0+R.length).beq (0+R.length) && Nat.ble 1 Try.prog.types[3].size then
 bif (0+R.length).beq (0+R.length) then
 bif inK .i64 more then
 bif inK .i64 (R.getD ((remZ hour (↑(0+R.length):Int)).toNat - 0) (0:Int)+more) then
 bif decide ((0:Int)<=remZ hour (↑(0+R.length):Int)/\remZ hour (↑(0+R.length):Int)<(↑(0+R.length):Int)) then
 bif (0+R.length).beq (0+R.length) && Nat.ble 1 Try.prog.types[3].size then
 bif (0+R.length).beq (0+R.length) && [I (min (8796093022208:Int) (R.getD ((remZ hour (↑(0+R.length):Int)).toNat - 0) (0:Int)+more))].all VV.one && belL 0 [I (min (8796093022208:Int) (R.getD ((remZ hour (↑(0+R.length):Int)).toNat - 0) (0:Int)+more))] then
 bif (0+R.length).beq (0+R.length) && Nat.ble 1 (1) then
 ∃ (W:List Int),(0+R.length=W.length/\1=1/\∀ (j:Nat),j<0+R.length->atG (remZ hour (↑(0+R.length):Int)).toNat (catG 0 (fun (j:Nat)=>List.take (1) (List.drop (j*(1)) [])) (dG R)) [I (min (8796093022208:Int) (R.getD ((remZ hour (↑(0+R.length):Int)).toNat - 0) (0:Int)+more))] j=dG W j)/\buD l=buD l/\rsE W l=(0:Int)/\∀ (S:List Int),S=rsD W l->bif !decide ((↑S.length:Int)=(↑l.length:Int)) then
 VRes.ret (VV.bool false)=.ret (.bool true)
 else ∃ (W:List Int),∃ (D:List Int),isD (VH.mk (2) ((1,VB.gone)::(1,VB.vec (0+R.length) (atG (remZ hour (↑(0+R.length):Int)).toNat (catG 0 (fun (j:Nat)=>List.take (1) (List.drop (j*(1)) [])) (dG R)) [I (min (8796093022208:Int) (R.getD ((remZ hour (↑(0+R.length):Int)).toNat - 0) (0:Int)+more))]) (1) 3)::(1,VB.vec (0+R.length) (catG 0 (fun (j:Nat)=>List.take (1) (List.drop (j*(1)) [])) (dG R)) (1) 3)::(1,VB.vec 0 (fun (j:Nat)=>List.take (1) (List.drop (j*(1)) [])) (1) 3)::[].zip [])) 3 (VV.tl (0+R.length) (1) (atG (remZ hour (↑(0+R.length):Int)).toNat (catG 0 (fun (j:Nat)=>List.take (1) (List.drop (j*(1)) [])) (dG R)) [I (min (8796093022208:Int) (R.getD ((remZ hour (↑(0+R.length):Int)).toNat - 0) (0:Int)+more))])) (inD W)/\buD l=buD l/\isD (VH.mk (2) ((1,VB.gone)::(1,VB.vec (0+R.length) (atG (remZ hour (↑(0+R.length):Int)).toNat (catG 0 (fun (j:Nat)=>List.take (1) (List.drop (j*(1)) [])) (dG R)) [I (min (8796093022208:Int) (R.getD ((remZ hour (↑(0+R.length):Int)).toNat - 0) (0:Int)+more))]) (1) 3)::(1,VB.vec (0+R.length) (catG 0 (fun (j:Nat)=>List.take (1) (List.drop (j*(1)) [])) (dG R)) (1) 3)::(1,VB.vec 0 (fun (j:Nat)=>List.take (1) (List.drop (j*(1)) [])) (1) 3)::[].zip [])) 3 (inD S) (inD D)/\(cnP l D/\W.length<=100000)/\∀ (b:Bool) (e_1:Int),b=okP W l D->(e_1=if okP W l D=true then
 endF l D D.length
 else (0:Int))->bif decide (e_1<=e) then
 VRes.ret (VV.bool true)=.ret (.bool true)
 else VRes.ret (VV.bool false)=.ret (.bool true)
 else False
 else False
 else False
 else False
 else False
 else False
 else False
 else False
 else False
 else False
 else False):=by
 obtain ⟨hSp,hSb⟩:=best_some hR hl hS
 have hl6:=hl.1
 cases c with
 | false=>exact tail_ok hR hl h20 hS hen hh hm
 | true=>
  obtain ⟨hEp,hla⟩:=hE rfl
  obtain ⟨g1,g2⟩:=hSb E1 hEp
  refine cond_d (fun h=>by omega) (fun _=>?_)
  refine cond_d (fun heq=>?_) (fun _=>tail_ok hR hl h20 hS hen hh hm)
  refine ⟨S,E1,e,⟨⟨rfl,rfl,trivial⟩,rfl,rfl,rfl,rfl,rfl,rfl,rfl,rfl,rfl,trivial⟩,⟨?_,?_,g2 (by omega)⟩,fun _=>tail_ok hR hl h20 hS hen hh hm⟩
  ·rw [hSp.1]; omega
  ·rw [hSp.1,hEp.1]
end
end Go.Sx.Srn
namespace Go.Sx.Srn
open Go Go.Sx Go.Proofs
set_option maxRecDepth 1000000
section
variable {R:List Int} {l:List Brn} {B:List Int} {hour more:Int}
theorem sp_hl {L:List (Nat × LT)} (h:LoopsOk Try.prog 10 L):∀ fn c,Try.prog.funcs[10]? = some fn->fn.body=some c->∀ id T,tabB L id=some T->∀ b ∈ blocksOf id c,LSound Try.prog true (.block id b) fn.ntmps T:=
 fun _ c hf hc id T hT b hb=>loops_use h hf c hc id T hT b hb
theorem plans_law5 (hB:byB B) (hh:0<=hour/\hour<=255) (hm:0<=more/\more<=4294967295):∃ h',CallsV Try.prog 10 [inD R,buD l,byD B,.int .u8 hour,.int .u32 more] ⟨0,[]⟩ (.ret (.bool true)) h':=by
 cases ho:okRuns R l with
 | false=>
  have e1:rsE R l=1:=by unfold rsE; rw [if_pos ho]
  have e2:rsD R l=[]:=by unfold rsD; rw [if_pos ho]
  have htab:∀ f T,tabS [runA l 1,awT] f=some T->SpOk Try.prog f T:=tab_ok _ (fun x hx=>by
   simp only [List.mem_cons,List.not_mem_nil,or_false] at hx
   rcases hx with rfl | rfl
   ·exact runA_ok
   ·exact awT_ok)
  obtain ⟨r,h',rfl,hc⟩:=calls_spin hmix (noL_good htab) (lsp:=fun _=>none) (un:=10) (f:=10) (ts:=tsL) (args:=[inD R,buD l,byD B,.int .u8 hour,.int .u32 more]) (h:=⟨0,[]⟩) (fun _ _ _ _ _ _ h=>by cases h) (K:=fun r _=>r=.ret (.bool true)) (by
   refine cast (sp1_ev R l B hour more _).symm ?_
   refine cond_d (fun _=>rfl) (fun _=>cond_d (fun _=>rfl) (fun _=>⟨R,⟨rfl,rfl,fun _ _=>rfl⟩,rfl,e1,?_⟩))
   rintro S rfl
   rw [e2]
   exact cond_dk rfl rfl)
  exact ⟨h',hc⟩
 | true=>
  obtain ⟨hR,hl⟩:=okRuns_iff.1 ho
  have h168:=hR.1
  have hl6:=hl.1
  have hdv:dvB l (otF l B):=otF_dv hl
  have hcn:cnP l (otF l B):=dvB_cnP hl (by omega) otF_le hdv
  cases hb:bestR R l with
  | none=>
   have e1:rsE R l=4:=by unfold rsE; rw [if_neg (by rw [ho]; simp),if_pos hb]
   have e2:rsD R l=[]:=by unfold rsD; rw [if_neg (by rw [ho]; simp),hb]; rfl
   have htab:∀ f T,tabS [runA l 4,rmY R,brY R l,plA l,awT] f=some T->SpOk Try.prog f T:=tab_ok _ (fun x hx=>by
    simp only [List.mem_cons,List.not_mem_nil,or_false] at hx
    rcases hx with rfl | rfl | rfl | rfl | rfl
    ·exact runA_ok
    ·exact rmY_ok
    ·exact brY_ok
    ·exact plA_ok
    ·exact awT_ok)
   have hall:LoopsOk Try.prog 10 [(0,lO R l B hour more 4)]:=fun x hx=>by
    simp only [List.mem_singleton] at hx
    subst hx
    exact ⟨by kernel_rfl,lO_ok⟩
   obtain ⟨r,h',rfl,hc⟩:=calls_spin hmix (noL_good htab) (un:=10) (f:=10) (ts:=tsL) (args:=[inD R,buD l,byD B,.int .u8 hour,.int .u32 more]) (h:=⟨0,[]⟩) (sp_hl hall) (K:=fun r _=>r=.ret (.bool true)) (by
    refine cast (sp4_ev R l B hour more _).symm ?_
    refine cond_d (fun _=>rfl) (fun _=>cond_d (fun _=>rfl) (fun _=>⟨R,⟨rfl,rfl,fun _ _=>rfl⟩,rfl,e1,?_⟩))
    rintro S hS
    rw [e2] at hS
    subst hS
    refine ⟨rfl,hR,rfl,rfl,⟨h168,hl⟩,[],⟨⟨rfl,rfl,trivial⟩,rfl,rfl,rfl,rfl,rfl,rfl,rfl,rfl,rfl,rfl,trivial⟩,⟨hl,h168,hB⟩,?_⟩
    rintro E rfl
    refine ⟨R,otF l B,isD_in,rfl,⟨rfl,by decide,_,_,rfl,fun _ _=>rfl⟩,⟨hcn,by omega⟩,?_⟩
    rintro b e hb2 _
    refine cond_k (by rw [Nat.beq_refl]; rfl) ?_
    cases b with
    | false=>
     refine cond_i (fun h=>(by cases h)) (fun _=>?_)
     exact cond_dk rfl rfl
    | true=>
     refine cond_k rfl (cond_nd (fun _=>?_) (fun hlen=>(best_none hR hl hb (E:=otF l B) ⟨by omega,hb2.symm,hdv⟩).elim))
     exact cond_dk rfl rfl)
   exact ⟨h',hc⟩
  | some S0=>
   have e1:rsE R l=0:=by unfold rsE; rw [if_neg (by rw [ho]; simp),hb,if_neg (by simp)]
   have e2:rsD R l=S0:=by unfold rsD; rw [if_neg (by rw [ho]; simp),hb]; rfl
   obtain ⟨hSp,_⟩:=best_some hR hl hb
   have hcS:cnP l S0:=dvB_cnP hl (by omega) (by rw [hSp.1]; omega) hSp.2.2
   have htab:∀ f T,tabS [runA l 0,rmY R,brY R l,plA l,awT] f=some T->SpOk Try.prog f T:=tab_ok _ (fun x hx=>by
    simp only [List.mem_cons,List.not_mem_nil,or_false] at hx
    rcases hx with rfl | rfl | rfl | rfl | rfl
    ·exact runA_ok
    ·exact rmY_ok
    ·exact brY_ok
    ·exact plA_ok
    ·exact awT_ok)
   have hall:LoopsOk Try.prog 10 [(0,lO R l B hour more 0),(2,lC R l hour more),(4,lX R l hour more)]:=fun x hx=>by
    simp only [List.mem_cons,List.not_mem_nil,or_false] at hx
    rcases hx with rfl | rfl | rfl
    ·exact ⟨by kernel_rfl,lO_ok⟩
    ·exact ⟨by kernel_rfl,lC_ok⟩
    ·exact ⟨by kernel_rfl,lX_ok⟩
   obtain ⟨r,h',rfl,hc⟩:=calls_spin hmix (noL_good htab) (un:=10) (f:=10) (ts:=tsL) (args:=[inD R,buD l,byD B,.int .u8 hour,.int .u32 more]) (h:=⟨0,[]⟩) (sp_hl hall) (K:=fun r _=>r=.ret (.bool true)) (by
    refine cast (sp0_ev R l B hour more _).symm ?_
    refine cond_d (fun _=>rfl) (fun h20=>cond_d (fun _=>rfl) (fun _=>⟨R,⟨rfl,rfl,fun _ _=>rfl⟩,rfl,e1,?_⟩))
    rintro S hS
    rw [e2] at hS
    subst hS
    refine ⟨rfl,hR,rfl,rfl,⟨h168,hl⟩,S,⟨⟨rfl,rfl,trivial⟩,rfl,rfl,rfl,rfl,rfl,rfl,rfl,rfl,rfl,rfl,trivial⟩,⟨hl,h168,hB⟩,?_⟩
    rintro E rfl
    refine ⟨R,otF l B,isD_in,rfl,⟨rfl,by decide,_,_,rfl,fun _ _=>rfl⟩,⟨hcn,by omega⟩,?_⟩
    rintro b e hb2 hlate
    refine cond_k (by rw [Nat.beq_refl]; rfl) ?_
    cases b with
    | true=>
     refine cond_k rfl (cond_nd (fun h=>(h (by rw [hSp.1])).elim) (fun _=>⟨S,otF l B,decide ((↑(otF l B).length:Int)=(↑l.length:Int)),e,⟨⟨rfl,rfl,trivial⟩,rfl,rfl,rfl,rfl,rfl,rfl,rfl,rfl,rfl,rfl,trivial⟩,⟨hl,h168,hSp.1,hSp.2.2⟩,R,S,isD_in,rfl,isD_in,⟨hcS,by omega⟩,?_⟩))
     rintro b3 e3 hb3 he3
     rw [hSp.2.1] at hb3
     subst hb3
     rw [if_pos hSp.2.1] at he3
     rw [if_pos hb2.symm] at hlate
     exact rest_ok (E1:=otF l B) (c:=decide ((↑(otF l B).length:Int)=(↑l.length:Int))) (late:=e) hR hl (by omega) hb he3 hh hm (fun hc=>⟨⟨by have:=of_decide_eq_true hc; omega,hb2.symm,hdv⟩,hlate⟩) (b:=true)
    | false=>
     refine cond_i (fun h=>(by cases h)) (fun _=>cond_nd (fun h=>(h (by rw [hSp.1])).elim) (fun _=>⟨S,otF l B,false,e,⟨⟨rfl,rfl,trivial⟩,rfl,rfl,rfl,rfl,rfl,rfl,rfl,rfl,rfl,rfl,trivial⟩,⟨hl,h168,hSp.1,hSp.2.2⟩,R,S,isD_in,rfl,isD_in,⟨hcS,by omega⟩,?_⟩))
     rintro b3 e3 hb3 he3
     rw [hSp.2.1] at hb3
     subst hb3
     rw [if_pos hSp.2.1] at he3
     exact rest_ok (E1:=otF l B) (c:=false) (late:=e) hR hl (by omega) hb he3 hh hm (fun hc=>by cases hc) (b:=true))
   exact ⟨h',hc⟩
end
end Go.Sx.Srn
