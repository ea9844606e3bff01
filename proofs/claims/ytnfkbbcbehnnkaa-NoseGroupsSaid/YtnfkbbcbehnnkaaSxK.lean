/- A contract over one list that it may turn, used at a caller's list. -/
import Derived.Test.YtnfkbbcbehnnkaaSxS
import Derived.Test.YtnfkbbcbehnnkaaSxN
namespace Go.Sx
open Go
section
variable {P:Program}
theorem calls_own1 {f:FuncId} {args:List VV} {h hm':VH} {r:VRes} {m L L' s:Nat} {g g':Nat->List VV} {t t':TypeId} (hs:CallsV P f args ⟨1,[(0,.vec L g s t)]⟩ r hm') (h0:hm'.at 0=.vec L' g' s t') (hm:h.at m=.vec L g s t)
  (ha:belL 1 args=true) (hr:r.bel 1=true):CallsV P f (renL (fun _=>m) args) h (r.ren fun _=>m) (h.put m (.vec L' g' s t')):=by
 intro B R w xs em hx
 let R0:Rn:=⟨fun n=>if n=0 then R.blk m else none,R.arr,R.str,fun n=>if n=0 then R.vec m else fun _=>none,R.frz⟩
 have hren:Ren 1 (fun _=>m) R0 R:=⟨fun n hn=>if_pos (by omega),fun n hn=>if_pos (by omega),rfl,rfl,rfl⟩
 have hat0:(VH.mk 1 [(0,VB.vec L g s t)]).at 0=.vec L g s t:=rfl
 have hat1:∀ n,n ≠ 0->(VH.mk 1 [(0,VB.vec L g s t)]).at n=.free:=fun n hn=>at_ge (by show ¬ n<1; omega)
 have how0:∀ n b,R0.ow n ((VH.mk 1 [(0,VB.vec L g s t)]).at n) b->n=0/\R.ow m (h.at m) b:=fun n b hb=>by
  by_cases hn:n=0
  ·subst hn
   rw [hm]
   exact ⟨rfl,hb⟩
  ·rw [hat1 n hn] at hb
   cases hb
 have e0:Emb B R0 (VH.mk 1 [(0,VB.vec L g s t)]).at w:=by
  refine ⟨em.base,fun n cs t hn=>?_,fun n k b g1 g2=>?_,fun n s ok g hn=>?_,fun n hn=>?_,fun n st pd t m ps as bd hn=>?_,fun n L g s t hn=>?_,fun n hn L=>?_,fun n ks vk es hn=>?_,fun n K r C g t te hn=>?_,fun b xs hb'=>⟨(em.frz b xs hb').1,fun n hn=>(em.frz b xs hb').2.1 _ (how0 n b hn).2,(em.frz b xs hb').2.2⟩⟩
  ·by_cases h1:n=0
   ·subst h1; rw [hat0] at hn; cases hn
   ·rw [hat1 n h1] at hn; cases hn
  ·rw [(how0 n b g1).1,(how0 k b g2).1]
  ·by_cases h1:n=0
   ·subst h1; rw [hat0] at hn; cases hn
   ·rw [hat1 n h1] at hn; cases hn
  ·refine if_neg fun h1=>?_
   subst h1; rw [hat0] at hn; cases hn
  ·by_cases h1:n=0
   ·subst h1; rw [hat0] at hn; cases hn
   ·rw [hat1 n h1] at hn; cases hn
  ·by_cases h1:n=0
   ·subst h1
    rw [hat0] at hn
    cases hn
    exact (em.vec m _ _ _ _ hm).frame (R':=R0) rfl (nole R) (fun _ _=>rfl)
   ·rw [hat1 n h1] at hn; cases hn
  ·have h1:n ≠ 0:=fun h1=>by subst h1; rw [hat0] at hn; cases hn
   show (if n=0 then R.vec m else fun _=>none) L=none
   rw [if_neg h1]
  ·by_cases h1:n=0
   ·subst h1; rw [hat0] at hn; cases hn
   ·rw [hat1 n h1] at hn; cases hn
  ·by_cases h1:n=0
   ·subst h1; rw [hat0] at hn; cases hn
   ·rw [hat1 n h1] at hn; cases hn
 refine (hs B R0 w xs e0 ((ren_L hren args xs ha).2 hx)).mono ?_
 rintro e w' ⟨R1,n1,e1,x⟩
 let Rf:Rn:=⟨R.blk,R.arr,R.str,fun n=>if n=m then R1.vec 0 else R.vec n,R1.frz⟩
 have hvm:Rf.vec m=R1.vec 0:=if_pos rfl
 have hvn:∀ n,n ≠ m->Rf.vec n=R.vec n:=fun n hn=>if_neg hn
 have hle:R.le Rf:=⟨fun _ _ h=>h,rfl,rfl,fun n L v hv=>by
  by_cases hn:n=m
  ·subst hn
   rw [hvm]
   exact n1.vold 0 L v (show R0.vec 0 L=some v by show (if 0=0 then R.vec n else fun _=>none) L=some v; rw [if_pos rfl]; exact hv)
  ·rw [hvn n hn]; exact hv,n1.fmono⟩
 have hren1:Ren 1 (fun _=>m) R1 Rf:=by
  refine ⟨fun n hn=>?_,fun n hn=>?_,n1.arr,n1.str,rfl⟩
  ·obtain rfl:n=0:=by omega
   rw [n1.old 0 (by rw [hat0]; simp)]
   show (if 0=0 then R.blk m else none)=R.blk m
   exact if_pos rfl
  ·obtain rfl:n=0:=by omega
   exact hvm.symm
 have hput:(h.put m (.vec L' g' s t')).at=upd h.at m (.vec L' g' s t'):=VH.at_put h m _ (by rw [hm]; simp)
 have hpm:(h.put m (.vec L' g' s t')).at m=.vec L' g' s t':=by rw [hput]; simp [upd]
 have hpn:∀ n,n ≠ m->(h.put m (.vec L' g' s t')).at n=h.at n:=fun n hn=>by rw [hput]; simp [upd,hn]
 have hown:∀ n,n ≠ m->∀ b,Rf.ow n b=R.ow n b:=fun n hn b=>by
  have h1:=hvn n hn
  cases b <;> first | rfl | simp only [Rn.ow,h1]
 have hom:∀ b,Rf.ow m (.vec L' g' s t') b->R1.ow 0 (hm'.at 0) b:=fun b hb=>by
  rw [h0]
  have hb:(Rf.vec m L').bind Value.ownBlock=some b:=hb
  rw [hvm] at hb
  exact hb
 have how:∀ n b,Rf.ow n ((h.put m (.vec L' g' s t')).at n) b->R.ow n (h.at n) b ∨ w.heap.size<=b:=fun n b hb=>by
  by_cases hn:n=m
  ·subst hn
   rw [hpm] at hb
   rcases n1.own 0 b (hom b hb) with ⟨q,k⟩ | k
   ·exact .inl (how0 q b k).2
   ·exact .inr k
  ·rw [hpn n hn,hown n hn] at hb
   exact .inl hb
 have hframe:∀ n,n ≠ m->∀ b,R.ow n (h.at n) b->w'.heap[b]? = w.heap[b]?:=fun n hn b hb=>
  n1.frame b (em.lt hb) (fun k hk=>hn (em.inj _ _ b hb (how0 k b hk).2))
 refine ⟨Rf,⟨fun n hq=>?_,fun n hn=>rfl,rfl,rfl,hle.vec,fun n L v g1 g2=>?_,fun n L hq=>?_,fun n b hb=>(how n b hb).imp (fun h=>⟨n,h⟩) id,n1.size,fun b hb hn=>n1.frame b hb (fun k hk=>hn _ (how0 k b hk).2),n1.os,n1.tape,n1.output,n1.fmono,fun b xs hb'=>(n1.fnew b xs hb').imp id (fun h=>h.imp (fun ⟨n,hn⟩=>⟨m,(how0 n b hn).2⟩) id)⟩,
  ⟨Nat.le_trans em.base n1.size,fun n cs t hq=>?_,fun n k b g1 g2=>?_,fun n s ok g hq=>?_,fun n hq=>?_,fun n st pd t q ps as bd hq=>?_,fun n L g s t hq=>?_,fun n hq L=>?_,fun n ks vk es hq=>?_,fun n K r C g t te hq=>?_,fun b xs hb'=>⟨(e1.frz b xs hb').1,fun n hn=>?_,(e1.frz b xs hb').2.2⟩⟩,?_⟩
 ·by_cases hn:n=m
  ·subst hn; rw [hpm]; simp
  ·rw [hpn n hn]; exact hq
 ·by_cases hn:n=m
  ·subst hn
   rw [hvm] at g2
   refine .inr ?_
   rcases n1.vnew 0 L v (show R0.vec 0 L=none from by show (if 0=0 then R.vec n else fun _=>none) L=none; rw [if_pos rfl]; exact g1) g2 with k | ⟨L0,k,k2⟩
   ·rw [hat0] at k; cases k
   ·rw [hat0] at k
    cases k
    exact ⟨_,by rw [hm]; rfl,k2⟩
  ·rw [hvn n hn,g1] at g2; cases g2
 ·by_cases hn:n=m
  ·subst hn
   rw [hpm] at hq
   cases hq
   refine .inr ?_
   rcases n1.vmono 0 L' (by rw [h0]; rfl) with k | ⟨L0,k,k2⟩
   ·rw [hat0] at k; cases k
   ·rw [hat0] at k
    cases k
    exact ⟨_,by rw [hm]; rfl,k2⟩
  ·rw [hpn n hn] at hq
   exact .inr ⟨L,hq,Nat.le_refl _⟩
 ·by_cases hn:n=m
  ·subst hn; rw [hpm] at hq; cases hq
  ·rw [hpn n hn] at hq
   obtain ⟨b,ys,g1,g2,g3,g4⟩:=em.ownC n cs t hq
   exact ⟨b,ys,g1,g2,g3.mono hle,by rw [hframe n hn b (by rw [ow_cs hq]; exact g1)]; exact g4⟩
 ·by_cases hn:n=m <;> by_cases hk:k=m
  ·rw [hn,hk]
  ·rcases how n b g1 with k1 | k1
   ·rcases how k b g2 with k2 | k2
    ·exact em.inj n k b k1 k2
    ·have:=em.lt k1; omega
   ·rw [hpn k hk,hown k hk] at g2
    have:=em.lt g2
    omega
  ·rcases how k b g2 with k1 | k1
   ·rcases how n b g1 with k2 | k2
    ·exact em.inj n k b k2 k1
    ·have:=em.lt k1; omega
   ·rw [hpn n hn,hown n hn] at g1
    have:=em.lt g1
    omega
  ·rw [hpn n hn,hown n hn] at g1
   rw [hpn k hk,hown k hk] at g2
   exact em.inj n k b g1 g2
 ·by_cases hn:n=m
  ·subst hn; rw [hpm] at hq; cases hq
  ·rw [hpn n hn] at hq
   obtain ⟨g1,g2⟩:=em.arr n s ok g hq
   refine ⟨g1,fun ix i hi=>?_⟩
   obtain ⟨g3,g4,g5,ys,g6,g7,g8⟩:=g2 ix i hi
   refine ⟨g3,g4,g5,ys,g6.mono hle.no,g7,fun q y hq=>?_⟩
   show w'.cell? ((R.arr n ix).add (i.toNat*s+q))=some y
   have hblk2:((R.arr n ix).add (i.toNat*s+q)).block=(R.arr n ix).block:=by unfold Addr.add; split <;> rfl
   rw [cell_same (w:=w)]
   ·exact g8 q y hq
   ·rw [hblk2]
    refine n1.frame _ (Nat.lt_of_lt_of_le g4 em.base) (fun k hbm=>?_)
    have:=(em.own_lt (how0 k _ hbm).2).1
    omega
 ·by_cases hn:n=m
  ·subst hn; rw [hpm] at hq; cases hq
  ·rw [hpn n hn] at hq
   exact em.fresh n hq
 ·by_cases hn:n=m
  ·subst hn; rw [hpm] at hq; cases hq
  ·rw [hpn n hn] at hq
   obtain ⟨b,r',g1,g2,g3,g4⟩:=em.lp n st pd t q ps as bd hq
   exact ⟨b,r',g1,g2,by rw [hframe n hn b (by rw [hq]; exact g1)]; exact g3,g4.mono hle⟩
 ·by_cases hn:n=m
  ·subst hn
   rw [hpm] at hq
   cases hq
   exact (e1.vec 0 _ _ _ _ h0).frame (R':=Rf) hvm (by rw [hren1.no]; exact nole Rf) (fun _ _=>rfl)
  ·rw [hpn n hn] at hq
   exact (em.vec n L g s t hq).frame (hvn n hn) hle.no (fun b hb'=>hframe n hn b (by rw [hq]; exact hb'))
 ·by_cases hn:n=m
  ·subst hn; rw [hpm] at hq; cases hq
  ·rw [hpn n hn] at hq
   rw [hvn n hn]; exact em.fvec n hq L
 ·by_cases hn:n=m
  ·subst hn; rw [hpm] at hq; cases hq
  ·rw [hpn n hn] at hq
   exact (em.map n ks vk es hq).frame rfl (fun b hb'=>hframe n hn b (by rw [hq]; exact hb'))
 ·by_cases hn:n=m
  ·subst hn; rw [hpm] at hq; cases hq
  ·rw [hpn n hn] at hq
   exact (em.mat n K r C g t te hq).frame (hvn n hn) (fun b hb'=>hframe n hn b (by rw [hq]; exact hb'))
 ·by_cases hnm:n=m
  ·subst hnm
   rw [hpm] at hn
   exact (e1.frz b xs hb').2.1 0 (hom b hn)
  ·rw [hpn n hnm,hown n hnm] at hn
   rcases n1.fnew b xs hb' with k1 | ⟨k,k1⟩ | k1
   ·exact (em.frz b xs k1).2.1 n hn
   ·exact hnm (em.inj _ _ b hn (how0 k b k1).2)
   ·have:=em.lt hn; omega
 ·cases r with
  | ret v=>obtain ⟨y,hy,he⟩:=x; exact ⟨y,(ren_V hren1 v y hr).1 hy,he⟩
  | panic v=>obtain ⟨y,hy,he⟩:=x; exact ⟨y,(ren_V hren1 v y hr).1 hy,he⟩
end
end Go.Sx
