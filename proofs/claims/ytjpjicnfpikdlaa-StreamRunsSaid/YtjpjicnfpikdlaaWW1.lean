/- stream: Qa0 Qa1 Qb1 CxRd Qb2 Qb3 Qb4 BbRm1 BbRm2 BbBr1 BbBr2 Qc1 Qc2 Qd1 Qd2 Qd3 Qe1 Ka1 Ka2 Ka3, in one text. -/
import Derived.Test.YtjpjicnfpikdlaaSxO
import Derived.Test.YtjpjicnfpikdlaaSxJ
import Derived.Test.YtjpjicnfpikdlaaSxK
import Derived.Test.YtjpjicnfpikdlaaSxN
import Derived.Test.YtjpjicnfpikdlaaSxU
import Derived.Test.YtjpjicnfpikdlaaSxY
import Derived.Test.YtjpjicnfpikdlaaSxTt
import Derived.Test.YtjpjicnfpikdlaaSxRd
import Derived.Test.YtjpjicnfpikdlaaProg
import Derived.Test.YtjpjicnfpikdlaaSxQ
namespace Go.Sx
open Go
section
variable {P:Program}
theorem told_weak {t:Slots} {h:VH} {d:Nat} {v v':VV} (hd:look t d=v) (hv:∀ R x,VRel R v x->VRel R v' x):ToldT t h ((d,v')::t) h:=fun _ R a w e ht=>⟨R,Nxt.refl _ _ _ e.fresh,e,fun x=>by
 rw [look_cons]
 by_cases hx:d=x
 ·subst hx
  rw [if_pos rfl]
  have:=ht d
  rw [hd] at this
  exact hv R _ this
 ·rw [if_neg hx]
  exact ht x⟩
theorem pre_told {c:Code} {n:Nat} {T0 T:LT} (h0:LSound P true c n T0) (hT:∀ lock t h K,T lock t h K->∃ h0 t0,FitP lock h t h0 t0/\∃ t2 h2,ToldT t0 h0 t2 h2/\T0 0 t2 h2 K):LSound P true c n T:=by
 intro lock t h K hK
 obtain ⟨ha,ta,hf,t2,h2,htd,hK⟩:=hT lock t h K hK
 obtain ⟨e,t',h',hk,_,hs⟩:=h0 _ _ _ _ hK
 obtain rfl:=hf.1.1
 exact ⟨e,t',h',hk,lock0 _ _,sem_fit hf (sem_told htd hs)⟩
theorem calls_toldR {f:FuncId} {args:List VV} {h h1 h2:VH} {v:VV} (hs:CallsV P f args h (.ret v) h1) (ht:Told h1 h2):CallsV P f args h (.ret v) h2:=by
 intro B R w xs em hx
 refine (hs B R w xs em hx).mono ?_
 rintro e w' ⟨R',n1,e1,x,hx1,he⟩
 obtain ⟨R2,n2,e2⟩:=ht B R' w' e1
 exact ⟨R2,n1.trans n2,e2,x,VRel.mono (n2.le e1) _ _ hx1,he⟩
theorem emb_cell {B:Nat} {R:Rn} {η:Nat->VB} {w:World} (e:Emb B R η w) {m:Nat} {cs cs':List VV} {t:TypeId} (hm:η m=.cells cs t) (hv:∀ xs,VRelL R cs xs->VRelL R cs' xs):Emb B R (upd η m (.cells cs' t)) w/\Nxt η R w (upd η m (.cells cs' t)) R w:=by
 have how:∀ b,R.ow m (.cells cs' t)=some b->R.ow m (η m)=some b ∨ w.heap.size<=b:=fun b hb=>.inl (by rw [hm]; exact hb)
 have hle:R.le R:=⟨fun _ _ h=>h,rfl,rfl,fun _ _ _ h=>h,fun _ _ h=>h⟩
 constructor
 ·exact e.step (Nat.le_refl _) hle (fun _ _=>rfl) (fun _ _=>rfl) (fun _ _ _=>rfl) how (by simp) (by simp) (fun cs2 t2 h=>by
   cases h
   obtain ⟨b,xs,h1,h2,h3,h4⟩:=e.own m cs t hm
   exact ⟨b,xs,h1,h2,hv xs h3,h4⟩) (by simp) (by simp)
 ·exact Nxt.step (Nat.le_refl _) hle (fun _ _=>rfl) (fun _ _=>rfl) (fun _ _ _=>rfl) how (by simp) (fun L v h1 h2=>by rw [h1] at h2; cases h2) (by simp) rfl rfl rfl
theorem calls_cell {f:FuncId} {args:List VV} {h h':VH} {r:VRes} {m:Nat} {cs cs':List VV} {t:TypeId} (hs:CallsV P f args (h.put m (.cells cs' t)) r h') (hm:h.at m=.cells cs t) (hv:∀ (R:Rn) xs,VRelL R cs xs->VRelL R cs' xs):CallsV P f args h r h':=by
 intro B R w xs em hx
 obtain ⟨e1,n1⟩:=emb_cell em hm (fun xs=>hv R xs)
 rw [<- VH.at_put h m _ (by rw [hm]; simp)] at e1 n1
 refine (hs B R w xs e1 hx).mono ?_
 rintro e w' ⟨R',n2,e2,x⟩
 exact ⟨R',n1.trans n2,e2,x⟩
theorem calls_ghostC {f:FuncId} {args:List VV} {h h':VH} {r:VRes} {m:Nat} {cs cs':List VV} {t:TypeId} (g:Nat->List VV) (s:Nat) (ty:TypeId) (hs:CallsV P f args ((h.new (.vec 0 g s ty)).put m (.cells cs' t)) r h') (hlt:m<h.nx) (hm:h.at m=.cells cs t)
  (hv:∀ (R:Rn) xs,R.vec h.nx 0=some (.slice none 0 0)->VRelL R cs xs->VRelL R cs' xs):CallsV P f args h r h':=by
 intro B R w xs em hx
 obtain ⟨e1,n1⟩:=emb_ghost em (VH.at_nx h) g s ty
 rw [<- VH.at_new] at e1 n1
 have hm2:(h.new (.vec 0 g s ty)).at m=.cells cs t:=by
  rw [VH.at_new]
  unfold upd
  rw [if_neg (by omega)]
  exact hm
 obtain ⟨e2,n2⟩:=emb_cell e1 hm2 (fun xs=>hv _ xs putV_same)
 rw [<- VH.at_put _ m _ (by rw [hm2]; simp)] at e2 n2
 refine (hs B _ w xs e2 (VRelL.mono (n1.le em) _ _ hx)).mono ?_
 rintro e w' ⟨R',n3,e3,x⟩
 exact ⟨R',n1.trans (n2.trans n3),e3,x⟩
theorem nil_sub {R:Rn} {n:Nat} {x:Value} (hv:R.vec n 0=some (.slice none 0 0)) (h:VRel R .nils x):VRel R (.sub n 0 1 0 0) x:=by
 simp only [VRel] at h
 subst h
 exact ⟨_,none,0,hv,rfl,Nat.le_refl _,Nat.le_refl _,Nat.le_refl _,.inl rfl,none,rfl,fun _=>rfl⟩
theorem calls_up {f:FuncId} {args:List VV} {hm hm' h h1:VH} {r:VRes} (hs:CallsV P f args hm r hm') (hnx:hm'.nx=hm.nx) (hat:∀ n,n<hm.nx->h.at n=hm.at n) (hnf:∀ n,n<hm.nx->hm.at n ≠ .free) (hb:∀ n,n<hm.nx->(hm.at n).bel hm.nx=true) (ha:belL hm.nx args=true)
  (h1at:∀ n,n<hm.nx->h1.at n=hm'.at n) (h1else:∀ n,¬ n<hm.nx->h1.at n=h.at n):CallsV P f args h r h1:=by
 intro B R w xs em hx
 have hfr:∀ n,¬ n<hm.nx->hm.at n=.free:=fun n hn=>by
  show (bif Nat.blt n hm.nx then lookB hm.bs n else .free)=_
  rw [blt_f hn]; rfl
 have hfr':∀ n,¬ n<hm.nx->hm'.at n=.free:=fun n hn=>by
  show (bif Nat.blt n hm'.nx then lookB hm'.bs n else .free)=_
  rw [hnx,blt_f hn]; rfl
 have e0:=part_emb em hat hnf hb
 refine (hs B (R.cut hm.nx) w xs e0 (bel_L (cut_agree R hm.nx) args xs ha hx)).mono ?_
 rintro e w' ⟨R1,n1,e1,x⟩
 let Rf:Rn:=⟨fun n=>if n<hm.nx then R1.blk n else R.blk n,R.arr,R.str,fun n=>if n<hm.nx then R1.vec n else R.vec n,R1.frz⟩
 have lowB:∀ n,n<hm.nx->Rf.blk n=R1.blk n:=fun n hn=>if_pos hn
 have lowV:∀ n,n<hm.nx->Rf.vec n=R1.vec n:=fun n hn=>if_pos hn
 have hiB:∀ n,¬ n<hm.nx->Rf.blk n=R.blk n:=fun n hn=>if_neg hn
 have hiV:∀ n,¬ n<hm.nx->Rf.vec n=R.vec n:=fun n hn=>if_neg hn
 have lowO:∀ n b,n<hm.nx->Rf.ow n b=R1.ow n b:=fun n b hn=>by
  cases b with
  | vec L g s t=>show (Rf.vec n L).bind _=(R1.vec n L).bind _; rw [lowV n hn]
  | cells cs t=>exact lowB n hn
  | fam _ _ _ _=>exact lowB n hn
  | map _ _ _=>exact lowB n hn
  | loop st pd t m ps ac bd=>exact lowB n hn
  | _=>rfl
 have hiO:∀ n b,¬ n<hm.nx->Rf.ow n b=R.ow n b:=fun n b hn=>by
  cases b with
  | vec L g s t=>show (Rf.vec n L).bind _=(R.vec n L).bind _; rw [hiV n hn]
  | cells cs t=>exact hiB n hn
  | fam _ _ _ _=>exact hiB n hn
  | map _ _ _=>exact hiB n hn
  | loop st pd t m ps ac bd=>exact hiB n hn
  | _=>rfl
 have harr:Rf.arr=R1.arr:=n1.arr.symm
 have hstr:Rf.str=R1.str:=n1.str.symm
 have hle1:R1.le Rf:=by
  refine ⟨fun n b hb'=>?_,harr,hstr,fun n L v hv=>?_,fun _ _ h=>h⟩
  ·by_cases hn:n<hm.nx
   ·rw [lowB n hn]; exact hb'
   ·rw [e1.fresh n (hfr' n hn)] at hb'; cases hb'
  ·by_cases hn:n<hm.nx
   ·rw [lowV n hn]; exact hv
   ·rw [e1.fvec n (hfr' n hn)] at hv; cases hv
 have hl1:=n1.le e0
 have cutB:∀ n,n<hm.nx->(R.cut hm.nx).blk n=R.blk n:=fun n hn=>by simp [Rn.cut,hn]
 have hleR:R.le Rf:=by
  refine ⟨fun n b hb'=>?_,rfl,rfl,fun n L v hv=>?_,fun b xs hb'=>n1.fmono b xs hb'⟩
  ·by_cases hn:n<hm.nx
   ·rw [lowB n hn]; exact hl1.blk n b (by rw [cutB n hn]; exact hb')
   ·rw [hiB n hn]; exact hb'
  ·by_cases hn:n<hm.nx
   ·rw [lowV n hn]; exact hl1.vec n L v (by rw [cut_vec hn]; exact hv)
   ·rw [hiV n hn]; exact hv
 have how0:∀ n b,(R.cut hm.nx).ow n (hm.at n)=some b->n<hm.nx/\R.ow n (h.at n)=some b:=fun n b hb'=>by
  by_cases hn:n<hm.nx
  ·rw [cut_ow hn] at hb'
   exact ⟨hn,by rw [hat n hn]; exact hb'⟩
  ·rw [hfr n hn] at hb'; cases hb'
 have hframe:∀ m,¬ m<hm.nx->∀ b,R.ow m (h.at m)=some b->w'.heap[b]? = w.heap[b]?:=fun m hm' b hb'=>
  n1.frame b (em.lt hb') (fun n hbn=>by
   obtain ⟨g1,g2⟩:=how0 n b hbn
   have:=em.inj m n b hb' g2
   omega)
 have hno:R.no.le Rf.no:=hleR.no
 have how1:∀ n b,Rf.ow n (h1.at n)=some b->R.ow n (h.at n)=some b ∨ w.heap.size<=b:=fun n b hb'=>by
  by_cases hn:n<hm.nx
  ·rw [h1at n hn,lowO n _ hn] at hb'
   rcases n1.own n b hb' with g | g
   ·exact .inl (how0 n b g).2
   ·exact .inr g
  ·rw [h1else n hn,hiO n _ hn] at hb'; exact .inl hb'
 refine ⟨Rf,⟨fun n hn=>?_,fun n hn=>?_,rfl,rfl,hleR.vec,fun n L v g1 g2=>?_,fun n L g s t hn=>?_,how1,n1.size,fun b hb' hn=>n1.frame b hb' (fun m hbm=>hn m (how0 m b hbm).2),n1.os,n1.tape,n1.output,n1.fmono,fun b xs hb'=>(n1.fnew b xs hb').imp id (fun h2=>h2.imp (fun ⟨n,h3⟩=>⟨n,(how0 n b h3).2⟩) id)⟩,
  ⟨Nat.le_trans em.base n1.size,fun n cs t hn=>?_,fun n m b g1 g2=>?_,fun n s ok g hn=>?_,fun n hn=>?_,fun n st pd t q ps ac bd hn=>?_,fun n L g s t hn=>?_,fun n hn L=>?_,fun n ks vk es hn=>?_,fun b xs hb'=>⟨(e1.frz b xs hb').1,fun n hn=>?_,(e1.frz b xs hb').2.2⟩⟩,?_⟩
 ·by_cases hk:n<hm.nx
  ·rw [h1at n hk]; exact n1.keep n (hnf n hk)
  ·rw [h1else n hk]; exact hn
 ·by_cases hk:n<hm.nx
  ·rw [lowB n hk,n1.old n (hnf n hk),cutB n hk]
  ·exact hiB n hk
 ·by_cases hk:n<hm.nx
  ·rw [lowV n hk] at g2
   rcases n1.vnew n L v (by rw [cut_vec hk]; exact g1) g2 with h2 | ⟨L0,g,s,t,h2,h3⟩
   ·exact .inl (by rw [hat n hk]; exact h2)
   ·exact .inr ⟨L0,g,s,t,by rw [hat n hk]; exact h2,h3⟩
  ·rw [hiV n hk,g1] at g2; cases g2
 ·by_cases hk:n<hm.nx
  ·rw [h1at n hk] at hn
   rcases n1.vmono n L g s t hn with h2 | h2
   ·exact .inl (by rw [hat n hk]; exact h2)
   ·exact .inr (by rw [hat n hk]; exact h2)
  ·rw [h1else n hk] at hn; exact .inr ⟨L,g,s,t,hn,Nat.le_refl _⟩
 ·by_cases hk:n<hm.nx
  ·rw [h1at n hk] at hn
   obtain ⟨b,ys,g1,g2,g3,g4⟩:=e1.ownC n cs t hn
   exact ⟨b,ys,by rw [lowB n hk]; exact g1,g2,g3.mono hle1,g4⟩
  ·rw [h1else n hk] at hn
   obtain ⟨b,ys,g1,g2,g3,g4⟩:=em.ownC n cs t hn
   exact ⟨b,ys,by rw [hiB n hk]; exact g1,g2,g3.mono hleR,by rw [hframe n hk b (by rw [ow_cs hn]; exact g1)]; exact g4⟩
 ·have cross:∀ n m,¬ n<hm.nx->m<hm.nx->R.ow n (h.at n)=some b->R1.ow m (hm'.at m)=some b->n=m:=fun n m a1 a2 k1 k2=>by
   rcases n1.own m b k2 with k3 | k3
   ·exact em.inj n m b k1 (how0 m b k3).2
   ·have:=em.lt k1
    omega
  by_cases a1:n<hm.nx <;> by_cases c1:m<hm.nx
  ·rw [h1at n a1,lowO n _ a1] at g1
   rw [h1at m c1,lowO m _ c1] at g2
   exact e1.inj n m b g1 g2
  ·rw [h1at n a1,lowO n _ a1] at g1
   rw [h1else m c1,hiO m _ c1] at g2
   exact (cross m n c1 a1 g2 g1).symm
  ·rw [h1else n a1,hiO n _ a1] at g1
   rw [h1at m c1,lowO m _ c1] at g2
   exact cross n m a1 c1 g1 g2
  ·rw [h1else n a1,hiO n _ a1] at g1
   rw [h1else m c1,hiO m _ c1] at g2
   exact em.inj n m b g1 g2
 ·by_cases hk:n<hm.nx
  ·rw [h1at n hk] at hn
   obtain ⟨g1,g2⟩:=e1.arr n s ok g hn
   refine ⟨by rw [hstr]; exact g1,fun ix i hi=>?_⟩
   obtain ⟨g3,g4,g5,ys,g6,g7,g8⟩:=g2 ix i hi
   rw [harr]
   exact ⟨g3,g4,g5,ys,g6.mono hle1.no,g7,g8⟩
  ·rw [h1else n hk] at hn
   obtain ⟨g1,g2⟩:=em.arr n s ok g hn
   refine ⟨g1,fun ix i hi=>?_⟩
   obtain ⟨g3,g4,g5,ys,g6,g7,g8⟩:=g2 ix i hi
   refine ⟨g3,g4,g5,ys,g6.mono hno,g7,fun q y hq=>?_⟩
   show w'.cell? ((R.arr n ix).add (i.toNat*s+q))=some y
   have hblk2:((R.arr n ix).add (i.toNat*s+q)).block=(R.arr n ix).block:=by unfold Addr.add; split <;> rfl
   rw [cell_same (w:=w)]
   ·exact g8 q y hq
   ·rw [hblk2]
    refine n1.frame _ (Nat.lt_of_lt_of_le g4 em.base) (fun m hbm=>?_)
    have:=(em.own_lt (how0 m _ hbm).2).1
    omega
 ·by_cases hk:n<hm.nx
  ·rw [h1at n hk] at hn
   rw [lowB n hk]; exact e1.fresh n hn
  ·rw [h1else n hk] at hn
   rw [hiB n hk]; exact em.fresh n hn
 ·by_cases hk:n<hm.nx
  ·rw [h1at n hk] at hn
   obtain ⟨b,r',g1,g2,g3,g4⟩:=e1.lp n st pd t q ps ac bd hn
   exact ⟨b,r',by rw [lowB n hk]; exact g1,g2,g3,g4.mono hle1⟩
  ·rw [h1else n hk] at hn
   obtain ⟨b,r',g1,g2,g3,g4⟩:=em.lp n st pd t q ps ac bd hn
   exact ⟨b,r',by rw [hiB n hk]; exact g1,g2,by rw [hframe n hk b (by rw [hn]; exact g1)]; exact g3,g4.mono hleR⟩
 ·by_cases hk:n<hm.nx
  ·rw [h1at n hk] at hn
   exact (e1.vec n L g s t hn).frame (lowV n hk) hle1.no (fun _ _=>rfl)
  ·rw [h1else n hk] at hn
   exact (em.vec n L g s t hn).frame (hiV n hk) hno (fun b hb'=>hframe n hk b (by rw [hn]; exact hb'))
 ·by_cases hk:n<hm.nx
  ·rw [h1at n hk] at hn
   rw [lowV n hk]; exact e1.fvec n hn L
  ·rw [h1else n hk] at hn
   rw [hiV n hk]; exact em.fvec n hn L
 ·by_cases hk:n<hm.nx
  ·rw [h1at n hk] at hn
   exact (e1.map n ks vk es hn).frame (lowB n hk) (fun _ _=>rfl)
  ·rw [h1else n hk] at hn
   exact (em.map n ks vk es hn).frame (hiB n hk) (fun b hb'=>hframe n hk b (by rw [hn]; exact hb'))
 ·by_cases hk:n<hm.nx
  ·rw [h1at n hk,lowO n _ hk] at hn
   exact (e1.frz b xs hb').2.1 n hn
  ·rw [h1else n hk,hiO n _ hk] at hn
   rcases n1.fnew b xs hb' with h2 | ⟨q,h2⟩ | h2
   ·exact (em.frz b xs h2).2.1 n hn
   ·obtain ⟨g1,g2⟩:=how0 q b h2
    have:=em.inj n q b hn g2
    omega
   ·have:=em.lt hn
    omega
 ·cases r with
  | ret v=>obtain ⟨y,h2,h3⟩:=x; exact ⟨y,VRel.mono hle1 v y h2,h3⟩
  | panic v=>obtain ⟨y,h2,h3⟩:=x; exact ⟨y,VRel.mono hle1 v y h2,h3⟩
end
end Go.Sx
namespace Go.Sx.Srn
open Go Go.Sx Go.Proofs
set_option maxRecDepth 1000000
theorem hmix:Try.prog.follows .mixedOrders=true:=by kernel_rfl
theorem none_good {un:Nat} (m:Nat):Good Try.prog (callN Try.prog noSpec noL un m):=
 callN_good hmix (fun _ _ h=>by cases h) (fun _ _ _ _ _ _ _ h=>by cases h) m
theorem good0:Good Try.prog (callN Try.prog noSpec noL 10 20):=none_good 20
theorem noL_ok {b:Code} {n:Nat}:∀ id T,(fun _:Nat=>(none:Option LT)) id=some T->∀ b' ∈ blocksOf id b,LSound Try.prog true (.block id b') n T:=fun _ _ h=>by cases h
theorem noSp:∀ f T,noSpec f=some T->SpOk Try.prog f T:=fun _ _ h=>by cases h
theorem noL_good {sp:SpecT} (h:∀ f T,sp f=some T->SpOk Try.prog f T):Good Try.prog (callN Try.prog sp noL 10 20):=callN_good hmix h (fun _ _ _ _ _ _ _ h=>by cases h) 20
@[reducible] def I (n:Int):VV:=.int .i64 n
def dG (D:List Int) (j:Nat):List VV:=[I (D.getD j 0)]
def inD (D:List Int):VV:=.tl D.length 1 (dG D)
theorem tab1 {T:FuncId × Spec1} (h:SpOk Try.prog T.1 T.2):∀ f U,tabS [T] f=some U->SpOk Try.prog f U:=tab_ok _ (fun x hx=>by
 simp only [List.mem_singleton] at hx
 subst hx
 exact h)
theorem calls_lendDO {P:Program} {f:FuncId} {args args':List VV} {h hm':VH} {r:VRes} {b:VB} (n o:Nat) (hs:CallsV P f args ⟨0,[]⟩ r hm') (h0:hm'.at o=b) (h1:∀ i,hm'.at (o+(i+1))=.free) (hr:r.flat o=true) (hbl:b.flat) (ha:isDL h n args' args) :
  CallsV P f args' h (r.sh o h.nx) (h.new b):=
 calls_lendD n o hs (bl:=[b]) (fun i=>by
  match i with
  | 0=>exact h0
  | i+1=>exact h1 i) hr (fun c hc=>by
  simp only [List.mem_singleton] at hc
  subst hc
  exact hbl) ha
theorem calls_res {P:Program} {f:FuncId} {args:List VV} {h h':VH} {v v2:VV} (hs:CallsV P f args h (.ret v) h') (hv:∀ (R:Rn) (x:Value),VRel R v x->VRel R v2 x):CallsV P f args h (.ret v2) h':=by
 intro B R w xs em hx
 refine (hs B R w xs em hx).mono ?_
 rintro e w' ⟨R',n1,e1,x,hx1,he⟩
 exact ⟨R',n1,e1,x,hv R' x hx1,he⟩
def wkL (a b:List VV):Prop:=(∀ R xs,VRelL R a xs->VRelL R b xs)/\(a.all VV.one=true->b.all VV.one=true)/\a.length=b.length
theorem catG_lt {L j:Nat} {f g:Nat->List VV} (h:j<L):catG L f g j=f j:=by
 unfold catG
 rw [show Nat.blt j L=true from Nat.blt_eq.mpr h]
 rfl
theorem catG_ge {L j:Nat} {f g:Nat->List VV} (h:L<=j):catG L f g j=g (j - L):=by
 unfold catG
 rw [show Nat.blt j L=false from Bool.eq_false_iff.2 (fun hh=>by have:=Nat.blt_eq.mp hh; omega)]
 rfl
theorem room8 {n:Nat} (h:n<=100):roomB n 8=true:=by
 unfold roomB
 rw [Nat.ble_eq_true_of_le (by omega),Nat.ble_eq_true_of_le (by omega)]
 rfl
theorem room24 {n:Nat} (h:n<=2000000):roomB n 24=true:=by
 unfold roomB
 rw [Nat.ble_eq_true_of_le (by omega),Nat.ble_eq_true_of_le (by omega)]
 rfl
theorem wk_one {R:Rn} {a b:VV} (h:wkL [a] [b]) (x:Value) (hx:VRel R a x):VRel R b x:=by
 obtain ⟨y,ys,h1,_,h3⟩:=h.1 R [x] ⟨x,[],hx,rfl,rfl⟩
 simp only [List.cons.injEq] at h3
 rw [h3.1]
 exact h1
theorem wk_nil {g:Nat->List VV} {s:Nat}:wkL [.nils] [.tl 0 s g]:=by
 refine ⟨fun R xs hx=>?_,fun _=>rfl,rfl⟩
 obtain ⟨y,ys,h1,h2,rfl⟩:=hx
 simp only [VRel] at h1
 exact ⟨y,ys,⟨none,0,h1,⟨Nat.le_refl _,fun _=>rfl⟩,fun i hi=>absurd hi (by omega)⟩,h2,rfl⟩
def lZ:LT:=fun _ _ _ _=>False
theorem lZ_ok {c:Code} {n:Nat}:LSound Try.prog true c n lZ:=fun _ _ _ _ h=>h.elim
theorem lsp_many {n:Nat} {o:Code}:∀ {L:List (Nat × LT)},(∀ x ∈ L,∃ i,blocksOf x.1 o=[.loop i]/\LSound Try.prog true (.block x.1 (.loop i)) n x.2)->∀ id T,tabB L id=some T->∀ b' ∈ blocksOf id o,LSound Try.prog true (.block id b') n T
 | [],_,id,T,hT,_,_=>by cases hT
 | (k,U)::r,h,id,T,hT,b',hb=>by
  simp only [tabB] at hT
  cases hid:Nat.beq id k with
  | true=>
   rw [hid] at hT
   have:=Nat.eq_of_beq_eq_true hid
   subst this
   cases hT
   obtain ⟨i,h1,h2⟩:=h _ (List.mem_cons_self ..)
   dsimp only at h1 h2
   rw [h1,List.mem_singleton] at hb
   subst hb
   exact h2
  | false=>
   rw [hid] at hT
   exact lsp_many (fun x hx=>h x (List.mem_cons_of_mem _ hx)) id T hT b' hb
theorem getD_snoc_lt {α:Type} {L:List α} {a d:α} {j:Nat} (h:j<L.length):(L ++ [a]).getD j d=L.getD j d:=by
 rw [List.getD_eq_getElem?_getD,List.getElem?_append_left h,<- List.getD_eq_getElem?_getD]
theorem getD_snoc_eq {α:Type} {L:List α} {a d:α}:(L ++ [a]).getD L.length d=a:=by
 rw [List.getD_eq_getElem?_getD,List.getElem?_append_right (Nat.le_refl _),Nat.sub_self]
 rfl
theorem isD_in {h:VH} {D:List Int} {k:Nat}:isD h (k+1) (.tl D.length 1 (dG D)) (inD D):=⟨rfl,rfl,fun _ _=>rfl⟩
end Go.Sx.Srn
namespace Go.Sx.Srn
open Go Go.Sx Go.Proofs
set_option maxRecDepth 1000000
structure Brn where
 rd:Int
 du:Int
 hr:Int
 ht:Int
def z0:Brn:=⟨0,0,0,0⟩
def useF (l:List Brn) (D:List Int) (h:Int):Nat->Int
 | 0=>0
 | i+1=>useF l D h i+if D.getD i 0<=h/\h<D.getD i 0+(l.getD i z0).hr then (l.getD i z0).ht else 0
def endF (l:List Brn) (D:List Int):Nat->Int
 | 0=>0
 | i+1=>max (endF l D i) (D.getD i 0+(l.getD i z0).hr)
def okP (R:List Int) (l:List Brn) (D:List Int):Bool:=(List.range R.length).all (fun h=>decide (useF l D h D.length<=R.getD h 0))
def nSt (x:Brn):Nat:=(x.du - x.hr - x.rd+1).toNat
def plansF (R:List Int) (l:List Brn):Nat->List Int->List (List Int)
 | 0,D=>[D]
 | m+1,D=>(List.range (nSt (l.getD D.length z0))).flatMap (fun k:Nat=>if okP R l (D ++ [(l.getD D.length z0).rd+(k:Int)]) then plansF R l m (D ++ [(l.getD D.length z0).rd+(k:Int)]) else [])
def stp (l:List Brn) (st:Option (List Int)) (E:List Int):Option (List Int):=
 match st with
 | none=>some E
 | some B=>if endF l E E.length<endF l B B.length then some E else some B
def bestR (R:List Int) (l:List Brn):Option (List Int):=(plansF R l l.length []).foldl (stp l) none
def rmB (R:List Int):Prop:=R.length<=168/\∀ h,h<R.length->0<=R.getD h 0/\R.getD h 0<=8796093022208
def brB (n:Nat) (x:Brn):Prop:=0<=x.rd/\x.du<=n/\x.rd<=x.du/\(1<=x.hr/\x.hr<=x.du - x.rd)/\0<=x.ht/\x.ht<=1099511627776
def lsB (n:Nat) (l:List Brn):Prop:=l.length<=6/\∀ i,i<l.length->brB n (l.getD i z0)
section
variable {R:List Int} {l:List Brn} {D E:List Int}
theorem useF_succ {h:Int} {i:Nat}:useF l D h (i+1)=useF l D h i+if D.getD i 0<=h/\h<D.getD i 0+(l.getD i z0).hr then (l.getD i z0).ht else 0:=rfl
theorem endF_succ {i:Nat}:endF l D (i+1)=max (endF l D i) (D.getD i 0+(l.getD i z0).hr):=rfl
theorem useF_congr {h:Int}:∀ n:Nat,(∀ i,i<n->D.getD i 0=E.getD i 0)->useF l D h n=useF l E h n
 | 0,_=>rfl
 | n+1,hh=>by
  unfold useF
  rw [useF_congr n (fun i hi=>hh i (by omega)),hh n (by omega)]
theorem endF_congr:∀ n:Nat,(∀ i,i<n->D.getD i 0=E.getD i 0)->endF l D n=endF l E n
 | 0,_=>rfl
 | n+1,hh=>by
  unfold endF
  rw [endF_congr n (fun i hi=>hh i (by omega)),hh n (by omega)]
theorem endF_mono {n m:Nat} (h:n<=m):endF l D n<=endF l D m:=by
 induction m with
 | zero=>rw [Nat.le_zero.1 h]; exact Int.le_refl _
 | succ m ih=>
  by_cases e:n=m+1
  ·rw [e]; exact Int.le_refl _
  ·have:=ih (by omega)
   rw [endF_succ (i:=m)]
   omega
theorem endF_0 (n:Nat):0<=endF l D n:=endF_mono (n:=0) (Nat.zero_le _)
theorem useF_snoc {h s:Int}:useF l (D ++ [s]) h (D ++ [s]).length=useF l D h D.length+if s<=h/\h<s+(l.getD D.length z0).hr then (l.getD D.length z0).ht else 0:=by
 rw [List.length_append]
 show useF l (D ++ [s]) h (D.length+1)=_
 rw [useF_succ,useF_congr D.length (fun i hi=>getD_snoc_lt hi),getD_snoc_eq]
theorem endF_snoc {s:Int}:endF l (D ++ [s]) (D ++ [s]).length=max (endF l D D.length) (s+(l.getD D.length z0).hr):=by
 rw [List.length_append]
 show endF l (D ++ [s]) (D.length+1)=_
 rw [endF_succ,endF_congr D.length (fun i hi=>getD_snoc_lt hi),getD_snoc_eq]
theorem okP_iff:okP R l D=true ↔ ∀ h:Nat,h<R.length->useF l D h D.length<=R.getD h 0:=by
 unfold okP
 rw [List.all_eq_true]
 constructor
 ·intro h i hi
  exact of_decide_eq_true (h i (List.mem_range.2 hi))
 ·intro h i hi
  exact decide_eq_true (h i (List.mem_range.1 hi))
theorem useF_0 {n:Nat} (hl:lsB n l) {h:Int}:∀ k:Nat,k<=l.length->0<=useF l D h k
 | 0,_=>Int.le_refl _
 | k+1,hk=>by
  have h1:=useF_0 hl (h:=h) k (by omega)
  have h2:=(hl.2 k (by omega)).2.2.2.2.1
  rw [useF_succ]
  split <;> omega
theorem okP_snoc {s:Int} (ho:okP R l D=true):okP R l (D ++ [s])=true ↔ ∀ h:Nat,h<R.length->s<=h->(h:Int)<s+(l.getD D.length z0).hr->(l.getD D.length z0).ht<=R.getD h 0 - useF l D h D.length:=by
 rw [okP_iff] at ho ⊢
 constructor
 ·intro h i hi h1 h2
  have:=h i hi
  rw [useF_snoc,if_pos ⟨h1,h2⟩] at this
  omega
 ·intro h i hi
  rw [useF_snoc]
  by_cases hc:s<=(i:Int)/\(i:Int)<s+(l.getD D.length z0).hr
  ·rw [if_pos hc]
   have:=h i hi hc.1 hc.2
   omega
  ·rw [if_neg hc]
   have:=ho i hi
   omega
theorem okP_nil (hR:rmB R):okP R l []=true:=okP_iff.2 (fun h hh=>(hR.2 h hh).1)
theorem plansF_mem:∀ {m:Nat} {D E:List Int},E ∈ plansF R l m D->E.length=D.length+m/\∀ i,i<D.length->E.getD i 0=D.getD i 0
 | 0,D,E,h=>by
  have h:E ∈ [D]:=h
  rw [List.mem_singleton] at h
  subst h
  exact ⟨rfl,fun _ _=>rfl⟩
 | m+1,D,E,h=>by
  unfold plansF at h
  rw [List.mem_flatMap] at h
  obtain ⟨k,_,h⟩:=h
  split at h
  ·obtain ⟨h1,h2⟩:=plansF_mem h
   rw [List.length_append] at h1 h2
   refine ⟨by rw [h1]; simp only [List.length_singleton]; omega,fun i hi=>?_⟩
   rw [h2 i (by omega),getD_snoc_lt hi]
  ·cases h
theorem plansF_end {m:Nat} (h:E ∈ plansF R l m D):endF l D D.length<=endF l E E.length:=by
 obtain ⟨h1,h2⟩:=plansF_mem h
 rw [<- endF_congr D.length h2]
 exact endF_mono (by omega)
theorem plansF_end1 {m:Nat} {s:Int} (h:E ∈ plansF R l m (D ++ [s])):max (endF l D D.length) (s+(l.getD D.length z0).hr)<=endF l E E.length:=by
 have:=plansF_end h
 rwa [endF_snoc] at this
def endS (R:List Int) (l:List Brn):Option (List Int)->Int
 | none=>R.length+1
 | some B=>endF l B B.length
theorem fold_keep {B:List Int}:∀ {L:List (List Int)},(∀ E ∈ L,endF l B B.length<=endF l E E.length)->L.foldl (stp l) (some B)=some B
 | [],_=>rfl
 | E::L,h=>by
  rw [List.foldl_cons]
  have h1:=h E List.mem_cons_self
  have e:stp l (some B) E=some B:=by
   show (if _ then _ else _)=_
   rw [if_neg (by omega)]
  rw [e]
  exact fold_keep (fun E' hE=>h E' (List.mem_cons_of_mem _ hE))
def rowP (R:List Int) (l:List Brn) (m:Nat) (D:List Int) (k:Nat):List (List Int):=if okP R l (D ++ [(l.getD D.length z0).rd+(k:Int)]) then plansF R l m (D ++ [(l.getD D.length z0).rd+(k:Int)]) else []
def preP (R:List Int) (l:List Brn) (m:Nat) (D:List Int) (k:Nat):List (List Int):=(List.range k).flatMap (rowP R l m D)
theorem preP_succ {m k:Nat}:preP R l m D (k+1)=preP R l m D k ++ rowP R l m D k:=by
 unfold preP
 rw [List.range_succ,List.flatMap_append]
 simp
theorem preP_all {m:Nat}:plansF R l (m+1) D=preP R l m D (nSt (l.getD D.length z0)):=rfl
theorem rowP_end {m k:Nat} (h:E ∈ rowP R l m D k):max (endF l D D.length) ((l.getD D.length z0).rd+(k:Int)+(l.getD D.length z0).hr)<=endF l E E.length:=by
 unfold rowP at h
 split at h
 ·exact plansF_end1 h
 ·cases h
theorem fold_cut {m k n:Nat} {B:List Int} (hk:k<=n) (h:endF l B B.length<=max (endF l D D.length) ((l.getD D.length z0).rd+(k:Int)+(l.getD D.length z0).hr)) (st:Option (List Int)) (hst:(preP R l m D k).foldl (stp l) st=some B):(preP R l m D n).foldl (stp l) st=some B:=by
 induction n with
 | zero=>rw [Nat.le_zero.1 hk] at hst; exact hst
 | succ n ih=>
  by_cases e:k=n+1
  ·rw [<- e]; exact hst
  ·rw [preP_succ,List.foldl_append,ih (by omega)]
   refine fold_keep (fun E hE=>?_)
   have:=rowP_end hE
   omega
end
end Go.Sx.Srn
namespace Go.Sx.Srn
open Go Go.Sx Go.Proofs
set_option maxRecDepth 1000000
def atL:List Nat->List VB->VH->Prop
 | n::ns,b::bs,h=>h.at n=b/\atL ns bs h
 | _,_,_=>True
theorem at_ne {nx q k:Nat} {b:VB} {bs:List (Nat × VB)} (h:k ≠ q):(VH.mk nx ((k,b)::bs)).at q=(VH.mk nx bs).at q:=by
 unfold VH.at
 simp only [lookB,beq_f h,cond_false]
def buL (x:Brn):List VV:=[I x.rd,I x.du,I x.hr,I x.ht]
def buG (l:List Brn) (j:Nat):List VV:=buL (l.getD j z0)
def buD (l:List Brn):VV:=.tl l.length 4 (buG l)
def caT:List VV:=[.ptr (.own 2 0),.ptr (.own 0 0),.ptr (.own 3 0),.ptr (.own 4 0),.ptr (.own 5 0),.ptr (.own 1 0),.ptr (.own 6 0)]
def nsT:List Nat:=[0,1,2,3,4,5,6,7]
def BT (l:List Brn) (F:Nat->Int) (n L:Nat) (g:Nat->List VV) (B:List Int) (e:Int) (f:Bool):List VB:=[.cells [buD l] 42,.fam [] 168 F 81,.cells [.sub 7 L 1 0 n] 33,.cells [inD B] 33,.cells [I e] 3,.cells [.bool f] 4,.cells [.func 45 [] caT] 82,.vec L g 1 3]
def cloR:FuncId × Spec1:=(46,fun _ args h K=>match args with
 | [x]=>∃ D:List Int,isD h 2 x (inD D)/\(1<=D.length/\D.length<=100000)/\K (.ret (.sl h.nx D.length)) (h.new (.vec D.length (dG D) 1 3))
 | _=>False)
theorem cl_ev (n:Nat) (g:Nat->List VV) (Q:VRes->VH->Prop):callN Try.prog noSpec noL 10 20 0 (.fn 46) [.tl n 1 g] ⟨0,[]⟩ (fun r h=>Q r h) =
 (bif Nat.ble 1 n then
 bif roomB (0+n) (8) then
 Q (VRes.ret (VV.sl 0 (0+n))) (VH.mk (0+1) [(0,VB.vec (0+n) (catG 0 (fun (j:Nat)=>List.take (1) (List.drop (j*(1)) [])) g) (1) 3),(0,VB.vec 0 (fun (j:Nat)=>List.take (1) (List.drop (j*(1)) [])) (1) 3)])
 else False
 else False):=by kernel_rfl
theorem tb_ev (l:List Brn) (F:Nat->Int) (n L:Nat) (g:Nat->List VV) (B:List Int) (e:Int) (f:Bool) (la:Int) (Q:VRes->VH->Prop):callN Try.prog (tabS [cloR]) (atF 45 [(0,lZ)]) 10 20 0 (.fn 45) (I la::caT) ⟨8,nsT.zip (BT l F n L g B e f)⟩ (fun r h=>frzL 0 [(3,0)] h (fun h=>Q r h)) =
 (bif decide ((↑n:Int)=(↑l.length:Int)) then
 ∃ (D:List Int),isD (VH.mk 8 (nsT.zip (BT l F n L g B e f))) 2 (VV.sub 7 L 1 0 n) (inD D)/\(1<=D.length/\D.length<=100000)/\bif D.length.beq D.length && Nat.ble 1 1 && !(VH.mk 8 (nsT.zip (BT l F n L g B e f))).nx.beq 3 then
 Q (VRes.ret (VV.tup [])) (VH.mk ((VH.mk 8 (nsT.zip (BT l F n L g B e f))).nx+1) [(3,VB.cells [VV.tl D.length 1 (dG D)] (33:TypeId)),((VH.mk 8 (nsT.zip (BT l F n L g B e f))).nx,VB.gone),(5,VB.cells [VV.bool true] (4:TypeId)),(4,VB.cells [I la] (3:TypeId)),(3,VB.cells [VV.sl (VH.mk 8 (nsT.zip (BT l F n L g B e f))).nx D.length] (33:TypeId)),((VH.mk 8 (nsT.zip (BT l F n L g B e f))).nx,VB.vec D.length (dG D) 1 (3:TypeId)),(0,VB.cells [buD l] (42:TypeId)),(1,VB.fam [] 168 F (81:TypeId)),(2,VB.cells [VV.sub 7 L 1 0 n] (33:TypeId)),(3,VB.cells [VV.tl B.length 1 (dG B)] (33:TypeId)),(4,VB.cells [I e] (3:TypeId)),(5,VB.cells [VV.bool f] (4:TypeId)),(6,VB.cells [VV.func (45:FuncId) [] caT] (82:TypeId)),(7,VB.vec L g 1 (3:TypeId))])
 else Q (VRes.ret (VV.tup [])) (VH.mk ((VH.mk 8 (nsT.zip (BT l F n L g B e f))).nx+1) [(5,VB.cells [VV.bool true] (4:TypeId)),(4,VB.cells [I la] (3:TypeId)),(3,VB.cells [VV.sl (VH.mk 8 (nsT.zip (BT l F n L g B e f))).nx D.length] (33:TypeId)),((VH.mk 8 (nsT.zip (BT l F n L g B e f))).nx,VB.vec D.length (dG D) 1 (3:TypeId)),(0,VB.cells [buD l] (42:TypeId)),(1,VB.fam [] 168 F (81:TypeId)),(2,VB.cells [VV.sub 7 L 1 0 n] (33:TypeId)),(3,VB.cells [VV.tl B.length 1 (dG B)] (33:TypeId)),(4,VB.cells [I e] (3:TypeId)),(5,VB.cells [VV.bool f] (4:TypeId)),(6,VB.cells [VV.func (45:FuncId) [] caT] (82:TypeId)),(7,VB.vec L g 1 (3:TypeId))])
 else bif decide ((0:Int)<=(↑n:Int)/\(↑n:Int)<(↑l.length:Int)) then
 False
 else False):=by kernel_rfl
def dsT0:List Nat:=[11,10,9,0,1,2,3,4,5,6,7]
def VT0 (s:Int) (n:Nat) (la:Int):List VV:=[I s,.ptr (.own 8 0),I n,I la,.ptr (.own 2 0),.ptr (.own 0 0),.ptr (.own 3 0),.ptr (.own 4 0),.ptr (.own 5 0),.ptr (.own 1 0),.ptr (.own 6 0)]
def nsT0:List Nat:=[0,1,2,3,4,5,6,7,8]
def BS (l:List Brn) (x:Brn) (F:Nat->Int) (n L:Nat) (g:Nat->List VV) (B:List Int) (e:Int) (f:Bool):List VB:=[.cells [buD l] 42,.fam [] 168 F 81,.cells [.sub 7 L 1 0 n] 33,.cells [inD B] 33,.cells [I e] 3,.cells [.bool f] 4,.cells [.func 45 [] caT] 82,.vec L g 1 3,.cells (buL x) 67]
theorem c2_ev (l:List Brn) (x:Brn) (F:Nat->Int) (n L:Nat) (g:Nat->List VV) (B:List Int) (e:Int) (f:Bool) (la s h:Int) (X:VEx->List VV->List VB->Prop):codeE Try.prog (callN Try.prog noSpec noL 10 20) (fun _=>none) true 10 (ntOf Try.prog 45) 0 (loopB 2 (bodyOf Try.prog 45)) ((12::dsT0).zip (I h::VT0 s n la)) ⟨9,nsT0.zip (BS l x F n L g B e f)⟩ (obs 9 (12::dsT0) nsT0 X) =
 (bif inK .i64 (s+x.hr) then
 bif decide (h<s+x.hr) then
 bif decide ((0:Int)<=h/\h<(↑168:Int)) then
 bif decide (h.toNat*(1)<168) then
 bif decide (F (h.toNat*(1))<x.ht) then
 X (VEx.exit 1) [I h,I s,VV.ptr (VA.own 8 0),I (↑n:Int),I la,VV.ptr (VA.own 2 0),VV.ptr (VA.own 0 0),VV.ptr (VA.own 3 0),VV.ptr (VA.own 4 0),VV.ptr (VA.own 5 0),VV.ptr (VA.own 1 0),VV.ptr (VA.own 6 0)] [VB.cells [buD l] (42:TypeId),VB.fam [] 168 F (81:TypeId),VB.cells [VV.sub 7 L 1 0 n] (33:TypeId),VB.cells [VV.tl B.length 1 (dG B)] (33:TypeId),VB.cells [I e] (3:TypeId),VB.cells [VV.bool f] (4:TypeId),VB.cells [VV.func (45:FuncId) [] caT] (82:TypeId),VB.vec L g 1 (3:TypeId),VB.cells [I x.rd,I x.du,I x.hr,I x.ht] (67:TypeId)]
 else bif inK .i64 (h+(1:Int)) then
 X .normal [I (h+(1:Int)),I s,VV.ptr (VA.own 8 0),I (↑n:Int),I la,VV.ptr (VA.own 2 0),VV.ptr (VA.own 0 0),VV.ptr (VA.own 3 0),VV.ptr (VA.own 4 0),VV.ptr (VA.own 5 0),VV.ptr (VA.own 1 0),VV.ptr (VA.own 6 0)] [VB.cells [buD l] (42:TypeId),VB.fam [] 168 F (81:TypeId),VB.cells [VV.sub 7 L 1 0 n] (33:TypeId),VB.cells [VV.tl B.length 1 (dG B)] (33:TypeId),VB.cells [I e] (3:TypeId),VB.cells [VV.bool f] (4:TypeId),VB.cells [VV.func (45:FuncId) [] caT] (82:TypeId),VB.vec L g 1 (3:TypeId),VB.cells [I x.rd,I x.du,I x.hr,I x.ht] (67:TypeId)]
 else False
 else False
 else False
 else X (VEx.exit 2) [I h,I s,VV.ptr (VA.own 8 0),I (↑n:Int),I la,VV.ptr (VA.own 2 0),VV.ptr (VA.own 0 0),VV.ptr (VA.own 3 0),VV.ptr (VA.own 4 0),VV.ptr (VA.own 5 0),VV.ptr (VA.own 1 0),VV.ptr (VA.own 6 0)] [VB.cells [buD l] (42:TypeId),VB.fam [] 168 F (81:TypeId),VB.cells [VV.sub 7 L 1 0 n] (33:TypeId),VB.cells [VV.tl B.length 1 (dG B)] (33:TypeId),VB.cells [I e] (3:TypeId),VB.cells [VV.bool f] (4:TypeId),VB.cells [VV.func (45:FuncId) [] caT] (82:TypeId),VB.vec L g 1 (3:TypeId),VB.cells [I x.rd,I x.du,I x.hr,I x.ht] (67:TypeId)]
 else False):=by kernel_rfl
theorem c4_ev (l:List Brn) (x:Brn) (F:Nat->Int) (n L:Nat) (g:Nat->List VV) (B:List Int) (e:Int) (f:Bool) (la s h:Int) (X:VEx->List VV->List VB->Prop):codeE Try.prog (callN Try.prog noSpec noL 10 20) (fun _=>none) true 10 (ntOf Try.prog 45) 0 (loopB 4 (bodyOf Try.prog 45)) ((13::dsT0).zip (I h::VT0 s n la)) ⟨9,nsT0.zip (BS l x F n L g B e f)⟩ (obs 9 (13::dsT0) nsT0 X) =
 (bif inK .i64 (s+x.hr) then
 bif decide (h<s+x.hr) then
 bif decide ((0:Int)<=h/\h<(↑168:Int)) then
 bif decide (h.toNat*(1)<168) then
 bif inK .i64 (F (h.toNat*(1)) - x.ht) then
 bif decide ((0:Int)<=h/\h<(↑168:Int)) then
 bif decide (h.toNat*(1)+(1)<=168) then
 bif inK .i64 (h+(1:Int)) then
 X .normal [I (h+(1:Int)),I s,VV.ptr (VA.own 8 0),I (↑n:Int),I la,VV.ptr (VA.own 2 0),VV.ptr (VA.own 0 0),VV.ptr (VA.own 3 0),VV.ptr (VA.own 4 0),VV.ptr (VA.own 5 0),VV.ptr (VA.own 1 0),VV.ptr (VA.own 6 0)] [VB.cells [buD l] (42:TypeId),VB.fam [] 168 (setF F (h.toNat*(1)) [F (h.toNat*(1)) - x.ht]) (81:TypeId),VB.cells [VV.sub 7 L 1 0 n] (33:TypeId),VB.cells [VV.tl B.length 1 (dG B)] (33:TypeId),VB.cells [I e] (3:TypeId),VB.cells [VV.bool f] (4:TypeId),VB.cells [VV.func (45:FuncId) [] caT] (82:TypeId),VB.vec L g 1 (3:TypeId),VB.cells [I x.rd,I x.du,I x.hr,I x.ht] (67:TypeId)]
 else False
 else False
 else False
 else False
 else False
 else False
 else X (VEx.exit 4) [I h,I s,VV.ptr (VA.own 8 0),I (↑n:Int),I la,VV.ptr (VA.own 2 0),VV.ptr (VA.own 0 0),VV.ptr (VA.own 3 0),VV.ptr (VA.own 4 0),VV.ptr (VA.own 5 0),VV.ptr (VA.own 1 0),VV.ptr (VA.own 6 0)] [VB.cells [buD l] (42:TypeId),VB.fam [] 168 F (81:TypeId),VB.cells [VV.sub 7 L 1 0 n] (33:TypeId),VB.cells [VV.tl B.length 1 (dG B)] (33:TypeId),VB.cells [I e] (3:TypeId),VB.cells [VV.bool f] (4:TypeId),VB.cells [VV.func (45:FuncId) [] caT] (82:TypeId),VB.vec L g 1 (3:TypeId),VB.cells [I x.rd,I x.du,I x.hr,I x.ht] (67:TypeId)]
 else False):=by kernel_rfl
theorem c6_ev (l:List Brn) (x:Brn) (F:Nat->Int) (n L:Nat) (g:Nat->List VV) (B:List Int) (e:Int) (f:Bool) (la s h:Int) (X:VEx->List VV->List VB->Prop):codeE Try.prog (callN Try.prog noSpec noL 10 20) (fun _=>none) true 10 (ntOf Try.prog 45) 0 (loopB 6 (bodyOf Try.prog 45)) ((14::dsT0).zip (I h::VT0 s n la)) ⟨10,nsT0.zip (BS l x F n L g B e f)⟩ (obs 10 (14::dsT0) nsT0 X) =
 (bif inK .i64 (s+x.hr) then
 bif decide (h<s+x.hr) then
 bif decide ((0:Int)<=h/\h<(↑168:Int)) then
 bif decide (h.toNat*(1)<168) then
 bif inK .i64 (F (h.toNat*(1))+x.ht) then
 bif decide ((0:Int)<=h/\h<(↑168:Int)) then
 bif decide (h.toNat*(1)+(1)<=168) then
 bif inK .i64 (h+(1:Int)) then
 X .normal [I (h+(1:Int)),I s,VV.ptr (VA.own 8 0),I (↑n:Int),I la,VV.ptr (VA.own 2 0),VV.ptr (VA.own 0 0),VV.ptr (VA.own 3 0),VV.ptr (VA.own 4 0),VV.ptr (VA.own 5 0),VV.ptr (VA.own 1 0),VV.ptr (VA.own 6 0)] [VB.cells [buD l] (42:TypeId),VB.fam [] 168 (setF F (h.toNat*(1)) [F (h.toNat*(1))+x.ht]) (81:TypeId),VB.cells [VV.sub 7 L 1 0 n] (33:TypeId),VB.cells [VV.tl B.length 1 (dG B)] (33:TypeId),VB.cells [I e] (3:TypeId),VB.cells [VV.bool f] (4:TypeId),VB.cells [VV.func (45:FuncId) [] caT] (82:TypeId),VB.vec L g 1 (3:TypeId),VB.cells [I x.rd,I x.du,I x.hr,I x.ht] (67:TypeId)]
 else False
 else False
 else False
 else False
 else False
 else False
 else X (VEx.exit 6) [I h,I s,VV.ptr (VA.own 8 0),I (↑n:Int),I la,VV.ptr (VA.own 2 0),VV.ptr (VA.own 0 0),VV.ptr (VA.own 3 0),VV.ptr (VA.own 4 0),VV.ptr (VA.own 5 0),VV.ptr (VA.own 1 0),VV.ptr (VA.own 6 0)] [VB.cells [buD l] (42:TypeId),VB.fam [] 168 F (81:TypeId),VB.cells [VV.sub 7 L 1 0 n] (33:TypeId),VB.cells [VV.tl B.length 1 (dG B)] (33:TypeId),VB.cells [I e] (3:TypeId),VB.cells [VV.bool f] (4:TypeId),VB.cells [VV.func (45:FuncId) [] caT] (82:TypeId),VB.vec L g 1 (3:TypeId),VB.cells [I x.rd,I x.du,I x.hr,I x.ht] (67:TypeId)]
 else False):=by kernel_rfl
def fitF (F:Nat->Int) (x:Brn) (s:Nat):Bool:=(List.range x.hr.toNat).all (fun k=>decide (x.ht<=F (s+k)))
def addF (F:Nat->Int) (s m:Nat) (c:Int):Nat->Int:=fun k=>if s<=k/\k<s+m then F k+c else F k
def cnT (x:Brn) (s:Int):Prop:=0<=s/\1<=x.hr/\s+x.hr<=168/\0<=x.ht/\x.ht<=1099511627776
def frB (F:Nat->Int):Prop:=∀ k,0<=F k/\F k<=8796093022208
def lC2 (l:List Brn) (x:Brn) (n:Nat) (la:Int):LT:=fun lock tt h K=>
 ∃ (F:Nat->Int) (L:Nat) (g:Nat->List VV) (B:List Int) (e:Int) (f:Bool) (s:Int),FitP lock h tt ⟨9,nsT0.zip (BS l x F n L g B e f)⟩ ((12::dsT0).zip (I s::VT0 s n la))/\cnT x s /\
  (fitF F x s.toNat=true->K .normal ((12::dsT0).zip (I (s+x.hr)::VT0 s n la)) ⟨9,nsT0.zip (BS l x F n L g B e f)⟩)/\(fitF F x s.toNat=false->∀ h:Int,K (.exit 1) ((12::dsT0).zip (I h::VT0 s n la)) ⟨9,nsT0.zip (BS l x F n L g B e f)⟩)
def lC4 (l:List Brn) (x:Brn) (n:Nat) (la:Int):LT:=fun lock tt h K=>
 ∃ (F:Nat->Int) (L:Nat) (g:Nat->List VV) (B:List Int) (e:Int) (f:Bool) (s:Int),FitP lock h tt ⟨9,nsT0.zip (BS l x F n L g B e f)⟩ ((13::dsT0).zip (I s::VT0 s n la))/\(cnT x s/\frB F) /\
  K .normal ((13::dsT0).zip (I (s+x.hr)::VT0 s n la)) ⟨9,nsT0.zip (BS l x (addF F s.toNat x.hr.toNat (- x.ht)) n L g B e f)⟩
def lC6 (l:List Brn) (x:Brn) (n:Nat) (la:Int):LT:=fun lock tt h K=>
 ∃ (F F':Nat->Int) (L:Nat) (g:Nat->List VV) (B:List Int) (e:Int) (f:Bool) (s:Int),FitP lock h tt ⟨10,nsT0.zip (BS l x F' n L g B e f)⟩ ((14::dsT0).zip (I s::VT0 s n la))/\(cnT x s/\frB F/\F'=addF F s.toNat x.hr.toNat (- x.ht)) /\
  K .normal ((14::dsT0).zip (I (s+x.hr)::VT0 s n la)) ⟨10,nsT0.zip (BS l x F n L g B e f)⟩
def lefF (R:List Int) (l:List Brn) (D:List Int):Nat->Int:=fun h=>if h<R.length then R.getD h 0 - useF l D h D.length else 0
def dvB (l:List Brn) (D:List Int):Prop:=∀ i,i<D.length->(l.getD i z0).rd<=D.getD i 0/\D.getD i 0+(l.getD i z0).hr<=(l.getD i z0).du
def tryR (R:List Int) (l:List Brn) (m:Nat):FuncId × Spec1:=(45,fun lock args h K=>match args,h with
 | [.int .i64 la,x1,x2,x3,x4,x5,x6,x7],⟨nx,bs⟩=>∃ (D:List Int) (F:Nat->Int) (n L:Nat) (g:Nat->List VV) (B:List Int) (e:Int) (f:Bool) (st:Option (List Int)),[x1,x2,x3,x4,x5,x6,x7]=caT/\(lock=0/\8<=nx)/\atL nsT (BT l F n L g B e f) ⟨nx,bs⟩ /\
   (n=D.length/\D.length+m=l.length/\F=lefF R l D/\la=endF l D D.length/\okP R l D=true/\(dvB l D/\endF l D D.length<endS R l st)/\(n<=L/\L<=l.length)/\(∀ q,q<n->g q=dG D q)/\B=st.getD []/\f=st.isSome/\e=endS R l st) /\
   ∀ (L':Nat) (g':Nat->List VV) (st':Option (List Int)),st'=(plansF R l m D).foldl (stp l) st->(L<=L'/\L'<=l.length)->(∀ q,q<n->g' q=dG D q)->K (.ret (.tup [])) ⟨nx,(2,.cells [.sub 7 L' 1 0 n] 33)::(3,.cells [inD (st'.getD [])] 33)::(4,.cells [I (endS R l st')] 3)::(5,.cells [.bool st'.isSome] 4)::(7,.vec L' g' 1 3)::bs⟩
 | _,_=>False)
theorem c0_ev (R:List Int) (l:List Brn) (m:Nat) (x:Brn) (F:Nat->Int) (n L:Nat) (g:Nat->List VV) (B:List Int) (e:Int) (f:Bool) (la s:Int) (X:VEx->List VV->List VB->Prop):codeE Try.prog (callN Try.prog (tabS [tryR R l m]) noL 10 20) (tabB [(2,lC2 l x n la),(4,lC4 l x n la),(6,lC6 l x n la)]) true 10 (ntOf Try.prog 45) 0 (loopB 0 (bodyOf Try.prog 45)) (dsT0.zip (VT0 s n la)) ⟨9,nsT0.zip (BS l x F n L g B e f)⟩ (obs 9 dsT0 nsT0 X) =
 (bif inK .i64 (x.du - x.hr) then
 bif decide (s<=x.du - x.hr) then
 bif inK .i64 (s+x.hr) then
 bif decide (max la (s+x.hr)<e) then
 ∃ (F_1:Nat->Int),∃ (L_1:Nat),∃ (g_1:Nat->List VV),∃ (B_1:List Int),∃ (e_1:Int),∃ (f_1:Bool),∃ (s_1:Int),FitP 0 (VH.mk 9 (nsT0.zip (BS l x F n L g B e f))) ((12,I s)::(49,I s)::(46,VV.bool true)::(46,VV.bool (decide (max la (s+x.hr)<e)))::(45,VV.bool (decide (max la (s+x.hr)<e)))::(37,VV.bool true)::(44,I e)::(37,VV.bool true)::(43,I (max la (s+x.hr)))::(37,VV.bool true)::(42,I (s+x.hr))::(37,VV.bool true)::(41,I x.hr)::(37,VV.bool true)::(40,VV.ptr (VA.own 8 (2)))::(37,VV.bool true)::(39,I s)::(37,VV.bool true)::(38,I la)::(37,VV.bool true)::(37,VV.bool (decide (s<=x.du - x.hr)))::(36,VV.bool (decide (s<=x.du - x.hr)))::(35,I (x.du - x.hr))::(34,I x.hr)::(33,VV.ptr (VA.own 8 (2)))::(32,I x.du)::(31,VV.ptr (VA.own 8 (1)))::(30,I s)::dsT0.zip (VT0 s n la)) (VH.mk 9 (nsT0.zip (BS l x F_1 n L_1 g_1 B_1 e_1 f_1))) ((12::dsT0).zip (I s_1::VT0 s_1 n la))/\cnT x s_1/\(fitF F_1 x s_1.toNat=true->∃ (F:Nat->Int),∃ (L:Nat),∃ (g:Nat->List VV),∃ (B:List Int),∃ (e:Int),∃ (f:Bool),∃ (s:Int),FitP 0 (VH.mk 9 (nsT0.zip (BS l x F_1 n L_1 g_1 B_1 e_1 f_1))) ((13,I s_1)::(64,I s_1)::(12::dsT0).zip (I (s_1+x.hr)::VT0 s_1 n la)) (VH.mk 9 (nsT0.zip (BS l x F n L g B e f))) ((13::dsT0).zip (I s::VT0 s n la))/\(cnT x s/\frB F)/\bif L.beq L then
 bif decide (0+n+1<=L) then
 bif inK .i64 (s+x.hr) then
 ∃ (D:List Int),∃ (F_2:Nat->Int),∃ (n_1:Nat),∃ (L_2:Nat),∃ (g_2:Nat->List VV),∃ (B_2:List Int),∃ (e_2:Int),∃ (f_2:Bool),∃ (st:Option (List Int)),caT=caT/\(0=0/\8<=10)/\atL nsT (BT l F_2 n_1 L_2 g_2 B_2 e_2 f_2) (VH.mk (10) ((2,VB.cells [VV.sub 7 L (1) 0 (n+1)] (33:TypeId))::(7,VB.vec L (ovG (0+n) 1 g fun (j:Nat)=>List.take (1) (List.drop (j*(1)) [I s])) (1) 3)::(9,VB.vec 1 (fun (j:Nat)=>List.take (1) (List.drop (j*(1)) [I s])) (1) 3)::nsT0.zip (BS l x (addF F s.toNat x.hr.toNat (-x.ht)) n L g B e f)))/\(n_1=D.length/\D.length+m=l.length/\F_2=lefF R l D/\max la (s+x.hr)=endF l D D.length/\okP R l D=true/\(dvB l D/\endF l D D.length<endS R l st)/\(n_1<=L_2/\L_2<=l.length)/\(∀ (q:Nat),q<n_1->g_2 q=dG D q)/\B_2=st.getD []/\f_2=st.isSome/\e_2=endS R l st)/\∀ (L':Nat) (g':Nat->List VV) (st':Option (List Int)),st'=List.foldl (stp l) st (plansF R l m D)->L_2<=L'/\L'<=l.length->(∀ (q:Nat),q<n_1->g' q=dG D q)->bif decide ((0:Int)<=(0:Int)/\(0:Int)<=(↑n:Int)/\(↑0:Int)+(↑n:Int)<=(↑L':Int)) then
 ∃ (F_3:Nat->Int),∃ (F':Nat->Int),∃ (L_3:Nat),∃ (g_3:Nat->List VV),∃ (B_3:List Int),∃ (e_3:Int),∃ (f_3:Bool),∃ (s_2:Int),FitP 0 (VH.mk (10) ((2,VB.cells [VV.sub 7 L' 1 (0+Int.toNat (0:Int)) ((↑n:Int) - (0:Int)).toNat] (33:TypeId))::(2,VB.cells [VV.sub 7 L' 1 0 n_1] (33:TypeId))::(3,VB.cells [inD (st'.getD [])] (33:TypeId))::(4,VB.cells [I (endS R l st')] (3:TypeId))::(5,VB.cells [VV.bool st'.isSome] (4:TypeId))::(7,VB.vec L' g' 1 (3:TypeId))::(2,VB.cells [VV.sub 7 L (1) 0 (n+1)] (33:TypeId))::(7,VB.vec L (ovG (0+n) 1 g fun (j:Nat)=>List.take (1) (List.drop (j*(1)) [I s])) (1) 3)::(9,VB.vec 1 (fun (j:Nat)=>List.take (1) (List.drop (j*(1)) [I s])) (1) 3)::nsT0.zip (BS l x (addF F s.toNat x.hr.toNat (-x.ht)) n L g B e f))) ((14,I s)::(95,I s)::(94,VV.sub 7 L' 1 (0+Int.toNat (0:Int)) ((↑n:Int) - (0:Int)).toNat)::(93,I (↑n:Int))::(92,VV.sub 7 L' 1 0 n_1)::(91,VV.tup [])::(90,I (max la (s+x.hr)))::(89,I (s+x.hr))::(88,I x.hr)::(87,VV.ptr (VA.own 8 (2)))::(86,I s)::(85,I la)::(84,VV.func (45:FuncId) [] caT)::(83,VV.sub 7 L (1) 0 (n+1))::(82,VV.sl (9) 1)::(81,I s)::(80,VV.sub 7 L 1 0 n)::(13::dsT0).zip (I (s+x.hr)::VT0 s n la)) (VH.mk 10 (nsT0.zip (BS l x F' n L_3 g_3 B_3 e_3 f_3))) ((14::dsT0).zip (I s_2::VT0 s_2 n la))/\(cnT x s_2/\frB F_3/\F'=addF F_3 s_2.toNat x.hr.toNat (-x.ht))/\bif inK .i64 (s_2+(1:Int)) then
 X .normal [I (s_2+(1:Int)),VV.ptr (VA.own 8 0),I (↑n:Int),I la,VV.ptr (VA.own 2 0),VV.ptr (VA.own 0 0),VV.ptr (VA.own 3 0),VV.ptr (VA.own 4 0),VV.ptr (VA.own 5 0),VV.ptr (VA.own 1 0),VV.ptr (VA.own 6 0)] [VB.cells [buD l] (42:TypeId),VB.fam [] 168 F_3 (81:TypeId),VB.cells [VV.sub 7 L_3 1 0 n] (33:TypeId),VB.cells [VV.tl B_3.length 1 (dG B_3)] (33:TypeId),VB.cells [I e_3] (3:TypeId),VB.cells [VV.bool f_3] (4:TypeId),VB.cells [VV.func (45:FuncId) [] caT] (82:TypeId),VB.vec L_3 g_3 1 (3:TypeId),VB.cells [I x.rd,I x.du,I x.hr,I x.ht] (67:TypeId)]
 else False
 else False
 else False
 else bif n.beq L && roomB (L+1) (8) then
 bif inK .i64 (s+x.hr) then
 ∃ (D:List Int),∃ (F_2:Nat->Int),∃ (n_1:Nat),∃ (L_2:Nat),∃ (g_2:Nat->List VV),∃ (B_2:List Int),∃ (e_2:Int),∃ (f_2:Bool),∃ (st:Option (List Int)),caT=caT/\(0=0/\8<=10)/\atL nsT (BT l F_2 n_1 L_2 g_2 B_2 e_2 f_2) (VH.mk (10) ((2,VB.cells [VV.sub 7 (L+1) (1) 0 (L+1)] (33:TypeId))::(7,VB.vec (L+1) (catG L g fun (j:Nat)=>List.take (1) (List.drop (j*(1)) [I s])) (1) 3)::(9,VB.vec 1 (fun (j:Nat)=>List.take (1) (List.drop (j*(1)) [I s])) (1) 3)::nsT0.zip (BS l x (addF F s.toNat x.hr.toNat (-x.ht)) n L g B e f)))/\(n_1=D.length/\D.length+m=l.length/\F_2=lefF R l D/\max la (s+x.hr)=endF l D D.length/\okP R l D=true/\(dvB l D/\endF l D D.length<endS R l st)/\(n_1<=L_2/\L_2<=l.length)/\(∀ (q:Nat),q<n_1->g_2 q=dG D q)/\B_2=st.getD []/\f_2=st.isSome/\e_2=endS R l st)/\∀ (L':Nat) (g':Nat->List VV) (st':Option (List Int)),st'=List.foldl (stp l) st (plansF R l m D)->L_2<=L'/\L'<=l.length->(∀ (q:Nat),q<n_1->g' q=dG D q)->bif decide ((0:Int)<=(0:Int)/\(0:Int)<=(↑n:Int)/\(↑0:Int)+(↑n:Int)<=(↑L':Int)) then
 ∃ (F_3:Nat->Int),∃ (F':Nat->Int),∃ (L_3:Nat),∃ (g_3:Nat->List VV),∃ (B_3:List Int),∃ (e_3:Int),∃ (f_3:Bool),∃ (s_2:Int),FitP 0 (VH.mk (10) ((2,VB.cells [VV.sub 7 L' 1 (0+Int.toNat (0:Int)) ((↑n:Int) - (0:Int)).toNat] (33:TypeId))::(2,VB.cells [VV.sub 7 L' 1 0 n_1] (33:TypeId))::(3,VB.cells [inD (st'.getD [])] (33:TypeId))::(4,VB.cells [I (endS R l st')] (3:TypeId))::(5,VB.cells [VV.bool st'.isSome] (4:TypeId))::(7,VB.vec L' g' 1 (3:TypeId))::(2,VB.cells [VV.sub 7 (L+1) (1) 0 (L+1)] (33:TypeId))::(7,VB.vec (L+1) (catG L g fun (j:Nat)=>List.take (1) (List.drop (j*(1)) [I s])) (1) 3)::(9,VB.vec 1 (fun (j:Nat)=>List.take (1) (List.drop (j*(1)) [I s])) (1) 3)::nsT0.zip (BS l x (addF F s.toNat x.hr.toNat (-x.ht)) n L g B e f))) ((14,I s)::(95,I s)::(94,VV.sub 7 L' 1 (0+Int.toNat (0:Int)) ((↑n:Int) - (0:Int)).toNat)::(93,I (↑n:Int))::(92,VV.sub 7 L' 1 0 n_1)::(91,VV.tup [])::(90,I (max la (s+x.hr)))::(89,I (s+x.hr))::(88,I x.hr)::(87,VV.ptr (VA.own 8 (2)))::(86,I s)::(85,I la)::(84,VV.func (45:FuncId) [] caT)::(83,VV.sub 7 (L+1) (1) 0 (L+1))::(82,VV.sl (9) 1)::(81,I s)::(80,VV.sub 7 L 1 0 n)::(13::dsT0).zip (I (s+x.hr)::VT0 s n la)) (VH.mk 10 (nsT0.zip (BS l x F' n L_3 g_3 B_3 e_3 f_3))) ((14::dsT0).zip (I s_2::VT0 s_2 n la))/\(cnT x s_2/\frB F_3/\F'=addF F_3 s_2.toNat x.hr.toNat (-x.ht))/\bif inK .i64 (s_2+(1:Int)) then
 X .normal [I (s_2+(1:Int)),VV.ptr (VA.own 8 0),I (↑n:Int),I la,VV.ptr (VA.own 2 0),VV.ptr (VA.own 0 0),VV.ptr (VA.own 3 0),VV.ptr (VA.own 4 0),VV.ptr (VA.own 5 0),VV.ptr (VA.own 1 0),VV.ptr (VA.own 6 0)] [VB.cells [buD l] (42:TypeId),VB.fam [] 168 F_3 (81:TypeId),VB.cells [VV.sub 7 L_3 1 0 n] (33:TypeId),VB.cells [VV.tl B_3.length 1 (dG B_3)] (33:TypeId),VB.cells [I e_3] (3:TypeId),VB.cells [VV.bool f_3] (4:TypeId),VB.cells [VV.func (45:FuncId) [] caT] (82:TypeId),VB.vec L_3 g_3 1 (3:TypeId),VB.cells [I x.rd,I x.du,I x.hr,I x.ht] (67:TypeId)]
 else False
 else False
 else False
 else False
 else False)/\(fitF F_1 x s_1.toNat=false->∀ (h:Int),bif inK .i64 (s_1+(1:Int)) then
 X .normal [I (s_1+(1:Int)),VV.ptr (VA.own 8 0),I (↑n:Int),I la,VV.ptr (VA.own 2 0),VV.ptr (VA.own 0 0),VV.ptr (VA.own 3 0),VV.ptr (VA.own 4 0),VV.ptr (VA.own 5 0),VV.ptr (VA.own 1 0),VV.ptr (VA.own 6 0)] [VB.cells [buD l] (42:TypeId),VB.fam [] 168 F_1 (81:TypeId),VB.cells [VV.sub 7 L_1 1 0 n] (33:TypeId),VB.cells [VV.tl B_1.length 1 (dG B_1)] (33:TypeId),VB.cells [I e_1] (3:TypeId),VB.cells [VV.bool f_1] (4:TypeId),VB.cells [VV.func (45:FuncId) [] caT] (82:TypeId),VB.vec L_1 g_1 1 (3:TypeId),VB.cells [I x.rd,I x.du,I x.hr,I x.ht] (67:TypeId)]
 else False)
 else X (VEx.exit 0) [I s,VV.ptr (VA.own 8 0),I (↑n:Int),I la,VV.ptr (VA.own 2 0),VV.ptr (VA.own 0 0),VV.ptr (VA.own 3 0),VV.ptr (VA.own 4 0),VV.ptr (VA.own 5 0),VV.ptr (VA.own 1 0),VV.ptr (VA.own 6 0)] [VB.cells [buD l] (42:TypeId),VB.fam [] 168 F (81:TypeId),VB.cells [VV.sub 7 L 1 0 n] (33:TypeId),VB.cells [VV.tl B.length 1 (dG B)] (33:TypeId),VB.cells [I e] (3:TypeId),VB.cells [VV.bool f] (4:TypeId),VB.cells [VV.func (45:FuncId) [] caT] (82:TypeId),VB.vec L g 1 (3:TypeId),VB.cells [I x.rd,I x.du,I x.hr,I x.ht] (67:TypeId)]
 else False
 else X (VEx.exit 0) [I s,VV.ptr (VA.own 8 0),I (↑n:Int),I la,VV.ptr (VA.own 2 0),VV.ptr (VA.own 0 0),VV.ptr (VA.own 3 0),VV.ptr (VA.own 4 0),VV.ptr (VA.own 5 0),VV.ptr (VA.own 1 0),VV.ptr (VA.own 6 0)] [VB.cells [buD l] (42:TypeId),VB.fam [] 168 F (81:TypeId),VB.cells [VV.sub 7 L 1 0 n] (33:TypeId),VB.cells [VV.tl B.length 1 (dG B)] (33:TypeId),VB.cells [I e] (3:TypeId),VB.cells [VV.bool f] (4:TypeId),VB.cells [VV.func (45:FuncId) [] caT] (82:TypeId),VB.vec L g 1 (3:TypeId),VB.cells [I x.rd,I x.du,I x.hr,I x.ht] (67:TypeId)]
 else False):=by kernel_rfl
def lT0 (R:List Int) (l:List Brn) (m:Nat) (D:List Int):LT:=fun lock tt h K=>
 ∃ (L:Nat) (g:Nat->List VV) (st:Option (List Int)),FitP lock h tt ⟨9,nsT0.zip (BS l (l.getD D.length z0) (lefF R l D) D.length L g (st.getD []) (endS R l st) st.isSome)⟩ (dsT0.zip (VT0 (l.getD D.length z0).rd D.length (endF l D D.length))) /\
  (D.length<=L/\L<=l.length/\∀ q,q<D.length->g q=dG D q)/\∀ (s:Int) (L':Nat) (g':Nat->List VV) (st':Option (List Int)),st'=(plansF R l (m+1) D).foldl (stp l) st->(L<=L'/\L'<=l.length)->(∀ q,q<D.length->g' q=dG D q) ->
   K .normal (dsT0.zip (VT0 s D.length (endF l D D.length))) ⟨9,nsT0.zip (BS l (l.getD D.length z0) (lefF R l D) D.length L' g' (st'.getD []) (endS R l st') st'.isSome)⟩
theorem tf_ev (R:List Int) (l:List Brn) (m L:Nat) (D:List Int) (g:Nat->List VV) (st:Option (List Int)) (Q:VRes->VH->Prop):callN Try.prog noSpec (atF 45 [(0,lT0 R l m D)]) 10 20 0 (.fn 45) (I (endF l D D.length)::caT) ⟨8,nsT.zip (BT l (lefF R l D) D.length L g (st.getD []) (endS R l st) st.isSome)⟩ (fun r h=>Q r h) =
 (bif decide ((↑D.length:Int)=(↑l.length:Int)) then
 False
 else bif decide ((0:Int)<=(↑D.length:Int)/\(↑D.length:Int)<(↑l.length:Int)) then
 ∃ (L_1:Nat),∃ (g_1:Nat->List VV),∃ (st_1:Option (List Int)),FitP 0 (VH.mk (9) ((8,VB.cells [I (l.getD (↑D.length:Int).toNat z0).rd,I (l.getD (↑D.length:Int).toNat z0).du,I (l.getD (↑D.length:Int).toNat z0).hr,I (l.getD (↑D.length:Int).toNat z0).ht] 67)::(8,VB.cells [I 0,I 0,I 0,I 0] 67)::nsT.zip (BT l (lefF R l D) D.length L g (st.getD []) (endS R l st) st.isSome))) [(11,I (l.getD (↑D.length:Int).toNat z0).rd),(29,I (l.getD (↑D.length:Int).toNat z0).rd),(28,VV.ptr (VA.own (8) 0)),(10,VV.ptr (VA.own (8) 0)),(27,VV.agg [I (l.getD (↑D.length:Int).toNat z0).rd,I (l.getD (↑D.length:Int).toNat z0).du,I (l.getD (↑D.length:Int).toNat z0).hr,I (l.getD (↑D.length:Int).toNat z0).ht]),(26,VV.tp [I (l.getD (↑D.length:Int).toNat z0).rd,I (l.getD (↑D.length:Int).toNat z0).du,I (l.getD (↑D.length:Int).toNat z0).hr,I (l.getD (↑D.length:Int).toNat z0).ht]),(25,I (↑D.length:Int)),(24,buD l),(20,VV.bool false),(20,VV.bool (decide ((↑D.length:Int)=(↑l.length:Int)))),(19,I (↑l.length:Int)),(18,buD l),(17,I (↑D.length:Int)),(9,I (↑D.length:Int)),(16,I (↑D.length:Int)),(15,VV.sub 7 L 1 0 D.length),(0,I (endF l D D.length)),(1,VV.ptr (VA.own 2 0)),(2,VV.ptr (VA.own 0 0)),(3,VV.ptr (VA.own 3 0)),(4,VV.ptr (VA.own 4 0)),(5,VV.ptr (VA.own 5 0)),(6,VV.ptr (VA.own 1 0)),(7,VV.ptr (VA.own 6 0))] (VH.mk 9 (nsT0.zip (BS l (l.getD D.length z0) (lefF R l D) D.length L_1 g_1 (st_1.getD []) (endS R l st_1) st_1.isSome))) (dsT0.zip (VT0 (l.getD D.length z0).rd D.length (endF l D D.length)))/\(D.length<=L_1/\L_1<=l.length/\∀ (q:Nat),q<D.length->g_1 q=dG D q)/\∀ (s:Int) (L':Nat) (g':Nat->List VV) (st':Option (List Int)),st'=List.foldl (stp l) st_1 (plansF R l (m+1) D)->L_1<=L'/\L'<=l.length->(∀ (q:Nat),q<D.length->g' q=dG D q)->Q (VRes.ret (VV.tup [])) (VH.mk 9 [(0,VB.cells [buD l] (42:TypeId)),(1,VB.fam [] 168 (lefF R l D) (81:TypeId)),(2,VB.cells [VV.sub 7 L' 1 0 D.length] (33:TypeId)),(3,VB.cells [VV.tl (st'.getD []).length 1 (dG (st'.getD []))] (33:TypeId)),(4,VB.cells [I (endS R l st')] (3:TypeId)),(5,VB.cells [VV.bool st'.isSome] (4:TypeId)),(6,VB.cells [VV.func (45:FuncId) [] caT] (82:TypeId)),(7,VB.vec L' g' 1 (3:TypeId)),(8,VB.cells [I (l.getD D.length z0).rd,I (l.getD D.length z0).du,I (l.getD D.length z0).hr,I (l.getD D.length z0).ht] (67:TypeId))])
 else False):=by kernel_rfl
end Go.Sx.Srn
namespace Go.Sx.Srn
open Go Go.Sx Go.Proofs Go.ChangeShapes Go.WideShapes Go.RowKit
set_option maxRecDepth 1000000
theorem leavesP67:leavesT Try.prog 5 67=some [3,3,3,3]:=by kernel_rfl
theorem leavesP3:leavesT Try.prog 5 3=some [3]:=by kernel_rfl
theorem undP3:Try.prog.underlying 3=some (.int .i64):=by kernel_rfl
theorem undP33:Try.prog.underlying 33=some (.slice 3):=by kernel_rfl
theorem undP42:Try.prog.underlying 42=some (.slice 67):=by kernel_rfl
theorem cellsP67:Try.prog.cellsOf 67=4:=by kernel_rfl
theorem cellsP3:Try.prog.cellsOf 3=1:=by kernel_rfl
section
variable {H:Type} {enc:TypeId × Value->H} {w:World} {base:Nat} {spare:Nat->Bool} {held:Bool} {v:Value} {fuel:Nat} {y:DataW H × List MemPlace}
theorem len1 {xs:List Value} (h:xs.length=1):∃ a,xs=[a]:=by
 match xs,h with
 | [a],_=>exact ⟨a,rfl⟩
theorem len4 {xs:List Value} (h:xs.length=4):∃ a b c d,xs=[a,b,c,d]:=by
 match xs,h with
 | [a,b,c,d],_=>exact ⟨a,b,c,d,rfl⟩
theorem leafI {v:Value} (h:∃ m v' y,some v=some v'/\DataW.trod enc Try.prog w base spare held m 3 [v']=some y):∃ n:Int,v=.int .i64 n:=by
 obtain ⟨m,v',y,e,h⟩:=h
 cases e
 obtain ⟨n,rfl,_⟩:=leaf_int undP3 h
 exact ⟨n,rfl⟩
theorem ints_rd (h:DataW.trod enc Try.prog w base spare held fuel 33 [v]=some y):∃ D:List Int,VRel (dataR w) (inD D) v:=by
 obtain ⟨l,hl⟩:=read_list (α:=Int) (f:=fun n=>[I n]) (d0:=0) undP33 leavesP3 cellsP3 (by decide) (fun _=>rfl) (fun xs hx hc=>by
  obtain ⟨a,rfl⟩:=len1 hx
  obtain ⟨n,rfl⟩:=leafI (hc 0 3 rfl)
  exact ⟨n,_,_,rfl,rfl,rfl⟩) h
 exact ⟨l,hl⟩
theorem runs_rd (h:DataW.trod enc Try.prog w base spare held fuel 42 [v]=some y):∃ l:List Brn,VRel (dataR w) (buD l) v:=by
 obtain ⟨l,hl⟩:=read_list (α:=Brn) (f:=buL) (d0:=z0) undP42 leavesP67 cellsP67 (by decide) (fun _=>rfl) (fun xs hx hc=>by
  obtain ⟨a,b,c,d,rfl⟩:=len4 hx
  obtain ⟨n1,rfl⟩:=leafI (hc 0 3 rfl)
  obtain ⟨n2,rfl⟩:=leafI (hc 1 3 rfl)
  obtain ⟨n3,rfl⟩:=leafI (hc 2 3 rfl)
  obtain ⟨n4,rfl⟩:=leafI (hc 3 3 rfl)
  exact ⟨⟨n1,n2,n3,n4⟩,_,_,rfl,⟨_,_,rfl,⟨_,_,rfl,⟨_,_,rfl,rfl,rfl⟩,rfl⟩,rfl⟩,rfl⟩) h
 exact ⟨l,hl⟩
variable {b0:Nat} {d:DataW H} {p:List MemPlace}
theorem rooms_in (s:Value.okWide Try.prog w .any b0 33 v) (h:DataW.Trod enc Try.prog w base spare held 33 v d p):∃ D:List Int,VRel (dataR w) (inD D) v:=by
 obtain ⟨_,_,h⟩:=open_list undP33 s h
 exact ints_rd h
theorem runs_in (s:Value.okWide Try.prog w .any b0 42 v) (h:DataW.Trod enc Try.prog w base spare held 42 v d p):∃ l:List Brn,VRel (dataR w) (buD l) v:=by
 obtain ⟨_,_,h⟩:=open_list undP42 s h
 exact runs_rd h
end
end Go.Sx.Srn
namespace Go.Sx.Srn
open Go Go.Sx Go.Proofs
set_option maxRecDepth 1000000
theorem setF_one {g:Nat->Int} {o k:Nat} {v:Int}:setF g o [v] k=if k=o then v else g k:=by
 show (bif Nat.beq k o then v else g k)=_
 by_cases h:k=o
 ·subst h
  rw [Nat.beq_refl,if_pos rfl]; rfl
 ·rw [beq_f h,if_neg h]; rfl
section
variable {l:List Brn} {x:Brn} {n:Nat} {la:Int}
theorem fitF_iff {F:Nat->Int} {s:Nat}:fitF F x s=true ↔ ∀ k,k<x.hr.toNat->x.ht<=F (s+k):=by
 unfold fitF
 rw [List.all_eq_true]
 exact ⟨fun h k hk=>of_decide_eq_true (h k (List.mem_range.2 hk)),fun h k hk=>decide_eq_true (h k (List.mem_range.1 hk))⟩
theorem addF_0 {F:Nat->Int} {s:Nat} {c:Int}:addF F s 0 c=F:=by
 funext k
 unfold addF
 rw [if_neg (by omega)]
theorem addF_s {F:Nat->Int} {s m:Nat} {c:Int}:setF (addF F s m c) (s+m) [addF F s m c (s+m)+c]=addF F s (m+1) c:=by
 funext k
 rw [setF_one]
 unfold addF
 by_cases h:k=s+m
 ·subst h
  rw [if_pos rfl,if_neg (by omega),if_pos (by omega)]
 ·rw [if_neg h]
  by_cases h2:s<=k/\k<s+m
  ·rw [if_pos h2,if_pos (by omega)]
  ·rw [if_neg h2,if_neg (by omega)]
theorem addF_u {F:Nat->Int} {s m:Nat} {c:Int} {k:Nat} (hk:k<m):setF (fun q=>if s+k<=q/\q<s+m then F q - c else F q) (s+k) [(if s+k<=s+k/\s+k<s+m then F (s+k) - c else F (s+k))+c]=fun q=>if s+(k+1)<=q/\q<s+m then F q - c else F q:=by
 funext q
 rw [setF_one]
 by_cases h:q=s+k
 ·subst h
  rw [if_pos rfl,if_pos ⟨Nat.le_refl _,by omega⟩,if_neg (by omega)]
  omega
 ·rw [if_neg h]
  by_cases h2:s+k<=q/\q<s+m
  ·rw [if_pos h2,if_pos (by omega)]
  ·rw [if_neg h2,if_neg (by omega)]
theorem lC2_ok:LSound Try.prog true (.block 2 (.loop (loopB 2 (bodyOf Try.prog 45)))) (ntOf Try.prog 45) (lC2 l x n la):=by
 rintro lock tt h K ⟨F,L,g,B,e,f,s,hf,hc,k1,k2⟩
 have key:LSound Try.prog true (.block 2 (.loop (loopB 2 (bodyOf Try.prog 45)))) (ntOf Try.prog 45) (fun lock tt h K=>FitP lock h tt ⟨9,nsT0.zip (BS l x F n L g B e f)⟩ ((12::dsT0).zip (I s::VT0 s n la)) /\
  (fitF F x s.toNat=true->K .normal ((12::dsT0).zip (I (s+x.hr)::VT0 s n la)) ⟨9,nsT0.zip (BS l x F n L g B e f)⟩)/\(fitF F x s.toNat=false->∀ h:Int,K (.exit 1) ((12::dsT0).zip (I h::VT0 s n la)) ⟨9,nsT0.zip (BS l x F n L g B e f)⟩)):=by
  obtain ⟨c1,c2,c3,c4,c5⟩:=hc
  refine loop_row hmix good0 (un:=10) (ds:=12::dsT0) (ns:=nsT0) (nx:=9) (fun k:Nat=>I (s+k)::VT0 s n la) (fun _=>BS l x F n L g B e f) (fun k=>k<=x.hr.toNat/\∀ q,q<k->x.ht<=F (s.toNat+q)) (fun k=>x.hr.toNat - k) (fun _ ex vs bs=>bs=BS l x F n L g B e f/\((ex=.exit 2/\fitF F x s.toNat=true/\vs=I (s+x.hr)::VT0 s n la) ∨ (ex=.exit 1/\fitF F x s.toNat=false/\∃ h:Int,vs=I h::VT0 s n la))) noL_ok ?_ ?_
  ·rintro k ⟨h0,h1⟩
   refine cast (c2_ev l x F n L g B e f la s (s+k) _).symm (cond_r (by omega) ?_)
   rw [show (s+(k:Int)).toNat*1=s.toNat+k by omega]
   refine cond_d (fun hk=>cond_dk ⟨by omega,by omega⟩ (cond_dk (by omega) (cond_d (fun hlt=>⟨rfl,.inr ⟨rfl,?_,_,rfl⟩⟩) (fun hlt=>cond_r (by omega) ⟨k+1,⟨by omega,fun q hq=>?_⟩,by dsimp only; omega,?_,fitBs_refl _,fun _ _ _ h=>h⟩)))) (fun hk=>?_)
   ·cases hff:fitF F x s.toNat with
    | false=>rfl
    | true=>
     have:=fitF_iff.1 hff k (by omega)
     omega
   ·by_cases e:q=k
    ·subst e; omega
    ·exact h1 q (by omega)
   ·show _=I (s+((k+1:Nat):Int))::VT0 s n la
    rw [show ((k+1:Nat):Int)=(k:Int)+1 by omega,<- Int.add_assoc]; rfl
   ·have hk2:(k:Int)=x.hr:=by omega
    refine ⟨rfl,.inl ⟨rfl,fitF_iff.2 (fun q hq=>h1 q (by omega)),?_⟩⟩
    rw [hk2]; rfl
  ·rintro lock tt h K ⟨hf,k1,k2⟩
   refine ⟨0,by rw [show s+((0:Nat):Int)=s by omega]; exact hf,⟨Nat.zero_le _,fun q hq=>absurd hq (Nat.not_lt_zero _)⟩,?_⟩
   rintro ex vs bs ⟨rfl,⟨rfl,h1,rfl⟩ | ⟨rfl,h1,h,rfl⟩⟩
   ·exact k1 h1
   ·exact k2 h1 h
 exact key lock tt h K ⟨hf,k1,k2⟩
theorem lC4_ok:LSound Try.prog true (.block 4 (.loop (loopB 4 (bodyOf Try.prog 45)))) (ntOf Try.prog 45) (lC4 l x n la):=by
 rintro lock tt h K ⟨F,L,g,B,e,f,s,hf,⟨hc,hF⟩,k1⟩
 have key:LSound Try.prog true (.block 4 (.loop (loopB 4 (bodyOf Try.prog 45)))) (ntOf Try.prog 45) (fun lock tt h K=>FitP lock h tt ⟨9,nsT0.zip (BS l x F n L g B e f)⟩ ((13::dsT0).zip (I s::VT0 s n la)) /\
  K .normal ((13::dsT0).zip (I (s+x.hr)::VT0 s n la)) ⟨9,nsT0.zip (BS l x (addF F s.toNat x.hr.toNat (- x.ht)) n L g B e f)⟩):=by
  obtain ⟨c1,c2,c3,c4,c5⟩:=hc
  refine loop_row hmix good0 (un:=10) (ds:=13::dsT0) (ns:=nsT0) (nx:=9) (fun k:Nat=>I (s+k)::VT0 s n la) (fun k=>BS l x (addF F s.toNat k (- x.ht)) n L g B e f) (fun k=>k<=x.hr.toNat) (fun k=>x.hr.toNat - k) (fun _ ex vs bs=>bs=BS l x (addF F s.toNat x.hr.toNat (- x.ht)) n L g B e f/\ex=.exit 4/\vs=I (s+x.hr)::VT0 s n la) noL_ok ?_ ?_
  ·rintro k h0
   refine cast (c4_ev l x (addF F s.toNat k (- x.ht)) n L g B e f la s (s+k) _).symm (cond_r (by omega) ?_)
   rw [show (s+(k:Int)).toNat*1=s.toNat+k by omega]
   have hb:=hF (s.toNat+k)
   have hv:addF F s.toNat k (- x.ht) (s.toNat+k)=F (s.toNat+k):=by unfold addF; rw [if_neg (by omega)]
   refine cond_d (fun hk=>cond_dk ⟨by omega,by omega⟩ (cond_dk (by omega) (cond_r (by omega) (cond_dk ⟨by omega,by omega⟩ (cond_dk (by omega) (cond_r (by omega) ⟨k+1,by show k+1<=_; omega,by dsimp only; omega,?_,?_,fun _ _ _ h=>h⟩)))))) (fun hk=>?_)
   ·show _=I (s+((k+1:Nat):Int))::VT0 s n la
    rw [show ((k+1:Nat):Int)=(k:Int)+1 by omega,<- Int.add_assoc]; rfl
   ·rw [Int.sub_eq_add_neg,addF_s]
    exact fitBs_refl _
   ·have h0:k<=x.hr.toNat:=h0
    have hk2:(k:Int)=x.hr:=by omega
    obtain rfl:k=x.hr.toNat:=by omega
    refine ⟨rfl,rfl,?_⟩
    rw [hk2]; rfl
  ·rintro lock tt h K ⟨hf,k1⟩
   refine ⟨0,by rw [show s+((0:Nat):Int)=s by omega,addF_0]; exact hf,Nat.zero_le _,?_⟩
   rintro ex vs bs ⟨rfl,rfl,rfl⟩
   exact k1
 exact key lock tt h K ⟨hf,k1⟩
theorem lC6_ok:LSound Try.prog true (.block 6 (.loop (loopB 6 (bodyOf Try.prog 45)))) (ntOf Try.prog 45) (lC6 l x n la):=by
 rintro lock tt h K ⟨F,F',L,g,B,e,f,s,hf,⟨hc,hF,rfl⟩,k1⟩
 have key:LSound Try.prog true (.block 6 (.loop (loopB 6 (bodyOf Try.prog 45)))) (ntOf Try.prog 45) (fun lock tt h K=>FitP lock h tt ⟨10,nsT0.zip (BS l x (addF F s.toNat x.hr.toNat (- x.ht)) n L g B e f)⟩ ((14::dsT0).zip (I s::VT0 s n la)) /\
  K .normal ((14::dsT0).zip (I (s+x.hr)::VT0 s n la)) ⟨10,nsT0.zip (BS l x F n L g B e f)⟩):=by
  obtain ⟨c1,c2,c3,c4,c5⟩:=hc
  have e0:addF F s.toNat x.hr.toNat (- x.ht)=fun q=>if s.toNat+0<=q/\q<s.toNat+x.hr.toNat then F q - x.ht else F q:=rfl
  have e9:(fun q=>if s.toNat+x.hr.toNat<=q/\q<s.toNat+x.hr.toNat then F q - x.ht else F q)=F:=by
   funext q
   rw [if_neg (by omega)]
  rw [e0]
  refine loop_row hmix good0 (un:=10) (ds:=14::dsT0) (ns:=nsT0) (nx:=10) (fun k:Nat=>I (s+k)::VT0 s n la) (fun k=>BS l x (fun q=>if s.toNat+k<=q/\q<s.toNat+x.hr.toNat then F q - x.ht else F q) n L g B e f) (fun k=>k<=x.hr.toNat) (fun k=>x.hr.toNat - k) (fun _ ex vs bs=>bs=BS l x F n L g B e f/\ex=.exit 6/\vs=I (s+x.hr)::VT0 s n la) noL_ok ?_ ?_
  ·rintro k h0
   refine cast (c6_ev l x _ n L g B e f la s (s+k) _).symm (cond_r (by omega) ?_)
   rw [show (s+(k:Int)).toNat*1=s.toNat+k by omega]
   have hb:=hF (s.toNat+k)
   have h0:k<=x.hr.toNat:=h0
   refine cond_d (fun hk=>?_) (fun hk=>?_)
   ·have hu:=addF_u (F:=F) (s:=s.toNat) (m:=x.hr.toNat) (c:=x.ht) (k:=k) (by omega)
    refine cond_dk ⟨by omega,by omega⟩ (cond_dk (by omega) (cond_r ?_ (cond_dk ⟨by omega,by omega⟩ (cond_dk (by omega) (cond_r (by omega) ⟨k+1,by show k+1<=_; omega,by dsimp only; omega,?_,?_,fun _ _ _ h=>h⟩)))))
    ·split <;> omega
    ·show _=I (s+((k+1:Nat):Int))::VT0 s n la
     rw [show ((k+1:Nat):Int)=(k:Int)+1 by omega,<- Int.add_assoc]; rfl
    ·rw [hu]
     exact fitBs_refl _
   ·have hk2:(k:Int)=x.hr:=by omega
    obtain rfl:k=x.hr.toNat:=by omega
    refine ⟨?_,rfl,?_⟩
    ·rw [e9]; rfl
    ·rw [hk2]; rfl
  ·rintro lock tt h K ⟨hf,k1⟩
   refine ⟨0,by rw [show s+((0:Nat):Int)=s by omega]; exact hf,Nat.zero_le _,?_⟩
   rintro ex vs bs ⟨rfl,rfl,rfl⟩
   exact k1
 exact key lock tt h K ⟨hf,k1⟩
end
end Go.Sx.Srn
namespace Go.Sx.Srn
open Go Go.Sx Go.Proofs
set_option maxRecDepth 1000000
section
variable {R:List Int} {l:List Brn} {D:List Int} {m:Nat}
theorem lefF_bd (hR:rmB R) (hl:lsB R.length l) (hD:D.length<=l.length) (ho:okP R l D=true):frB (lefF R l D):=fun k=>by
 unfold lefF
 split
 ·rename_i hk
  have h1:=(okP_iff.1 ho) k hk
  have h2:=useF_0 (D:=D) hl (h:=k) D.length hD
  have h3:=hR.2 k hk
  omega
 ·omega
theorem lefF_snoc {s:Int} (hs:0<=s) (hr:0<=(l.getD D.length z0).hr) (hb:s+(l.getD D.length z0).hr<=R.length):lefF R l (D ++ [s])=addF (lefF R l D) s.toNat (l.getD D.length z0).hr.toNat (- (l.getD D.length z0).ht):=by
 funext k
 unfold addF lefF
 by_cases hk:k<R.length
 ·rw [if_pos hk,useF_snoc]
  by_cases h:s<=(k:Int)/\(k:Int)<s+(l.getD D.length z0).hr
  ·rw [if_pos h,if_pos (by omega),if_pos hk]
   omega
  ·rw [if_neg h,if_neg (by omega),if_pos hk]
   omega
 ·rw [if_neg hk,if_neg (by omega),if_neg hk]
theorem fit_okP {s:Int} (ho:okP R l D=true) (hs:0<=s) (hr:0<=(l.getD D.length z0).hr) (hb:s+(l.getD D.length z0).hr<=R.length):fitF (lefF R l D) (l.getD D.length z0) s.toNat=okP R l (D ++ [s]):=by
 rw [Bool.eq_iff_iff,fitF_iff,okP_snoc ho]
 constructor
 ·intro h i hi h1 h2
  have:=h (i - s.toNat) (by omega)
  rw [show s.toNat+(i - s.toNat)=i by omega] at this
  unfold lefF at this
  rw [if_pos hi] at this
  exact this
 ·intro h k hk
  have:=h (s.toNat+k) (by omega) (by omega) (by omega)
  unfold lefF
  rw [if_pos (by omega)]
  exact this
theorem ovG_snoc {g:Nat->List VV} {s:Int} (hg:∀ q,q<D.length->g q=dG D q):∀ q,q<D.length+1->ovG (0+D.length) 1 g (fun (j:Nat)=>List.take 1 (List.drop (j*1) [I s])) q=dG (D ++ [s]) q:=by
 intro q hq
 unfold ovG
 by_cases h:q=D.length
 ·subst h
  rw [Nat.zero_add,show Nat.ble D.length D.length=true from Nat.ble_eq.mpr (Nat.le_refl _),show Nat.blt D.length (D.length+1)=true from Nat.blt_eq.mpr (Nat.lt_succ_self _)]
  simp only [Bool.and_self,cond_true,Nat.sub_self]
  unfold dG
  rw [getD_snoc_eq]
  rfl
 ·have hb:Nat.ble (0+D.length) q=false:=by
   rw [Nat.zero_add]
   cases h1:Nat.ble D.length q with
   | false=>rfl
   | true=>have:=Nat.le_of_ble_eq_true h1; omega
  rw [hb]
  simp only [Bool.false_and,cond_false]
  rw [hg q (by omega)]
  unfold dG
  rw [getD_snoc_lt (by omega)]
theorem catG_snoc {g:Nat->List VV} {s:Int} (hg:∀ q,q<D.length->g q=dG D q):∀ q,q<D.length+1->catG D.length g (fun (j:Nat)=>List.take 1 (List.drop (j*1) [I s])) q=dG (D ++ [s]) q:=by
 intro q hq
 by_cases h:q=D.length
 ·subst h
  rw [catG_ge (Nat.le_refl _),Nat.sub_self]
  unfold dG
  rw [getD_snoc_eq]
  rfl
 ·rw [catG_lt (by omega),hg q (by omega)]
  unfold dG
  rw [getD_snoc_lt (by omega)]
theorem dvB_snoc {s:Int} (hd:dvB l D) (h1:(l.getD D.length z0).rd<=s) (h2:s+(l.getD D.length z0).hr<=(l.getD D.length z0).du):dvB l (D ++ [s]):=by
 intro i hi
 rw [List.length_append,List.length_singleton] at hi
 by_cases e:i=D.length
 ·subst e
  rw [getD_snoc_eq]
  exact ⟨h1,h2⟩
 ·rw [getD_snoc_lt (by omega)]
  exact hd i (by omega)
theorem dvB_end {n:Nat} (hl:lsB n l) (hd:dvB l D):∀ k,k<=D.length->k<=l.length->endF l D k<=n
 | 0,_,_=>by show (0:Int)<=_; omega
 | k+1,h,h2=>by
  have h3:=dvB_end hl hd k (by omega) (by omega)
  have h4:=hd k (by omega)
  have h5:=hl.2 k (by omega)
  unfold brB at h5
  rw [endF_succ]
  omega
structure S0 where
 k:Nat
 L:Nat
 g:Nat->List VV
 st:Option (List Int)
structure I0 (R:List Int) (l:List Brn) (m:Nat) (D:List Int) (L0:Nat) (st0:Option (List Int)) (s:S0):Prop where
 k:s.k<=nSt (l.getD D.length z0)
 st:s.st=(preP R l m D s.k).foldl (stp l) st0
 L0:L0<=s.L
 L:s.L<=l.length
 n:D.length<=s.L
 g:∀ q,q<D.length->s.g q=dG D q
def O0 (R:List Int) (l:List Brn) (m:Nat) (D:List Int) (L0:Nat) (st0:Option (List Int)) (_:S0) (e:VEx) (vs:List VV) (bs:List VB):Prop:=
 e=.exit 0/\∃ (s:Int) (L':Nat) (g':Nat->List VV) (st':Option (List Int)),st'=(plansF R l (m+1) D).foldl (stp l) st0/\(L0<=L'/\L'<=l.length)/\(∀ q,q<D.length->g' q=dG D q) /\
  vs=VT0 s D.length (endF l D D.length)/\bs=BS l (l.getD D.length z0) (lefF R l D) D.length L' g' (st'.getD []) (endS R l st') st'.isSome
theorem lT0_ok (hR:rmB R) (hl:lsB R.length l) (hm:D.length+(m+1)=l.length) (ho:okP R l D=true) (hd:dvB l D) (htry:SpOk Try.prog (tryR R l m).1 (tryR R l m).2):LSound Try.prog true (.block 0 (.loop (loopB 0 (bodyOf Try.prog 45)))) (ntOf Try.prog 45) (lT0 R l m D):=by
 rintro lock tt h K ⟨L0,g0,st0,hf,⟨i1,i2,i3⟩,k1⟩
 have key:LSound Try.prog true (.block 0 (.loop (loopB 0 (bodyOf Try.prog 45)))) (ntOf Try.prog 45) (fun lock tt h K=>FitP lock h tt ⟨9,nsT0.zip (BS l (l.getD D.length z0) (lefF R l D) D.length L0 g0 (st0.getD []) (endS R l st0) st0.isSome)⟩ (dsT0.zip (VT0 (l.getD D.length z0).rd D.length (endF l D D.length))) /\
   ∀ (s:Int) (L':Nat) (g':Nat->List VV) (st':Option (List Int)),st'=(plansF R l (m+1) D).foldl (stp l) st0->(L0<=L'/\L'<=l.length)->(∀ q,q<D.length->g' q=dG D q) ->
   K .normal (dsT0.zip (VT0 s D.length (endF l D D.length))) ⟨9,nsT0.zip (BS l (l.getD D.length z0) (lefF R l D) D.length L' g' (st'.getD []) (endS R l st') st'.isSome)⟩):=by
  have hx:=hl.2 D.length (by omega)
  have hend:=dvB_end hl hd D.length (Nat.le_refl _) (by omega)
  have hend0:=endF_0 (l:=l) (D:=D) D.length
  have hR168:=hR.1
  obtain ⟨x1,x2,x3,⟨x4,x5⟩,x6,x7⟩:=hx
  have hN:(nSt (l.getD D.length z0):Int)=(l.getD D.length z0).du - (l.getD D.length z0).hr - (l.getD D.length z0).rd+1:=by unfold nSt; omega
  have hfr:=lefF_bd hR hl (by omega) ho
  refine loop_row hmix (noL_good (tab1 htry)) (un:=10) (lsp:=tabB [(2,lC2 l (l.getD D.length z0) D.length (endF l D D.length)),(4,lC4 l (l.getD D.length z0) D.length (endF l D D.length)),(6,lC6 l (l.getD D.length z0) D.length (endF l D D.length))]) (ds:=dsT0) (ns:=nsT0) (nx:=9) (fun s:S0=>VT0 ((l.getD D.length z0).rd+s.k) D.length (endF l D D.length)) (fun s=>BS l (l.getD D.length z0) (lefF R l D) D.length s.L s.g (s.st.getD []) (endS R l s.st) s.st.isSome) (I0 R l m D L0 st0) (fun s=>nSt (l.getD D.length z0) - s.k) (O0 R l m D L0 st0) (lsp_many (fun x hx=>by
   simp only [List.mem_cons,List.not_mem_nil,or_false] at hx
   rcases hx with rfl | rfl | rfl
   ·exact ⟨_,by kernel_rfl,lC2_ok⟩
   ·exact ⟨_,by kernel_rfl,lC4_ok⟩
   ·exact ⟨_,by kernel_rfl,lC6_ok⟩)) ?_ ?_
  ·rintro ⟨k,L,g,st⟩ ⟨j1,j2,j3,j4,j5,j6⟩
   dsimp only at j1 j2 j3 j4 j5 j6 ⊢
   refine cast (c0_ev R l m _ _ D.length L g _ _ _ (endF l D D.length) ((l.getD D.length z0).rd+k) _).symm ?_
   generalize hRQ:RoundQ (σ:=S0) _ _ _ _ _ _=RQ
   generalize hs:(l.getD D.length z0).rd+(k:Int)=s
   have endall:∀ st',st'=(plansF R l (m+1) D).foldl (stp l) st0->st'=st->O0 R l m D L0 st0 ⟨k,L,g,st⟩ (.exit 0) (VT0 s D.length (endF l D D.length)) (BS l (l.getD D.length z0) (lefF R l D) D.length L g (st.getD []) (endS R l st) st.isSome):=fun st' h1 h2=>by
    subst h2
    exact ⟨rfl,s,L,g,st',h1,⟨j3,j4⟩,j6,rfl,rfl⟩
   refine cond_r (by omega) (cond_d (fun hle=>cond_r (by omega) (cond_d (fun hlt=>?_) (fun hlt=>?_))) (fun hle=>?_))
   ·have hkN:k<nSt (l.getD D.length z0):=by omega
    have hcn:cnT (l.getD D.length z0) s:=⟨by omega,by omega,by omega,by omega,by omega⟩
    have hfo:=fit_okP (s:=s) ho (by omega) (by omega) (by omega)
    have hrow:∀ st',st'=(rowP R l m D k).foldl (stp l) st->st'=(preP R l m D (k+1)).foldl (stp l) st0:=fun st' h1=>by
     rw [preP_succ,List.foldl_append,<- j2]; exact h1
    refine ⟨lefF R l D,L,g,st.getD [],endS R l st,st.isSome,s,⟨⟨rfl,rfl,VB.fit_refl _,VB.fit_refl _,VB.fit_refl _,VB.fit_refl _,VB.fit_refl _,VB.fit_refl _,VB.fit_refl _,VB.fit_refl _,VB.fit_refl _,trivial⟩,rfl,rfl,rfl,rfl,rfl,rfl,rfl,rfl,rfl,rfl,rfl,rfl,trivial⟩,hcn,fun hfit=>?_,fun hnot _=>cond_r (by omega) ?_⟩
    ·have hok:okP R l (D ++ [s])=true:=by rw [<- hfo]; exact hfit
     have hrowP:rowP R l m D k=plansF R l m (D ++ [s]):=by
      unfold rowP
      rw [hs,if_pos hok]
     have hln:(D ++ [s]).length=D.length+1:=by rw [List.length_append]; rfl
     have hlf:=lefF_snoc (R:=R) (l:=l) (D:=D) (s:=s) (by omega) (by omega) (by omega)
     have hdv:dvB l (D ++ [s]):=dvB_snoc hd (by omega) (by omega)
     have hes:endF l (D ++ [s]) (D ++ [s]).length<endS R l st:=by rw [endF_snoc]; exact hlt
     refine ⟨lefF R l D,L,g,st.getD [],endS R l st,st.isSome,s,⟨⟨rfl,rfl,VB.fit_refl _,VB.fit_refl _,VB.fit_refl _,VB.fit_refl _,VB.fit_refl _,VB.fit_refl _,VB.fit_refl _,VB.fit_refl _,VB.fit_refl _,trivial⟩,rfl,rfl,rfl,rfl,rfl,rfl,rfl,rfl,rfl,rfl,rfl,rfl,trivial⟩,⟨hcn,hfr⟩,cond_k (Nat.beq_refl _) (cond_d (fun hL=>cond_r (by omega) ?_) (fun hL=>cond_k ?_ (cond_r (by omega) ?_)))⟩
     ·refine ⟨D ++ [s],lefF R l (D ++ [s]),D.length+1,L,_,st.getD [],endS R l st,st.isSome,st,rfl,⟨rfl,by decide⟩,?_,⟨hln.symm,by rw [hln]; omega,rfl,endF_snoc.symm,hok,⟨hdv,hes⟩,⟨by omega,by omega⟩,ovG_snoc j6,rfl,rfl,rfl⟩,?_⟩
      ·rw [hlf]
       exact ⟨rfl,rfl,rfl,rfl,rfl,rfl,rfl,rfl,trivial⟩
      ·intro L' g' st' hst hL' hg'
       rw [show ((D.length:Int) - 0).toNat=D.length by omega]
       refine cond_dk ⟨by omega,by omega,by omega⟩ ⟨lefF R l D,addF (lefF R l D) s.toNat (l.getD D.length z0).hr.toNat (- (l.getD D.length z0).ht),L',g',st'.getD [],endS R l st',st'.isSome,s,⟨⟨rfl,rfl,VB.fit_refl _,VB.fit_refl _,VB.fit_refl _,VB.fit_refl _,VB.fit_refl _,VB.fit_refl _,VB.fit_refl _,VB.fit_refl _,VB.fit_refl _,trivial⟩,rfl,rfl,rfl,rfl,rfl,rfl,rfl,rfl,rfl,rfl,rfl,rfl,trivial⟩,⟨hcn,hfr,rfl⟩,cond_r (by omega) ?_⟩
       rw [<- hRQ]
       refine ⟨⟨k+1,L',g',st'⟩,⟨by dsimp only; omega,hrow st' (by rw [hrowP]; exact hst),by dsimp only; omega,by dsimp only; omega,by dsimp only; omega,fun q hq=>?_⟩,by dsimp only; omega,?_,fitBs_refl _,fun _ _ _ h=>h⟩
       ·dsimp only
        rw [hg' q (by omega)]
        unfold dG
        rw [getD_snoc_lt hq]
       ·show _=VT0 ((l.getD D.length z0).rd+((k+1:Nat):Int)) D.length (endF l D D.length)
        rw [show (l.getD D.length z0).rd+((k+1:Nat):Int)=s+1 by omega]
        rfl
     ·have e:D.length=L:=by omega
      rw [e,Nat.beq_refl,room8 (by have:=hl.1; omega)]; rfl
     ·obtain rfl:L=D.length:=by omega
      refine ⟨D ++ [s],lefF R l (D ++ [s]),D.length+1,D.length+1,_,st.getD [],endS R l st,st.isSome,st,rfl,⟨rfl,by decide⟩,?_,⟨hln.symm,by rw [hln]; omega,rfl,endF_snoc.symm,hok,⟨hdv,hes⟩,⟨by omega,by omega⟩,catG_snoc j6,rfl,rfl,rfl⟩,?_⟩
      ·rw [hlf]
       exact ⟨rfl,rfl,rfl,rfl,rfl,rfl,rfl,rfl,trivial⟩
      ·intro L' g' st' hst hL' hg'
       rw [show ((D.length:Int) - 0).toNat=D.length by omega]
       refine cond_dk ⟨by omega,by omega,by omega⟩ ⟨lefF R l D,addF (lefF R l D) s.toNat (l.getD D.length z0).hr.toNat (- (l.getD D.length z0).ht),L',g',st'.getD [],endS R l st',st'.isSome,s,⟨⟨rfl,rfl,VB.fit_refl _,VB.fit_refl _,VB.fit_refl _,VB.fit_refl _,VB.fit_refl _,VB.fit_refl _,VB.fit_refl _,VB.fit_refl _,VB.fit_refl _,trivial⟩,rfl,rfl,rfl,rfl,rfl,rfl,rfl,rfl,rfl,rfl,rfl,rfl,trivial⟩,⟨hcn,hfr,rfl⟩,cond_r (by omega) ?_⟩
       rw [<- hRQ]
       refine ⟨⟨k+1,L',g',st'⟩,⟨by dsimp only; omega,hrow st' (by rw [hrowP]; exact hst),by dsimp only; omega,by dsimp only; omega,by dsimp only; omega,fun q hq=>?_⟩,by dsimp only; omega,?_,fitBs_refl _,fun _ _ _ h=>h⟩
       ·dsimp only
        rw [hg' q (by omega)]
        unfold dG
        rw [getD_snoc_lt hq]
       ·show _=VT0 ((l.getD D.length z0).rd+((k+1:Nat):Int)) D.length (endF l D D.length)
        rw [show (l.getD D.length z0).rd+((k+1:Nat):Int)=s+1 by omega]
        rfl
    ·rw [<- hRQ]
     refine ⟨⟨k+1,L,g,st⟩,⟨by dsimp only; omega,hrow st ?_,j3,j4,j5,j6⟩,by dsimp only; omega,?_,fitBs_refl _,fun _ _ _ h=>h⟩
     ·unfold rowP
      rw [hs,if_neg (by rw [<- hfo,hnot]; simp)]
      rfl
     ·show _=VT0 ((l.getD D.length z0).rd+((k+1:Nat):Int)) D.length (endF l D D.length)
      rw [show (l.getD D.length z0).rd+((k+1:Nat):Int)=s+1 by omega]
      rfl
   ·rw [<- hRQ]
    refine endall _ rfl ?_
    cases hst:st with
    | none=>
     rw [hst] at hlt
     have hlt:¬ max (endF l D D.length) (s+(l.getD D.length z0).hr)<(R.length:Int)+1:=hlt
     omega
    | some B=>
     rw [hst] at hlt j2
     have hlt:¬ max (endF l D D.length) (s+(l.getD D.length z0).hr)<endF l B B.length:=hlt
     rw [preP_all]
     exact fold_cut j1 (by rw [hs]; omega) st0 j2.symm
   ·rw [<- hRQ]
    refine endall _ rfl ?_
    have e:k=nSt (l.getD D.length z0):=by omega
    rw [preP_all,<- e]
    exact j2.symm
  ·rintro lock tt h K ⟨hf,k1⟩
   refine ⟨⟨0,L0,g0,st0⟩,?_,⟨Nat.zero_le _,rfl,Nat.le_refl _,i2,i1,i3⟩,?_⟩
   ·dsimp only
    rw [show (l.getD D.length z0).rd+((0:Nat):Int)=(l.getD D.length z0).rd by omega]
    exact hf
   rintro e vs bs ⟨rfl,s,L',g',st',h1,h2,h3,rfl,rfl⟩
   exact k1 s L' g' st' h1 h2 h3
 exact key lock tt h K ⟨hf,k1⟩
end
end Go.Sx.Srn
namespace Go.Sx.Srn
open Go Go.Sx Go.Proofs
set_option maxRecDepth 1000000
theorem clone_v {n:Nat} {g:Nat->List VV} (hn:1<=n/\n<=100000):CallsV Try.prog 46 [.tl n 1 g] ⟨0,[]⟩ (.ret (.sl 0 n)) ⟨1,[(0,.vec n g 1 3)]⟩:=by
 obtain ⟨r,h',⟨rfl,hf⟩,hc⟩:=of_callN good0 (f:=46) (args:=[.tl n 1 g]) (h:=⟨0,[]⟩) (K:=fun r h'=>r=.ret (.sl 0 n)/\fitB [(0,.vec n g 1 3)] h') (by
  refine cast (cl_ev n g _).symm (cond_k (Nat.ble_eq.mpr hn.1) ?_)
  rw [Nat.zero_add]
  refine cond_k ?_ ⟨rfl,⟨rfl,rfl,rfl,fun q hq=>?_⟩,trivial⟩
  ·unfold roomB
   rw [Nat.ble_eq_true_of_le (by omega),Nat.ble_eq_true_of_le (by omega)]
   rfl
  ·rw [catG_ge (Nat.zero_le _),Nat.sub_zero])
 exact calls_weak hc (Nat.zero_le _) hf rfl rfl
theorem cloR_ok:SpOk Try.prog cloR.1 cloR.2:=by
 intro lock args h K hK
 simp only [cloR] at hK
 split at hK
 ·rename_i x
  obtain ⟨D,hx,hn,hK⟩:=hK
  have:=calls_lendDO (args':=[x]) (h:=h) 2 0 (clone_v (g:=dG D) hn) rfl (fun i=>rfl) rfl (fun i hi=>rfl) ⟨hx,trivial⟩
  have e:(VRes.ret (.sl 0 D.length)).sh 0 h.nx=.ret (.sl h.nx D.length):=by simp [VRes.sh,VV.sh,shN]
  rw [e] at this
  exact ⟨_,_,hK,lockP_new _ _ _,this⟩
 ·exact hK.elim
section
variable {R:List Int} {l:List Brn} {D:List Int} {m:Nat}
def TryV (R:List Int) (l:List Brn) (m:Nat) (D:List Int) (L:Nat) (g:Nat->List VV) (st:Option (List Int)):Prop:=
 ∃ (L':Nat) (g':Nat->List VV) (st':Option (List Int)),st'=(plansF R l m D).foldl (stp l) st/\(L<=L'/\L'<=l.length)/\(∀ q,q<D.length->g' q=dG D q) /\
  CallsV Try.prog 45 (I (endF l D D.length)::caT) ⟨8,nsT.zip (BT l (lefF R l D) D.length L g (st.getD []) (endS R l st) st.isSome)⟩ (.ret (.tup [])) ⟨8,nsT.zip (BT l (lefF R l D) D.length L' g' (st'.getD []) (endS R l st') st'.isSome)⟩
theorem lift_try {la:Int} {F:Nat->Int} {n L L':Nat} {g g':Nat->List VV} {B B':List Int} {e e':Int} {f f':Bool} {nx:Nat} {bs:List (Nat × VB)} (hnx:8<=nx) (hat:atL nsT (BT l F n L g B e f) ⟨nx,bs⟩)
  (hc:CallsV Try.prog 45 (I la::caT) ⟨8,nsT.zip (BT l F n L g B e f)⟩ (.ret (.tup [])) ⟨8,nsT.zip (BT l F n L' g' B' e' f')⟩) :
  CallsV Try.prog 45 (I la::caT) ⟨nx,bs⟩ (.ret (.tup [])) ⟨nx,(2,.cells [.sub 7 L' 1 0 n] 33)::(3,.cells [inD B'] 33)::(4,.cells [I e'] 3)::(5,.cells [.bool f'] 4)::(7,.vec L' g' 1 3)::bs⟩:=by
 obtain ⟨e0,e1,e2,e3,e4,e5,e6,e7,_⟩:=hat
 refine calls_up hc rfl (fun n hn=>?_) (fun n hn=>?_) (fun n hn=>?_) rfl (fun n hn=>?_) (fun n hn=>?_)
 ·have hn:n<8:=hn
  match n,hn with
  | 0,_=>exact e0
  | 1,_=>exact e1
  | 2,_=>exact e2
  | 3,_=>exact e3
  | 4,_=>exact e4
  | 5,_=>exact e5
  | 6,_=>exact e6
  | 7,_=>exact e7
  | _+8,hn=>exact absurd hn (by omega)
 ·have hn:n<8:=hn
  match n,hn with
  | 0,_=>intro h; cases h
  | 1,_=>intro h; cases h
  | 2,_=>intro h; cases h
  | 3,_=>intro h; cases h
  | 4,_=>intro h; cases h
  | 5,_=>intro h; cases h
  | 6,_=>intro h; cases h
  | 7,_=>intro h; cases h
  | _+8,hn=>exact absurd hn (by omega)
 ·have hn:n<8:=hn
  match n,hn with
  | 0,_=>rfl
  | 1,_=>rfl
  | 2,_=>rfl
  | 3,_=>rfl
  | 4,_=>rfl
  | 5,_=>rfl
  | 6,_=>rfl
  | 7,_=>rfl
  | _+8,hn=>exact absurd hn (by omega)
 ·have hn:n<8:=hn
  match n,hn with
  | 0,_=>show (VH.mk nx _).at 0=_; rw [at_ne (by decide),at_ne (by decide),at_ne (by decide),at_ne (by decide),at_ne (by decide)]; exact e0
  | 1,_=>show (VH.mk nx _).at 1=_; rw [at_ne (by decide),at_ne (by decide),at_ne (by decide),at_ne (by decide),at_ne (by decide)]; exact e1
  | 2,_=>exact at_lt (show 2<nx by omega)
  | 3,_=>exact at_lt (show 3<nx by omega)
  | 4,_=>exact at_lt (show 4<nx by omega)
  | 5,_=>exact at_lt (show 5<nx by omega)
  | 6,_=>show (VH.mk nx _).at 6=_; rw [at_ne (by decide),at_ne (by decide),at_ne (by decide),at_ne (by decide),at_ne (by decide)]; exact e6
  | 7,_=>exact at_lt (show 7<nx by omega)
  | _+8,hn=>exact absurd hn (by omega)
 ·have hn:¬ n<8:=hn
  show (VH.mk nx _).at n=(VH.mk nx bs).at n
  rw [at_ne (show 2 ≠ n by omega),at_ne (show 3 ≠ n by omega),at_ne (show 4 ≠ n by omega),at_ne (show 5 ≠ n by omega),at_ne (show 7 ≠ n by omega)]
theorem tryR_of (h:∀ (D:List Int) (L:Nat) (g:Nat->List VV) (st:Option (List Int)),D.length+m=l.length->okP R l D=true->dvB l D->endF l D D.length<endS R l st->(D.length<=L/\L<=l.length)->(∀ q,q<D.length->g q=dG D q)->TryV R l m D L g st):SpOk Try.prog (tryR R l m).1 (tryR R l m).2:=by
 intro lock args h0 K hK
 simp only [tryR] at hK
 split at hK
 ·rename_i la x1 x2 x3 x4 x5 x6 x7 nx bs
  obtain ⟨D,F,n,L,g,B,e,f,st,hca,⟨rfl,hnx⟩,hat,⟨rfl,h1,rfl,rfl,h2,⟨h3,h4⟩,h5,h6,rfl,rfl,rfl⟩,hK⟩:=hK
  obtain ⟨L',g',st',q1,q2,q3,hc⟩:=h D L g st h1 h2 h3 h4 h5 h6
  have hK:=hK L' g' st' q1 q2 q3
  have:=lift_try hnx hat hc
  rw [show I (endF l D D.length)::caT=[I (endF l D D.length),x1,x2,x3,x4,x5,x6,x7] from by rw [<- hca]] at this
  exact ⟨_,_,hK,lock0 _ _,this⟩
 ·exact hK.elim
theorem try_z (hl:lsB R.length l) {L:Nat} {g:Nat->List VV} {st:Option (List Int)} (h1:D.length+0=l.length) (hpos:1<=l.length) (h4:endF l D D.length<endS R l st) (h5:D.length<=L/\L<=l.length) (h6:∀ q,q<D.length->g q=dG D q):TryV R l 0 D L g st:=by
 have hl6:=hl.1
 obtain ⟨r,h',hk,hc⟩:=of_callN (callL_good hmix (tab1 cloR_ok) (P:=Try.prog) (f:=45) (l:=[(0,lZ)]) (fun x hx=>by
  simp only [List.mem_singleton] at hx
  subst hx
  exact ⟨by kernel_rfl,lZ_ok⟩) (un:=10) 20) (f:=45) (args:=I (endF l D D.length)::caT) (h:=⟨8,nsT.zip (BT l (lefF R l D) D.length L g (st.getD []) (endS R l st) st.isSome)⟩) (K:=fun r h'=>frzL 0 [(3,0)] h' (fun h'=>r=.ret (.tup [])/\fitB (nsT.zip (BT l (lefF R l D) D.length L g D (endF l D D.length) true)) h')) (by
  refine cast (tb_ev l (lefF R l D) D.length L g (st.getD []) (endS R l st) st.isSome (endF l D D.length) (fun r h'=>r=.ret (.tup [])/\fitB (nsT.zip (BT l (lefF R l D) D.length L g D (endF l D D.length) true)) h')).symm (cond_dk (by omega) ⟨D,⟨rfl,rfl,Nat.le_refl _,g,3,rfl,fun j hj=>by rw [Nat.zero_add]; exact h6 j hj⟩,⟨by omega,by omega⟩,cond_k (by rw [Nat.beq_refl]; rfl) ⟨rfl,?_⟩⟩)
  exact ⟨VB.fit_refl _,VB.fit_refl _,VB.fit_refl _,VB.fit_refl _,VB.fit_refl _,VB.fit_refl _,VB.fit_refl _,VB.fit_refl _,trivial⟩)
 obtain ⟨h2,⟨rfl,hf⟩,_,ht⟩:=frzL_sound _ _ _ hk
 have hc2:=calls_toldR hc ht
 refine ⟨L,g,some D,?_,⟨Nat.le_refl _,h5.2⟩,h6,calls_weak hc2 (Nat.le_refl _) hf rfl rfl⟩
 show some D=stp l st D
 unfold stp
 cases st with
 | none=>rfl
 | some B=>
  have h4:endF l D D.length<endF l B B.length:=h4
  dsimp only
  rw [if_pos h4]
theorem try_v (hR:rmB R) (hl:lsB R.length l) (hpos:1<=l.length):∀ (m:Nat) (D:List Int) (L:Nat) (g:Nat->List VV) (st:Option (List Int)),D.length+m=l.length->okP R l D=true->dvB l D->endF l D D.length<endS R l st->(D.length<=L/\L<=l.length)->(∀ q,q<D.length->g q=dG D q)->TryV R l m D L g st
 | 0,D,L,g,st,h1,_,_,h4,h5,h6=>try_z hl h1 hpos h4 h5 h6
 | m+1,D,L,g,st,h1,h2,h3,h4,h5,h6=>by
  have htry:=tryR_of (m:=m) (fun D L g st h1 h2 h3 h4 h5 h6=>try_v hR hl hpos m D L g st h1 h2 h3 h4 h5 h6)
  have hall:LoopsOk Try.prog 45 [(0,lT0 R l m D)]:=fun x hx=>by
   simp only [List.mem_singleton] at hx
   subst hx
   exact ⟨by kernel_rfl,lT0_ok hR hl h1 h2 h3 htry⟩
  obtain ⟨r,h',⟨L',g',st',q1,q2,q3,rfl,hf⟩,hc⟩:=of_callN (callL_good hmix noSp hall (un:=10) 20) (f:=45) (args:=I (endF l D D.length)::caT) (h:=⟨8,nsT.zip (BT l (lefF R l D) D.length L g (st.getD []) (endS R l st) st.isSome)⟩) (K:=fun r h'=>∃ (L':Nat) (g':Nat->List VV) (st':Option (List Int)),st'=(plansF R l (m+1) D).foldl (stp l) st/\(L<=L'/\L'<=l.length)/\(∀ q,q<D.length->g' q=dG D q)/\r=.ret (.tup [])/\fitB (nsT.zip (BT l (lefF R l D) D.length L' g' (st'.getD []) (endS R l st') st'.isSome)) h') (by
   refine cast (tf_ev R l m L D g st _).symm (cond_d (fun h=>by omega) (fun _=>cond_dk ⟨by omega,by omega⟩ ⟨L,g,st,⟨⟨rfl,rfl,VB.fit_refl _,VB.fit_refl _,VB.fit_refl _,VB.fit_refl _,VB.fit_refl _,VB.fit_refl _,VB.fit_refl _,VB.fit_refl _,VB.fit_refl _,trivial⟩,?_⟩,⟨h5.1,h5.2,h6⟩,fun s L' g' st' q1 q2 q3=>⟨L',g',st',q1,q2,q3,rfl,?_⟩⟩))
   ·exact ⟨rfl,rfl,rfl,rfl,rfl,rfl,rfl,rfl,rfl,rfl,rfl,trivial⟩
   ·exact ⟨VB.fit_refl _,VB.fit_refl _,VB.fit_refl _,VB.fit_refl _,VB.fit_refl _,VB.fit_refl _,VB.fit_refl _,VB.fit_refl _,trivial⟩)
  exact ⟨L',g',st',q1,q2,q3,calls_weak hc (Nat.le_refl _) hf rfl rfl⟩
end
end Go.Sx.Srn
namespace Go.Sx.Srn
open Go Go.Sx Go.Proofs
set_option maxRecDepth 1000000
def okRm (n:Int):Bool:=decide (0<=n/\n<=8796093022208)
def rowRm:FuncId × Spec1:=(55,fun _ args h K=>match args with
 | [.int .i64 n]=>K (.ret (.bool (!okRm n))) h
 | _=>False)
def dsRm:List Nat:=[8,7,6,4,0,1]
def VRm (D:List Int) (i:Int):List VV:=[I i,I D.length,inD D,I 0,inD D,.func 55 [] []]
theorem Rm_ev (D:List Int) (i:Int) (X:VEx->List VV->List VB->Prop):codeE Try.prog (callN Try.prog (tabS [rowRm]) noL 10 20) (fun _=>none) true 10 (ntOf Try.prog 60) 0 (loopB 0 (bodyOf Try.prog 60)) (dsRm.zip (VRm D i)) ⟨0,([]:List Nat).zip []⟩ (obs 0 dsRm [] X) =
 (bif decide (i<(↑D.length:Int)) then
 bif decide ((0:Int)<=i/\i<(↑D.length:Int)) then
 bif !okRm (D.getD i.toNat (0:Int)) then
 X VEx.ret [I i,I (↑D.length:Int),VV.tl D.length 1 (dG D),I i,VV.tl D.length 1 (dG D),VV.func (55:FuncId) [] []] []
 else bif inK IntKind.i64 (i+(1:Int)) then
 X VEx.normal [I (i+(1:Int)),I (↑D.length:Int),VV.tl D.length 1 (dG D),I 0,VV.tl D.length 1 (dG D),VV.func (55:FuncId) [] []] []
 else False
 else False
 else X (VEx.exit 0) [I i,I (↑D.length:Int),VV.tl D.length 1 (dG D),I 0,VV.tl D.length 1 (dG D),VV.func (55:FuncId) [] []] []):=by kernel_rfl
def qRm (D:List Int) (i:Nat):Bool:=!okRm (D.getD i 0)
def anyRm (D:List Int):Bool:=(List.range D.length).any (qRm D)
def lRm (D:List Int):LT:=fun lock t h K=>
 FitP lock h t ⟨0,([]:List Nat).zip []⟩ (dsRm.zip (VRm D 0))/\D.length<=100000/\(anyRm D=false->K .normal (dsRm.zip (VRm D D.length)) ⟨0,([]:List Nat).zip []⟩)/\(anyRm D=true->∀ i:Nat,K .ret (dsRm.zip [I i,I D.length,inD D,I i,inD D,.func 55 [] []]) ⟨0,([]:List Nat).zip []⟩)
theorem Rmf_ev (D:List Int) (Q:VRes->Prop):callN Try.prog noSpec (atF 60 [(0,lRm D)]) 10 20 0 (.fn 54) [inD D,.func 55 [] []] ⟨0,[]⟩ (fun r _=>Q r) =
 (FitP 0 (VH.mk 0 ([].zip [])) (dsRm.zip (VRm D (0:Int))) (VH.mk 0 ([].zip [])) (dsRm.zip (VRm D (0:Int)))/\D.length<=100000/\(anyRm D=false->Q (VRes.ret (VV.bool (decide ((-1:Int) ≥ (0:Int))))))/\(anyRm D=true->∀ (i:Nat),Q (VRes.ret (VV.bool (decide ((↑i:Int) ≥ (0:Int))))))):=by kernel_rfl
end Go.Sx.Srn
namespace Go.Sx.Srn
open Go Go.Sx Go.Proofs
set_option maxRecDepth 1000000
section
variable {D:List Int}
def ORm (D:List Int) (_:Nat) (e:VEx) (vs:List VV) (bs:List VB):Prop:=
 bs=[]/\((anyRm D=false/\e=.exit 0/\vs=VRm D D.length) ∨ (anyRm D=true/\e=.ret/\∃ i:Nat,vs=[I i,I D.length,inD D,I i,inD D,.func 55 [] []]))
theorem lRm_ok (hrow:SpOk Try.prog rowRm.1 rowRm.2):LSound Try.prog true (.block 0 (.loop (loopB 0 (bodyOf Try.prog 60)))) (ntOf Try.prog 60) (lRm D):=by
 by_cases hn:D.length<=100000
 ·refine loop_row hmix (noL_good (tab_ok [rowRm] (fun x hx=>by
   simp only [List.mem_singleton] at hx
   subst hx
   exact hrow))) (un:=10) (ds:=dsRm) (ns:=[]) (nx:=0) (fun i:Nat=>VRm D i) (fun _=>[]) (fun i=>i<=D.length/\∀ j,j<i->qRm D j=false) (fun i=>D.length - i) (ORm D) noL_ok ?_ ?_
  ·rintro i ⟨h0,h1⟩
   refine cast (Rm_ev D i _).symm ?_
   by_cases hlt:i<D.length
   ·refine cond_dk (by omega) (cond_dk ⟨by omega,by omega⟩ ?_)
    rw [show (i:Int).toNat=i by omega]
    have key:∀ b:Bool,b=qRm D i->(bif b then RoundQ (fun i:Nat=>VRm D i) (fun _=>[]) (fun i=>i<=D.length/\∀ j,j<i->qRm D j=false) (fun i=>D.length - i) (ORm D) i .ret [I i,I D.length,inD D,I i,inD D,.func 55 [] []] [] else bif inK .i64 ((i:Int)+1) then RoundQ (fun i:Nat=>VRm D i) (fun _=>[]) (fun i=>i<=D.length/\∀ j,j<i->qRm D j=false) (fun i=>D.length - i) (ORm D) i .normal (VRm D (i+1)) [] else False):=by
     rintro b rfl
     refine cond_i (fun h=>⟨rfl,.inr ⟨?_,rfl,i,rfl⟩⟩) (fun h=>cond_r (by omega) ⟨i+1,⟨by omega,fun j hj=>?_⟩,by dsimp only; omega,rfl,fitBs_refl _,fun _ _ _ h=>h⟩)
     ·unfold anyRm
      rw [List.any_eq_true]
      exact ⟨i,List.mem_range.2 hlt,h⟩
     ·by_cases e:j=i
      ·subst e; exact h
      ·exact h1 j (by omega)
    exact key _ rfl
   ·obtain rfl:i=D.length:=by omega
    refine cond_d (fun h=>by omega) (fun _=>⟨rfl,.inl ⟨?_,rfl,rfl⟩⟩)
    unfold anyRm
    rw [List.any_eq_false]
    intro j hj
    rw [h1 j (List.mem_range.1 hj)]
    simp
  ·rintro lock t h K ⟨hf,_,k1,k2⟩
   refine ⟨0,hf,⟨Nat.zero_le _,fun j hj=>by omega⟩,?_⟩
   rintro e vs bs ⟨rfl,⟨g,rfl,rfl⟩ | ⟨g,rfl,i,rfl⟩⟩
   ·exact k1 g
   ·exact k2 g i
 ·rintro lock t h K ⟨hf,hc,_⟩
  exact (hn hc).elim
theorem anyRm_v (hrow:SpOk Try.prog rowRm.1 rowRm.2) (hn:D.length<=100000):∃ h',CallsV Try.prog 54 [inD D,.func 55 [] []] ⟨0,[]⟩ (.ret (.bool (anyRm D))) h':=by
 have hall:LoopsOk Try.prog 60 [(0,lRm D)]:=fun x hx=>by
  simp only [List.mem_singleton] at hx
  subst hx
  exact ⟨by kernel_rfl,lRm_ok hrow⟩
 obtain ⟨r,h',rfl,hc⟩:=of_callN (callL_good hmix noSp hall (un:=10) 20) (f:=54) (args:=[inD D,.func 55 [] []]) (h:=⟨0,[]⟩) (K:=fun r _=>r=.ret (.bool (anyRm D))) (by
  refine cast (Rmf_ev D _).symm ?_
  refine ⟨fitP_self rfl,hn,fun h=>by rw [h]; rfl,fun h i=>by rw [h,decide_eq_true (by omega)]⟩)
 exact ⟨h',hc⟩
end
end Go.Sx.Srn
namespace Go.Sx.Srn
open Go Go.Sx Go.Proofs
set_option maxRecDepth 1000000
def okBr (n:Nat) (x:Brn):Bool:=decide (0<=x.rd/\x.du<=n/\x.rd<=x.du/\(1<=x.hr/\x.hr<=x.du - x.rd)/\0<=x.ht/\x.ht<=1099511627776)
def rowBr:FuncId × Spec1:=(57,fun _ args h K=>match args with
 | [.agg cs,.tp ts]=>∃ (x:Brn) (R:List Int),cs=buL x/\ts=[inD R]/\R.length<=100000/\K (.ret (.bool (!okBr R.length x))) h
 | _=>False)
def dsBr:List Nat:=[8,7,6,4,0,1]
def VBr (l:List Brn) (R:List Int) (i:Int):List VV:=[I i,I l.length,buD l,I 0,buD l,.func 57 [] [.tp [inD R]]]
theorem Br_ev (l:List Brn) (R:List Int) (i:Int) (X:VEx->List VV->List VB->Prop):codeE Try.prog (callN Try.prog (tabS [rowBr]) noL 10 20) (fun _=>none) true 10 (ntOf Try.prog 61) 0 (loopB 0 (bodyOf Try.prog 61)) (dsBr.zip (VBr l R i)) ⟨0,([]:List Nat).zip []⟩ (obs 0 dsBr [] X) =
 (bif decide (i<(↑l.length:Int)) then
 bif decide ((0:Int)<=i/\i<(↑l.length:Int)) then
 ∃ (x:Brn),∃ (R_1:List Int),[I (l.getD i.toNat z0).rd,I (l.getD i.toNat z0).du,I (l.getD i.toNat z0).hr,I (l.getD i.toNat z0).ht]=buL x/\[inD R]=[inD R_1]/\R_1.length<=100000/\bif !okBr R_1.length x then
 X VEx.ret [I i,I (↑l.length:Int),VV.tl l.length 4 (buG l),I i,VV.tl l.length 4 (buG l),VV.func (57:FuncId) [] [VV.tp [VV.tl R.length 1 (dG R)]]] []
 else bif inK IntKind.i64 (i+(1:Int)) then
 X VEx.normal [I (i+(1:Int)),I (↑l.length:Int),VV.tl l.length 4 (buG l),I 0,VV.tl l.length 4 (buG l),VV.func (57:FuncId) [] [VV.tp [VV.tl R.length 1 (dG R)]]] []
 else False
 else False
 else X (VEx.exit 0) [I i,I (↑l.length:Int),VV.tl l.length 4 (buG l),I 0,VV.tl l.length 4 (buG l),VV.func (57:FuncId) [] [VV.tp [VV.tl R.length 1 (dG R)]]] []):=by kernel_rfl
def qBr (l:List Brn) (R:List Int) (i:Nat):Bool:=!okBr R.length (l.getD i z0)
def anyBr (l:List Brn) (R:List Int):Bool:=(List.range l.length).any (qBr l R)
def lBr (l:List Brn) (R:List Int):LT:=fun lock t h K=>
 FitP lock h t ⟨0,([]:List Nat).zip []⟩ (dsBr.zip (VBr l R 0))/\l.length<=100000/\(anyBr l R=false->K .normal (dsBr.zip (VBr l R l.length)) ⟨0,([]:List Nat).zip []⟩)/\(anyBr l R=true->∀ i:Nat,K .ret (dsBr.zip [I i,I l.length,buD l,I i,buD l,.func 57 [] [.tp [inD R]]]) ⟨0,([]:List Nat).zip []⟩)
theorem Brf_ev (l:List Brn) (R:List Int) (Q:VRes->Prop):callN Try.prog noSpec (atF 61 [(0,lBr l R)]) 10 20 0 (.fn 56) [buD l,.func 57 [] [.tp [inD R]]] ⟨0,[]⟩ (fun r _=>Q r) =
 (FitP 0 (VH.mk 0 ([].zip [])) (dsBr.zip (VBr l R (0:Int))) (VH.mk 0 ([].zip [])) (dsBr.zip (VBr l R (0:Int)))/\l.length<=100000/\(anyBr l R=false->Q (VRes.ret (VV.bool (decide ((-1:Int) ≥ (0:Int))))))/\(anyBr l R=true->∀ (i:Nat),Q (VRes.ret (VV.bool (decide ((↑i:Int) ≥ (0:Int))))))):=by kernel_rfl
end Go.Sx.Srn
namespace Go.Sx.Srn
open Go Go.Sx Go.Proofs
set_option maxRecDepth 1000000
section
variable {l:List Brn} {R:List Int}
def OBr (l:List Brn) (R:List Int) (_:Nat) (e:VEx) (vs:List VV) (bs:List VB):Prop:=
 bs=[]/\((anyBr l R=false/\e=.exit 0/\vs=VBr l R l.length) ∨ (anyBr l R=true/\e=.ret/\∃ i:Nat,vs=[I i,I l.length,buD l,I i,buD l,.func 57 [] [.tp [inD R]]]))
theorem lBr_ok (hR:R.length<=100000) (hrow:SpOk Try.prog rowBr.1 rowBr.2):LSound Try.prog true (.block 0 (.loop (loopB 0 (bodyOf Try.prog 61)))) (ntOf Try.prog 61) (lBr l R):=by
 by_cases hn:l.length<=100000
 ·refine loop_row hmix (noL_good (tab_ok [rowBr] (fun x hx=>by
   simp only [List.mem_singleton] at hx
   subst hx
   exact hrow))) (un:=10) (ds:=dsBr) (ns:=[]) (nx:=0) (fun i:Nat=>VBr l R i) (fun _=>[]) (fun i=>i<=l.length/\∀ j,j<i->qBr l R j=false) (fun i=>l.length - i) (OBr l R) noL_ok ?_ ?_
  ·rintro i ⟨h0,h1⟩
   refine cast (Br_ev l R i _).symm ?_
   by_cases hlt:i<l.length
   ·refine cond_dk (by omega) (cond_dk ⟨by omega,by omega⟩ ?_)
    rw [show (i:Int).toNat=i by omega]
    have key:∀ b:Bool,b=qBr l R i->(bif b then RoundQ (fun i:Nat=>VBr l R i) (fun _=>[]) (fun i=>i<=l.length/\∀ j,j<i->qBr l R j=false) (fun i=>l.length - i) (OBr l R) i .ret [I i,I l.length,buD l,I i,buD l,.func 57 [] [.tp [inD R]]] [] else bif inK .i64 ((i:Int)+1) then RoundQ (fun i:Nat=>VBr l R i) (fun _=>[]) (fun i=>i<=l.length/\∀ j,j<i->qBr l R j=false) (fun i=>l.length - i) (OBr l R) i .normal (VBr l R (i+1)) [] else False):=by
     rintro b rfl
     refine cond_i (fun h=>⟨rfl,.inr ⟨?_,rfl,i,rfl⟩⟩) (fun h=>cond_r (by omega) ⟨i+1,⟨by omega,fun j hj=>?_⟩,by dsimp only; omega,rfl,fitBs_refl _,fun _ _ _ h=>h⟩)
     ·unfold anyBr
      rw [List.any_eq_true]
      exact ⟨i,List.mem_range.2 hlt,h⟩
     ·by_cases e:j=i
      ·subst e; exact h
      ·exact h1 j (by omega)
    exact ⟨l.getD i z0,R,rfl,rfl,hR,key _ rfl⟩
   ·obtain rfl:i=l.length:=by omega
    refine cond_d (fun h=>by omega) (fun _=>⟨rfl,.inl ⟨?_,rfl,rfl⟩⟩)
    unfold anyBr
    rw [List.any_eq_false]
    intro j hj
    rw [h1 j (List.mem_range.1 hj)]
    simp
  ·rintro lock t h K ⟨hf,_,k1,k2⟩
   refine ⟨0,hf,⟨Nat.zero_le _,fun j hj=>by omega⟩,?_⟩
   rintro e vs bs ⟨rfl,⟨g,rfl,rfl⟩ | ⟨g,rfl,i,rfl⟩⟩
   ·exact k1 g
   ·exact k2 g i
 ·rintro lock t h K ⟨hf,hc,_⟩
  exact (hn hc).elim
theorem anyBr_v (hR:R.length<=100000) (hrow:SpOk Try.prog rowBr.1 rowBr.2) (hn:l.length<=100000):∃ h',CallsV Try.prog 56 [buD l,.func 57 [] [.tp [inD R]]] ⟨0,[]⟩ (.ret (.bool (anyBr l R))) h':=by
 have hall:LoopsOk Try.prog 61 [(0,lBr l R)]:=fun x hx=>by
  simp only [List.mem_singleton] at hx
  subst hx
  exact ⟨by kernel_rfl,lBr_ok hR hrow⟩
 obtain ⟨r,h',rfl,hc⟩:=of_callN (callL_good hmix noSp hall (un:=10) 20) (f:=56) (args:=[buD l,.func 57 [] [.tp [inD R]]]) (h:=⟨0,[]⟩) (K:=fun r _=>r=.ret (.bool (anyBr l R))) (by
  refine cast (Brf_ev l R _).symm ?_
  refine ⟨fitP_self rfl,hn,fun h=>by rw [h]; rfl,fun h i=>by rw [h,decide_eq_true (by omega)]⟩)
 exact ⟨h',hc⟩
end
end Go.Sx.Srn
namespace Go.Sx.Srn
open Go Go.Sx Go.Proofs
set_option maxRecDepth 1000000
theorem c55_ev (n:Int) (Q:VRes->Prop):callN Try.prog noSpec noL 10 20 0 (.fn 55) [I n] ⟨0,[]⟩ (fun r _=>Q r) =
 (bif decide (n ≥ (0:Int)) then
 Q (VRes.ret (VV.bool !decide (n<=(8796093022208:Int))))
 else Q (VRes.ret (VV.bool !false))):=by kernel_rfl
theorem c57_ev (R:List Int) (x:Brn) (Q:VRes->Prop):callN Try.prog noSpec noL 10 20 0 (.fn 57) [.agg (buL x),.tp [inD R]] ⟨0,[]⟩ (fun r _=>Q r) =
 (bif decide (x.rd<(0:Int)) then
 Q (VRes.ret (VV.bool true))
 else bif decide (x.du > (↑R.length:Int)) then
 Q (VRes.ret (VV.bool true))
 else bif decide (x.rd > x.du) then
 Q (VRes.ret (VV.bool true))
 else bif inK .i64 (x.du - x.rd) then
 bif decide (x.hr ≥ (1:Int)) then
 bif !decide (x.hr<=x.du - x.rd) then
 Q (VRes.ret (VV.bool true))
 else bif decide (x.ht ≥ (0:Int)) then
 Q (VRes.ret (VV.bool !decide (x.ht<=(1099511627776:Int))))
 else Q (VRes.ret (VV.bool !false))
 else Q (VRes.ret (VV.bool true))
 else False):=by kernel_rfl
def cfRm:FuncId × Spec1:=(54,fun _ args h K=>match args with
 | [x,.func 55 [] []]=>∃ D:List Int,isD h 2 x (inD D)/\D.length<=100000/\K (.ret (.bool (anyRm D))) h
 | _=>False)
def cfBr:FuncId × Spec1:=(56,fun _ args h K=>match args with
 | [x,.func 57 [] [c]]=>∃ (l:List Brn) (R:List Int),isD h 3 x (buD l)/\isD h 2 c (.tp [inD R])/\(l.length<=100000/\R.length<=100000)/\K (.ret (.bool (anyBr l R))) h
 | _=>False)
theorem ar_ev (R:List Int) (l:List Brn) (Q:VRes->Prop):callN Try.prog (tabS [cfRm,cfBr]) noL 10 20 0 (.fn 44) [inD R,buD l] ⟨0,[]⟩ (fun r _=>Q r) =
 (bif decide ((↑R.length:Int) > (168:Int)) then
 Q (VRes.ret (VV.bool false))
 else bif decide ((↑l.length:Int) > (6:Int)) then
 Q (VRes.ret (VV.bool false))
 else ∃ (D:List Int),isD (VH.mk (0+1) [(0,VB.cells [VV.tl R.length 1 (dG R)] 33)]) 2 (VV.tl R.length 1 (dG R)) (inD D)/\D.length<=100000/\bif anyRm D then
 Q (VRes.ret (VV.bool false))
 else ∃ (l_1:List Brn),∃ (R_1:List Int),isD (VH.mk (0+1) [(0,VB.cells [VV.tl R.length 1 (dG R)] 33)]) 3 (buD l) (buD l_1)/\isD (VH.mk (0+1) [(0,VB.cells [VV.tl R.length 1 (dG R)] 33)]) 2 (VV.ptr (VA.own 0 0)) (VV.tp [inD R_1])/\(l_1.length<=100000/\R_1.length<=100000)/\Q (VRes.ret (VV.bool !anyBr l_1 R_1))):=by kernel_rfl
def okRuns (R:List Int) (l:List Brn):Bool:=decide (R.length<=168/\l.length<=6) && !anyRm R && !anyBr l R
def arR (R:List Int) (l:List Brn):FuncId × Spec1:=(44,fun _ args h K=>match args with
 | [x,y]=>isD h 3 x (inD R)/\isD h 3 y (buD l)/\K (.ret (.bool (okRuns R l))) h
 | _=>False)
def nsW:List Nat:=[0,1,2,3,4,5,6]
def BW (R:List Int) (l:List Brn):List VB:=[.cells [buD l] 42,.fam [] 168 (lefF R l []) 81,.cells [.nils] 33,.cells [.nils] 33,.cells [I ((R.length:Int)+1)] 3,.cells [.bool false] 4,.cells [.func 45 [] caT] 82]
def tryW (R:List Int) (l:List Brn):FuncId × Spec1:=(45,fun lock args h K=>match args,h with
 | [.int .i64 la,x1,x2,x3,x4,x5,x6,x7],⟨nx,bs⟩=>[x1,x2,x3,x4,x5,x6,x7]=caT/\(lock=0/\nx=7)/\(rmB R->atL nsW (BW R l) ⟨nx,bs⟩)/\(la=0/\1<=l.length/\rmB R/\lsB R.length l) /\
   ∀ st':Option (List Int),st'=bestR R l->K (.ret (.tup [])) ⟨8,[(3,.cells [inD (st'.getD [])] 33),(5,.cells [.bool st'.isSome] 4)]⟩
 | _,_=>False)
theorem ru_ev (R:List Int) (l:List Brn) (Q:VRes->Prop):callN Try.prog (tabS [arR R l,tryW R l]) noL 10 20 0 (.fn 21) [inD R,buD l] ⟨0,[]⟩ (fun r _=>Q r) =
 (isD (VH.mk (0+1) [(0,VB.cells [buD l] 42)]) 3 (VV.tl R.length 1 (dG R)) (inD R)/\isD (VH.mk (0+1) [(0,VB.cells [buD l] 42)]) 3 (buD l) (buD l)/\bif !okRuns R l then
 Q (VRes.ret (VV.tup [VV.nils,I 1]))
 else (∀ (j:Nat),j<min R.length ((↑168:Int) - (0:Int)).toNat->dG R j=[I (intV (dG R j))])/\bif inK .i64 ((↑R.length:Int)+(1:Int)) then
 caT=caT/\(0=0/\7=7)/\(rmB R->VB.cells [buD l] (42:TypeId)=VB.cells [buD l] (42:TypeId)/\(VH.mk (7) [(6,VB.cells [VV.func 45 [] [VV.ptr (VA.own (2) 0),VV.ptr (VA.own 0 0),VV.ptr (VA.own (3) 0),VV.ptr (VA.own (4) 0),VV.ptr (VA.own (5) 0),VV.ptr (VA.own (1) 0),VV.ptr (VA.own (6) 0)]] 82),(6,VB.cells [VV.nilf] 82),(5,VB.cells [VV.bool false] 4),(5,VB.cells [VV.bool false] 4),(4,VB.cells [I ((↑R.length:Int)+(1:Int))] 3),(4,VB.cells [I 0] 3),(3,VB.cells [VV.nils] 33),(2,VB.cells [VV.nils] 33),(1,VB.fam [] (168) (setF (fun (_:Nat)=>(0:Int)) (Int.toNat (0:Int)*(1)) (intsL (dG R) (min R.length ((↑168:Int) - (0:Int)).toNat))) 81),(1,VB.fam [] (168) (fun (_:Nat)=>(0:Int)) 81),(0,VB.cells [buD l] 42)]).at 1=VB.fam [] 168 (lefF R l []) (81:TypeId)/\VB.cells [VV.nils] (33:TypeId)=VB.cells [VV.nils] (33:TypeId)/\VB.cells [VV.nils] (33:TypeId)=VB.cells [VV.nils] (33:TypeId)/\VB.cells [I ((↑R.length:Int)+(1:Int))] (3:TypeId)=VB.cells [I ((↑R.length:Int)+(1:Int))] (3:TypeId)/\VB.cells [VV.bool false] (4:TypeId)=VB.cells [VV.bool false] (4:TypeId)/\VB.cells [VV.func (45:FuncId) [] caT] (82:TypeId)=VB.cells [VV.func (45:FuncId) [] caT] (82:TypeId)/\True)/\((0:Int)=(0:Int)/\1<=l.length/\rmB R/\lsB R.length l)/\∀ (st':Option (List Int)),st'=bestR R l->bif !st'.isSome then
 Q (VRes.ret (VV.tup [VV.nils,I 4]))
 else Q (VRes.ret (VV.tup [VV.tl (st'.getD []).length 1 (dG (st'.getD [])),I 0]))
 else False):=by kernel_rfl
theorem rz_ev (R:List Int) (Q:VRes->Prop):callN Try.prog (tabS [arR R []]) noL 10 20 0 (.fn 21) [inD R,buD []] ⟨0,[]⟩ (fun r _=>Q r) =
 (isD (VH.mk (0+1) [(0,VB.cells [buD []] 42)]) 3 (VV.tl R.length 1 (dG R)) (inD R)/\isD (VH.mk (0+1) [(0,VB.cells [buD []] 42)]) 3 (buD []) (buD [])/\bif !okRuns R [] then
 Q (VRes.ret (VV.tup [VV.nils,I 1]))
 else (∀ (j:Nat),j<min R.length ((↑168:Int) - (0:Int)).toNat->dG R j=[I (intV (dG R j))])/\bif inK .i64 ((↑R.length:Int)+(1:Int)) then
 Q (VRes.ret (VV.tup [VV.nils,I 0]))
 else False):=by kernel_rfl
end Go.Sx.Srn
namespace Go.Sx.Srn
open Go Go.Sx Go.Proofs
set_option maxRecDepth 1000000
theorem setF_get (g:Nat->Int) (o:Nat) (ns:List Int) (k:Nat):setF g o ns k=if o<=k/\k<o+ns.length then ns.getD (k - o) 0 else g k:=by
 match ns with
 | []=>
  show (bif (Nat.ble o k && Nat.blt k (o+0)) then _ else g k)=_
  rw [if_neg (by simp only [List.length_nil]; omega)]
  by_cases h1:o<=k
  ·rw [Nat.ble_eq_true_of_le h1,blt_f (by omega)]
   rfl
  ·have:Nat.ble o k=false:=by
    cases hb:Nat.ble o k with
    | false=>rfl
    | true=>exact (h1 (Nat.le_of_ble_eq_true hb)).elim
   rw [this]
   rfl
 | [x]=>
  show (bif Nat.beq k o then x else g k)=_
  by_cases h:k=o
  ·subst h
   rw [Nat.beq_refl,if_pos (by simp)]
   simp
  ·rw [beq_f h,if_neg (by simp; omega)]
   rfl
 | x::y::r=>
  show (bif (Nat.ble o k && Nat.blt k (o+(x::y::r).length)) then (x::y::r).getD (k - o) 0 else g k)=_
  by_cases h:o<=k/\k<o+(x::y::r).length
  ·rw [if_pos h,Nat.ble_eq_true_of_le h.1,blt_t h.2]
   rfl
  ·rw [if_neg h]
   by_cases h1:o<=k
   ·rw [Nat.ble_eq_true_of_le h1,blt_f (by omega)]
    rfl
   ·have:Nat.ble o k=false:=by
     cases hb:Nat.ble o k with
     | false=>rfl
     | true=>exact (h1 (Nat.le_of_ble_eq_true hb)).elim
    rw [this]
    rfl
theorem ints_get {D:List Int} {m j:Nat} (h:j<m):(intsL (dG D) m).getD j 0=D.getD j 0:=by
 unfold intsL
 rw [List.getD_eq_getElem?_getD,List.getElem?_map,List.getElem?_range h]
 rfl
section
variable {R:List Int} {l:List Brn}
theorem rowRm_ok:SpOk Try.prog rowRm.1 rowRm.2:=by
 intro lock args h K hK
 simp only [rowRm] at hK
 split at hK
 ·rename_i n
  obtain ⟨r,h',rfl,hc⟩:=of_callN good0 (f:=55) (args:=[I n]) (h:=⟨0,[]⟩) (K:=fun r _=>r=.ret (.bool (!okRm n))) (by
   refine cast (c55_ev n _).symm ?_
   unfold okRm
   refine cond_d (fun h1=>?_) (fun h1=>?_)
   ·by_cases h2:n<=8796093022208
    ·rw [decide_eq_true h2,decide_eq_true (p:=0<=n/\n<=8796093022208) ⟨h1,h2⟩]
    ·rw [decide_eq_false h2,decide_eq_false (p:=0<=n/\n<=8796093022208) (fun h=>h2 h.2)]
   ·rw [decide_eq_false (p:=0<=n/\n<=8796093022208) (fun h=>h1 h.1)])
  exact ⟨_,h,hK,lockP_refl _ _,calls_lift0 hc rfl rfl⟩
 ·exact hK.elim
theorem rowBr_ok:SpOk Try.prog rowBr.1 rowBr.2:=by
 intro lock args h K hK
 simp only [rowBr] at hK
 split at hK
 ·obtain ⟨x,R,rfl,rfl,hR,hK⟩:=hK
  obtain ⟨r,h',rfl,hc⟩:=of_callN good0 (f:=57) (args:=[.agg (buL x),.tp [inD R]]) (h:=⟨0,[]⟩) (K:=fun r _=>r=.ret (.bool (!okBr R.length x))) (by
   refine cast (c57_ev R x _).symm ?_
   have yes:¬ (0<=x.rd/\x.du<=R.length/\x.rd<=x.du/\(1<=x.hr/\x.hr<=x.du - x.rd)/\0<=x.ht/\x.ht<=1099511627776)->VRes.ret (.bool true)=.ret (.bool (!okBr R.length x)):=fun h=>by
    unfold okBr; rw [decide_eq_false h]; rfl
   refine cond_d (fun h=>yes (by omega)) (fun g1=>cond_d (fun h=>yes (by omega)) (fun g2=>cond_d (fun h=>yes (by omega)) (fun g3=>cond_r (by omega) (cond_d (fun g4=>cond_nd (fun h=>yes (by omega)) (fun g5=>cond_d (fun g6=>?_) (fun g6=>yes (by omega)))) (fun g4=>yes (by omega))))))
   by_cases h2:x.ht<=1099511627776
   ·unfold okBr
    rw [decide_eq_true h2,decide_eq_true (p:=0<=x.rd/\_) (by omega)]
   ·rw [decide_eq_false h2]
    exact yes (by omega))
  exact ⟨_,h,hK,lockP_refl _ _,calls_lift0 hc rfl rfl⟩
 ·exact hK.elim
theorem cfRm_ok:SpOk Try.prog cfRm.1 cfRm.2:=by
 intro lock args h K hK
 simp only [cfRm] at hK
 split at hK
 ·obtain ⟨D,hx,hn,hK⟩:=hK
  obtain ⟨h',hv⟩:=anyRm_v rowRm_ok hn
  exact ⟨_,h,hK,lockP_refl _ _,calls_lendDP 2 hv rfl ⟨hx,⟨rfl,trivial,trivial⟩,trivial⟩⟩
 ·exact hK.elim
theorem cfBr_ok:SpOk Try.prog cfBr.1 cfBr.2:=by
 intro lock args h K hK
 simp only [cfBr] at hK
 split at hK
 ·obtain ⟨l,R,hx,hy,⟨hn,hR⟩,hK⟩:=hK
  obtain ⟨h',hv⟩:=anyBr_v (R:=R) hR rowBr_ok hn
  exact ⟨_,h,hK,lockP_refl _ _,calls_lendDP 3 hv rfl ⟨hx,⟨rfl,trivial,hy,trivial⟩,trivial⟩⟩
 ·exact hK.elim
theorem areRuns_v:∃ h',CallsV Try.prog 44 [inD R,buD l] ⟨0,[]⟩ (.ret (.bool (okRuns R l))) h':=by
 have htab:∀ f T,tabS [cfRm,cfBr] f=some T->SpOk Try.prog f T:=tab_ok _ (fun x hx=>by
  simp only [List.mem_cons,List.not_mem_nil,or_false] at hx
  rcases hx with rfl | rfl
  ·exact cfRm_ok
  ·exact cfBr_ok)
 obtain ⟨r,h',rfl,hc⟩:=of_callN (noL_good htab) (f:=44) (args:=[inD R,buD l]) (h:=⟨0,[]⟩) (K:=fun r _=>r=.ret (.bool (okRuns R l))) (by
  refine cast (ar_ev R l _).symm ?_
  unfold okRuns
  refine cond_d (fun h=>?_) (fun h1=>cond_d (fun h=>?_) (fun h2=>⟨R,isD_in,by omega,cond_i (fun h3=>?_) (fun h3=>⟨l,R,⟨rfl,rfl,fun _ _=>rfl⟩,?_,⟨by omega,by omega⟩,?_⟩)⟩))
  ·rw [decide_eq_false (by omega)]; rfl
  ·rw [decide_eq_false (by omega)]; rfl
  ·rw [h3]; simp
  ·exact ⟨_,_,rfl,⟨⟨rfl,rfl,fun _ _=>rfl⟩,trivial⟩⟩
  ·rw [decide_eq_true (by omega),h3]; simp)
 exact ⟨h',hc⟩
theorem arR_ok (R:List Int) (l:List Brn):SpOk Try.prog (arR R l).1 (arR R l).2:=by
 intro lock args h K hK
 simp only [arR] at hK
 split at hK
 ·obtain ⟨h1,h2,hK⟩:=hK
  obtain ⟨h',hv⟩:=areRuns_v (R:=R) (l:=l)
  exact ⟨_,h,hK,lockP_refl _ _,calls_lendDP 3 hv rfl ⟨h1,h2,trivial⟩⟩
 ·exact hK.elim
theorem okRuns_iff:okRuns R l=true ↔ rmB R/\lsB R.length l:=by
 unfold okRuns rmB lsB
 rw [Bool.and_eq_true,Bool.and_eq_true,decide_eq_true_eq,Bool.not_eq_true',Bool.not_eq_true']
 unfold anyRm anyBr
 rw [List.any_eq_false,List.any_eq_false]
 constructor
 ·rintro ⟨⟨⟨h1,h2⟩,h3⟩,h4⟩
  refine ⟨⟨h1,fun h hh=>?_⟩,h2,fun i hi=>?_⟩
  ·have:=h3 h (List.mem_range.2 hh)
   unfold qRm okRm at this
   simpa using this
  ·have:=h4 i (List.mem_range.2 hi)
   unfold qBr okBr at this
   simp only [Bool.not_eq_true',decide_eq_false_iff_not] at this
   exact Classical.not_not.1 this
 ·rintro ⟨⟨h1,h3⟩,h2,h4⟩
  refine ⟨⟨⟨h1,h2⟩,fun i hi=>?_⟩,fun i hi=>?_⟩
  ·have:=h3 i (List.mem_range.1 hi)
   unfold qRm okRm
   rw [decide_eq_true this]; simp
  ·have:=h4 i (List.mem_range.1 hi)
   unfold brB at this
   unfold qBr okBr
   rw [decide_eq_true this]; simp
theorem lef_nil (h:R.length<=168):setF (fun (_:Nat)=>(0:Int)) (Int.toNat 0*1) (intsL (dG R) (min R.length (((168:Nat):Int) - 0).toNat))=lefF R l []:=by
 funext k
 have hm:min R.length (((168:Nat):Int) - 0).toNat=R.length:=by
  have:(((168:Nat):Int) - 0).toNat=168:=rfl
  omega
 rw [hm,setF_get]
 have hl:(intsL (dG R) R.length).length=R.length:=by simp [intsL]
 rw [hl]
 unfold lefF
 by_cases hk:k<R.length
 ·rw [if_pos ⟨Nat.zero_le _,by show k<0+_; omega⟩,if_pos hk]
  show (intsL (dG R) R.length).getD k 0=R.getD k 0 - 0
  rw [ints_get hk,Int.sub_zero]
 ·rw [if_neg (by show ¬ (_/\k<0+_); omega),if_neg hk]
theorem tryW_ok (R:List Int) (l:List Brn):SpOk Try.prog (tryW R l).1 (tryW R l).2:=by
 intro lock args h0 K hK
 simp only [tryW] at hK
 split at hK
 ·rename_i la x1 x2 x3 x4 x5 x6 x7 nx bs
  obtain ⟨hca,⟨rfl,rfl⟩,hat,⟨rfl,hpos,hR,hl⟩,hK⟩:=hK
  obtain ⟨e0,e1,e2,e3,e4,e5,e6,_⟩:=hat hR
  obtain ⟨L',g',st',q1,q2,q3,hc⟩:=try_v hR hl hpos l.length [] 0 (dG []) none (Nat.zero_add _) (okP_nil hR) (fun i hi=>absurd hi (Nat.not_lt_zero _)) (by show (0:Int)<(R.length:Int)+1; omega) ⟨Nat.le_refl _,Nat.zero_le _⟩ (fun q hq=>absurd hq (Nat.not_lt_zero _))
  have hK:=hK st' q1
  have hx:[I 0,x1,x2,x3,x4,x5,x6,x7]=I (endF l [] ([]:List Int).length)::caT:=by rw [<- hca]; rfl
  rw [show [VV.int .i64 0,x1,x2,x3,x4,x5,x6,x7]=I (endF l [] ([]:List Int).length)::caT from hx]
  refine ⟨_,_,hK,lock0 _ _,?_⟩
  have h1:CallsV Try.prog 45 (I (endF l [] ([]:List Int).length)::caT) ((((VH.mk 7 bs).new (.vec 0 (dG []) 1 3)).put 2 (.cells [.sub 7 0 1 0 0] 33)).put 3 (.cells [inD []] 33)) (.ret (.tup [])) ⟨8,[(3,.cells [inD (st'.getD [])] 33),(5,.cells [.bool st'.isSome] 4)]⟩:=by
   have h2:=calls_weak hc (Nat.le_refl _) (bs:=[(3,.cells [inD (st'.getD [])] 33),(5,.cells [.bool st'.isSome] 4)]) ⟨VB.fit_refl _,VB.fit_refl _,trivial⟩ rfl rfl
   refine calls_pre h2 ?_
   have hlt:∀ k,k<7->k ≠ 2->k ≠ 3->((((VH.mk 7 bs).new (.vec 0 (dG []) 1 3)).put 2 (.cells [.sub 7 0 1 0 0] 33)).put 3 (.cells [inD []] 33)).at k=(VH.mk 7 bs).at k:=fun k hk h2 h3=>by
    show (VH.mk 8 ((3,_)::(2,_)::(7,_)::bs)).at k=_
    rw [at_ne (Ne.symm h3),at_ne (Ne.symm h2),at_ne (by omega),at_lt (by omega),at_lt hk]
   refine ⟨?_,?_,VB.fit_refl _,VB.fit_refl _,?_,?_,?_,VB.fit_refl _,trivial⟩
   ·rw [hlt 0 (by decide) (by decide) (by decide),e0]; exact VB.fit_refl _
   ·rw [hlt 1 (by decide) (by decide) (by decide),e1]; exact VB.fit_refl _
   ·rw [hlt 4 (by decide) (by decide) (by decide),e4]; exact VB.fit_refl _
   ·rw [hlt 5 (by decide) (by decide) (by decide),e5]; exact VB.fit_refl _
   ·rw [hlt 6 (by decide) (by decide) (by decide),e6]; exact VB.fit_refl _
  have h3:CallsV Try.prog 45 (I (endF l [] ([]:List Int).length)::caT) (((VH.mk 7 bs).new (.vec 0 (dG []) 1 3)).put 2 (.cells [.sub 7 0 1 0 0] 33)) (.ret (.tup [])) ⟨8,[(3,.cells [inD (st'.getD [])] 33),(5,.cells [.bool st'.isSome] 4)]⟩:=by
   refine calls_cell h1 (cs:=[.nils]) ?_ (fun R xs hx=>?_)
   ·show (VH.mk 8 ((2,_)::(7,_)::bs)).at 3=_
    rw [at_ne (by decide),at_ne (by decide),at_lt (by decide)]
    rw [at_lt (by decide)] at e3
    exact e3
   ·obtain ⟨y,ys,k1,k2,rfl⟩:=hx
    exact ⟨y,ys,wk_one wk_nil y k1,k2,rfl⟩
  refine calls_ghostC (dG []) 1 3 h3 (by show 2<7; decide) e2 (fun R xs hv hx=>?_)
  obtain ⟨y,ys,k1,k2,rfl⟩:=hx
  exact ⟨y,ys,nil_sub hv k1,k2,rfl⟩
 ·exact hK.elim
def rsE (R:List Int) (l:List Brn):Int:=if okRuns R l=false then 1 else if bestR R l=none then 4 else 0
def rsD (R:List Int) (l:List Brn):List Int:=if okRuns R l=false then [] else (bestR R l).getD []
theorem wk_nils {D:List Int} {e:Int} (h:D=[]) (R:Rn) (x:Value) (hx:VRel R (.tup [.nils,I e]) x):VRel R (.tup [inD D,I e]) x:=by
 subst h
 obtain ⟨xs,⟨y,ys,k1,k2,rfl⟩,rfl⟩:=hx
 exact ⟨_,⟨y,ys,wk_one wk_nil y k1,k2,rfl⟩,rfl⟩
theorem runs_v:∃ h',CallsV Try.prog 21 [inD R,buD l] ⟨0,[]⟩ (.ret (.tup [inD (rsD R l),I (rsE R l)])) h':=by
 cases ho:okRuns R l with
 | false=>
  have e1:rsE R l=1:=by unfold rsE; rw [if_pos ho]
  have e2:rsD R l=[]:=by unfold rsD; rw [if_pos ho]
  have htab:∀ f T,tabS [arR R l,tryW R l] f=some T->SpOk Try.prog f T:=tab_ok _ (fun x hx=>by
   simp only [List.mem_cons,List.not_mem_nil,or_false] at hx
   rcases hx with rfl | rfl
   ·exact arR_ok R l
   ·exact tryW_ok R l)
  obtain ⟨r,h',rfl,hc⟩:=of_callN (noL_good htab) (f:=21) (args:=[inD R,buD l]) (h:=⟨0,[]⟩) (K:=fun r _=>r=.ret (.tup [.nils,I 1])) (by
   refine cast (ru_ev R l _).symm ⟨isD_in,⟨rfl,rfl,fun _ _=>rfl⟩,cond_i (fun _=>rfl) (fun h=>?_)⟩
   rw [ho] at h; cases h)
  exact ⟨h',by rw [e1]; exact calls_res hc (wk_nils e2)⟩
 | true=>
  obtain ⟨hR,hl⟩:=okRuns_iff.1 ho
  have hR168:=hR.1
  have e1:rsE R l=if bestR R l=none then 4 else 0:=by unfold rsE; rw [if_neg (by rw [ho]; simp)]
  have e2:rsD R l=(bestR R l).getD []:=by unfold rsD; rw [if_neg (by rw [ho]; simp)]
  cases l with
  | nil=>
   have hb:bestR R []=some []:=rfl
   rw [hb] at e1 e2
   obtain ⟨r,h',rfl,hc⟩:=of_callN (noL_good (tab1 (arR_ok R []))) (f:=21) (args:=[inD R,buD []]) (h:=⟨0,[]⟩) (K:=fun r _=>r=.ret (.tup [.nils,I 0])) (by
    refine cast (rz_ev R _).symm ⟨isD_in,⟨rfl,rfl,fun _ _=>rfl⟩,cond_i (fun h=>?_) (fun _=>⟨fun j hj=>rfl,cond_r (by omega) rfl⟩)⟩
    rw [ho] at h; cases h)
   exact ⟨h',by rw [e1]; exact calls_res hc (wk_nils e2)⟩
  | cons b r0=>
   have htab:∀ f T,tabS [arR R (b::r0),tryW R (b::r0)] f=some T->SpOk Try.prog f T:=tab_ok _ (fun x hx=>by
    simp only [List.mem_cons,List.not_mem_nil,or_false] at hx
    rcases hx with rfl | rfl
    ·exact arR_ok R (b::r0)
    ·exact tryW_ok R (b::r0))
   obtain ⟨r,h',hk,hc⟩:=of_callN (noL_good htab) (f:=21) (args:=[inD R,buD (b::r0)]) (h:=⟨0,[]⟩) (K:=fun r _=>(bestR R (b::r0)=none/\r=.ret (.tup [.nils,I 4])) ∨ (bestR R (b::r0) ≠ none/\r=.ret (.tup [inD ((bestR R (b::r0)).getD []),I 0]))) (by
    refine cast (ru_ev R (b::r0) _).symm ⟨isD_in,⟨rfl,rfl,fun _ _=>rfl⟩,cond_i (fun h=>?_) (fun _=>⟨fun j hj=>rfl,cond_r (by omega) ⟨rfl,⟨rfl,rfl⟩,fun _=>⟨rfl,?_,rfl,rfl,rfl,rfl,rfl,trivial⟩,⟨rfl,Nat.succ_pos _,hR,hl⟩,?_⟩⟩)⟩
    ·rw [ho] at h; cases h
    ·show VB.fam [] 168 _ 81=_
     rw [<- lef_nil hR168]
     rfl
    ·rintro st' rfl
     refine cond_i (fun h=>?_) (fun h=>?_)
     ·refine .inl ⟨?_,rfl⟩
      cases hb:bestR R (b::r0) with
      | none=>rfl
      | some B=>rw [hb] at h; cases h
     ·refine .inr ⟨fun hb=>?_,rfl⟩
      rw [hb] at h; cases h)
   rcases hk with ⟨hb,rfl⟩ | ⟨hb,rfl⟩
   ·exact ⟨h',by rw [e1,if_pos hb]; exact calls_res hc (wk_nils (by rw [e2,hb]; rfl))⟩
   ·exact ⟨h',by rw [e1,if_neg hb,e2]; exact hc⟩
end
end Go.Sx.Srn
namespace Go.Sx.Srn
open Go Go.Sx Go.Proofs
set_option maxRecDepth 1000000
def dsRR:List Nat:=[3,2,0]
def VRR (R:List Int) (i:Nat):List VV:=[I i,.bool false,inD R]
theorem rr_ev (R:List Int) (i:Nat) (X:VEx->List VV->List VB->Prop):codeE Try.prog (callN Try.prog noSpec noL 10 20) (fun _=>none) true 10 (ntOf Try.prog 30) 0 (loopB 0 (bodyOf Try.prog 30)) (dsRR.zip (VRR R i)) ⟨0,([]:List Nat).zip []⟩ (obs 0 dsRR [] X) =
 (bif decide ((↑i:Int)<(↑R.length:Int)) then
 bif decide ((0:Int)<=(↑i:Int)/\(↑i:Int)<(↑R.length:Int)) then
 bif decide (R.getD (↑i:Int).toNat (0:Int) ≥ (0:Int)) then
 bif !decide (R.getD (↑i:Int).toNat (0:Int)<=(8796093022208:Int)) then
 X VEx.ret [I (↑i:Int),VV.bool false,inD R] []
 else bif inK .i64 ((↑i:Int)+(1:Int)) then
 X .normal [I ((↑i:Int)+(1:Int)),VV.bool false,inD R] []
 else False
 else X VEx.ret [I (↑i:Int),VV.bool false,inD R] []
 else False
 else X (VEx.exit 0) [I (↑i:Int),VV.bool false,inD R] []):=by kernel_rfl
def lRR (R:List Int):LT:=fun lock tt h K=>
 FitP lock h tt ⟨0,([]:List Nat).zip []⟩ (dsRR.zip (VRR R 0))/\R.length<=100000/\(anyRm R=false->K .normal (dsRR.zip (VRR R R.length)) ⟨0,([]:List Nat).zip []⟩)/\∀ i:Nat,anyRm R=true->K .ret (dsRR.zip (VRR R i)) ⟨0,([]:List Nat).zip []⟩
theorem rrf_ev (R:List Int) (Q:VRes->Prop):callN Try.prog noSpec (atF 30 [(0,lRR R)]) 10 20 0 (.fn 30) [inD R] ⟨0,[]⟩ (fun r _=>Q r) =
 (FitP 0 (VH.mk 0 ([].zip [])) (dsRR.zip (VRR R 0)) (VH.mk 0 ([].zip [])) (dsRR.zip (VRR R 0))/\R.length<=100000/\(anyRm R=false->Q (VRes.ret (VV.bool (decide ((↑R.length:Int)<=(168:Int))))))/\∀ (i:Nat),anyRm R=true->Q (VRes.ret (VV.bool false))):=by kernel_rfl
def dsRB:List Nat:=[5,4,0,1]
def VRB (R:List Int) (l:List Brn) (i:Nat):List VV:=[I i,.bool false,I R.length,buD l]
theorem rb_ev (R:List Int) (l:List Brn) (i:Nat) (X:VEx->List VV->List VB->Prop):codeE Try.prog (callN Try.prog noSpec noL 10 20) (fun _=>none) true 10 (ntOf Try.prog 31) 0 (loopB 0 (bodyOf Try.prog 31)) (dsRB.zip (VRB R l i)) ⟨0,([]:List Nat).zip []⟩ (obs 0 dsRB [] X) =
 (bif decide ((↑i:Int)<(↑l.length:Int)) then
 bif decide ((0:Int)<=(↑i:Int)/\(↑i:Int)<(↑l.length:Int)) then
 bif decide ((l.getD (↑i:Int).toNat z0).rd<(0:Int)) then
 X VEx.ret [I (↑i:Int),VV.bool false,I (↑R.length:Int),buD l] []
 else bif decide ((l.getD (↑i:Int).toNat z0).du > (↑R.length:Int)) then
 X VEx.ret [I (↑i:Int),VV.bool false,I (↑R.length:Int),buD l] []
 else bif decide ((l.getD (↑i:Int).toNat z0).hr<(1:Int)) then
 X VEx.ret [I (↑i:Int),VV.bool false,I (↑R.length:Int),buD l] []
 else bif decide ((l.getD (↑i:Int).toNat z0).rd > (l.getD (↑i:Int).toNat z0).du) then
 X VEx.ret [I (↑i:Int),VV.bool false,I (↑R.length:Int),buD l] []
 else bif inK .i64 ((l.getD (↑i:Int).toNat z0).du - (l.getD (↑i:Int).toNat z0).rd) then
 bif decide ((l.getD (↑i:Int).toNat z0).hr > (l.getD (↑i:Int).toNat z0).du - (l.getD (↑i:Int).toNat z0).rd) then
 X VEx.ret [I (↑i:Int),VV.bool false,I (↑R.length:Int),buD l] []
 else bif decide ((l.getD (↑i:Int).toNat z0).ht ≥ (0:Int)) then
 bif !decide ((l.getD (↑i:Int).toNat z0).ht<=(1099511627776:Int)) then
 X VEx.ret [I (↑i:Int),VV.bool false,I (↑R.length:Int),buD l] []
 else bif inK .i64 ((↑i:Int)+(1:Int)) then
 X .normal [I ((↑i:Int)+(1:Int)),VV.bool false,I (↑R.length:Int),buD l] []
 else False
 else X VEx.ret [I (↑i:Int),VV.bool false,I (↑R.length:Int),buD l] []
 else False
 else False
 else X (VEx.exit 0) [I (↑i:Int),VV.bool false,I (↑R.length:Int),buD l] []):=by kernel_rfl
def lRB (R:List Int) (l:List Brn):LT:=fun lock tt h K=>
 FitP lock h tt ⟨0,([]:List Nat).zip []⟩ (dsRB.zip (VRB R l 0))/\(R.length<=100000/\l.length<=100000)/\(anyBr l R=false->K .normal (dsRB.zip (VRB R l l.length)) ⟨0,([]:List Nat).zip []⟩)/\∀ i:Nat,anyBr l R=true->K .ret (dsRB.zip (VRB R l i)) ⟨0,([]:List Nat).zip []⟩
theorem rbf_ev (R:List Int) (l:List Brn) (Q:VRes->Prop):callN Try.prog noSpec (atF 31 [(0,lRB R l)]) 10 20 0 (.fn 31) [I R.length,buD l] ⟨0,[]⟩ (fun r _=>Q r) =
 (FitP 0 (VH.mk 0 ([].zip [])) (dsRB.zip (VRB R l 0)) (VH.mk 0 ([].zip [])) (dsRB.zip (VRB R l 0))/\(R.length<=100000/\l.length<=100000)/\(anyBr l R=false->Q (VRes.ret (VV.bool (decide ((↑l.length:Int)<=(6:Int))))))/\∀ (i:Nat),anyBr l R=true->Q (VRes.ret (VV.bool false))):=by kernel_rfl
def tP (R:List Int) (l:List Brn) (D:List Int):List VV:=[.bool false,I 0,inD R,buD l,inD D]
def dsP0:List Nat:=[9,8,7,6,0,1,2]
def VP0 (R:List Int) (l:List Brn) (D:List Int) (i:Nat) (e:Int):List VV:=I i::I e::tP R l D
theorem p0_ev (R:List Int) (l:List Brn) (D:List Int) (i:Nat) (e:Int) (X:VEx->List VV->List VB->Prop):codeE Try.prog (callN Try.prog noSpec noL 10 20) (fun _=>none) true 10 (ntOf Try.prog 32) 0 (loopB 0 (bodyOf Try.prog 32)) (dsP0.zip (VP0 R l D i e)) ⟨0,([]:List Nat).zip []⟩ (obs 0 dsP0 [] X) =
 (bif decide ((↑i:Int)<(↑D.length:Int)) then
 bif decide ((0:Int)<=(↑i:Int)/\(↑i:Int)<(↑D.length:Int)) then
 bif decide ((0:Int)<=(↑i:Int)/\(↑i:Int)<(↑l.length:Int)) then
 bif inK .i64 (D.getD (↑i:Int).toNat (0:Int)+(l.getD (↑i:Int).toNat z0).hr) then
 bif inK .i64 ((↑i:Int)+(1:Int)) then
 X .normal [I ((↑i:Int)+(1:Int)),I (max e (D.getD (↑i:Int).toNat (0:Int)+(l.getD (↑i:Int).toNat z0).hr)),VV.bool false,I 0,inD R,buD l,inD D] []
 else False
 else False
 else False
 else False
 else X (VEx.exit 0) [I (↑i:Int),I e,VV.bool false,I 0,inD R,buD l,inD D] []):=by kernel_rfl
def dsP4:List Nat:=[12,11,10,8,7,6,0,1,2]
def VP4 (R:List Int) (l:List Brn) (D:List Int) (e:Int) (h:Nat) (i:Nat) (s:Int):List VV:=I i::I s::I h::I e::tP R l D
theorem p4_ev (R:List Int) (l:List Brn) (D:List Int) (e:Int) (h i:Nat) (s:Int) (X:VEx->List VV->List VB->Prop):codeE Try.prog (callN Try.prog noSpec noL 10 20) (fun _=>none) true 10 (ntOf Try.prog 32) 0 (loopB 4 (bodyOf Try.prog 32)) (dsP4.zip (VP4 R l D e h i s)) ⟨0,([]:List Nat).zip []⟩ (obs 0 dsP4 [] X) =
 (bif decide ((↑i:Int)<(↑D.length:Int)) then
 bif decide ((0:Int)<=(↑i:Int)/\(↑i:Int)<(↑D.length:Int)) then
 bif decide (D.getD (↑i:Int).toNat (0:Int)<=(↑h:Int)) then
 bif decide ((0:Int)<=(↑i:Int)/\(↑i:Int)<(↑D.length:Int)) then
 bif decide ((0:Int)<=(↑i:Int)/\(↑i:Int)<(↑l.length:Int)) then
 bif inK .i64 (D.getD (↑i:Int).toNat (0:Int)+(l.getD (↑i:Int).toNat z0).hr) then
 bif decide ((↑h:Int)<D.getD (↑i:Int).toNat (0:Int)+(l.getD (↑i:Int).toNat z0).hr) then
 bif decide ((0:Int)<=(↑i:Int)/\(↑i:Int)<(↑l.length:Int)) then
 bif inK .i64 (s+(l.getD (↑i:Int).toNat z0).ht) then
 bif inK .i64 ((↑i:Int)+(1:Int)) then
 X .normal [I ((↑i:Int)+(1:Int)),I (s+(l.getD (↑i:Int).toNat z0).ht),I (↑h:Int),I e,VV.bool false,I 0,inD R,buD l,inD D] []
 else False
 else False
 else False
 else bif inK .i64 ((↑i:Int)+(1:Int)) then
 X .normal [I ((↑i:Int)+(1:Int)),I s,I (↑h:Int),I e,VV.bool false,I 0,inD R,buD l,inD D] []
 else False
 else False
 else False
 else False
 else bif inK .i64 ((↑i:Int)+(1:Int)) then
 X .normal [I ((↑i:Int)+(1:Int)),I s,I (↑h:Int),I e,VV.bool false,I 0,inD R,buD l,inD D] []
 else False
 else False
 else X (VEx.exit 4) [I (↑i:Int),I s,I (↑h:Int),I e,VV.bool false,I 0,inD R,buD l,inD D] []):=by kernel_rfl
def cnP (l:List Brn) (D:List Int):Prop:=D.length<=l.length/\l.length<=6/\∀ i,i<l.length->(-1099511627776<=D.getD i 0/\D.getD i 0<=1099511627776)/\(0<=(l.getD i z0).hr/\(l.getD i z0).hr<=1099511627776)/\0<=(l.getD i z0).ht/\(l.getD i z0).ht<=1099511627776
def lP4 (R:List Int) (l:List Brn) (D:List Int) (e:Int):LT:=fun lock tt h K=>
 ∃ q:Nat,FitP lock h tt ⟨0,([]:List Nat).zip []⟩ (dsP4.zip (VP4 R l D e q 0 0))/\cnP l D/\K .normal (dsP4.zip (VP4 R l D e q D.length (useF l D q D.length))) ⟨0,([]:List Nat).zip []⟩
def dsP2:List Nat:=[10,8,7,6,0,1,2]
def VP2 (R:List Int) (l:List Brn) (D:List Int) (e:Int) (h:Nat):List VV:=I h::I e::tP R l D
theorem p2_ev (R:List Int) (l:List Brn) (D:List Int) (e:Int) (h:Nat) (X:VEx->List VV->List VB->Prop):codeE Try.prog (callN Try.prog noSpec noL 10 20) (tabB [(4,lP4 R l D e)]) true 10 (ntOf Try.prog 32) 0 (loopB 2 (bodyOf Try.prog 32)) (dsP2.zip (VP2 R l D e h)) ⟨0,([]:List Nat).zip []⟩ (obs 0 dsP2 [] X) =
 (bif decide ((↑h:Int)<(↑R.length:Int)) then
 ∃ (q:Nat),FitP 0 (VH.mk 0 ([].zip [])) ((12,I 0)::(11,I 0)::(34,VV.bool true)::(34,VV.bool (decide ((↑h:Int)<(↑R.length:Int))))::(33,I (↑R.length:Int))::(32,inD R)::(31,I (↑h:Int))::dsP2.zip (VP2 R l D e h)) (VH.mk 0 ([].zip [])) (dsP4.zip (VP4 R l D e q 0 (0:Int)))/\cnP l D/\bif decide ((0:Int)<=(↑q:Int)/\(↑q:Int)<(↑R.length:Int)) then
 bif decide (useF l D (↑q:Int) D.length > R.getD (↑q:Int).toNat (0:Int)) then
 X VEx.ret [I (↑q:Int),I e,VV.bool false,I 0,inD R,buD l,inD D] []
 else bif inK .i64 ((↑q:Int)+(1:Int)) then
 X .normal [I ((↑q:Int)+(1:Int)),I e,VV.bool false,I 0,inD R,buD l,inD D] []
 else False
 else False
 else X (VEx.exit 2) [I (↑h:Int),I e,VV.bool false,I 0,inD R,buD l,inD D] []):=by kernel_rfl
def lP0 (R:List Int) (l:List Brn) (D:List Int):LT:=fun lock tt h K=>
 FitP lock h tt ⟨0,([]:List Nat).zip []⟩ (dsP0.zip (VP0 R l D 0 0))/\cnP l D/\K .normal (dsP0.zip (VP0 R l D D.length (endF l D D.length))) ⟨0,([]:List Nat).zip []⟩
def lP2 (R:List Int) (l:List Brn) (D:List Int) (e:Int):LT:=fun lock tt h K=>
 FitP lock h tt ⟨0,([]:List Nat).zip []⟩ (dsP2.zip (VP2 R l D e 0))/\(cnP l D/\R.length<=100000)/\(okP R l D=true->K .normal (dsP2.zip (VP2 R l D e R.length)) ⟨0,([]:List Nat).zip []⟩)/\(okP R l D=false->∀ h:Nat,K .ret (dsP2.zip (VP2 R l D e h)) ⟨0,([]:List Nat).zip []⟩)
theorem pf_ev (R:List Int) (l:List Brn) (D:List Int) (Q:VRes->Prop):callN Try.prog noSpec (atF 32 [(0,lP0 R l D),(2,lP2 R l D (endF l D D.length))]) 10 20 0 (.fn 32) [inD R,buD l,inD D] ⟨0,[]⟩ (fun r _=>Q r) =
 (FitP 0 (VH.mk 0 ([].zip [])) (dsP0.zip (VP0 R l D 0 (0:Int))) (VH.mk 0 ([].zip [])) (dsP0.zip (VP0 R l D 0 (0:Int)))/\cnP l D/\FitP 0 (VH.mk 0 ([].zip [])) (dsP2.zip (VP2 R l D (endF l D D.length) 0)) (VH.mk 0 ([].zip [])) (dsP2.zip (VP2 R l D (endF l D D.length) 0))/\(cnP l D/\R.length<=100000)/\(okP R l D=true->Q (VRes.ret (VV.tup [I (endF l D D.length),VV.bool true])))/\(okP R l D=false->∀ (h:Nat),Q (VRes.ret (VV.tup [I 0,VV.bool false])))):=by kernel_rfl
def plR (R:List Int) (l:List Brn):FuncId × Spec1:=(32,fun _ args h K=>match args with
 | [x,y,z]=>isD h 3 x (inD R)/\isD h 3 y (buD l)/\∃ D:List Int,isD h 3 z (inD D)/\(cnP l D/\R.length<=100000)/\∀ (b:Bool) (e:Int),b=okP R l D->e=(if okP R l D=true then endF l D D.length else 0)->K (.ret (.tup [I e,.bool b])) h
 | _=>False)
def ddG (L:List (List Int)) (j:Nat):List VV:=[inD (L.getD j [])]
def ddB (L:List (List Int)):VB:=.vec L.length (ddG L) 1 33
def plsF (R:List Int) (l:List Brn) (k:Nat) (D:List Int):List (List Int):=if okP R l D then plansF R l k D else []
def cnS (R:List Int) (l:List Brn) (k:Nat) (D:List Int) (L:List (List Int)):Prop:=D.length+k=l.length/\dvB l D/\L.length+10 ^ k<=100000
def psR (R:List Int) (l:List Brn) (k:Nat):FuncId × Spec1:=(47,fun lock args h K=>match args with
 | [x,y,.sl p Lb,.sl m Ld]=>x=inD R/\y=buD l/\∃ (D:List Int) (L:List (List Int)),cnS R l k D L/\(Lb=D.length/\Ld=L.length/\p ≠ m/\lock<=p/\lock<=m)/\(∃ (g:Nat->List VV) (t:TypeId),h.at p=.vec Lb g 1 t/\∀ j,j<D.length->g j=dG D j)/\h.at m=.vec Ld (ddG L) 1 33 /\
   ∀ L':List (List Int),L'=L ++ plsF R l k D->K (.ret (.sl m L'.length)) ((⟨h.nx,(p,.gone)::h.bs⟩:VH).put m (ddB L'))
 | _=>False)
def dsQ:List Nat:=[12,11,8,0,1,2,3]
def VQ (R:List Int) (l:List Brn) (D:List Int) (s:Int) (N:Nat):List VV:=[I s,.ptr (.own 1 0),.nils,inD R,buD l,inD D,.sl 0 N]
def BQ (x:Brn) (L:List (List Int)):List VB:=[ddB L,.cells (buL x) 67]
theorem q_ev (R:List Int) (l:List Brn) (k:Nat) (D:List Int) (x:Brn) (s:Int) (L:List (List Int)) (X:VEx->List VV->List VB->Prop):codeE Try.prog (callN Try.prog (tabS [psR R l k]) noL 10 20) (fun _=>none) true 10 (ntOf Try.prog 47) 0 (loopB 0 (bodyOf Try.prog 47)) (dsQ.zip (VQ R l D s L.length)) ⟨2,[0,1].zip (BQ x L)⟩ (obs 2 dsQ [0,1] X) =
 (bif inK .i64 (x.du - x.hr) then
 bif decide (s<=x.du - x.hr) then
 bif roomB (0+D.length) (8) then
 bif (0+D.length).beq (0+D.length) then
 bif roomB (0+D.length+1) (8) then
 inD R=inD R/\buD l=buD l/\∃ (D_1:List Int),∃ (L_1:List (List Int)),cnS R l k D_1 L_1/\(0+D.length+1=D_1.length/\L.length=L_1.length/\2 ≠ 0/\0<=2/\0<=0)/\(∃ (g:Nat->List VV),∃ (t:TypeId),(VH.mk (4) ((2,VB.vec (0+D.length+1) (catG (0+D.length) (catG 0 (fun (j:Nat)=>List.take (1) (List.drop (j*(1)) [])) (dG D)) fun (j:Nat)=>List.take (1) (List.drop (j*(1)) [I s])) (1) 3)::(3,VB.vec 1 (fun (j:Nat)=>List.take (1) (List.drop (j*(1)) [I s])) (1) 3)::(2,VB.vec (0+D.length) (catG 0 (fun (j:Nat)=>List.take (1) (List.drop (j*(1)) [])) (dG D)) (1) 3)::(2,VB.vec 0 (fun (j:Nat)=>List.take (1) (List.drop (j*(1)) [])) (1) 3)::[0,1].zip (BQ x L))).at (2)=VB.vec (0+D.length+1) g 1 t/\∀ (j:Nat),j<D_1.length->g j=dG D_1 j)/\(VH.mk (4) ((2,VB.vec (0+D.length+1) (catG (0+D.length) (catG 0 (fun (j:Nat)=>List.take (1) (List.drop (j*(1)) [])) (dG D)) fun (j:Nat)=>List.take (1) (List.drop (j*(1)) [I s])) (1) 3)::(3,VB.vec 1 (fun (j:Nat)=>List.take (1) (List.drop (j*(1)) [I s])) (1) 3)::(2,VB.vec (0+D.length) (catG 0 (fun (j:Nat)=>List.take (1) (List.drop (j*(1)) [])) (dG D)) (1) 3)::(2,VB.vec 0 (fun (j:Nat)=>List.take (1) (List.drop (j*(1)) [])) (1) 3)::[0,1].zip (BQ x L))).at 0=VB.vec L.length (ddG L_1) 1 (33:TypeId)/\∀ (L':List (List Int)),L'=L_1 ++ plsF R l k D_1->bif inK .i64 (s+(1:Int)) then
 X .normal [I (s+(1:Int)),VV.ptr (VA.own 1 0),VV.nils,inD R,buD l,inD D,VV.sl 0 L'.length] [VB.vec L'.length (ddG L') 1 (33:TypeId),VB.cells [I x.rd,I x.du,I x.hr,I x.ht] (67:TypeId)]
 else False
 else False
 else False
 else False
 else X (VEx.exit 0) [I s,VV.ptr (VA.own 1 0),VV.nils,inD R,buD l,inD D,VV.sl 0 L.length] [VB.vec L.length (ddG L) 1 (33:TypeId),VB.cells [I x.rd,I x.du,I x.hr,I x.ht] (67:TypeId)]
 else False):=by kernel_rfl
def lQ (R:List Int) (l:List Brn) (k:Nat) (D:List Int) (L L':List (List Int)):LT:=fun lock tt h K=>
 FitP lock h tt ⟨2,[0,1].zip (BQ (l.getD D.length z0) L)⟩ (dsQ.zip (VQ R l D (l.getD D.length z0).rd L.length))/\L'=L ++ plansF R l (k+1) D/\∀ s:Int,K .normal (dsQ.zip (VQ R l D s L'.length)) ⟨2,[0,1].zip (BQ (l.getD D.length z0) L')⟩
theorem qf_ev (R:List Int) (l:List Brn) (k:Nat) (D:List Int) (L L':List (List Int)) (Q:VRes->VH->Prop):callN Try.prog (tabS [plR R l]) (atF 47 [(0,lQ R l k D L L')]) 10 20 0 (.fn 47) [inD R,buD l,inD D,.sl 0 L.length] ⟨1,[(0,ddB L)]⟩ (fun r h=>Q r h) =
 (isD (VH.mk 1 [(0,ddB L)]) 3 (inD R) (inD R)/\isD (VH.mk 1 [(0,ddB L)]) 3 (buD l) (buD l)/\∃ (D_1:List Int),isD (VH.mk 1 [(0,ddB L)]) 3 (inD D) (inD D_1)/\(cnP l D_1/\R.length<=100000)/\∀ (b:Bool) (e:Int),b=okP R l D_1->(e=if okP R l D_1=true then
 endF l D_1 D_1.length
 else (0:Int))->bif !b then
 Q (VRes.ret (VV.sl 0 L.length)) (VH.mk 1 [(0,VB.vec L.length (ddG L) 1 (33:TypeId))])
 else bif decide ((↑D.length:Int)=(↑l.length:Int)) then
 bif L.length.beq L.length then
 bif roomB (L.length+1) (24) then
 Q (VRes.ret (VV.sl 0 (L.length+1))) (VH.mk (2) [(0,VB.vec (L.length+1) (catG L.length (ddG L) fun (j:Nat)=>List.take (1) (List.drop (j*(1)) [inD D])) (1) 33),(1,VB.vec 1 (fun (j:Nat)=>List.take (1) (List.drop (j*(1)) [inD D])) (1) 33),(0,VB.vec L.length (ddG L) 1 (33:TypeId))])
 else False
 else False
 else bif decide ((0:Int)<=(↑D.length:Int)/\(↑D.length:Int)<(↑l.length:Int)) then
 FitP 0 (VH.mk 2 ([0,1].zip (BQ (l.getD D.length z0) L))) (dsQ.zip (VQ R l D (l.getD D.length z0).rd L.length)) (VH.mk 2 ([0,1].zip (BQ (l.getD D.length z0) L))) (dsQ.zip (VQ R l D (l.getD D.length z0).rd L.length))/\L'=L ++ plansF R l (k+1) D/\∀ (s:Int),Q (VRes.ret (VV.sl 0 L'.length)) (VH.mk 2 [(0,VB.vec L'.length (ddG L') 1 (33:TypeId)),(1,VB.cells [I (l.getD D.length z0).rd,I (l.getD D.length z0).du,I (l.getD D.length z0).hr,I (l.getD D.length z0).ht] (67:TypeId))])
 else False):=by kernel_rfl
theorem qz_ev (R:List Int) (l:List Brn) (D:List Int) (L:List (List Int)) (Q:VRes->VH->Prop):callN Try.prog (tabS [plR R l]) (atF 47 [(0,lZ)]) 10 20 0 (.fn 47) [inD R,buD l,inD D,.sl 0 L.length] ⟨1,[(0,ddB L)]⟩ (fun r h=>Q r h) =
 (isD (VH.mk 1 [(0,ddB L)]) 3 (inD R) (inD R)/\isD (VH.mk 1 [(0,ddB L)]) 3 (buD l) (buD l)/\∃ (D_1:List Int),isD (VH.mk 1 [(0,ddB L)]) 3 (inD D) (inD D_1)/\(cnP l D_1/\R.length<=100000)/\∀ (b:Bool) (e:Int),b=okP R l D_1->(e=if okP R l D_1=true then
 endF l D_1 D_1.length
 else (0:Int))->bif !b then
 Q (VRes.ret (VV.sl 0 L.length)) (VH.mk 1 [(0,VB.vec L.length (ddG L) 1 (33:TypeId))])
 else bif decide ((↑D.length:Int)=(↑l.length:Int)) then
 bif L.length.beq L.length then
 bif roomB (L.length+1) (24) then
 Q (VRes.ret (VV.sl 0 (L.length+1))) (VH.mk (2) [(0,VB.vec (L.length+1) (catG L.length (ddG L) fun (j:Nat)=>List.take (1) (List.drop (j*(1)) [inD D])) (1) 33),(1,VB.vec 1 (fun (j:Nat)=>List.take (1) (List.drop (j*(1)) [inD D])) (1) 33),(0,VB.vec L.length (ddG L) 1 (33:TypeId))])
 else False
 else False
 else bif decide ((0:Int)<=(↑D.length:Int)/\(↑D.length:Int)<(↑l.length:Int)) then
 False
 else False):=by kernel_rfl
def psW (R:List Int) (l:List Brn):FuncId × Spec1:=(47,fun _ args h K=>match args with
 | [x,y,.nils,.nils]=>x=inD R/\y=buD l/\(lsB R.length l/\R.length<=10/\l.length<=4/\rmB R)/\∀ L:List (List Int),L=plansF R l l.length []->K (.ret (.tl L.length 1 (ddG L))) h
 | _=>False)
def dsRU:List Nat:=[9,8,7,6,5,4,0,1]
def lsI (l:List Brn):Option (List Int)->Int
 | none=>-1
 | some B=>endF l B B.length
def VRU (R:List Int) (l:List Brn) (L:List (List Int)) (i:Nat) (e:Int) (B:List Int):List VV:=[I i,I e,inD B,.tl L.length 1 (ddG L),I 0,.nils,inD R,buD l]
theorem ru2_ev (R:List Int) (l:List Brn) (L:List (List Int)) (i:Nat) (e:Int) (B:List Int) (X:VEx->List VV->List VB->Prop):codeE Try.prog (callN Try.prog (tabS [plR R l]) noL 10 20) (fun _=>none) true 10 (ntOf Try.prog 22) 0 (loopB 0 (bodyOf Try.prog 22)) (dsRU.zip (VRU R l L i e B)) ⟨0,([]:List Nat).zip []⟩ (obs 0 dsRU [] X) =
 (bif decide ((↑i:Int)<(↑L.length:Int)) then
 bif decide ((0:Int)<=(↑i:Int)/\(↑i:Int)<(↑L.length:Int)) then
 isD (VH.mk 0 ([].zip [])) 3 (inD R) (inD R)/\isD (VH.mk 0 ([].zip [])) 3 (buD l) (buD l)/\∃ (D:List Int),isD (VH.mk 0 ([].zip [])) 3 (VV.tl (L.getD (↑i:Int).toNat []).length 1 (dG (L.getD (↑i:Int).toNat []))) (inD D)/\(cnP l D/\R.length<=100000)/\∀ (b:Bool) (e_1:Int),b=okP R l D->(e_1=if okP R l D=true then
 endF l D D.length
 else (0:Int))->bif decide (e<(0:Int)) then
 bif decide ((0:Int)<=(↑i:Int)/\(↑i:Int)<(↑L.length:Int)) then
 bif inK .i64 ((↑i:Int)+(1:Int)) then
 X .normal [I ((↑i:Int)+(1:Int)),I e_1,VV.tl (L.getD (↑i:Int).toNat []).length 1 (dG (L.getD (↑i:Int).toNat [])),VV.tl L.length 1 (ddG L),I 0,VV.nils,inD R,buD l] []
 else False
 else False
 else bif decide (e_1<e) then
 bif decide ((0:Int)<=(↑i:Int)/\(↑i:Int)<(↑L.length:Int)) then
 bif inK .i64 ((↑i:Int)+(1:Int)) then
 X .normal [I ((↑i:Int)+(1:Int)),I e_1,VV.tl (L.getD (↑i:Int).toNat []).length 1 (dG (L.getD (↑i:Int).toNat [])),VV.tl L.length 1 (ddG L),I 0,VV.nils,inD R,buD l] []
 else False
 else False
 else bif inK .i64 ((↑i:Int)+(1:Int)) then
 X .normal [I ((↑i:Int)+(1:Int)),I e,VV.tl B.length 1 (dG B),VV.tl L.length 1 (ddG L),I 0,VV.nils,inD R,buD l] []
 else False
 else False
 else X (VEx.exit 0) [I (↑i:Int),I e,VV.tl B.length 1 (dG B),VV.tl L.length 1 (ddG L),I 0,VV.nils,inD R,buD l] []):=by kernel_rfl
def lRU (R:List Int) (l:List Brn):LT:=fun lock tt h K=>
 ∃ L:List (List Int),FitP lock h tt ⟨0,([]:List Nat).zip []⟩ (dsRU.zip (I 0::I (-1)::.nils::(VRU R l L 0 0 []).drop 3))/\(L=plansF R l l.length []/\lsB R.length l/\R.length<=10/\l.length<=4/\rmB R)/\∀ st:Option (List Int),st=bestR R l->K .normal (dsRU.zip (VRU R l L L.length (lsI l st) (st.getD []))) ⟨0,([]:List Nat).zip []⟩
def rmR (R:List Int):FuncId × Spec1:=(30,fun _ args h K=>match args with
 | [x]=>isD h 3 x (inD R)/\R.length<=100000/\K (.ret (.bool (!anyRm R && decide (R.length<=168)))) h
 | _=>False)
def brR (R:List Int) (l:List Brn):FuncId × Spec1:=(31,fun _ args h K=>match args with
 | [.int .i64 n,y]=>n=R.length/\isD h 3 y (buD l)/\(R.length<=100000/\l.length<=100000)/\K (.ret (.bool (!anyBr l R && decide (l.length<=6)))) h
 | _=>False)
theorem ruf_ev (R:List Int) (l:List Brn) (Q:VRes->Prop):callN Try.prog (tabS [rmR R,brR R l,psW R l]) (atF 22 [(0,lRU R l)]) 10 20 0 (.fn 22) [inD R,buD l] ⟨0,[]⟩ (fun r _=>Q r) =
 (isD (VH.mk 0 []) 3 (inD R) (inD R)/\R.length<=100000/\bif !(!anyRm R && decide (R.length<=168)) then
 Q (VRes.ret (VV.tup [VV.nils,I 1]))
 else (↑R.length:Int)=(↑R.length:Int)/\isD (VH.mk 0 []) 3 (buD l) (buD l)/\(R.length<=100000/\l.length<=100000)/\bif !(!anyBr l R && decide (l.length<=6)) then
 Q (VRes.ret (VV.tup [VV.nils,I 1]))
 else inD R=inD R/\buD l=buD l/\(lsB R.length l/\R.length<=10/\l.length<=4/\rmB R)/\∀ (L:List (List Int)),L=plansF R l l.length []->∃ (L_1:List (List Int)),FitP 0 (VH.mk 0 []) [(9,I 0),(8,I (-1)),(7,VV.nils),(6,VV.tl L.length 1 (ddG L)),(24,VV.tl L.length 1 (ddG L)),(23,buD l),(22,inD R),(21,VV.bool false),(21,VV.bool !(!anyBr l R && decide (l.length<=6))),(20,VV.bool !(!anyBr l R && decide (l.length<=6))),(15,VV.bool false),(19,VV.bool (!anyBr l R && decide (l.length<=6))),(15,VV.bool false),(18,buD l),(15,VV.bool false),(17,I (↑R.length:Int)),(15,VV.bool false),(16,inD R),(15,VV.bool false),(15,VV.bool !(!anyRm R && decide (R.length<=168))),(14,VV.bool !(!anyRm R && decide (R.length<=168))),(13,VV.bool (!anyRm R && decide (R.length<=168))),(12,inD R),(5,I 0),(4,VV.nils),(0,inD R),(1,buD l)] (VH.mk 0 ([].zip [])) (dsRU.zip (I 0::I (-1)::VV.nils::List.drop 3 (VRU R l L_1 0 (0:Int) [])))/\(L_1=plansF R l l.length []/\lsB R.length l/\R.length<=10/\l.length<=4/\rmB R)/\∀ (st:Option (List Int)),st=bestR R l->bif decide (lsI l st<(0:Int)) then
 Q (VRes.ret (VV.tup [VV.nils,I 4]))
 else Q (VRes.ret (VV.tup [VV.tl (st.getD []).length 1 (dG (st.getD [])),I 0]))):=by kernel_rfl
end Go.Sx.Srn
namespace Go.Sx.Srn
open Go Go.Sx Go.Proofs
set_option maxRecDepth 1000000
section
variable {R:List Int} {l:List Brn} {D:List Int}
theorem anyRm_iff:anyRm R=true ↔ ∃ i,i<R.length/\okRm (R.getD i 0)=false:=by
 unfold anyRm
 rw [List.any_eq_true]
 constructor
 ·rintro ⟨i,h1,h2⟩
  exact ⟨i,List.mem_range.1 h1,by unfold qRm at h2; simpa using h2⟩
 ·rintro ⟨i,h1,h2⟩
  exact ⟨i,List.mem_range.2 h1,by unfold qRm; simpa using h2⟩
theorem anyBr_iff:anyBr l R=true ↔ ∃ i,i<l.length/\okBr R.length (l.getD i z0)=false:=by
 unfold anyBr
 rw [List.any_eq_true]
 constructor
 ·rintro ⟨i,h1,h2⟩
  exact ⟨i,List.mem_range.1 h1,by unfold qBr at h2; simpa using h2⟩
 ·rintro ⟨i,h1,h2⟩
  exact ⟨i,List.mem_range.2 h1,by unfold qBr; simpa using h2⟩
def ORR (R:List Int) (_:Nat) (e:VEx) (vs:List VV) (bs:List VB):Prop:=bs=[]/\((e=.exit 0/\anyRm R=false/\vs=VRR R R.length) ∨ (e=.ret/\anyRm R=true/\∃ i:Nat,vs=VRR R i))
theorem lRR_ok:LSound Try.prog true (.block 0 (.loop (loopB 0 (bodyOf Try.prog 30)))) (ntOf Try.prog 30) (lRR R):=by
 by_cases hn:R.length<=100000
 ·refine loop_row hmix good0 (un:=10) (ds:=dsRR) (ns:=[]) (nx:=0) (fun i:Nat=>VRR R i) (fun _=>[]) (fun i=>i<=R.length/\∀ j,j<i->okRm (R.getD j 0)=true) (fun i=>R.length - i) (ORR R) noL_ok ?_ ?_
  ·rintro i ⟨h0,h1⟩
   refine cast (rr_ev R i _).symm ?_
   rw [show (i:Int).toNat=i by omega]
   refine cond_d (fun hi=>?_) (fun hi=>?_)
   ·have bad:okRm (R.getD i 0)=false->RoundQ (fun i:Nat=>VRR R i) (fun _=>[]) (fun i=>i<=R.length/\∀ j,j<i->okRm (R.getD j 0)=true) (fun i=>R.length - i) (ORR R) i .ret (VRR R i) []:=fun h=>⟨rfl,.inr ⟨rfl,anyRm_iff.2 ⟨i,by omega,h⟩,i,rfl⟩⟩
    refine cond_dk ⟨by omega,by omega⟩ (cond_d (fun g1=>cond_nd (fun g2=>bad ?_) (fun g2=>cond_r (by omega) ⟨i+1,⟨by omega,fun j hj=>?_⟩,by dsimp only; omega,rfl,trivial,fun _ _ _ h=>h⟩)) (fun g1=>bad ?_))
    ·unfold okRm; rw [decide_eq_false (by omega)]
    ·by_cases e:j=i
     ·subst e; unfold okRm; rw [decide_eq_true ⟨g1,g2⟩]
     ·exact h1 j (by omega)
    ·unfold okRm; rw [decide_eq_false (by omega)]
   ·obtain rfl:i=R.length:=by omega
    refine ⟨rfl,.inl ⟨rfl,?_,rfl⟩⟩
    cases hb:anyRm R with
    | false=>rfl
    | true=>
     obtain ⟨j,g1,g2⟩:=anyRm_iff.1 hb
     rw [h1 j g1] at g2; cases g2
  ·rintro lock tt h K ⟨hf,_,k1,k2⟩
   refine ⟨0,hf,⟨Nat.zero_le _,fun j hj=>absurd hj (Nat.not_lt_zero _)⟩,?_⟩
   rintro ex vs bs ⟨rfl,⟨rfl,h1,rfl⟩ | ⟨rfl,h1,k,rfl⟩⟩
   ·exact k1 h1
   ·exact k2 k h1
 ·rintro lock tt h K ⟨hf,hc,_⟩
  exact (hn hc).elim
theorem rooms_v (hn:R.length<=100000):∃ h',CallsV Try.prog 30 [inD R] ⟨0,[]⟩ (.ret (.bool (!anyRm R && decide (R.length<=168)))) h':=by
 have hall:LoopsOk Try.prog 30 [(0,lRR R)]:=fun x hx=>by
  simp only [List.mem_singleton] at hx
  subst hx
  exact ⟨by kernel_rfl,lRR_ok⟩
 obtain ⟨r,h',rfl,hc⟩:=of_callN (callL_good hmix noSp hall (un:=10) 20) (f:=30) (args:=[inD R]) (h:=⟨0,[]⟩) (K:=fun r _=>r=.ret (.bool (!anyRm R && decide (R.length<=168)))) (by
  refine cast (rrf_ev R _).symm ⟨fitP_self rfl,hn,fun h=>?_,fun i h=>?_⟩
  ·rw [h]
   have e:decide ((R.length:Int)<=168)=decide (R.length<=168):=decide_eq_decide.2 (by omega)
   rw [e]; rfl
  ·rw [h]; rfl)
 exact ⟨h',hc⟩
theorem rmR_ok (R:List Int):SpOk Try.prog (rmR R).1 (rmR R).2:=by
 intro lock args h K hK
 simp only [rmR] at hK
 split at hK
 ·obtain ⟨h1,h2,hK⟩:=hK
  obtain ⟨h',hc⟩:=rooms_v h2
  exact ⟨_,h,hK,lockP_refl _ _,calls_lendDP 3 hc rfl ⟨h1,trivial⟩⟩
 ·exact hK.elim
def ORB (R:List Int) (l:List Brn) (_:Nat) (e:VEx) (vs:List VV) (bs:List VB):Prop:=bs=[]/\((e=.exit 0/\anyBr l R=false/\vs=VRB R l l.length) ∨ (e=.ret/\anyBr l R=true/\∃ i:Nat,vs=VRB R l i))
theorem lRB_ok:LSound Try.prog true (.block 0 (.loop (loopB 0 (bodyOf Try.prog 31)))) (ntOf Try.prog 31) (lRB R l):=by
 by_cases hn:R.length<=100000/\l.length<=100000
 ·obtain ⟨hn1,hn2⟩:=hn
  refine loop_row hmix good0 (un:=10) (ds:=dsRB) (ns:=[]) (nx:=0) (fun i:Nat=>VRB R l i) (fun _=>[]) (fun i=>i<=l.length/\∀ j,j<i->okBr R.length (l.getD j z0)=true) (fun i=>l.length - i) (ORB R l) noL_ok ?_ ?_
  ·rintro i ⟨h0,h1⟩
   refine cast (rb_ev R l i _).symm ?_
   rw [show (i:Int).toNat=i by omega]
   refine cond_d (fun hi=>?_) (fun hi=>?_)
   ·have bad:¬ (0<=(l.getD i z0).rd/\(l.getD i z0).du<=R.length/\(l.getD i z0).rd<=(l.getD i z0).du/\(1<=(l.getD i z0).hr/\(l.getD i z0).hr<=(l.getD i z0).du - (l.getD i z0).rd)/\0<=(l.getD i z0).ht/\(l.getD i z0).ht<=1099511627776)->RoundQ (fun i:Nat=>VRB R l i) (fun _=>[]) (fun i=>i<=l.length/\∀ j,j<i->okBr R.length (l.getD j z0)=true) (fun i=>l.length - i) (ORB R l) i .ret (VRB R l i) []:=fun h=>⟨rfl,.inr ⟨rfl,anyBr_iff.2 ⟨i,by omega,by unfold okBr; rw [decide_eq_false h]⟩,i,rfl⟩⟩
    refine cond_dk ⟨by omega,by omega⟩ (cond_d (fun g=>bad (by omega)) (fun g1=>cond_d (fun g=>bad (by omega)) (fun g2=>cond_d (fun g=>bad (by omega)) (fun g3=>cond_d (fun g=>bad (by omega)) (fun g4=>cond_r (by omega) (cond_d (fun g=>bad (by omega)) (fun g5=>cond_d (fun g6=>cond_nd (fun g=>bad (by omega)) (fun g7=>cond_r (by omega) ⟨i+1,⟨by omega,fun j hj=>?_⟩,by dsimp only; omega,rfl,trivial,fun _ _ _ h=>h⟩)) (fun g=>bad (by omega)))))))))
    by_cases e:j=i
    ·subst e; unfold okBr; rw [decide_eq_true (by omega)]
    ·exact h1 j (by omega)
   ·obtain rfl:i=l.length:=by omega
    refine ⟨rfl,.inl ⟨rfl,?_,rfl⟩⟩
    cases hb:anyBr l R with
    | false=>rfl
    | true=>
     obtain ⟨j,g1,g2⟩:=anyBr_iff.1 hb
     rw [h1 j g1] at g2; cases g2
  ·rintro lock tt h K ⟨hf,_,k1,k2⟩
   refine ⟨0,hf,⟨Nat.zero_le _,fun j hj=>absurd hj (Nat.not_lt_zero _)⟩,?_⟩
   rintro ex vs bs ⟨rfl,⟨rfl,h1,rfl⟩ | ⟨rfl,h1,k,rfl⟩⟩
   ·exact k1 h1
   ·exact k2 k h1
 ·rintro lock tt h K ⟨hf,hc,_⟩
  exact (hn hc).elim
theorem burners_v (hn:R.length<=100000/\l.length<=100000):∃ h',CallsV Try.prog 31 [I R.length,buD l] ⟨0,[]⟩ (.ret (.bool (!anyBr l R && decide (l.length<=6)))) h':=by
 have hall:LoopsOk Try.prog 31 [(0,lRB R l)]:=fun x hx=>by
  simp only [List.mem_singleton] at hx
  subst hx
  exact ⟨by kernel_rfl,lRB_ok⟩
 obtain ⟨r,h',rfl,hc⟩:=of_callN (callL_good hmix noSp hall (un:=10) 20) (f:=31) (args:=[I R.length,buD l]) (h:=⟨0,[]⟩) (K:=fun r _=>r=.ret (.bool (!anyBr l R && decide (l.length<=6)))) (by
  refine cast (rbf_ev R l _).symm ⟨fitP_self rfl,hn,fun h=>?_,fun i h=>?_⟩
  ·rw [h]
   have e:decide ((l.length:Int)<=6)=decide (l.length<=6):=decide_eq_decide.2 (by omega)
   rw [e]; rfl
  ·rw [h]; rfl)
 exact ⟨h',hc⟩
theorem brR_ok (R:List Int) (l:List Brn):SpOk Try.prog (brR R l).1 (brR R l).2:=by
 intro lock args h K hK
 simp only [brR] at hK
 split at hK
 ·obtain ⟨rfl,h1,h2,hK⟩:=hK
  obtain ⟨h',hc⟩:=burners_v h2
  exact ⟨_,h,hK,lockP_refl _ _,calls_lendDP 3 hc rfl ⟨⟨rfl,rfl⟩,h1,trivial⟩⟩
 ·exact hK.elim
theorem lP0_ok:LSound Try.prog true (.block 0 (.loop (loopB 0 (bodyOf Try.prog 32)))) (ntOf Try.prog 32) (lP0 R l D):=by
 by_cases hh:cnP l D
 ·obtain ⟨c1,c2,c3⟩:=hh
  refine loop_row hmix good0 (un:=10) (ds:=dsP0) (ns:=[]) (nx:=0) (fun i:Nat=>VP0 R l D i (endF l D i)) (fun _=>[]) (fun i=>i<=D.length) (fun i=>D.length - i) (fun _ e vs bs=>e=.exit 0/\bs=[]/\vs=VP0 R l D D.length (endF l D D.length)) noL_ok ?_ ?_
  ·rintro i h0
   refine cast (p0_ev R l D i (endF l D i) _).symm ?_
   rw [show (i:Int).toNat=i by omega]
   refine cond_d (fun hi=>?_) (fun hi=>?_)
   ·have:=c3 i (by omega)
    exact cond_dk ⟨by omega,by omega⟩ (cond_dk ⟨by omega,by omega⟩ (cond_r (by omega) (cond_r (by omega) ⟨i+1,by show i+1<=_; omega,by dsimp only; omega,rfl,trivial,fun _ _ _ h=>h⟩)))
   ·have h0:i<=D.length:=h0
    obtain rfl:i=D.length:=by omega
    exact ⟨rfl,rfl,rfl⟩
  ·rintro lock tt h K ⟨hf,_,k1⟩
   refine ⟨0,hf,Nat.zero_le _,?_⟩
   rintro e vs bs ⟨rfl,rfl,rfl⟩
   exact k1
 ·rintro lock tt h K ⟨hf,hc,_⟩
  exact (hh hc).elim
theorem useF_bd (hc:cnP l D) {h:Int}:∀ k:Nat,k<=l.length->0<=useF l D h k/\useF l D h k<=k*1099511627776
 | 0,_=>⟨Int.le_refl _,Int.le_refl _⟩
 | k+1,hk=>by
  have h1:=useF_bd hc (h:=h) k (by omega)
  have h2:=(hc.2.2 k (by omega)).2.2
  rw [useF_succ]
  split <;> omega
theorem lP4_ok {e:Int}:LSound Try.prog true (.block 4 (.loop (loopB 4 (bodyOf Try.prog 32)))) (ntOf Try.prog 32) (lP4 R l D e):=by
 rintro lock tt h K ⟨q,hf,hc,k1⟩
 have key:LSound Try.prog true (.block 4 (.loop (loopB 4 (bodyOf Try.prog 32)))) (ntOf Try.prog 32) (fun lock tt h K=>FitP lock h tt ⟨0,([]:List Nat).zip []⟩ (dsP4.zip (VP4 R l D e q 0 0))/\K .normal (dsP4.zip (VP4 R l D e q D.length (useF l D q D.length))) ⟨0,([]:List Nat).zip []⟩):=by
  have hc2:=hc
  obtain ⟨c1,c2,c3⟩:=hc
  refine loop_row hmix good0 (un:=10) (ds:=dsP4) (ns:=[]) (nx:=0) (fun i:Nat=>VP4 R l D e q i (useF l D q i)) (fun _=>[]) (fun i=>i<=D.length) (fun i=>D.length - i) (fun _ ex vs bs=>ex=.exit 4/\bs=[]/\vs=VP4 R l D e q D.length (useF l D q D.length)) noL_ok ?_ ?_
  ·rintro i h0
   refine cast (p4_ev R l D e q i (useF l D q i) _).symm ?_
   rw [show (i:Int).toNat=i by omega]
   have h0:i<=D.length:=h0
   have hu:=useF_bd hc2 (h:=q) i (by omega)
   refine cond_d (fun hi=>?_) (fun hi=>?_)
   ·have c4:=c3 i (by omega)
    have no:¬ (D.getD i 0<=(q:Int)/\(q:Int)<D.getD i 0+(l.getD i z0).hr)->RoundQ (fun i:Nat=>VP4 R l D e q i (useF l D q i)) (fun _=>[]) (fun i=>i<=D.length) (fun i=>D.length - i) (fun _ ex vs bs=>ex=.exit 4/\bs=[]/\vs=VP4 R l D e q D.length (useF l D q D.length)) i .normal (VP4 R l D e q (i+1) (useF l D q i)) []:=fun hno=>by
     refine ⟨i+1,by show i+1<=_; omega,by dsimp only; omega,?_,trivial,fun _ _ _ h=>h⟩
     dsimp only
     rw [useF_succ,if_neg hno,Int.add_zero]
    refine cond_dk ⟨by omega,by omega⟩ (cond_d (fun g1=>cond_dk ⟨by omega,by omega⟩ (cond_dk ⟨by omega,by omega⟩ (cond_r (by omega) (cond_d (fun g2=>cond_dk ⟨by omega,by omega⟩ (cond_r (by omega) (cond_r (by omega) ⟨i+1,by show i+1<=_; omega,by dsimp only; omega,?_,trivial,fun _ _ _ h=>h⟩))) (fun g2=>cond_r (by omega) (no (by omega))))))) (fun g1=>cond_r (by omega) (no (by omega))))
    show _=VP4 R l D e q (i+1) (useF l D q (i+1))
    rw [useF_succ,if_pos ⟨g1,g2⟩]
    rfl
   ·obtain rfl:i=D.length:=by omega
    exact ⟨rfl,rfl,rfl⟩
  ·rintro lock tt h K ⟨hf,k1⟩
   refine ⟨0,hf,Nat.zero_le _,?_⟩
   rintro ex vs bs ⟨rfl,rfl,rfl⟩
   exact k1
 exact key lock tt h K ⟨hf,k1⟩
theorem lP2_ok {e:Int}:LSound Try.prog true (.block 2 (.loop (loopB 2 (bodyOf Try.prog 32)))) (ntOf Try.prog 32) (lP2 R l D e):=by
 by_cases hh:cnP l D/\R.length<=100000
 ·obtain ⟨hc,hn⟩:=hh
  refine loop_row hmix good0 (un:=10) (lsp:=tabB [(4,lP4 R l D e)]) (ds:=dsP2) (ns:=[]) (nx:=0) (fun i:Nat=>VP2 R l D e i) (fun _=>[]) (fun i=>i<=R.length/\∀ j:Nat,j<i->useF l D j D.length<=R.getD j 0) (fun i=>R.length - i) (fun _ ex vs bs=>bs=[]/\((ex=.exit 2/\okP R l D=true/\vs=VP2 R l D e R.length) ∨ (ex=.ret/\okP R l D=false/\∃ i:Nat,vs=VP2 R l D e i))) (lsp_many (fun x hx=>by
   simp only [List.mem_singleton] at hx
   subst hx
   exact ⟨_,by kernel_rfl,lP4_ok⟩)) ?_ ?_
  ·rintro i ⟨h0,h1⟩
   refine cast (p2_ev R l D e i _).symm ?_
   refine cond_d (fun hi=>?_) (fun hi=>?_)
   ·refine ⟨i,⟨⟨rfl,rfl,trivial⟩,rfl,rfl,rfl,rfl,rfl,rfl,rfl,rfl,rfl,trivial⟩,hc,?_⟩
    rw [show (i:Int).toNat=i by omega]
    refine cond_dk ⟨by omega,by omega⟩ (cond_d (fun g=>⟨rfl,.inr ⟨rfl,?_,i,rfl⟩⟩) (fun g=>cond_r (by omega) ⟨i+1,⟨by omega,fun j hj=>?_⟩,by dsimp only; omega,rfl,trivial,fun _ _ _ h=>h⟩))
    ·cases hb:okP R l D with
     | false=>rfl
     | true=>
      have:=okP_iff.1 hb i (by omega)
      omega
    ·by_cases e:j=i
     ·subst e; omega
     ·exact h1 j (by omega)
   ·obtain rfl:i=R.length:=by omega
    exact ⟨rfl,.inl ⟨rfl,okP_iff.2 h1,rfl⟩⟩
  ·rintro lock tt h K ⟨hf,_,k1,k2⟩
   refine ⟨0,hf,⟨Nat.zero_le _,fun j hj=>absurd hj (Nat.not_lt_zero _)⟩,?_⟩
   rintro ex vs bs ⟨rfl,⟨rfl,h1,rfl⟩ | ⟨rfl,h1,k,rfl⟩⟩
   ·exact k1 h1
   ·exact k2 h1 k
 ·rintro lock tt h K ⟨hf,hc,_⟩
  exact (hh hc).elim
theorem plan_v (hc:cnP l D) (hn:R.length<=100000):∃ h',CallsV Try.prog 32 [inD R,buD l,inD D] ⟨0,[]⟩ (.ret (.tup [I (if okP R l D=true then endF l D D.length else 0),.bool (okP R l D)])) h':=by
 have hall:LoopsOk Try.prog 32 [(0,lP0 R l D),(2,lP2 R l D (endF l D D.length))]:=fun x hx=>by
  simp only [List.mem_cons,List.not_mem_nil,or_false] at hx
  rcases hx with rfl | rfl
  ·exact ⟨by kernel_rfl,lP0_ok⟩
  ·exact ⟨by kernel_rfl,lP2_ok⟩
 obtain ⟨r,h',rfl,hcc⟩:=of_callN (callL_good hmix noSp hall (un:=10) 20) (f:=32) (args:=[inD R,buD l,inD D]) (h:=⟨0,[]⟩) (K:=fun r _=>r=.ret (.tup [I (if okP R l D=true then endF l D D.length else 0),.bool (okP R l D)])) (by
  refine cast (pf_ev R l D _).symm ⟨fitP_self rfl,hc,fitP_self rfl,⟨hc,hn⟩,fun h=>?_,fun h _=>?_⟩
  ·rw [h,if_pos rfl]
  ·rw [h,if_neg (by simp)])
 exact ⟨h',hcc⟩
theorem plR_ok (R:List Int) (l:List Brn):SpOk Try.prog (plR R l).1 (plR R l).2:=by
 intro lock args h K hK
 simp only [plR] at hK
 split at hK
 ·obtain ⟨h1,h2,D,h3,⟨hc,hn⟩,hK⟩:=hK
  obtain ⟨h',hv⟩:=plan_v hc hn
  exact ⟨_,h,hK _ _ rfl rfl,lockP_refl _ _,calls_lendDP 3 hv rfl ⟨h1,h2,h3,trivial⟩⟩
 ·exact hK.elim
end
end Go.Sx.Srn
namespace Go.Sx.Srn
open Go Go.Sx Go.Proofs
set_option maxRecDepth 1000000
section
variable {R:List Int} {l:List Brn} {D E:List Int}
theorem plansF_good {n:Nat} (hl:lsB n l):∀ {m:Nat} {D E:List Int},D.length+m=l.length->okP R l D=true->dvB l D->E ∈ plansF R l m D->okP R l E=true/\dvB l E
 | 0,D,E,_,ho,hd,h=>by
  have h:E ∈ [D]:=h
  rw [List.mem_singleton] at h
  subst h
  exact ⟨ho,hd⟩
 | m+1,D,E,hm,ho,hd,h=>by
  unfold plansF at h
  rw [List.mem_flatMap] at h
  obtain ⟨k,hk,h⟩:=h
  have hk:=List.mem_range.1 hk
  split at h
  ·rename_i hok
   unfold nSt at hk
   refine plansF_good hl (by rw [List.length_append,List.length_singleton]; omega) hok (dvB_snoc hd (by omega) (by omega)) h
  ·cases h
theorem plansF_len (hs:∀ i,i<l.length->nSt (l.getD i z0)<=10):∀ {m:Nat} {D:List Int},D.length+m=l.length->(plansF R l m D).length<=10 ^ m
 | 0,_,_=>Nat.le_refl _
 | m+1,D,hm=>by
  rw [preP_all]
  have key:∀ k,(preP R l m D k).length<=k*10 ^ m:=fun k=>by
   induction k with
   | zero=>exact Nat.zero_le _
   | succ k ih=>
    rw [preP_succ,List.length_append,Nat.succ_mul]
    have:(rowP R l m D k).length<=10 ^ m:=by
     unfold rowP
     split
     ·exact plansF_len hs (by rw [List.length_append,List.length_singleton]; omega)
     ·exact Nat.zero_le _
    omega
  have h1:=key (nSt (l.getD D.length z0))
  have h2:=hs D.length (by omega)
  have h3:=Nat.mul_le_mul_right (10 ^ m) h2
  rw [Nat.pow_succ]
  omega
theorem dvB_cnP {n:Nat} (hl:lsB n l) (hn:n<=100000) (hD:D.length<=l.length) (hd:dvB l D):cnP l D:=by
 refine ⟨hD,hl.1,fun i hi=>?_⟩
 have h:=hl.2 i hi
 unfold brB at h
 refine ⟨?_,by omega,by omega⟩
 by_cases hiD:i<D.length
 ·have:=hd i hiD
  omega
 ·rw [List.getD_eq_getElem?_getD,List.getElem?_eq_none (by omega)]
  exact ⟨by decide,by decide⟩
theorem fit_dd {L:List (List Int)}:(ddB (L ++ [D])).fit (.vec (L.length+1) (catG L.length (ddG L) fun j=>List.take 1 (List.drop (j*1) [inD D])) 1 33):=by
 refine ⟨by simp,rfl,rfl,fun j hj=>?_⟩
 rw [List.length_append,List.length_singleton] at hj
 by_cases hjk:j<L.length
 ·rw [catG_lt hjk]
  unfold ddG
  rw [getD_snoc_lt hjk]
 ·obtain rfl:j=L.length:=by omega
  rw [catG_ge (Nat.le_refl _),Nat.sub_self]
  unfold ddG
  rw [getD_snoc_eq]
  rfl
theorem cat_b {s:Int} {G:Nat->List VV}:∀ j,j<(D ++ [s]).length->catG (0+D.length) (catG 0 G (dG D)) (fun j=>List.take 1 (List.drop (j*1) [I s])) j=dG (D ++ [s]) j:=by
 intro j hj
 rw [List.length_append,List.length_singleton] at hj
 by_cases h:j<D.length
 ·rw [catG_lt (by omega),catG_ge (Nat.zero_le _),Nat.sub_zero]
  unfold dG
  rw [getD_snoc_lt h]
 ·obtain rfl:j=D.length:=by omega
  rw [catG_ge (by omega),show D.length - (0+D.length)=0 by omega]
  unfold dG
  rw [getD_snoc_eq]
  rfl
structure SQ where
 i:Nat
 L:List (List Int)
theorem lQ_ok {n k:Nat} {L0 L':List (List Int)} (hl:lsB n l) (hn:n<=100000) (hs:∀ i,i<l.length->nSt (l.getD i z0)<=10) (hm:D.length+(k+1)=l.length) (hd:dvB l D) (hL:L0.length+10 ^ (k+1)<=100000) (hR:SpOk Try.prog (psR R l k).1 (psR R l k).2):LSound Try.prog true (.block 0 (.loop (loopB 0 (bodyOf Try.prog 47)))) (ntOf Try.prog 47) (lQ R l k D L0 L'):=by
 have hx:=hl.2 D.length (by omega)
 obtain ⟨x1,x2,x3,⟨x4,x5⟩,x6,x7⟩:=hx
 have hN:(nSt (l.getD D.length z0):Int)=(l.getD D.length z0).du - (l.getD D.length z0).hr - (l.getD D.length z0).rd+1:=by unfold nSt; omega
 have hN10:=hs D.length (by omega)
 have hD6:=hl.1
 refine loop_row hmix (noL_good (tab1 hR)) (un:=10) (ds:=dsQ) (ns:=[0,1]) (nx:=2) (fun s:SQ=>VQ R l D ((l.getD D.length z0).rd+s.i) s.L.length) (fun s=>BQ (l.getD D.length z0) s.L) (fun s=>s.i<=nSt (l.getD D.length z0)/\s.L=L0 ++ preP R l k D s.i/\s.L.length+(nSt (l.getD D.length z0) - s.i)*10 ^ k<=100000) (fun s=>nSt (l.getD D.length z0) - s.i) (fun _ e vs bs=>e=.exit 0/\∃ s:Int,vs=VQ R l D s (L0 ++ plansF R l (k+1) D).length/\bs=BQ (l.getD D.length z0) (L0 ++ plansF R l (k+1) D)) noL_ok ?_ ?_
 ·rintro ⟨i,L⟩ ⟨h0,h1,h2⟩
  dsimp only at h0 h1 h2 ⊢
  refine cast (q_ev R l k D _ ((l.getD D.length z0).rd+i) L _).symm ?_
  generalize hs2:(l.getD D.length z0).rd+(i:Int)=s
  refine cond_r (by omega) (cond_d (fun hle=>?_) (fun hle=>?_))
  ·have hlt:i<nSt (l.getD D.length z0):=by omega
   have hpow:0<10 ^ k:=Nat.pow_pos (by omega)
   have hmul:(nSt (l.getD D.length z0) - i)*10 ^ k=(nSt (l.getD D.length z0) - (i+1))*10 ^ k+10 ^ k:=by
    rw [<- Nat.succ_mul]
    congr 1
    omega
   have hlen:(D ++ [s]).length=D.length+1:=by rw [List.length_append]; rfl
   have hpl:(plsF R l k (D ++ [s])).length<=10 ^ k:=by
    unfold plsF
    split
    ·exact plansF_len hs (by rw [hlen]; omega)
    ·exact Nat.zero_le _
   have hrow:plsF R l k (D ++ [s])=rowP R l k D i:=by
    unfold plsF rowP
    rw [hs2]
   refine cond_k (room8 (by omega)) (cond_k (Nat.beq_refl _) (cond_k (room8 (by omega)) ⟨rfl,rfl,D ++ [s],L,⟨by rw [hlen]; omega,dvB_snoc hd (by omega) (by omega),by omega⟩,⟨by rw [hlen]; omega,rfl,by decide,by decide,by decide⟩,⟨_,_,rfl,cat_b⟩,rfl,?_⟩))
   rintro L2 rfl
   refine cond_r (by omega) ⟨⟨i+1,L ++ plsF R l k (D ++ [s])⟩,⟨by dsimp only; omega,?_,?_⟩,by dsimp only; omega,?_,fitBs_refl _,fun _ _ _ h=>h⟩
   ·dsimp only
    rw [hrow,preP_succ,h1,List.append_assoc]
   ·dsimp only
    rw [List.length_append]
    omega
   ·show _=VQ R l D ((l.getD D.length z0).rd+((i+1:Nat):Int)) _
    rw [show (l.getD D.length z0).rd+((i+1:Nat):Int)=s+1 by omega]
    rfl
  ·have e:i=nSt (l.getD D.length z0):=by omega
   rw [e] at h1
   have h1:L=L0 ++ plansF R l (k+1) D:=h1
   rw [h1]
   exact ⟨rfl,s,rfl,rfl⟩
 ·rintro lock tt h K ⟨hf,rfl,k1⟩
  refine ⟨⟨0,L0⟩,?_,⟨Nat.zero_le _,?_,?_⟩,?_⟩
  ·dsimp only
   rw [show (l.getD D.length z0).rd+((0:Nat):Int)=(l.getD D.length z0).rd by omega]
   exact hf
  ·show L0=L0 ++ []
   rw [List.append_nil]
  ·dsimp only
   rw [Nat.pow_succ] at hL
   have:=Nat.mul_le_mul_right (10 ^ k) hN10
   rw [Nat.sub_zero]
   omega
  rintro e vs bs ⟨rfl,s,rfl,rfl⟩
  exact k1 s
def PlsV (R:List Int) (l:List Brn) (m:Nat) (D:List Int) (L:List (List Int)):Prop:=
 CallsV Try.prog 47 [inD R,buD l,inD D,.sl 0 L.length] ⟨1,[(0,ddB L)]⟩ (.ret (.sl 0 (L ++ plsF R l m D).length)) ⟨1,[(0,ddB (L ++ plsF R l m D))]⟩
theorem psR_of {m:Nat} (h:∀ (D:List Int) (L:List (List Int)),cnS R l m D L->PlsV R l m D L):SpOk Try.prog (psR R l m).1 (psR R l m).2:=by
 intro lock args h0 K hK
 simp only [psR] at hK
 split at hK
 ·rename_i x y p Lb q Ld
  obtain ⟨rfl,rfl,D,L,hc,⟨rfl,rfl,hpq,hp,hq⟩,⟨g,t,hg1,hg2⟩,hL,hK⟩:=hK
  have hv:=h D L hc
  have hK:=hK _ rfl
  have hat:(VH.mk h0.nx ((p,.gone)::h0.bs)).at q=ddB L:=by
   rw [at_ne hpq]
   exact hL
  have h2:=calls_own1 (h:=⟨h0.nx,(p,.gone)::h0.bs⟩) (m:=q) hv (L':=(L ++ plsF R l m D).length) (g':=ddG (L ++ plsF R l m D)) rfl hat rfl rfl
  have h3:=calls_told (args:=[inD R,buD l,.sl p D.length,.sl q L.length]) h2 hg1 (fun R R' xs hle hv hxs=>by
   obtain ⟨_,_,a1,⟨_,_,a2,⟨_,_,a3,⟨_,_,a4,rfl,rfl⟩,rfl⟩,rfl⟩,rfl⟩:=hxs
   exact ⟨_,_,VRel.mono hle _ _ a1,⟨_,_,VRel.mono hle _ _ a2,⟨_,_,tl_congr hg2 (hv _ a3),⟨_,_,VRel.mono hle _ _ a4,rfl,rfl⟩,rfl⟩,rfl⟩,rfl⟩)
  refine ⟨_,_,hK,?_,h3⟩
  intro n hn _
  show (VH.mk h0.nx ((q,_)::(p,_)::h0.bs)).at n=h0.at n
  rw [at_ne (show q ≠ n by omega),at_ne (show p ≠ n by omega)]
 ·exact hK.elim
theorem plans_v {n:Nat} (hl:lsB n l) (hn:n<=100000) (hRl:R.length<=100000) (hs:∀ i,i<l.length->nSt (l.getD i z0)<=10):∀ (m:Nat) (D:List Int) (L:List (List Int)),cnS R l m D L->PlsV R l m D L:=by
 intro m
 induction m with
 | zero=>
  intro D L ⟨hm,hd,hL⟩
  obtain ⟨r,h',⟨rfl,h0⟩,hc⟩:=of_callN (callL_good hmix (tab1 (plR_ok R l)) (P:=Try.prog) (f:=47) (l:=[(0,lZ)]) (fun x hx=>by
   simp only [List.mem_singleton] at hx
   subst hx
   exact ⟨by kernel_rfl,lZ_ok⟩) (un:=10) 20) (f:=47) (args:=[inD R,buD l,inD D,.sl 0 L.length]) (h:=⟨1,[(0,ddB L)]⟩) (K:=fun r h'=>r=.ret (.sl 0 (L ++ plsF R l 0 D).length)/\fitB [(0,ddB (L ++ plsF R l 0 D))] h') (by
   refine cast (qz_ev R l D L _).symm ⟨isD_in,⟨rfl,rfl,fun _ _=>rfl⟩,D,isD_in,⟨dvB_cnP hl hn (by omega) hd,hRl⟩,fun b e hb he=>cond_i (fun h=>?_) (fun h=>?_)⟩
   ·have hb:okP R l D=false:=by rw [<- hb]; simpa using h
    unfold plsF
    rw [hb,if_neg (by simp),List.append_nil]
    exact ⟨rfl,VB.fit_refl _,trivial⟩
   ·have hb:okP R l D=true:=by rw [<- hb]; simpa using h
    have e1:plsF R l 0 D=[D]:=by unfold plsF; rw [if_pos hb]; rfl
    rw [e1]
    refine cond_dk (by omega) (cond_k (Nat.beq_refl _) (cond_k (room24 (by omega)) ⟨by rw [List.length_append]; rfl,fit_dd,trivial⟩)))
  exact calls_weak hc (Nat.le_refl _) h0 rfl rfl
 | succ m ih=>
  intro D L ⟨hm,hd,hL⟩
  have hR:=psR_of (m:=m) (R:=R) ih
  have hall:LoopsOk Try.prog 47 [(0,lQ R l m D L (L ++ plansF R l (m+1) D))]:=fun x hx=>by
   simp only [List.mem_singleton] at hx
   subst hx
   exact ⟨by kernel_rfl,lQ_ok hl hn hs hm hd hL hR⟩
  obtain ⟨r,h',⟨rfl,h0⟩,hc⟩:=of_callN (callL_good hmix (tab1 (plR_ok R l)) hall (un:=10) 20) (f:=47) (args:=[inD R,buD l,inD D,.sl 0 L.length]) (h:=⟨1,[(0,ddB L)]⟩) (K:=fun r h'=>r=.ret (.sl 0 (L ++ plsF R l (m+1) D).length)/\fitB [(0,ddB (L ++ plsF R l (m+1) D))] h') (by
   refine cast (qf_ev R l m D L _ _).symm ⟨isD_in,⟨rfl,rfl,fun _ _=>rfl⟩,D,isD_in,⟨dvB_cnP hl hn (by omega) hd,hRl⟩,fun b e hb he=>cond_i (fun h=>?_) (fun h=>?_)⟩
   ·have hb:okP R l D=false:=by rw [<- hb]; simpa using h
    unfold plsF
    rw [hb,if_neg (by simp),List.append_nil]
    exact ⟨rfl,VB.fit_refl _,trivial⟩
   ·have hb:okP R l D=true:=by rw [<- hb]; simpa using h
    have e1:plsF R l (m+1) D=plansF R l (m+1) D:=by unfold plsF; rw [if_pos hb]
    rw [e1]
    exact cond_d (fun h=>by omega) (fun _=>cond_dk ⟨by omega,by omega⟩ ⟨fitP_self rfl,rfl,fun s=>⟨rfl,VB.fit_refl _,trivial⟩⟩))
  exact calls_weak hc (Nat.le_refl _) h0 rfl rfl
theorem nSt_le {n:Nat} (hl:lsB n l) (hn:n<=10):∀ i,i<l.length->nSt (l.getD i z0)<=10:=fun i hi=>by
 have:=hl.2 i hi
 unfold brB at this
 unfold nSt
 omega
theorem psW_ok (R:List Int) (l:List Brn):SpOk Try.prog (psW R l).1 (psW R l).2:=by
 intro lock args h K hK
 simp only [psW] at hK
 split at hK
 ·obtain ⟨rfl,rfl,⟨hl,hR10,hl4,hR⟩,hK⟩:=hK
  have hp:(10:Nat) ^ l.length<=10 ^ 4:=Nat.pow_le_pow_right (by omega) hl4
  have hv:=plans_v (R:=R) hl (by omega) (by omega) (nSt_le hl hR10) l.length [] [] ⟨Nat.zero_add _,fun i hi=>absurd hi (Nat.not_lt_zero _),by
   have:(10:Nat) ^ 4=10000:=rfl
   simp only [List.length_nil]; omega⟩
  have e:plsF R l l.length []=plansF R l l.length []:=by unfold plsF; rw [if_pos (okP_nil hR)]
  unfold PlsV at hv
  rw [e,List.nil_append] at hv
  have hc3:=calls_pre_ghost (args:=[inD R,buD l,.nils,.nils]) (h:=⟨0,[]⟩) (ddG []) 1 33 hv (fun R xs hv hx=>by
   obtain ⟨y0,_,k0,⟨y1,_,k1,⟨y2,_,k2,⟨y3,_,k3,rfl,rfl⟩,rfl⟩,rfl⟩,rfl⟩:=hx
   exact ⟨_,_,k0,⟨_,_,k1,⟨_,_,wk_one wk_nil _ k2,⟨_,_,nil_ghost hv k3,rfl,rfl⟩,rfl⟩,rfl⟩,rfl⟩)
  have hc4:=calls_tell (v2:=.tl (plansF R l l.length []).length 1 (ddG (plansF R l l.length []))) hc3 rfl (fun R R' x hle hv hx=>hv x hx)
  exact ⟨_,h,hK _ rfl,lockP_refl _ _,calls_lift0 hc4 rfl rfl⟩
 ·exact hK.elim
theorem lRU_ok:LSound Try.prog true (.block 0 (.loop (loopB 0 (bodyOf Try.prog 22)))) (ntOf Try.prog 22) (lRU R l):=by
 rintro lock tt h K ⟨L,hf,⟨rfl,hl,hR10,hl4,hR⟩,k1⟩
 have hmem:∀ i,i<(plansF R l l.length []).length->okP R l ((plansF R l l.length []).getD i [])=true/\dvB l ((plansF R l l.length []).getD i [])/\((plansF R l l.length []).getD i []).length=l.length:=fun i hi=>by
  have hm:(plansF R l l.length []).getD i [] ∈ plansF R l l.length []:=by
   rw [List.getD_eq_getElem?_getD,List.getElem?_eq_getElem hi]
   exact List.getElem_mem _
  obtain ⟨h1,h2⟩:=plansF_good hl (Nat.zero_add _) (okP_nil hR) (fun i hi=>absurd hi (Nat.not_lt_zero _)) hm
  exact ⟨h1,h2,by have:=(plansF_mem hm).1; simpa using this⟩
 have hlen:(plansF R l l.length []).length<=10000:=by
  have h1:=plansF_len (R:=R) (nSt_le hl hR10) (m:=l.length) (D:=[]) (Nat.zero_add _)
  have hp:(10:Nat) ^ l.length<=10 ^ 4:=Nat.pow_le_pow_right (by omega) hl4
  have:(10:Nat) ^ 4=10000:=rfl
  omega
 have hb0:∀ st:Option (List Int),lsI l st<0->st=none:=fun st h=>by
  cases st with
  | none=>rfl
  | some B=>
   have:=endF_0 (l:=l) (D:=B) B.length
   have h:endF l B B.length<0:=h
   omega
 have key:LSound Try.prog true (.block 0 (.loop (loopB 0 (bodyOf Try.prog 22)))) (ntOf Try.prog 22) (fun lock tt h K=>FitP lock h tt ⟨0,([]:List Nat).zip []⟩ (dsRU.zip (VRU R l (plansF R l l.length []) 0 (-1) []))/\∀ st:Option (List Int),st=bestR R l->K .normal (dsRU.zip (VRU R l (plansF R l l.length []) (plansF R l l.length []).length (lsI l st) (st.getD []))) ⟨0,([]:List Nat).zip []⟩):=by
  refine loop_row hmix (noL_good (tab1 (plR_ok R l))) (un:=10) (ds:=dsRU) (ns:=[]) (nx:=0) (fun p:Nat × Option (List Int)=>VRU R l (plansF R l l.length []) p.1 (lsI l p.2) (p.2.getD [])) (fun _=>[]) (fun p=>p.1<=(plansF R l l.length []).length/\p.2=((plansF R l l.length []).take p.1).foldl (stp l) none) (fun p=>(plansF R l l.length []).length - p.1) (fun _ e vs bs=>e=.exit 0/\bs=[]/\vs=VRU R l (plansF R l l.length []) (plansF R l l.length []).length (lsI l (bestR R l)) ((bestR R l).getD [])) noL_ok ?_ ?_
  ·rintro ⟨i,st⟩ ⟨h0,h1⟩
   dsimp only at h0 h1 ⊢
   refine cast (ru2_ev R l _ i (lsI l st) (st.getD []) _).symm ?_
   rw [show (i:Int).toNat=i by omega]
   refine cond_d (fun hi=>?_) (fun hi=>?_)
   ·have hi:i<(plansF R l l.length []).length:=by omega
    obtain ⟨m1,m2,m3⟩:=hmem i hi
    have hnext:∀ st2,st2=stp l st ((plansF R l l.length []).getD i [])->st2=((plansF R l l.length []).take (i+1)).foldl (stp l) none:=fun st2 h2=>by
     have e:(plansF R l l.length []).take (i+1)=(plansF R l l.length []).take i ++ [(plansF R l l.length []).getD i []]:=by
      rw [List.take_add_one,List.getD_eq_getElem?_getD,List.getElem?_eq_getElem hi]
      rfl
     rw [e,List.foldl_append,<- h1]
     exact h2
    refine cond_dk ⟨by omega,by omega⟩ ⟨isD_in,⟨rfl,rfl,fun _ _=>rfl⟩,(plansF R l l.length []).getD i [],isD_in,⟨dvB_cnP hl (by omega) (by omega) m2,by omega⟩,fun b e hb he=>?_⟩
    rw [m1,if_pos rfl] at he
    subst he
    refine cond_d (fun hneg=>?_) (fun hneg=>cond_d (fun hlt=>?_) (fun hlt=>?_))
    ·obtain rfl:=hb0 st hneg
     refine cond_dk ⟨by omega,by omega⟩ (cond_r (by omega) ⟨(i+1,some ((plansF R l l.length []).getD i [])),⟨by dsimp only; omega,hnext _ rfl⟩,by dsimp only; omega,rfl,trivial,fun _ _ _ h=>h⟩)
    ·cases st with
     | none=>exact absurd (show (-1:Int)<0 by decide) hneg
     | some B=>
      have hlt:endF l ((plansF R l l.length []).getD i []) ((plansF R l l.length []).getD i []).length<endF l B B.length:=hlt
      refine cond_dk ⟨by omega,by omega⟩ (cond_r (by omega) ⟨(i+1,some ((plansF R l l.length []).getD i [])),⟨by dsimp only; omega,hnext _ ?_⟩,by dsimp only; omega,rfl,trivial,fun _ _ _ h=>h⟩)
      show _=(if _ then _ else _)
      rw [if_pos hlt]
    ·cases st with
     | none=>exact absurd (show (-1:Int)<0 by decide) hneg
     | some B=>
      have hlt:¬ endF l ((plansF R l l.length []).getD i []) ((plansF R l l.length []).getD i []).length<endF l B B.length:=hlt
      refine cond_r (by omega) ⟨(i+1,some B),⟨by dsimp only; omega,hnext _ ?_⟩,by dsimp only; omega,rfl,trivial,fun _ _ _ h=>h⟩
      show _=(if _ then _ else _)
      rw [if_neg hlt]
   ·obtain rfl:i=(plansF R l l.length []).length:=by omega
    rw [List.take_length] at h1
    have h1:st=bestR R l:=h1
    rw [h1]
    exact ⟨rfl,rfl,rfl⟩
  ·rintro lock tt h K ⟨hf,k1⟩
   refine ⟨(0,none),hf,⟨Nat.zero_le _,rfl⟩,?_⟩
   rintro e vs bs ⟨rfl,rfl,rfl⟩
   exact k1 _ rfl
 refine pre_told key (T:=fun lock tt h K=>FitP lock h tt ⟨0,([]:List Nat).zip []⟩ (dsRU.zip (I 0::I (-1)::.nils::(VRU R l (plansF R l l.length []) 0 0 []).drop 3))/\∀ st:Option (List Int),st=bestR R l->K .normal (dsRU.zip (VRU R l (plansF R l l.length []) (plansF R l l.length []).length (lsI l st) (st.getD []))) ⟨0,([]:List Nat).zip []⟩) ?_ lock tt h K ⟨hf,k1⟩
 rintro lock tt h K ⟨hf,k1⟩
 exact ⟨_,_,hf,_,_,told_weak (d:=7) (v:=.nils) (v':=inD []) rfl (fun R x hx=>wk_one wk_nil x hx),⟨⟨rfl,rfl,trivial⟩,rfl,rfl,rfl,rfl,rfl,rfl,rfl,rfl,trivial⟩,k1⟩
theorem rruns_v (hsz:(R.length<=10 ∨ (169<=R.length/\R.length<=172))/\(l.length<=4 ∨ (7<=l.length/\l.length<=9))):∃ h',CallsV Try.prog 22 [inD R,buD l] ⟨0,[]⟩ (.ret (.tup [inD (rsD R l),I (rsE R l)])) h':=by
 have htab:∀ f T,tabS [rmR R,brR R l,psW R l] f=some T->SpOk Try.prog f T:=tab_ok _ (fun x hx=>by
  simp only [List.mem_cons,List.not_mem_nil,or_false] at hx
  rcases hx with rfl | rfl | rfl
  ·exact rmR_ok R
  ·exact brR_ok R l
  ·exact psW_ok R l)
 have hall:LoopsOk Try.prog 22 [(0,lRU R l)]:=fun x hx=>by
  simp only [List.mem_singleton] at hx
  subst hx
  exact ⟨by kernel_rfl,lRU_ok⟩
 have eok:okRuns R l=((!anyRm R && decide (R.length<=168)) && (!anyBr l R && decide (l.length<=6))):=by
  unfold okRuns
  by_cases a:R.length<=168 <;> by_cases b:l.length<=6
  ·rw [decide_eq_true (p:=R.length<=168/\l.length<=6) ⟨a,b⟩,decide_eq_true a,decide_eq_true b]; simp
  ·rw [decide_eq_false (p:=R.length<=168/\l.length<=6) (fun h=>b h.2),decide_eq_false b]; simp
  ·rw [decide_eq_false (p:=R.length<=168/\l.length<=6) (fun h=>a h.1),decide_eq_false a]; simp
  ·rw [decide_eq_false (p:=R.length<=168/\l.length<=6) (fun h=>a h.1),decide_eq_false a]; simp
 obtain ⟨r,h',hk,hc⟩:=of_callN (callL_good hmix htab hall (un:=10) 20) (f:=22) (args:=[inD R,buD l]) (h:=⟨0,[]⟩) (K:=fun r _=>(rsD R l=[]/\r=.ret (.tup [.nils,I (rsE R l)])) ∨ r=.ret (.tup [inD (rsD R l),I (rsE R l)])) (by
  refine cast (ruf_ev R l _).symm ⟨isD_in,by omega,?_⟩
  have err:okRuns R l=false->(rsD R l=[]/\VRes.ret (.tup [.nils,I 1])=.ret (.tup [.nils,I (rsE R l)])) ∨ VRes.ret (.tup [.nils,I 1])=.ret (.tup [inD (rsD R l),I (rsE R l)]):=fun h=>by
   refine .inl ⟨by unfold rsD; rw [if_pos h],?_⟩
   have e1:rsE R l=1:=by unfold rsE; rw [if_pos h]
   rw [e1]
  refine cond_i (fun h=>err ?_) (fun h1=>⟨rfl,⟨rfl,rfl,fun _ _=>rfl⟩,⟨by omega,by omega⟩,cond_i (fun h=>err ?_) (fun h2=>?_)⟩)
  ·rw [eok,show (!anyRm R && decide (R.length<=168))=false from Bool.not_eq_true' _ ▸ h]; rfl
  ·rw [eok,show (!anyBr l R && decide (l.length<=6))=false from Bool.not_eq_true' _ ▸ h,Bool.and_false]
  have ho:okRuns R l=true:=by
   rw [eok,show (!anyRm R && decide (R.length<=168))=true from Bool.not_eq_false' _ ▸ h1,show (!anyBr l R && decide (l.length<=6))=true from Bool.not_eq_false' _ ▸ h2]; rfl
  obtain ⟨hR,hl⟩:=okRuns_iff.1 ho
  have g1:=hR.1
  have g2:=hl.1
  have hcn:lsB R.length l/\R.length<=10/\l.length<=4/\rmB R:=⟨hl,by omega,by omega,hR⟩
  refine ⟨rfl,rfl,hcn,?_⟩
  rintro L rfl
  refine ⟨plansF R l l.length [],⟨⟨rfl,rfl,trivial⟩,rfl,rfl,rfl,rfl,rfl,rfl,rfl,rfl,trivial⟩,⟨rfl,hcn⟩,?_⟩
  rintro st rfl
  have e1:rsE R l=if bestR R l=none then 4 else 0:=by unfold rsE; rw [if_neg (by rw [ho]; simp)]
  have e2:rsD R l=(bestR R l).getD []:=by unfold rsD; rw [if_neg (by rw [ho]; simp)]
  refine cond_d (fun h=>?_) (fun h=>?_)
  ·cases hb:bestR R l with
   | none=>
    rw [hb] at e1 e2
    exact .inl ⟨by rw [e2]; rfl,by rw [e1]; rfl⟩
   | some B=>
    rw [hb] at h
    have h:endF l B B.length<0:=h
    have:=endF_0 (l:=l) (D:=B) B.length
    omega
  ·cases hb:bestR R l with
   | none=>rw [hb] at h; exact absurd (show (-1:Int)<0 by decide) h
   | some B=>
    rw [hb] at e1 e2
    refine .inr ?_
    rw [e1,e2]
    rfl)
 rcases hk with ⟨he,rfl⟩ | rfl
 ·exact ⟨h',calls_res hc (wk_nils he)⟩
 ·exact ⟨h',hc⟩
end
end Go.Sx.Srn
namespace Go.Sx.Srn
open Go Go.Sx Go.Proofs
set_option maxRecDepth 1000000
def dsIn:List Nat:=[5,4,0,1]
def VIn (D:List Int) (i:Nat):List VV:=[I i,.bool false,inD D,inD D]
theorem in_ev (D:List Int) (i:Nat) (X:VEx->List VV->List VB->Prop):codeE Try.prog (callN Try.prog noSpec noL 10 20) (fun _=>none) true 10 (ntOf Try.prog 18) 0 (loopB 0 (bodyOf Try.prog 18)) (dsIn.zip (VIn D i)) ⟨0,([]:List Nat).zip []⟩ (obs 0 dsIn [] X) =
 (bif decide ((↑i:Int)<(↑D.length:Int)) then
 bif decide ((0:Int)<=(↑i:Int)/\(↑i:Int)<(↑D.length:Int)) then
 bif decide ((0:Int)<=(↑i:Int)/\(↑i:Int)<(↑D.length:Int)) then
 bif !decide (D.getD (↑i:Int).toNat (0:Int)=D.getD (↑i:Int).toNat (0:Int)) then
 X VEx.ret [I (↑i:Int),VV.bool false,inD D,inD D] []
 else bif inK .i64 ((↑i:Int)+(1:Int)) then
 X .normal [I ((↑i:Int)+(1:Int)),VV.bool false,inD D,inD D] []
 else False
 else False
 else False
 else X (VEx.exit 0) [I (↑i:Int),VV.bool false,inD D,inD D] []):=by kernel_rfl
def lIn (D:List Int):LT:=fun lock tt h K=>
 FitP lock h tt ⟨0,([]:List Nat).zip []⟩ (dsIn.zip (VIn D 0))/\D.length<=100000/\K .normal (dsIn.zip (VIn D D.length)) ⟨0,([]:List Nat).zip []⟩
theorem inf_ev (D:List Int) (Q:VRes->Prop):callN Try.prog noSpec (atF 18 [(0,lIn D)]) 10 20 0 (.fn 18) [inD D,inD D] ⟨0,[]⟩ (fun r _=>Q r) =
 (bif !decide ((↑D.length:Int)=(↑D.length:Int)) then
 Q (VRes.ret (VV.bool false))
 else FitP 0 (VH.mk 0 ([].zip [])) (dsIn.zip (VIn D 0)) (VH.mk 0 ([].zip [])) (dsIn.zip (VIn D 0))/\D.length<=100000/\Q (VRes.ret (VV.bool true))):=by kernel_rfl
def inR:FuncId × Spec1:=(18,fun _ args h K=>match args with
 | [x,y]=>∃ D:List Int,isD h 3 x (inD D)/\isD h 3 y (inD D)/\D.length<=100000/\K (.ret (.bool true)) h
 | _=>False)
def awT:FuncId × Spec1:=(12,fun _ args h K=>match args with
 | []=>K (.ret (.bool true)) h
 | _=>False)
def szP (R:List Int) (l:List Brn):Prop:=(R.length<=10 ∨ (169<=R.length/\R.length<=172))/\(l.length<=4 ∨ (7<=l.length/\l.length<=9))
def runK (f:FuncId) (P:Prop) (R:List Int) (l:List Brn) (D:List Int) (e:Int):FuncId × Spec1:=(f,fun _ args h K=>match args with
 | [x,y]=>x=inD R/\y=buD l/\P/\K (.ret (.tup [inD D,I e])) h
 | _=>False)
theorem lr_ev (R:List Int) (l:List Brn) (D:List Int) (e:Int) (Q:VRes->Prop):callN Try.prog (tabS [runK 21 True R l D e,runK 22 (szP R l) R l D e,inR,awT]) noL 10 20 0 (.fn 5) [inD R,buD l] ⟨0,[]⟩ (fun r _=>Q r) =
 (bif decide ((↑R.length:Int) > (10:Int)) then
 bif decide ((↑R.length:Int)<=(168:Int)) then
 Q (VRes.ret (VV.bool true))
 else bif decide ((↑R.length:Int) > (172:Int)) then
 Q (VRes.ret (VV.bool true))
 else bif decide ((↑l.length:Int) > (4:Int)) then
 bif decide ((↑l.length:Int)<=(6:Int)) then
 Q (VRes.ret (VV.bool true))
 else bif decide ((↑l.length:Int) > (9:Int)) then
 Q (VRes.ret (VV.bool true))
 else inD R=inD R/\buD l=buD l/\True/\inD R=inD R/\buD l=buD l/\szP R l/\∃ (D_1:List Int),isD (VH.mk 0 []) 3 (inD D) (inD D_1)/\isD (VH.mk 0 []) 3 (inD D) (inD D_1)/\D_1.length<=100000/\bif decide (e=e) then
 Q (VRes.ret (VV.bool true))
 else Q (VRes.ret (VV.bool false))
 else bif decide ((↑l.length:Int) > (9:Int)) then
 Q (VRes.ret (VV.bool true))
 else inD R=inD R/\buD l=buD l/\True/\inD R=inD R/\buD l=buD l/\szP R l/\∃ (D_1:List Int),isD (VH.mk 0 []) 3 (inD D) (inD D_1)/\isD (VH.mk 0 []) 3 (inD D) (inD D_1)/\D_1.length<=100000/\bif decide (e=e) then
 Q (VRes.ret (VV.bool true))
 else Q (VRes.ret (VV.bool false))
 else bif decide ((↑R.length:Int) > (172:Int)) then
 Q (VRes.ret (VV.bool true))
 else bif decide ((↑l.length:Int) > (4:Int)) then
 bif decide ((↑l.length:Int)<=(6:Int)) then
 Q (VRes.ret (VV.bool true))
 else bif decide ((↑l.length:Int) > (9:Int)) then
 Q (VRes.ret (VV.bool true))
 else inD R=inD R/\buD l=buD l/\True/\inD R=inD R/\buD l=buD l/\szP R l/\∃ (D_1:List Int),isD (VH.mk 0 []) 3 (inD D) (inD D_1)/\isD (VH.mk 0 []) 3 (inD D) (inD D_1)/\D_1.length<=100000/\bif decide (e=e) then
 Q (VRes.ret (VV.bool true))
 else Q (VRes.ret (VV.bool false))
 else bif decide ((↑l.length:Int) > (9:Int)) then
 Q (VRes.ret (VV.bool true))
 else inD R=inD R/\buD l=buD l/\True/\inD R=inD R/\buD l=buD l/\szP R l/\∃ (D_1:List Int),isD (VH.mk 0 []) 3 (inD D) (inD D_1)/\isD (VH.mk 0 []) 3 (inD D) (inD D_1)/\D_1.length<=100000/\bif decide (e=e) then
 Q (VRes.ret (VV.bool true))
 else Q (VRes.ret (VV.bool false))):=by kernel_rfl
end Go.Sx.Srn
namespace Go.Sx.Str
open Go Go.Sx Go.Proofs
set_option maxRecDepth 1000000
theorem hmix:Try.prog.follows .mixedOrders=true:=by kernel_rfl
theorem none_good {un:Nat} (m:Nat):Good Try.prog (callN Try.prog noSpec noL un m):=
 callN_good hmix (fun _ _ h=>by cases h) (fun _ _ _ _ _ _ _ h=>by cases h) m
theorem good0:Good Try.prog (callN Try.prog noSpec noL 10 20):=none_good 20
theorem noL_ok {b:Code} {n:Nat}:∀ id T,(fun _:Nat=>(none:Option LT)) id=some T->∀ b' ∈ blocksOf id b,LSound Try.prog true (.block id b') n T:=fun _ _ h=>by cases h
theorem lo_one {f:FuncId} {id:Nat} {T:LT} (hb:blocksOf id (bodyOf Try.prog f)=[.loop (loopB id (bodyOf Try.prog f))]) (hs:LSound Try.prog true (.block id (.loop (loopB id (bodyOf Try.prog f)))) (ntOf Try.prog f) T):LoopsOk Try.prog f [(id,T)]:=by
 intro x hx
 simp only [List.mem_singleton] at hx
 subst hx
 exact ⟨hb,hs⟩
theorem cond_b {b:Bool} {p q:Prop} (h1:b=true->p) (h2:b=false->q):(bif b then p else q):=by
 cases b
 ·exact h2 rfl
 ·exact h1 rfl
def boQ (Q:Bool->Prop):VRes->VH->Prop:=fun r _=>match r with
 | .ret (.bool b)=>Q b
 | _=>False
theorem boQ_of {Q:Bool->Prop} {r:VRes} {h:VH} (hq:boQ Q r h):∃ b,r=.ret (.bool b)/\Q b:=by
 unfold boQ at hq
 split at hq
 ·exact ⟨_,rfl,hq⟩
 ·exact hq.elim
theorem by_bo {call:CallT} (hg:Good Try.prog call) {f:FuncId} {args:List VV} {b:Bool} (hK:call 0 (.fn f) args ⟨0,[]⟩ (boQ (· = b))) (ha:belL 0 args=true) (h:VH):CallsV Try.prog f args h (.ret (.bool b)) h:=by
 obtain ⟨r,h',h1,_,h2⟩:=hg _ _ _ _ _ hK
 obtain ⟨b',rfl,rfl⟩:=boQ_of h1
 exact calls_lift0 h2 ha rfl
abbrev I (n:Int):VV:=.int .i64 n
structure Pt where
 k:Int
 flo:Int
 fhi:Int
 wlo:Int
 whi:Int
 hlo:Int
 hhi:Int
 slo:Int
 shi:Int
structure Wt where
 flo:Int
 fhi:Int
 wlo:Int
 whi:Int
def ptL (p:Pt):List VV:=[I p.k,I p.flo,I p.fhi,I p.wlo,I p.whi,I p.hlo,I p.hhi,I p.slo,I p.shi]
def wtL (w:Wt):List VV:=[I w.flo,I w.fhi,I w.wlo,I w.whi]
def ptsA (n:Nat) (l:Int->Pt):VB:=.arr 9 (fun ix i=>ix=[]/\0<=i/\i<(n:Int)) (fun _ i=>ptL (l i))
def spanB (lo hi least most:Int):Bool:=decide (least<=lo) && decide (lo<=hi) && decide (hi<=most)
def watB (w:Wt):Bool:=spanB w.flo w.fhi 1 1073741824 && spanB w.wlo w.whi 0 100000
def ptB (p:Pt):Bool:=
 bif decide (p.k=0) then spanB p.flo p.fhi 1 1073741824 && spanB p.wlo p.whi 0 100000
 else bif decide (p.k=1) then spanB p.flo p.fhi 0 1073741824
 else bif decide (p.k=2) then spanB p.hlo p.hhi 0 1099511627776
 else bif decide (p.k=3) then spanB p.wlo p.whi 0 100000 && spanB p.slo p.shi 0 10000
 else false
def mD (t f u g:Int):Int:=quoZ (t*f+u*g) (f+g)
def mU (t f u g:Int):Int:=quoZ (t*f+u*g+(f+g) - 1) (f+g)
def joinW (w:Wt) (p:Pt):Wt:=
 ⟨w.flo+p.flo,w.fhi+p.fhi,if p.wlo<w.wlo then mD w.wlo w.flo p.wlo p.fhi else mD w.wlo w.fhi p.wlo p.flo,if p.whi<w.whi then mU w.whi w.fhi p.whi p.flo else mU w.whi w.flo p.whi p.fhi⟩
def drawW (w:Wt) (p:Pt):Wt:=⟨w.flo - p.fhi,w.fhi - p.flo,w.wlo,w.whi⟩
def addW (w:Wt) (p:Pt):Wt:=⟨w.flo,w.fhi,w.wlo+quoZ p.hlo w.fhi,w.whi+quoZ (p.hhi+w.flo - 1) w.flo⟩
def airW (w:Wt) (p:Pt):Wt:=
 ⟨w.flo,w.fhi,if w.wlo > p.wlo then mD w.wlo (10000 - p.shi) p.wlo p.shi else mD w.wlo (10000 - p.slo) p.wlo p.slo,if w.whi > p.whi then mU w.whi (10000 - p.slo) p.whi p.slo else mU w.whi (10000 - p.shi) p.whi p.shi⟩
def stepW (w:Wt) (p:Pt):Wt:=
 bif decide (p.k=0) then joinW w p else bif decide (p.k=1) then drawW w p else bif decide (p.k=2) then addW w p else airW w p
def errW (w:Wt):Int:=bif decide (w.flo<1) then 10 else bif decide (w.fhi > 1073741824) || decide (w.whi > 100000) then 12 else 0
def runL (l:Int->Pt):Nat->Int->Wt->List Wt
 | 0,_,_=>[]
 | m+1,i,w=>stepW w (l i)::runL l m (i+1) (stepW w (l i))
def runE (l:Int->Pt):Nat->Int->Wt->Int
 | 0,_,_=>0
 | m+1,i,w=>bif !ptB (l i) then 1 else bif decide (errW (stepW w (l i))=0) then runE l m (i+1) (stepW w (l i)) else errW (stepW w (l i))
def runI (l:Int->Pt):Nat->Int->Wt->Int
 | 0,i,_=>i
 | m+1,i,w=>bif ptB (l i) && decide (errW (stepW w (l i))=0) then runI l m (i+1) (stepW w (l i)) else i
def w0:Wt:=⟨0,0,0,0⟩
def vecW (xs:List Wt):VB:=.vec xs.length (fun j=>wtL (xs.getD j w0)) 4 25
structure WOk (w:Wt):Prop where
 f:1<=w.flo/\w.flo<=w.fhi/\w.fhi<=1073741824
 w:0<=w.wlo/\w.wlo<=w.whi/\w.whi<=100000
theorem spanB_iff {a c x y:Int}:spanB a c x y=true ↔ x<=a/\a<=c/\c<=y:=by simp [spanB,and_assoc]
theorem watB_iff {w:Wt}:watB w=true ↔ WOk w:=by
 unfold watB
 rw [Bool.and_eq_true,spanB_iff,spanB_iff]
 exact ⟨fun h=>⟨h.1,h.2⟩,fun h=>⟨h.f,h.w⟩⟩
theorem mul_in {a b A B:Int} (ha:0<=a/\a<=A) (hb:0<=b/\b<=B):0<=a*b/\a*b<=A*B:=
 ⟨Int.mul_nonneg ha.1 hb.1,Int.le_trans (Int.mul_le_mul_of_nonneg_right ha.2 hb.1) (Int.mul_le_mul_of_nonneg_left hb.2 (by omega))⟩
theorem mD_le {t f u g:Int} (ht:0<=t) (hu:0<=u) (hf:0<=f) (hg:0<=g) (h:0<f+g):0<=mD t f u g/\mD t f u g*(f+g)<=t*f+u*g:=by
 have h0:0<=t*f+u*g:=Int.add_nonneg (Int.mul_nonneg ht hf) (Int.mul_nonneg hu hg)
 unfold mD
 rw [quoZ_nn h0]
 exact ⟨Int.ediv_nonneg h0 (by omega),Int.ediv_mul_le _ (by omega)⟩
theorem mU_ge {t f u g:Int} (ht:0<=t) (hu:0<=u) (hf:0<=f) (hg:0<=g) (h:0<f+g):0<=mU t f u g/\t*f+u*g<=mU t f u g*(f+g):=by
 have h0:0<=t*f+u*g:=Int.add_nonneg (Int.mul_nonneg ht hf) (Int.mul_nonneg hu hg)
 unfold mU
 rw [quoZ_nn (by omega)]
 refine ⟨Int.ediv_nonneg (by omega) (by omega),?_⟩
 generalize t*f+u*g=s at *
 generalize f+g=d at *
 have h1:=Int.lt_ediv_add_one_mul_self (s+d - 1) h
 rw [Int.add_mul,Int.one_mul] at h1
 omega
end Go.Sx.Str
namespace Go.Sx.Str
open Go Go.Sx Go.Proofs
set_option maxRecDepth 1000000
theorem isSpan_ev (lo hi least most:Int) (Q:VRes->VH->Prop):callN Try.prog noSpec noL 10 20 0 (.fn 49) [.agg [I lo,I hi],I least,I most] ⟨0,[]⟩ Q =
 (bif decide (lo ≥ least) then
 bif decide (lo<=hi) then
 Q (VRes.ret (VV.bool (decide (hi<=most)))) (VH.mk (0+1) ([(0,VB.cells [I lo,I hi] 23)]))
 else Q (VRes.ret (VV.bool false)) (VH.mk (0+1) ([(0,VB.cells [I lo,I hi] 23)]))
 else Q (VRes.ret (VV.bool false)) (VH.mk (0+1) ([(0,VB.cells [I lo,I hi] 23)]))):=by kernel_rfl
theorem mean_ev (t f u g:Int) (Q:VRes->VH->Prop):callN Try.prog noSpec noL 10 20 0 (.fn 79) [I t,I f,I u,I g] ⟨0,[]⟩ Q =
 (bif inK IntKind.i64 (t*f) then
 bif inK IntKind.i64 (u*g) then
 bif inK IntKind.i64 (t*f+u*g) then
 bif inK IntKind.i64 (f+g) then
 bif decide (f+g=(0:Int)) then
 False
 else bif inK IntKind.i64 (quoZ (t*f+u*g) (f+g)) then
 bif inK IntKind.i64 (f+g) then
 bif inK IntKind.i64 (t*f+u*g+(f+g)) then
 bif inK IntKind.i64 (t*f+u*g+(f+g) - (1:Int)) then
 bif decide (f+g=(0:Int)) then
 False
 else bif inK IntKind.i64 (quoZ (t*f+u*g+(f+g) - (1:Int)) (f+g)) then
 Q (VRes.ret (VV.tup [I (quoZ (t*f+u*g) (f+g)),I (quoZ (t*f+u*g+(f+g) - (1:Int)) (f+g))])) (VH.mk (0) ([]))
 else False
 else False
 else False
 else False
 else False
 else False
 else False
 else False
 else False):=by kernel_rfl
theorem up_ev (a b:Int) (Q:VRes->VH->Prop):callN Try.prog noSpec noL 10 20 0 (.fn 80) [I a,I b] ⟨0,[]⟩ Q =
 (bif inK IntKind.i64 (a+b) then
 bif inK IntKind.i64 (a+b - (1:Int)) then
 bif decide (b=(0:Int)) then
 False
 else bif inK IntKind.i64 (quoZ (a+b - (1:Int)) b) then
 Q (VRes.ret (I (quoZ (a+b - (1:Int)) b))) (VH.mk (0) ([]))
 else False
 else False
 else False):=by kernel_rfl
theorem within_ev (n a b:Int) (Q:VRes->VH->Prop):callN Try.prog noSpec noL 10 20 0 (.fn 38) [I n,I a,I b] ⟨0,[]⟩ Q =
 (bif decide (n ≥ a) then
 Q (VRes.ret (VV.bool (decide (n<=b)))) (VH.mk (0) ([]))
 else Q (VRes.ret (VV.bool false)) (VH.mk (0) ([]))):=by kernel_rfl
end Go.Sx.Str
namespace Go.Sx.Str
open Go Go.Sx Go.Proofs
set_option maxRecDepth 1000000
theorem lift0 {f:FuncId} {args:List VV} {r:VRes} {h h':VH} (hc:CallsV Try.prog f args ⟨0,[]⟩ r h') (ha:belL 0 args=true) (hr:r.bel 0=true):CallsV Try.prog f args h r h:=
 calls_lift hc (Nat.zero_le _) (fun m hm=>absurd hm (Nat.not_lt_zero m)) (fun m hm=>absurd hm (Nat.not_lt_zero m)) (fun m hm=>absurd hm (Nat.not_lt_zero m)) (fun m hm=>absurd hm (Nat.not_lt_zero m)) ha hr
theorem isSpan_v (lo hi a b:Int) (h:VH):CallsV Try.prog 49 [.agg [I lo,I hi],I a,I b] h (.ret (.bool (spanB lo hi a b))) h:=by
 refine by_bo good0 ?_ rfl h
 rw [isSpan_ev]
 unfold spanB boQ
 repeat' first
  | (refine cond_d (fun _=>?_) (fun _=>?_))
 all_goals (simp; try omega)
def inB (n a b:Int):Bool:=decide (a<=n) && decide (n<=b)
theorem inB_iff {n a b:Int}:inB n a b=true ↔ a<=n/\n<=b:=by simp [inB]
theorem within_v (n a b:Int) (h:VH):CallsV Try.prog 38 [I n,I a,I b] h (.ret (.bool (inB n a b))) h:=by
 refine by_bo good0 ?_ rfl h
 rw [within_ev]
 unfold inB boQ
 refine cond_d (fun _=>?_) (fun _=>?_) <;> (simp; try omega)
def spanT (f:FuncId):FuncId × Spec1:=(f,fun _ args h K=>match args with
 | [.agg [.int .i64 a,.int .i64 b],.int .i64 x,.int .i64 y]=>K (.ret (.bool (spanB a b x y))) h
 | _=>False)
def inT (f:FuncId):FuncId × Spec1:=(f,fun _ args h K=>match args with
 | [.int .i64 n,.int .i64 a,.int .i64 b]=>K (.ret (.bool (inB n a b))) h
 | _=>False)
theorem spanT_ok {f:FuncId} (hf:∀ lo hi a b h,CallsV Try.prog f [.agg [I lo,I hi],I a,I b] h (.ret (.bool (spanB lo hi a b))) h):SpOk Try.prog (spanT f).1 (spanT f).2:=by
 intro lock args h K hK
 simp only [spanT] at hK
 split at hK
 ·exact ⟨_,h,hK,lockP_refl _ _,hf _ _ _ _ h⟩
 ·exact hK.elim
theorem inT_ok {f:FuncId} (hf:∀ n a b h,CallsV Try.prog f [I n,I a,I b] h (.ret (.bool (inB n a b))) h):SpOk Try.prog (inT f).1 (inT f).2:=by
 intro lock args h K hK
 simp only [inT] at hK
 split at hK
 ·exact ⟨_,h,hK,lockP_refl _ _,hf _ _ _ h⟩
 ·exact hK.elim
def meanOk (t f u g:Int):Prop:=(0<=t/\t<=100000)/\(0<=f/\f<=1073741824)/\(0<=u/\u<=100000)/\(0<=g/\g<=1073741824)/\0<f+g
def meanT:FuncId × Spec1:=(79,fun _ args h K=>match args with
 | [.int .i64 t,.int .i64 f,.int .i64 u,.int .i64 g]=>meanOk t f u g/\K (.ret (.tup [I (mD t f u g),I (mU t f u g)])) h
 | _=>False)
def upOk (a b:Int):Prop:=(0<=a/\a<=4611686018427387904)/\(0<b/\b<=4294967296)
def upT (f:FuncId):FuncId × Spec1:=(f,fun _ args h K=>match args with
 | [.int .i64 a,.int .i64 b]=>upOk a b/\K (.ret (I (quoZ (a+b - 1) b))) h
 | _=>False)
theorem sum_in {t f u g:Int} (h:meanOk t f u g):(0<=t*f/\t*f<=107374182400000)/\(0<=u*g/\u*g<=107374182400000):=by
 obtain ⟨h1,h2,h3,h4,_⟩:=h
 exact ⟨mul_in h1 h2,mul_in h3 h4⟩
theorem quo_in {a b:Int} (ha:0<=a) (hb:0<b):0<=quoZ a b/\quoZ a b<=a:=by
 rw [quoZ_nn ha]
 exact ⟨Int.ediv_nonneg ha (by omega),Int.ediv_le_self _ ha⟩
theorem meanT_ok:SpOk Try.prog meanT.1 meanT.2:=by
 intro lock args h K hK
 simp only [meanT] at hK
 split at hK
 ·rename_i t f u g
  obtain ⟨hm,hK⟩:=hK
  obtain ⟨s1,s2⟩:=sum_in hm
  obtain ⟨h1,h2,h3,h4,h5⟩:=hm
  have q1:=quo_in (a:=t*f+u*g) (b:=f+g) (by omega) h5
  have q2:=quo_in (a:=t*f+u*g+(f+g) - 1) (b:=f+g) (by omega) h5
  obtain ⟨r,h',hQ,hc⟩:=of_callN good0 (f:=79) (args:=[I t,I f,I u,I g]) (h:=⟨0,[]⟩) (K:=fun r _=>r=.ret (.tup [I (mD t f u g),I (mU t f u g)]))
   (by
    rw [mean_ev]
    exact cond_r (by omega) (cond_r (by omega) (cond_r (by omega) (cond_r (by omega) (cond_d (fun h=>by omega) (fun _=>cond_r (by omega) (cond_r (by omega) (cond_r (by omega) (cond_r (by omega) (cond_d (fun h=>by omega) (fun _=>cond_r (by omega) rfl)))))))))))
  subst hQ
  exact ⟨_,h,hK,lockP_refl _ _,lift0 hc rfl rfl⟩
 ·exact hK.elim
theorem up_v {a b:Int} (ho:upOk a b):∃ h',CallsV Try.prog 80 [I a,I b] ⟨0,[]⟩ (.ret (I (quoZ (a+b - 1) b))) h':=by
 obtain ⟨h1,h2⟩:=ho
 have q1:=quo_in (a:=a+b - 1) (b:=b) (by omega) h2.1
 obtain ⟨r,h',hQ,hc⟩:=of_callN good0 (f:=80) (args:=[I a,I b]) (h:=⟨0,[]⟩) (K:=fun r _=>r=.ret (I (quoZ (a+b - 1) b)))
  (by
   rw [up_ev]
   exact cond_r (by omega) (cond_r (by omega) (cond_d (fun h=>by omega) (fun _=>cond_r (by omega) rfl))))
 subst hQ
 exact ⟨h',hc⟩
theorem upT_ok {f:FuncId} (hf:∀ a b,upOk a b->∃ h',CallsV Try.prog f [I a,I b] ⟨0,[]⟩ (.ret (I (quoZ (a+b - 1) b))) h'):SpOk Try.prog (upT f).1 (upT f).2:=by
 intro lock args h K hK
 simp only [upT] at hK
 split at hK
 ·obtain ⟨ho,hK⟩:=hK
  obtain ⟨h',hc⟩:=hf _ _ ho
  exact ⟨_,h,hK,lockP_refl _ _,lift0 hc rfl rfl⟩
 ·exact hK.elim
end Go.Sx.Str
