/- Weaker beginnings; small laws on trees. -/
import Derived.Test.YtlboglkgbhjpeaaSxF
namespace Go.Sx
open Go
section
variable {P:Program}
theorem at_lt {k:Nat} {bs:List (Nat × VB)} {n:Nat} (h:n<k):(VH.mk k bs).at n=lookB bs n:=by
 show (bif Nat.blt n k then lookB bs n else .free)=_
 rw [blt_t h]; rfl
theorem at_ge {k:Nat} {bs:List (Nat × VB)} {n:Nat} (h:¬ n<k):(VH.mk k bs).at n=.free:=by
 show (bif Nat.blt n k then lookB bs n else .free)=_
 rw [blt_f h]; rfl
theorem pre_at {h:VH} {bs:List (Nat × VB)} (hf:fitB bs h) (n:Nat):((VH.mk h.nx bs).at n=.gone/\n<h.nx) ∨ ((VH.mk h.nx bs).at n).fit (h.at n):=by
 by_cases hn:n<h.nx
 ·rw [at_lt hn]
  rcases fitB_look hf n with h1 | h1
  ·exact .inl ⟨h1,hn⟩
  ·exact .inr h1
 ·right
  rw [at_ge hn]
  cases h
  rw [at_ge hn]
  rfl
theorem pre_ow {h:VH} {bs:List (Nat × VB)} (hf:fitB bs h) {R:Rn} {n b:Nat} (hb:R.ow n ((VH.mk h.nx bs).at n) b):R.ow n (h.at n) b:=by
 rcases pre_at hf n with h1 | h1
 ·rw [h1.1] at hb; cases hb
 ·rw [<- VB.fit_ow h1]; exact hb
theorem pre_emb {B:Nat} {R:Rn} {w:World} {h:VH} {bs:List (Nat × VB)} (hf:fitB bs h) (e:Emb B R h.at w):Emb B R (VH.mk h.nx bs).at w:=by
 have same:∀ n b,(VH.mk h.nx bs).at n=b->b ≠ .gone->b.fit (h.at n):=by
  intro n b hn hb
  rcases pre_at hf n with h1 | h1
  ·rw [h1.1] at hn; exact (hb hn.symm).elim
  ·rw [<- hn]; exact h1
 refine ⟨e.base,fun n cs t hn=>e.ownC n cs t (by rw [VB.fit_cs (same n _ rfl (fun e=>by rw [e] at hn; simp at hn))]; exact hn),fun n m b h1 h2=>e.inj n m b (pre_ow hf h1) (pre_ow hf h2),fun n s ok g hn=>e.arr n s ok g (VB.fit_eq (same n _ hn (by simp)) (by simp)),fun n hn=>e.fresh n (VB.fit_eq (same n _ hn (by simp)) (by simp)),
  fun n st pd t m ps as bd hn=>e.lp n st pd t m ps as bd (VB.fit_eq (same n _ hn (by simp)) (by simp)),fun n L g s t hn=>?_,fun n hn=>e.fvec n (VB.fit_eq (same n _ hn (by simp)) (by simp)),fun n ks vk es hn=>e.map n ks vk es (VB.fit_eq (same n _ hn (by simp)) (by simp)),fun n K r C g t te hn=>?_,bun_fit e (fun n t r C g te hn=>VB.fit_bun (same n _ hn (by simp))) (fun _ _=>rfl),fun b xs hb=>⟨(e.frz b xs hb).1,fun n hn=>(e.frz b xs hb).2.1 n (pre_ow hf hn),(e.frz b xs hb).2.2⟩⟩
 ·obtain ⟨g',h1,h2⟩:=VB.fit_vec (same n _ hn (by simp))
  exact (e.vec n L g' s t h1).fit h2
 ·obtain ⟨g',h1,h2⟩:=VB.fit_mat (same n _ hn (by simp))
  exact (e.mat n K r C g' t te h1).fit h2
theorem pre_nxt {R R':Rn} {w w':World} {h:VH} {bs:List (Nat × VB)} {η':Nat->VB} (hf:fitB bs h) (n1:Nxt (VH.mk h.nx bs).at R w η' R' w'):Nxt h.at R w η' R' w':=by
 have nf:∀ n,h.at n ≠ .free->(VH.mk h.nx bs).at n ≠ .free:=by
  intro n hn
  rcases pre_at hf n with h1 | h1
  ·rw [h1.1]; simp
  ·rw [ne_eq,VB.fit_free h1]; exact hn
 have fn:∀ n,(VH.mk h.nx bs).at n=.free->h.at n=.free:=by
  intro n hn
  rcases pre_at hf n with h1 | h1
  ·rw [h1.1] at hn; cases hn
  ·exact (VB.fit_free h1).1 hn
 have vn:∀ n L,((VH.mk h.nx bs).at n).ver=some L->(h.at n).ver=some L:=by
  intro n L hn
  rcases pre_at hf n with h1 | h1
  ·rw [h1.1] at hn; cases hn
  ·rw [VB.fit_ver h1]; exact hn
 have bn:∀ n t r C g te,(VH.mk h.nx bs).at n=.bun t r C g te->∃ g',h.at n=.bun t r C g' te:=by
  intro n t r C g te hn
  rcases pre_at hf n with h1 | h1
  ·rw [h1.1] at hn; cases hn
  ·rw [hn] at h1
   obtain ⟨g',h2,_⟩:=VB.fit_bun h1
   exact ⟨g',h2⟩
 refine ⟨fun n hn=>n1.keep n (nf n hn),fun n hn=>n1.old n (nf n hn),n1.arr,n1.str,n1.vold,fun n L v h1 h2=>?_,fun n L hn=>?_,fun n b hb=>?_,n1.size,fun b hb hn=>n1.frame b hb (fun n hl=>hn n (pre_ow hf hl)),n1.os,n1.tape,n1.output,n1.fmono,fun b xs hb=>(n1.fnew b xs hb).imp id (fun h=>h.imp (fun ⟨n,hn⟩=>⟨n,pre_ow hf hn⟩) id),⟨fun t j xs h=>(n1.reg.new t j xs h).imp id (fun ⟨n,r,C,g,te,hn⟩=>?_),fun n t r C g te hn=>?_⟩⟩
 ·rcases n1.vnew n L v h1 h2 with h3 | ⟨L0,h3,h4⟩
  ·exact .inl (fn n h3)
  ·exact .inr ⟨L0,vn _ _ h3,h4⟩
 ·rcases n1.vmono n L hn with h3 | ⟨L0,h3,h4⟩
  ·exact .inl (fn n h3)
  ·exact .inr ⟨L0,vn _ _ h3,h4⟩
 ·rcases n1.own n b hb with ⟨m,h3⟩ | h3
  ·exact .inl ⟨m,pre_ow hf h3⟩
  ·exact .inr h3
 ·obtain ⟨r',C',g',te',h1⟩:=n1.reg.old n t r C g te hn
  obtain ⟨g2,h2⟩:=bn n t r' C' g' te' h1
  exact ⟨_,_,_,_,h2⟩
 ·obtain ⟨g',h1⟩:=bn n t r C g te hn
  exact ⟨n,_,_,_,_,h1⟩
theorem sem_pre {pl:Bool} {c:Code} {n:Nat} {t t2 t':Slots} {h h':VH} {e:VEx} {bs:List (Nat × VB)} (hs:SemC P pl c n t2 ⟨h.nx,bs⟩ e t' h') (hf:fitB bs h) (ht:fitS t2 t):SemC P pl c n t h e t' h':=by
 intro F hF hp B ds R a w em tr hn hds
 refine wpIn_mono (hs F hF hp B ds R a w (pre_emb hf em) (fun d=>?_) hn hds) ?_
 ·rcases fitS_look ht d with h1 | h1
  ·rw [h1]; trivial
  ·rw [h1]; exact tr d
 ·rintro ex a' w' ⟨R',rs,n1,e1,t1,s1,d1,m1,q1,z1,x⟩
  exact ⟨R',rs,pre_nxt hf n1,e1,t1,s1,d1,m1,q1,z1,x⟩
end
theorem cond_i {b:Bool} {p q:Prop} (h1:b=true->p) (h2:b=false->q):(bif b then p else q):=by
 cases b
 ·exact h2 rfl
 ·exact h1 rfl
theorem cond_k {b:Bool} {p q:Prop} (hb:b=true) (h:p):(bif b then p else q):=by rw [hb]; exact h
theorem cond_d {c:Prop} [Decidable c] {p q:Prop} (h1:c->p) (h2:¬ c->q):(bif decide c then p else q):=by
 by_cases hc:c
 ·simp only [hc,decide_true,cond_true]; exact h1 hc
 ·simp only [hc,decide_false,cond_false]; exact h2 hc
theorem cond_nd {c:Prop} [Decidable c] {p q:Prop} (h1:¬ c->p) (h2:c->q):(bif !decide c then p else q):=by
 by_cases hc:c
 ·simp only [hc,decide_true,Bool.not_true,cond_false]; exact h2 hc
 ·simp only [hc,decide_false,Bool.not_false,cond_true]; exact h1 hc
theorem cond_dk {c:Prop} [Decidable c] {p q:Prop} (hc:c) (h:p):(bif decide c then p else q):=by
 simp only [hc,decide_true,cond_true]; exact h
theorem cond_r {n:Int} {p q:Prop} (hc : -9223372036854775808<=n/\n<=9223372036854775807) (h:p):(bif inK .i64 n then p else q):=
 cond_k (inK_64.2 hc) h
end Go.Sx
