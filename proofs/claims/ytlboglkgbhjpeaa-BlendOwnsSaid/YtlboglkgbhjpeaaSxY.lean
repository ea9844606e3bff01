/- A contract over read-only arrays, that gives new lists, holds where its arrays lie elsewhere. -/
import Derived.Test.YtlboglkgbhjpeaaSxW
namespace Go.Sx
open Go
mutual
def VV.flat (k:Nat):VV->Bool
 | .ptr _=>false
 | .slice _ _ _=>false
 | .func _ a b=>flatL k a && flatL k b
 | .iface _ v=>v.flat k
 | .agg cs=>flatL k cs
 | .tup vs=>flatL k vs
 | .yld _=>false
 | .sl n _=>Nat.ble k n
 | .sub _ _ _ _ _=>false
 | .mp _=>false
 | .tl _ _ _=>false
 | .tp _=>false
 | .hs _ _ _=>false
 | _=>true
def flatL (k:Nat):List VV->Bool
 | []=>true
 | v::vs=>v.flat k && flatL k vs
end
def VRes.flat (k:Nat):VRes->Bool
 | .ret v=>v.flat k
 | .panic v=>v.flat k
mutual
theorem flat_V {k m:Nat} {R R':Rn} (hv:∀ n,k<=n->R'.vec (n - k+m)=R.vec n):∀ (v:VV) (x:Value),v.flat k=true->VRel R v x->VRel R' (v.sh k m) x
 | .bool _,_,_,hx=>hx
 | .int _ _,_,_,hx=>hx
 | .nilp,_,_,hx=>hx
 | .ptr _,_,hb,_=>by cases hb
 | .nils,_,_,hx=>hx
 | .slice _ _ _,_,hb,_=>by cases hb
 | .func _ a b,_,hb,⟨xs,ys,h1,h2,hx⟩=>by
  simp only [VV.flat,Bool.and_eq_true] at hb
  exact ⟨xs,ys,flat_L hv a xs hb.1 h1,flat_L hv b ys hb.2 h2,hx⟩
 | .nilf,_,_,hx=>hx
 | .iface _ v,_,hb,⟨y,hy,hx⟩=>⟨y,flat_V hv v y hb hy,hx⟩
 | .niff,_,_,hx=>hx
 | .agg cs,_,hb,⟨xs,h1,hx⟩=>⟨xs,flat_L hv cs xs hb h1,hx⟩
 | .tup vs,_,hb,⟨xs,h1,hx⟩=>⟨xs,flat_L hv vs xs hb h1,hx⟩
 | .opq _,_,_,hx=>hx
 | .any,_,_,hx=>hx
 | .yld _,_,hb,_=>by cases hb
 | .sub _ _ _ _ _,_,hb,_=>by cases hb
 | .mp _,_,hb,_=>by cases hb
 | .tl _ _ _,_,hb,_=>by cases hb
 | .tp _,_,hb,_=>by cases hb
 | .hs _ _ _,_,hb,_=>by cases hb
 | .sl n L,x,hb,⟨h1,h2⟩=>by
  have hk:k<=n:=Nat.le_of_ble_eq_true hb
  refine ⟨?_,h2⟩
  show R'.vec (shN k m n) L=some x
  unfold shN
  rw [if_neg (by omega),hv n hk]
  exact h1
theorem flat_L {k m:Nat} {R R':Rn} (hv:∀ n,k<=n->R'.vec (n - k+m)=R.vec n):∀ (cs:List VV) (xs:List Value),flatL k cs=true->VRelL R cs xs->VRelL R' (shL k m cs) xs
 | [],_,_,hx=>hx
 | c::cs,_,hb,⟨y,ys,h1,h2,hx⟩=>by
  simp only [flatL,Bool.and_eq_true] at hb
  exact ⟨y,ys,flat_V hv c y hb.1 h1,flat_L hv cs ys hb.2 h2,hx⟩
end
theorem flat_res {k m:Nat} {R R':Rn} (hv:∀ n,k<=n->R'.vec (n - k+m)=R.vec n) {r:VRes} (h:r.flat k=true) {e:Ending} (hr:ResRel R r e):ResRel R' (r.sh k m) e:=by
 cases r with
 | ret v=>obtain ⟨x,hx,he⟩:=hr; exact ⟨x,flat_V hv v x h hx,he⟩
 | panic v=>obtain ⟨x,hx,he⟩:=hr; exact ⟨x,flat_V hv v x h hx,he⟩
def VB.flat:VB->Prop
 | .gone=>True
 | .vec L g _ _=>∀ i,i<L->pureL (g i)=true
 | _=>False
theorem ownsRow_base {w:World} {base base':Nat} {e:TypeId} {size:Nat} {v:Value} {n:Nat} {xs:List Value} (h:w.ownsRow base e size v n xs) (hb:base'<=base):w.ownsRow base' e size v n xs:=by
 refine ⟨h.1,?_⟩
 rcases h.2 with h1 | ⟨g,cap,cur,h1,h2,h3⟩
 ·exact .inl h1
 ·exact .inr ⟨g,cap,cur,h1,Nat.le_trans hb h2,h3⟩
section
variable {P:Program}
theorem sem_ghost_cells {pl:Bool} {c:Code} {n m:Nat} {t t':Slots} {h h':VH} {e:VEx} {cs cs':List VV} {ty:TypeId} (g:Nat->List VV) (s:Nat) (ty2:TypeId) (hm:h.at m=.cells cs ty)
  (hs:SemC P pl c n t ((h.new (.vec 0 g s ty2)).put m (.cells cs' ty)) e t' h') (hc:∀ (R:Rn) (xs:List Value),R.vec h.nx 0=some (.slice none 0 0)->VRelL R cs xs->VRelL R cs' xs):SemC P pl c n t h e t' h':=by
 intro F hF hp B ds R a w em tr hn hds
 obtain ⟨e1,n1⟩:=emb_ghost em (VH.at_nx h) g s ty2
 have hne:m ≠ h.nx:=fun hh=>by rw [hh,VH.at_nx] at hm; cases hm
 rw [<- VH.at_new] at e1 n1
 have hm1:(h.new (.vec 0 g s ty2)).at m=.cells cs ty:=by rw [VH.at_new]; simp only [upd,if_neg hne]; exact hm
 have how:∀ b,(R.putV h.nx 0 (.slice none 0 0)).ow m (.cells cs' ty) b->(R.putV h.nx 0 (.slice none 0 0)).ow m ((h.new (.vec 0 g s ty2)).at m) b ∨ w.heap.size<=b:=fun b hb=>.inl (by rw [hm1]; exact hb)
 have e2:=e1.step (n0:=m) (x:=.cells cs' ty) (Nat.le_refl _) ⟨fun _ _ h=>h,rfl,rfl,fun _ _ _ h=>h,fun _ _ h=>h⟩ (fun _ _=>rfl) (fun _ _=>rfl) (fun _ _ _=>rfl) how (by simp) (by simp) (fun cs2 t2 hh=>by
  cases hh
  obtain ⟨b,xs,g1,g2,g3,g4⟩:=e1.own m cs ty hm1
  exact ⟨b,xs,g1,g2,hc _ xs putV_same g3,g4⟩) (by simp) (by simp)
 have n2:=Nxt.step (R:=R.putV h.nx 0 (.slice none 0 0)) (R':=R.putV h.nx 0 (.slice none 0 0)) (w':=w) (η:=(h.new (.vec 0 g s ty2)).at) (w:=w) (n0:=m) (x:=.cells cs' ty) (Nat.le_refl _) ⟨fun _ _ h=>h,rfl,rfl,fun _ _ _ h=>h,fun _ _ h=>h⟩ (fun _ _=>rfl) (fun _ _=>rfl) (fun _ _ _=>rfl) how (by simp) (fun L v h1 h2=>by rw [h1] at h2; cases h2) (by simp) rfl rfl rfl
 rw [<- VH.at_put _ _ _ (by rw [hm1]; simp)] at e2 n2
 refine wpIn_mono (hs F hF hp B ds _ a w e2 (tr.mono (n1.le em)) hn hds) ?_
 intro ex a' w' hp
 exact hp.of_next (n1.trans n2)
theorem ghost_cells_row {c:Code} {n m nx:Nat} {cs cs':List VV} {ty:TypeId} {bs:List (Nat × VB)} {t0:Slots} {T0 T:LT} (g:Nat->List VV) (s:Nat) (ty2:TypeId) (h0:LSound P true c n T0)
  (hm:(VH.mk nx bs).at m=.cells cs ty) (hc:∀ (R:Rn) (xs:List Value),R.vec nx 0=some (.slice none 0 0)->VRelL R cs xs->VRelL R cs' xs)
  (hT:∀ lock t h K,T lock t h K->FitP lock h t ⟨nx,bs⟩ t0/\T0 0 t0 (((VH.mk nx bs).new (.vec 0 g s ty2)).put m (.cells cs' ty)) K):LSound P true c n T:=by
 intro lock t h K hK
 obtain ⟨hf,hK⟩:=hT lock t h K hK
 obtain ⟨e,t',h',hk,_,hs⟩:=h0 _ _ _ _ hK
 obtain rfl:=hf.1.1
 exact ⟨e,t',h',hk,lock0 _ _,sem_fit hf (sem_ghost_cells g s ty2 hm hs hc)⟩
end
end Go.Sx
