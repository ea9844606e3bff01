/- A contract over read-only arrays holds where its arrays lie elsewhere. -/
import Derived.Test.YtlboglkgbhjpeaaSxL
namespace Go.Sx
open Go
mutual
def VV.pure:VV->Bool
 | .ptr _=>false
 | .slice _ _ _=>false
 | .func _ a b=>pureL a && pureL b
 | .iface _ v=>v.pure
 | .agg cs=>pureL cs
 | .tup vs=>pureL vs
 | .yld _=>false
 | .sl _ _=>false
 | .sub _ _ _ _ _=>false
 | .mp _=>false
 | .tl _ _ _=>false
 | .tp _=>false
 | .hs _ _ _=>false
 | _=>true
def pureL:List VV->Bool
 | []=>true
 | v::vs=>v.pure && pureL vs
end
mutual
theorem pure_V {R R':Rn}:∀ (v:VV) (x:Value),v.pure=true->VRel R v x->VRel R' v x
 | .bool _,_,_,hx=>hx
 | .int _ _,_,_,hx=>hx
 | .nilp,_,_,hx=>hx
 | .ptr _,_,hb,_=>by cases hb
 | .nils,_,_,hx=>hx
 | .slice _ _ _,_,hb,_=>by cases hb
 | .func _ a b,_,hb,⟨xs,ys,h1,h2,hx⟩=>by
  simp only [VV.pure,Bool.and_eq_true] at hb
  exact ⟨xs,ys,pure_L a xs hb.1 h1,pure_L b ys hb.2 h2,hx⟩
 | .nilf,_,_,hx=>hx
 | .iface _ v,_,hb,⟨y,hy,hx⟩=>⟨y,pure_V v y hb hy,hx⟩
 | .niff,_,_,hx=>hx
 | .agg cs,_,hb,⟨xs,h1,hx⟩=>⟨xs,pure_L cs xs hb h1,hx⟩
 | .tup vs,_,hb,⟨xs,h1,hx⟩=>⟨xs,pure_L vs xs hb h1,hx⟩
 | .opq _,_,_,hx=>hx
 | .any,_,_,hx=>hx
 | .yld _,_,hb,_=>by cases hb
 | .sl _ _,_,hb,_=>by cases hb
 | .sub _ _ _ _ _,_,hb,_=>by cases hb
 | .mp _,_,hb,_=>by cases hb
 | .tl _ _ _,_,hb,_=>by cases hb
 | .tp _,_,hb,_=>by cases hb
 | .hs _ _ _,_,hb,_=>by cases hb
theorem pure_L {R R':Rn}:∀ (cs:List VV) (xs:List Value),pureL cs=true->VRelL R cs xs->VRelL R' cs xs
 | [],_,_,hx=>hx
 | c::cs,_,hb,⟨y,ys,h1,h2,hx⟩=>by
  simp only [pureL,Bool.and_eq_true] at hb
  exact ⟨y,ys,pure_V c y hb.1 h1,pure_L cs ys hb.2 h2,hx⟩
end
def VRes.pure:VRes->Bool
 | .ret v=>v.pure
 | .panic v=>v.pure
theorem pure_res {R R':Rn} {r:VRes} (h:r.pure=true) {e:Ending} (hr:ResRel R r e):ResRel R' r e:=by
 cases r with
 | ret v=>obtain ⟨x,hx,he⟩:=hr; exact ⟨x,pure_V v x h hx,he⟩
 | panic v=>obtain ⟨x,hx,he⟩:=hr; exact ⟨x,pure_V v x h hx,he⟩
theorem emb_same {B:Nat} {R:Rn} {η:Nat->VB} {w w':World} (e:Emb B R η w) (hs:w.heap.size<=w'.heap.size) (h:∀ b,b<w.heap.size->w'.heap[b]? = w.heap[b]?):Emb B R η w':=by
 refine ⟨Nat.le_trans e.base hs,fun n cs t hn=>?_,e.inj,fun n s ok g hn=>?_,e.fresh,fun n st pd t m ps as bd hn=>?_,fun n L g s t hn=>(e.vec n L g s t hn).frame rfl (nole R) (fun b hb=>h b (e.lt (n:=n) (by rw [hn]; exact hb))),e.fvec,fun n ks vk es hn=>(e.map n ks vk es hn).frame rfl (fun b hb=>h b (e.lt (n:=n) (by rw [hn]; exact hb))),fun n K r C g t te hn=>(e.mat n K r C g t te hn).frame rfl (fun b hb=>h b (e.lt (n:=n) (by rw [hn]; exact hb))),e.bunF (fun _ _ _ _ _ _ h=>h) (fun _ _=>rfl) (fun n _ _ _ _ _ _ b hb=>h b (e.lt (n:=n) hb)),fun b xs hb=>⟨Nat.lt_of_lt_of_le (e.frz b xs hb).1 hs,(e.frz b xs hb).2.1,fun k x hk=>(cell_same (p:=⟨b,k,none⟩) (h b (e.frz b xs hb).1)).trans ((e.frz b xs hb).2.2 k x hk)⟩⟩
 ·obtain ⟨b,xs,h1,h2,h3,h4⟩:=e.ownC n cs t hn
  exact ⟨b,xs,h1,h2,h3,by rw [h b (Array.getElem?_eq_some_iff.1 h4).1]; exact h4⟩
 ·obtain ⟨h1,h2⟩:=e.arr n s ok g hn
  refine ⟨h1,fun ix i hi=>?_⟩
  obtain ⟨h3,h4,h5,xs,h6,h7,h8⟩:=h2 ix i hi
  refine ⟨h3,h4,h5,xs,h6,h7,fun k x hk=>?_⟩
  have hblk:((R.arr n ix).add (i.toNat*s+k)).block=(R.arr n ix).block:=by unfold Addr.add; split <;> rfl
  rw [cell_same (w:=w)]
  ·exact h8 k x hk
  ·rw [hblk]; exact h _ (Nat.lt_of_lt_of_le h4 e.base)
 ·obtain ⟨b,r,h1,h2,h3,h4⟩:=e.lp n st pd t m ps as bd hn
  exact ⟨b,r,h1,h2,by rw [h b (Array.getElem?_eq_some_iff.1 h3).1]; exact h3,h4⟩
structure View (w:World) (hm:VH) (ra:Nat->List Int->Addr) (st:Nat->Nat):Prop where
 arr:∀ n s ok g,hm.at n=.arr s ok g->st n=s/\∀ ix i,ok ix i->0<=i/\(ra n ix).block<w.heap.size/\(ra n ix).spot=none /\
  ∃ xs,VRelL ⟨fun _=>none,ra,st,fun _ _=>none,fun _=>none⟩ (g ix i) xs/\xs.length=s/\∀ k x,xs[k]? = some x->w.cell? ((ra n ix).add (i.toNat*s+k))=some x
def onlyArr (h:VH):Prop:=∀ n,(∃ s ok g,h.at n=.arr s ok g) ∨ h.at n=.gone ∨ h.at n=.free
section
variable {P:Program}
end
section
variable {P:Program}
end
end Go.Sx
