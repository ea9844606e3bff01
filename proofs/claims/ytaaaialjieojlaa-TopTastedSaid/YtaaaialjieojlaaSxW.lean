/- A contract over read-only arrays holds where its arrays are lists of the caller's. -/
import Derived.Test.YtaaaialjieojlaaSxV
namespace Go.Sx
open Go
def arrOf (s L:Nat) (g:Nat->List VV):VB:=.arr s (fun ix i=>ix=[]/\0<=i/\i<(L:Int)) (fun _ i=>g i.toNat)
section
variable {P:Program}
theorem calls_viewA {f:FuncId} {args':List VV} {hm h:VH} {r:VRes} (ho:onlyArr hm) (hr:r.pure=true)
  (view:∀ (B:Nat) (R:Rn) (w:World) (xs:List Value),Emb B R h.at w->VRelL R args' xs->∃ ra st args hm',CallsV P f args hm r hm'/\View w hm ra st/\VRelL ⟨fun _=>none,ra,st,fun _ _=>none,fun _=>none⟩ args xs):CallsV P f args' h r h:=by
 intro B R w xs em hx
 obtain ⟨ra,st,args,hm',hs,hv,ha⟩:=view B R w xs em hx
 have e0:Emb w.heap.size ⟨fun _=>none,ra,st,fun _ _=>none,fun _=>none⟩ hm.at w:=emb_args (fun _=>rfl) (fun _ _=>rfl) ho hv.arr
 refine (hs w.heap.size _ w xs e0 ha).mono ?_
 rintro e w' ⟨R1,n1,e1,x⟩
 have how:∀ n b,¬ (⟨fun _=>none,ra,st,fun _ _=>none,fun _=>none⟩:Rn).ow n (hm.at n) b:=fun n b hb=>by
  rcases ho n with ⟨s,ok,g,h1⟩ | h1 | h1 <;> rw [h1] at hb <;> cases hb
 have hsame:∀ b,b<w.heap.size->w'.heap[b]? = w.heap[b]?:=fun b hb=>n1.frame b hb (fun n=>how n b)
 exact ⟨R,⟨fun _ h=>h,fun _ _=>rfl,rfl,rfl,fun _ _ _ h=>h,fun n L v h1 h2=>(by rw [h1] at h2; cases h2),fun n L hn=>.inr ⟨L,hn,Nat.le_refl _⟩,fun n _ h=>.inl ⟨n,h⟩,n1.size,fun b hb _=>hsame b hb,n1.os,n1.tape,n1.output,fun _ _ h=>h,fun _ _ h=>.inl h⟩,
  emb_same em n1.size hsame,pure_res hr x⟩
theorem view_vec {B:Nat} {R:Rn} {w:World} {η:Nat->VB} (em:Emb B R η w) {m L s:Nat} {g:Nat->List VV} {t:TypeId} (hη:η m=.vec L g s t) {x:Value} (hx:VRel R (.sl m L) x) (hg:∀ i,i<L->pureL (g i)=true) :
  ∃ (q:Addr) (p:Option Addr) (cap:Nat),x=.slice p L cap/\L<=cap/\(cap=0 ∨ p=some q) /\
   ∀ R':Rn,∀ i:Int,0<=i->i<(L:Int)->q.block<w.heap.size/\q.spot=none/\∃ xs,VRelL R' (g i.toNat) xs/\xs.length=s/\∀ k y,xs[k]? = some y->w.cell? (q.add (i.toNat*s+k))=some y:=by
 obtain ⟨hv,_⟩:=hx
 have hok:=em.vec m L g s t hη
 obtain ⟨v,xs,g1,g2,_⟩:=hok.row
 rw [hv] at g1; cases g1
 rcases g2.2 with ⟨rfl,rfl⟩ | ⟨b,cap,cur,rfl,hb,hb2,hcap,_⟩
 ·exact ⟨default,none,0,rfl,Nat.le_refl 0,.inl rfl,fun R' i h0 h1=>by omega⟩
 ·refine ⟨⟨b,0,none⟩,_,cap,rfl,hcap,.inr rfl,fun R' i h0 h1=>⟨?_,rfl,?_⟩⟩
  ·exact (Array.getElem?_eq_some_iff.1 hb2).1
  ·obtain ⟨ys,w1,w2,_,w4⟩:=hok.elem hv rfl (i:=i.toNat) (by omega)
   refine ⟨ys,pure_L _ _ (hg _ (by omega)) w1,w2,fun k y hk=>?_⟩
   rw [add_lit,Nat.zero_add]
   exact w4 k y hk
end
end Go.Sx
