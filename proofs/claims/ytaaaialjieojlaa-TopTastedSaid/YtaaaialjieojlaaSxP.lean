/- Rows whose arguments hold lists; lists of structs of numbers, read. -/
import Derived.Test.YtaaaialjieojlaaSxX
namespace Go.Sx
open Go Go.ChangeShapes Go.WideShapes Go.RowKit
section
variable {H:Type} {enc:TypeId × Value->H} {P:Program} {w:World} {base:Nat} {spare:Nat->Bool} {held:Bool}
def rdL (w:World) (a:Addr) (s j:Nat):List Int:=(List.range s).map fun k=>rdI w (a.add (j*s+k))
theorem vrel_ints {R:Rn} {k:IntKind}:∀ ns:List Int,VRelL R (ns.map fun n=>VV.int k n) (ns.map (Value.int k))
 | []=>rfl
 | _::ns=>⟨_,_,rfl,vrel_ints ns,rfl⟩
theorem rows_in {t e:TypeId} {us:List TypeId} {k:Nat} {v:Value} {ki:IntKind} {m:Nat} {y:DataW H × List MemPlace} (ht:P.underlying t=some (.slice e)) (hus:leavesT P k e=some us) (hsz:P.cellsOf e=us.length) (hpos:0<us.length) (hi:∀ u ∈ us,P.underlying u=some (.int ki))
  (hd:DataW.trod enc P w base spare held m t [v]=some y) :
  ∃ (l:List (List Int)) (cap:Nat) (q:Addr),RowIn w v l.length us.length cap (fun j=>(l.getD j []).map (VV.int ki)) q/\cap<=maxLen/\∀ x ∈ l,x.length=us.length/\∀ n ∈ x,(Lit.int ki n).wf=true:=by
 rcases leaf_slice ht hus hsz hd with rfl | ⟨a,len,cap,rfl,hl,hm,hg⟩
 ·exact ⟨[],0,default,⟨.inr ⟨rfl,rfl,rfl⟩,Nat.le_refl _,fun j hj=>absurd hj (Nat.not_lt_zero j)⟩,Nat.zero_le _,by simp⟩
 ·have hc:∀ i,i<len->∀ k,k<us.length->w.cell? (a.add (i*us.length+k))=some (.int ki (rdI w (a.add (i*us.length+k))))/\(Lit.int ki (rdI w (a.add (i*us.length+k)))).wf=true:=by
   intro i hi' k hk
   obtain ⟨m,v,y,h1,h2⟩:=hg i hi' k us[k] (List.getElem?_eq_getElem hk)
   obtain ⟨n,rfl,hw⟩:=leaf_int (hi _ (List.getElem_mem hk)) h2
   rw [rdI_of h1]
   exact ⟨h1,hw⟩
  have hbl:0<len->a.block<w.heap.size/\a.spot=none:=fun h0=>by
   have:=(hc 0 h0 0 hpos).1
   rw [show (0*us.length+0)=0 from by simp,show a.add 0=a from by simp [Addr.add]] at this
   exact ⟨cell_block this,cell_spot this⟩
  have hln:((List.range len).map (rdL w a us.length)).length=len:=by simp
  have hget:∀ j,j<len->((List.range len).map (rdL w a us.length)).getD j []=rdL w a us.length j:=fun j hj=>by simp [List.getD_eq_getElem?_getD,hj]
  refine ⟨(List.range len).map (rdL w a us.length),cap,a,⟨.inl (by rw [hln]),by rw [hln]; exact hl,?_⟩,hm,fun x hx=>?_⟩
  ·intro j hj
   rw [hln] at hj
   obtain ⟨h1,h2⟩:=hbl (by omega)
   refine ⟨h1,h2,fun R=>⟨(rdL w a us.length j).map (Value.int ki),?_,by simp [rdL],fun k y hk=>?_⟩⟩
   ·show VRelL R ((((List.range len).map (rdL w a us.length)).getD j []).map (VV.int ki)) _
    rw [hget j hj]
    exact vrel_ints _
   ·unfold rdL at hk
    rw [List.map_map,List.getElem?_map] at hk
    by_cases hks:k<us.length
    ·rw [List.getElem?_range hks] at hk
     simp only [Option.map_some,Option.some.injEq,Function.comp] at hk
     rw [<- hk]
     exact (hc j hj k hks).1
    ·rw [List.getElem?_eq_none (by simpa using hks)] at hk
     cases hk
  ·obtain ⟨j,hj,rfl⟩:=List.mem_map.1 hx
   have hj:j<len:=List.mem_range.1 hj
   refine ⟨by simp [rdL],fun n hn=>?_⟩
   obtain ⟨k,hk,rfl⟩:=List.mem_map.1 hn
   exact (hc j hj k (List.mem_range.1 hk)).2
end
end Go.Sx
