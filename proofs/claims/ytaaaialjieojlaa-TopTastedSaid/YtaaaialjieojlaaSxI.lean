/- A law over data, at a row's arguments. -/
import Derived.Test.YtaaaialjieojlaaSxS
import Derived.Test.YtaaaialjieojlaaSxP
namespace Go.Sx
open Go RowKit
def dataR (w:World):Rn:=⟨fun _=>none,fun _ _=>⟨0,0,none⟩,fun _=>0,fun _ _=>none,Wfr w⟩
theorem row_data {P:Program} {f:FuncId} {args:List VV} {W:World} {xs:List Value} {h':VH} (hs:CallsV P f args ⟨0,[]⟩ (.ret (.bool true)) h') (ha:VRelL (dataR W) args xs) :
  Calls P f xs.toArray W fun e W'=>e=.returned (.bool true)/\Below W.heap.size W W':=
 calls_row (R:=dataR W) hs (emb_none (fun _=>rfl) (fun _ _=>rfl) (fun _ _ h=>wfr_ok h)) ha (fun n b=>none_not_live n b)
theorem rowIn_tl {W:World} {v:Value} {L s cap:Nat} {g:Nat->List VV} {q:Addr} (h:RowIn W v L s cap g q) (hs:1<=s) (hg:∀ j,j<L->(g j).all VV.one=true):VRel (dataR W) (.tl L s g) v:=by
 rcases h.val with rfl | ⟨rfl,rfl,rfl⟩
 ·refine ⟨some q,cap,rfl,⟨h.le,fun h=>by cases h⟩,fun j hj=>?_⟩
  obtain ⟨h1,h2,h3⟩:=h.cell j hj
  obtain ⟨xs,k1,k2,k3⟩:=h3 (dataR W).no
  obtain ⟨b,o,sp⟩:=q
  have h2:sp=none:=h2
  subst h2
  have hc:∀ k (hk:k<xs.length),W.cell? ⟨b,o+(j*s+k),none⟩=some xs[k]:=fun k hk=>by
   have:=k3 k xs[k] (List.getElem?_eq_getElem hk)
   rwa [add_lit] at this
  have h0:=hc 0 (by omega)
  unfold World.cell? at h0
  split at h0
  ·rename_i ys t z hb
   have hl:∀ k (hk:k<xs.length),ys.toList[o+(j*s+k)]? = some xs[k]:=fun k hk=>by
    have:=hc k hk
    have hb':W.heap[b]? = some (.cells ys t z):=hb
    unfold World.cell? at this
    simp only [hb'] at this
    simpa using this
   have hlast:=(List.getElem?_eq_some_iff.1 (hl (s - 1) (by omega))).1
   refine ⟨b,o,ys.toList,rfl,?_,by omega,hg j hj,?_⟩
   ·show Wfr W b=some ys.toList
    unfold Wfr
    rw [hb]
   ·have e1:((ys.toList.drop (o+j*s)).take s)=xs:=by
     apply List.ext_getElem?
     intro k
     rw [List.getElem?_take]
     split
     ·rename_i hk
      rw [List.getElem?_drop,List.getElem?_eq_getElem (show k<xs.length by omega),<- hl k (by omega)]
      congr 1
      omega
     ·rw [List.getElem?_eq_none (by omega)]
    rw [e1]
    exact k1
  ·cases h0
 ·exact ⟨none,0,rfl,⟨Nat.le_refl _,fun _=>rfl⟩,fun i hi=>by omega⟩
theorem rel_ints {R:Rn} {k:IntKind} (ns:List Int):VRelL R (ns.map fun n=>VV.int k n) (ns.map (Value.int k)):=vrel_ints ns
end Go.Sx
