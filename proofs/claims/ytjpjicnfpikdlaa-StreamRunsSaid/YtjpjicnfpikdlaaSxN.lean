/- A contract over some blocks holds where they bear other names. -/
import Derived.Test.YtjpjicnfpikdlaaSxU
namespace Go.Sx
open Go
def VA.ren (ρ:Nat->Nat):VA->VA
 | .own n off=>.own (ρ n) off
 | .el n ix i off=>.el n ix i off
 | .ve n L s i off=>.ve (ρ n) L s i off
 | .fa n p o=>.fa (ρ n) p o
mutual
def VV.ren (ρ:Nat->Nat):VV->VV
 | .ptr a=>.ptr (a.ren ρ)
 | .slice a l c=>.slice (a.ren ρ) l c
 | .func f a b=>.func f (renL ρ a) (renL ρ b)
 | .iface t v=>.iface t (v.ren ρ)
 | .agg cs=>.agg (renL ρ cs)
 | .tup vs=>.tup (renL ρ vs)
 | .yld n=>.yld (ρ n)
 | .sl n L=>.sl (ρ n) L
 | .sub n L s i c=>.sub (ρ n) L s i c
 | .mp n=>.mp (ρ n)
 | v=>v
def renL (ρ:Nat->Nat):List VV->List VV
 | []=>[]
 | v::vs=>v.ren ρ::renL ρ vs
end
def VRes.ren (ρ:Nat->Nat):VRes->VRes
 | .ret v=>.ret (v.ren ρ)
 | .panic v=>.panic (v.ren ρ)
structure Ren (k:Nat) (ρ:Nat->Nat) (R R':Rn):Prop where
 blk:∀ n,n<k->R.blk n=R'.blk (ρ n)
 vec:∀ n,n<k->R.vec n=R'.vec (ρ n)
 arr:R.arr=R'.arr
 str:R.str=R'.str
 frz:R.frz=R'.frz
theorem Ren.no {k:Nat} {ρ:Nat->Nat} {R R':Rn} (h:Ren k ρ R R'):R.no=R'.no:=by unfold Rn.no; rw [h.arr,h.str,h.frz]
theorem ren_A {k:Nat} {ρ:Nat->Nat} {R R':Rn} (h:Ren k ρ R R'):∀ (a:VA) (p:Addr),a.bel k=true->(ARel R a p ↔ ARel R' (a.ren ρ) p)
 | .own n off,_,hk=>by simp only [ARel,VA.ren,h.blk n (ltb hk)]
 | .el n ix i off,_,_=>by simp only [ARel,VA.ren,h.arr,h.str]
 | .ve n L s i off,_,hk=>by simp only [ARel,VA.ren,h.vec n (ltb hk)]
 | .fa n p o,_,hk=>by simp only [ARel,VA.ren,h.blk n (ltb hk)]
mutual
theorem ren_V {k:Nat} {ρ:Nat->Nat} {R R':Rn} (h:Ren k ρ R R'):∀ (v:VV) (x:Value),v.bel k=true->(VRel R v x ↔ VRel R' (v.ren ρ) x)
 | .bool _,_,_=>Iff.rfl
 | .int _ _,_,_=>Iff.rfl
 | .nilp,_,_=>Iff.rfl
 | .ptr a,_,hb=>by
  simp only [VRel,VV.ren]
  exact exists_congr fun p=>and_congr_left fun _=>ren_A h a p hb
 | .nils,_,_=>Iff.rfl
 | .slice a _ _,_,hb=>by
  simp only [VRel,VV.ren]
  exact and_congr_right fun _=>exists_congr fun p=>and_congr_left fun _=>or_congr_right (exists_congr fun q=>and_congr_right fun _=>ren_A h a q hb)
 | .func _ a b,_,hb=>by
  simp only [VV.bel,Bool.and_eq_true] at hb
  simp only [VRel,VV.ren]
  exact exists_congr fun xs=>exists_congr fun ys=>and_congr (ren_L h a xs hb.1) (and_congr_left fun _=>ren_L h b ys hb.2)
 | .nilf,_,_=>Iff.rfl
 | .iface _ v,_,hb=>by
  simp only [VRel,VV.ren]
  exact exists_congr fun y=>and_congr_left fun _=>ren_V h v y hb
 | .niff,_,_=>Iff.rfl
 | .agg cs,_,hb=>by
  simp only [VRel,VV.ren]
  exact exists_congr fun xs=>and_congr_left fun _=>ren_L h cs xs hb
 | .tup vs,_,hb=>by
  simp only [VRel,VV.ren]
  exact exists_congr fun xs=>and_congr_left fun _=>ren_L h vs xs hb
 | .opq _,_,_=>Iff.rfl
 | .any,_,_=>Iff.rfl
 | .yld n,_,hb=>by simp only [VRel,VV.ren,h.blk n (ltb hb)]
 | .sl n L,_,hb=>by simp only [VRel,VV.ren,h.vec n (ltb hb)]
 | .sub n _ _ _ _,_,hb=>by simp only [VRel,VV.ren,h.vec n (ltb hb)]
 | .mp n,_,hb=>by simp only [VRel,VV.ren,h.blk n (ltb hb)]
 | .tl _ _ _,_,_=>by simp only [VRel,VV.ren,h.no,h.frz]
 | .tp _,_,_=>by simp only [VRel,VV.ren,h.no,h.frz]
theorem ren_L {k:Nat} {ρ:Nat->Nat} {R R':Rn} (h:Ren k ρ R R'):∀ (cs:List VV) (xs:List Value),belL k cs=true->(VRelL R cs xs ↔ VRelL R' (renL ρ cs) xs)
 | [],_,_=>Iff.rfl
 | c::cs,_,hb=>by
  simp only [belL,Bool.and_eq_true] at hb
  simp only [VRelL,renL]
  exact exists_congr fun y=>exists_congr fun ys=>and_congr (ren_V h c y hb.1) (and_congr_left fun _=>ren_L h cs ys hb.2)
end
section
variable {P:Program}
end
end Go.Sx
