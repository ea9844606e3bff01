/- stream: Nq1 Nq2 Om1 Om2 Nq3 Nq4 Nq5 Nt1 Nt2 On1 On2, in one text. -/
import Derived.Test.YtnfkbbcbehnnkaaWW4
import Derived.Test.YtnfkbbcbehnnkaaWW3
namespace Go.Sx.Nos
open Go Go.Sx Go.Proofs
set_option maxRecDepth 1000000
def dsDo:List Nat:=[25,24,1,6]
def VDo (n k:Nat) (i:Int):List VV:=[I i,I n,.ptr (.own 3 0),.sl 4 k]
def nsDo:List Nat:=[0,1,2,3,4]
def BDo (p:Pn) (c1 c2 c3:Nat) (l:List Int):List VB:=[arD p,arT p,arS p,pnB p c1 c2 c3,.vec l.length (dG l) 1 3]
theorem do_ev (p:Pn) (c1 c2 c3:Nat) (l:List Int) (i:Int) (X:VEx->List VV->List VB->Prop):codeE Try.prog (callN Try.prog (tabS [triT]) noL 10 20) (fun _=>none) true 10 49 0 (loopB 1 (bodyOf Try.prog 32)) (dsDo.zip (VDo p.T.length l.length i)) ⟨5,nsDo.zip (BDo p c1 c2 c3 l)⟩ (obs 5 dsDo nsDo X) =
 (bif decide (i<(↑p.T.length:Int)) then
 bif Nat.ble 1 c2 then
 (∀ (j:Nat),j<p.T.length->(([]:List Int)=[]/\(0:Int)<=(0:Int)+(↑j:Int)/\(0:Int)+(↑j:Int)<(↑p.T.length:Int))/\((fun (_:List Int) (i:Int) ↦ tG p.T i.toNat) [] ((0:Int)+(↑j:Int))).all VV.one=true)/\bif roomB (0+p.T.length) (40) then
 bif inK IntKind.i64 (i+(1:Int)) then
 bif (0+p.T.length).beq (0+p.T.length) && decide ((0:Int)<=i/\i<=i+(1:Int)/\i+(1:Int)<=(↑(0+p.T.length):Int)/\(↑(0+p.T.length):Int)<=(↑(0+p.T.length):Int)) then
 bif decide (i=i+(1:Int)) then
 ∃ p_1,pnIs (VH.mk (7) ((5,VB.cells [VV.slice (VA.el 0 [] (0:Int) 0) p.D.length c1,VV.sl (6) (0+p.T.length),VV.slice (VA.el 2 [] (0:Int) 0) p.S.length c3] 26)::(6,VB.vec (0+p.T.length) (catG 0 (fun j=>List.take (5) (List.drop (j*(5)) [])) fun j=>(fun (_:List Int) (i:Int) ↦ tG p.T i.toNat) [] ((0:Int)+(↑j:Int))) (5) 32)::(6,VB.vec 0 (fun j=>List.take (5) (List.drop (j*(5)) [])) (5) 32)::(5,VB.cells [VV.slice (VA.el 0 [] (0:Int) 0) p.D.length c1,VV.slice (VA.el 1 [] (0:Int) 0) p.T.length c2,VV.slice (VA.el 2 [] (0:Int) 0) p.S.length c3] 26)::(5,VB.cells [VV.nils,VV.nils,VV.nils] 26)::nsDo.zip (BDo p c1 c2 c3 l))) p_1 (sD p c1) (VV.sl (6) (0+p.T.length)) (sS p c3)/\PnOk p_1/\(fitF p_1->bif l.length.beq l.length then
 bif roomB (l.length+1) (8) then
 bif inK IntKind.i64 (i+(1:Int)) then
 X VEx.normal [I (i+(1:Int)),I (↑p.T.length:Int),VV.ptr (VA.own 3 0),VV.sl 4 (l.length+1)] [arD p,arT p,arS p,pnB p c1 c2 c3,VB.vec (l.length+1) (catG l.length (dG l) fun j=>List.take (1) (List.drop (j*(1)) [I i])) (1) 3]
 else False
 else False
 else False)/\(¬fitF p_1->bif inK IntKind.i64 (i+(1:Int)) then
 X VEx.normal [I (i+(1:Int)),I (↑p.T.length:Int),VV.ptr (VA.own 3 0),VV.sl 4 l.length] [arD p,arT p,arS p,pnB p c1 c2 c3,VB.vec l.length (dG l) 1 (3:TypeId)]
 else False)
 else bif decide ((0:Int)<=(0:Int)/\(0:Int)<=i/\i<=(↑(0+p.T.length):Int)) then
 bif (0+p.T.length).beq (0+p.T.length) then
 bif decide ((0:Int)<=i+(1:Int)/\i+(1:Int)<=(↑(0+p.T.length):Int)/\(↑(0+p.T.length):Int)<=(↑(0+p.T.length):Int)) then
 bif (0+p.T.length).beq (0+p.T.length) then
 bif (0+p.T.length).beq (0+p.T.length) then
 bif (0+p.T.length).beq (0+p.T.length) then
 bif decide (Int.toNat (0:Int)+(i - (0:Int)).toNat+((↑(0+p.T.length):Int) - (i+(1:Int))).toNat<=0+p.T.length) then
 bif decide ((0:Int)<=(↑((i - (0:Int)).toNat+((↑(0+p.T.length):Int) - (i+(1:Int))).toNat):Int)/\(↑((i - (0:Int)).toNat+((↑(0+p.T.length):Int) - (i+(1:Int))).toNat):Int)<=(↑(0+p.T.length):Int)/\(↑(Int.toNat (0:Int)):Int)+(↑(0+p.T.length):Int)<=(↑(0+p.T.length):Int)) then
 bif (0+p.T.length).beq (0+p.T.length) && [I 0,I 0,I 0,I 0,I 0].length.beq (5) && [I 0,I 0,I 0,I 0,I 0].all VV.one && belL 0 [I 0,I 0,I 0,I 0,I 0] then
 ∃ p_1,pnIs (VH.mk (7) ((5,VB.cells [VV.slice (VA.el 0 [] (0:Int) 0) p.D.length c1,VV.sub (6) (0+p.T.length) (5) (Int.toNat (0:Int)) ((i - (0:Int)).toNat+((↑(0+p.T.length):Int) - (i+(1:Int))).toNat),VV.slice (VA.el 2 [] (0:Int) 0) p.S.length c3] 26)::(6,VB.vec (0+p.T.length) (ovG (Int.toNat (0:Int)+(↑((i - (0:Int)).toNat+((↑(0+p.T.length):Int) - (i+(1:Int))).toNat):Int).toNat) ((↑(0+p.T.length):Int) - (↑((i - (0:Int)).toNat+((↑(0+p.T.length):Int) - (i+(1:Int))).toNat):Int)).toNat (ovG (Int.toNat (0:Int)+(i - (0:Int)).toNat) ((↑(0+p.T.length):Int) - (i+(1:Int))).toNat (catG 0 (fun j=>List.take (5) (List.drop (j*(5)) [])) fun j=>(fun (_:List Int) (i:Int) ↦ tG p.T i.toNat) [] ((0:Int)+(↑j:Int))) fun j=>catG 0 (fun j=>List.take (5) (List.drop (j*(5)) [])) (fun j=>(fun (_:List Int) (i:Int) ↦ tG p.T i.toNat) [] ((0:Int)+(↑j:Int))) ((i+(1:Int)).toNat+j)) fun x=>[I 0,I 0,I 0,I 0,I 0]) (5) 32)::(6,VB.vec (0+p.T.length) (ovG (Int.toNat (0:Int)+(i - (0:Int)).toNat) ((↑(0+p.T.length):Int) - (i+(1:Int))).toNat (catG 0 (fun j=>List.take (5) (List.drop (j*(5)) [])) fun j=>(fun (_:List Int) (i:Int) ↦ tG p.T i.toNat) [] ((0:Int)+(↑j:Int))) fun j=>catG 0 (fun j=>List.take (5) (List.drop (j*(5)) [])) (fun j=>(fun (_:List Int) (i:Int) ↦ tG p.T i.toNat) [] ((0:Int)+(↑j:Int))) ((i+(1:Int)).toNat+j)) (5) 32)::(6,VB.vec (0+p.T.length) (catG 0 (fun j=>List.take (5) (List.drop (j*(5)) [])) fun j=>(fun (_:List Int) (i:Int) ↦ tG p.T i.toNat) [] ((0:Int)+(↑j:Int))) (5) 32)::(6,VB.vec 0 (fun j=>List.take (5) (List.drop (j*(5)) [])) (5) 32)::(5,VB.cells [VV.slice (VA.el 0 [] (0:Int) 0) p.D.length c1,VV.slice (VA.el 1 [] (0:Int) 0) p.T.length c2,VV.slice (VA.el 2 [] (0:Int) 0) p.S.length c3] 26)::(5,VB.cells [VV.nils,VV.nils,VV.nils] 26)::nsDo.zip (BDo p c1 c2 c3 l))) p_1 (sD p c1) (VV.sub (6) (0+p.T.length) (5) (Int.toNat (0:Int)) ((i - (0:Int)).toNat+((↑(0+p.T.length):Int) - (i+(1:Int))).toNat)) (sS p c3)/\PnOk p_1/\(fitF p_1->bif l.length.beq l.length then
 bif roomB (l.length+1) (8) then
 bif inK IntKind.i64 (i+(1:Int)) then
 X VEx.normal [I (i+(1:Int)),I (↑p.T.length:Int),VV.ptr (VA.own 3 0),VV.sl 4 (l.length+1)] [arD p,arT p,arS p,pnB p c1 c2 c3,VB.vec (l.length+1) (catG l.length (dG l) fun j=>List.take (1) (List.drop (j*(1)) [I i])) (1) 3]
 else False
 else False
 else False)/\(¬fitF p_1->bif inK IntKind.i64 (i+(1:Int)) then
 X VEx.normal [I (i+(1:Int)),I (↑p.T.length:Int),VV.ptr (VA.own 3 0),VV.sl 4 l.length] [arD p,arT p,arS p,pnB p c1 c2 c3,VB.vec l.length (dG l) 1 (3:TypeId)]
 else False)
 else False
 else False
 else bif (i - (0:Int)).toNat.beq (0+p.T.length) && roomB (0+p.T.length+((↑(0+p.T.length):Int) - (i+(1:Int))).toNat) (40) then
 bif decide ((0:Int)<=(↑(0+p.T.length+((↑(0+p.T.length):Int) - (i+(1:Int))).toNat):Int)/\(↑(0+p.T.length+((↑(0+p.T.length):Int) - (i+(1:Int))).toNat):Int)<=(↑(0+p.T.length):Int)/\(↑0:Int)+(↑(0+p.T.length):Int)<=(↑(0+p.T.length+((↑(0+p.T.length):Int) - (i+(1:Int))).toNat):Int)) then
 bif (0+p.T.length+((↑(0+p.T.length):Int) - (i+(1:Int))).toNat).beq (0+p.T.length+((↑(0+p.T.length):Int) - (i+(1:Int))).toNat) && [I 0,I 0,I 0,I 0,I 0].length.beq (5) && [I 0,I 0,I 0,I 0,I 0].all VV.one && belL 0 [I 0,I 0,I 0,I 0,I 0] then
 ∃ p_1,pnIs (VH.mk (7) ((5,VB.cells [VV.slice (VA.el 0 [] (0:Int) 0) p.D.length c1,VV.sub (6) (0+p.T.length+((↑(0+p.T.length):Int) - (i+(1:Int))).toNat) (5) 0 (0+p.T.length+((↑(0+p.T.length):Int) - (i+(1:Int))).toNat),VV.slice (VA.el 2 [] (0:Int) 0) p.S.length c3] 26)::(6,VB.vec (0+p.T.length+((↑(0+p.T.length):Int) - (i+(1:Int))).toNat) (ovG (0+(↑(0+p.T.length+((↑(0+p.T.length):Int) - (i+(1:Int))).toNat):Int).toNat) ((↑(0+p.T.length):Int) - (↑(0+p.T.length+((↑(0+p.T.length):Int) - (i+(1:Int))).toNat):Int)).toNat (catG (0+p.T.length) (catG 0 (fun j=>List.take (5) (List.drop (j*(5)) [])) fun j=>(fun (_:List Int) (i:Int) ↦ tG p.T i.toNat) [] ((0:Int)+(↑j:Int))) fun j=>catG 0 (fun j=>List.take (5) (List.drop (j*(5)) [])) (fun j=>(fun (_:List Int) (i:Int) ↦ tG p.T i.toNat) [] ((0:Int)+(↑j:Int))) ((i+(1:Int)).toNat+j)) fun x=>[I 0,I 0,I 0,I 0,I 0]) (5) 32)::(6,VB.vec (0+p.T.length+((↑(0+p.T.length):Int) - (i+(1:Int))).toNat) (catG (0+p.T.length) (catG 0 (fun j=>List.take (5) (List.drop (j*(5)) [])) fun j=>(fun (_:List Int) (i:Int) ↦ tG p.T i.toNat) [] ((0:Int)+(↑j:Int))) fun j=>catG 0 (fun j=>List.take (5) (List.drop (j*(5)) [])) (fun j=>(fun (_:List Int) (i:Int) ↦ tG p.T i.toNat) [] ((0:Int)+(↑j:Int))) ((i+(1:Int)).toNat+j)) (5) 32)::(6,VB.vec (0+p.T.length) (catG 0 (fun j=>List.take (5) (List.drop (j*(5)) [])) fun j=>(fun (_:List Int) (i:Int) ↦ tG p.T i.toNat) [] ((0:Int)+(↑j:Int))) (5) 32)::(6,VB.vec 0 (fun j=>List.take (5) (List.drop (j*(5)) [])) (5) 32)::(5,VB.cells [VV.slice (VA.el 0 [] (0:Int) 0) p.D.length c1,VV.slice (VA.el 1 [] (0:Int) 0) p.T.length c2,VV.slice (VA.el 2 [] (0:Int) 0) p.S.length c3] 26)::(5,VB.cells [VV.nils,VV.nils,VV.nils] 26)::nsDo.zip (BDo p c1 c2 c3 l))) p_1 (sD p c1) (VV.sub (6) (0+p.T.length+((↑(0+p.T.length):Int) - (i+(1:Int))).toNat) (5) 0 (0+p.T.length+((↑(0+p.T.length):Int) - (i+(1:Int))).toNat)) (sS p c3)/\PnOk p_1/\(fitF p_1->bif l.length.beq l.length then
 bif roomB (l.length+1) (8) then
 bif inK IntKind.i64 (i+(1:Int)) then
 X VEx.normal [I (i+(1:Int)),I (↑p.T.length:Int),VV.ptr (VA.own 3 0),VV.sl 4 (l.length+1)] [arD p,arT p,arS p,pnB p c1 c2 c3,VB.vec (l.length+1) (catG l.length (dG l) fun j=>List.take (1) (List.drop (j*(1)) [I i])) (1) 3]
 else False
 else False
 else False)/\(¬fitF p_1->bif inK IntKind.i64 (i+(1:Int)) then
 X VEx.normal [I (i+(1:Int)),I (↑p.T.length:Int),VV.ptr (VA.own 3 0),VV.sl 4 l.length] [arD p,arT p,arS p,pnB p c1 c2 c3,VB.vec l.length (dG l) 1 (3:TypeId)]
 else False)
 else False
 else False
 else False
 else False
 else False
 else False
 else False
 else False
 else False
 else False
 else False
 else False
 else False
 else X (VEx.exit 1) [I i,I (↑p.T.length:Int),VV.ptr (VA.own 3 0),VV.sl 4 l.length] [arD p,arT p,arS p,pnB p c1 c2 c3,VB.vec l.length (dG l) 1 (3:TypeId)]):=by kernel_rfl
def rmP (p:Pn) (i:Nat):Pn:=⟨p.D,p.T.eraseIdx i,p.S⟩
open Classical in
noncomputable def douL (p:Pn):Nat->List Int
 | 0=>[]
 | k+1=>if fitF (rmP p k) then douL p k ++ [(k:Int)] else douL p k
noncomputable def lDos (p:Pn) (c1 c2 c3:Nat) (l:List Int):LT:=fun lock tt h K=>
 FitP lock h tt ⟨5,nsDo.zip (BDo p c1 c2 c3 [])⟩ (dsDo.zip (VDo p.T.length 0 0))/\(PnOk p/\p.T.length<=c2/\l=douL p p.T.length)/\K .normal (dsDo.zip (VDo p.T.length l.length p.T.length)) ⟨5,nsDo.zip (BDo p c1 c2 c3 l)⟩
def dsDo0:List Nat:=[6,25,24,1]
def VDo0 (n:Nat):List VV:=[.nils,I 0,I n,.ptr (.own 3 0)]
def nsDo0:List Nat:=[0,1,2,3]
noncomputable def lDo (p:Pn) (c1 c2 c3:Nat) (l:List Int):LT:=fun lock tt h K=>
 FitP lock h tt ⟨4,nsDo0.zip [arD p,arT p,arS p,pnB p c1 c2 c3]⟩ (dsDo0.zip (VDo0 p.T.length))/\(PnOk p/\p.T.length<=c2/\l=douL p p.T.length)/\K .normal (dsDo.zip (VDo p.T.length l.length p.T.length)) ⟨5,nsDo.zip (BDo p c1 c2 c3 l)⟩
def thD4 (Q:VRes->VB->Prop):VRes->VH->Prop:=fun r h=>Q r (h.at 4)
theorem doa_ev (p:Pn) (c1 c2 c3:Nat) (l:List Int) (Q:VRes->VB->Prop):callN Try.prog (tabS [fisT]) (atF 32 [(1,lDo p c1 c2 c3 l)]) 10 20 0 (.fn 32) [.agg (pnV p c1 c2 c3)] (pnH p) (thD4 Q) =
 (∃ p_1,pnIs (VH.mk (4) [(3,VB.cells [VV.slice (VA.el 0 [] (0:Int) 0) p.D.length c1,VV.slice (VA.el 1 [] (0:Int) 0) p.T.length c2,VV.slice (VA.el 2 [] (0:Int) 0) p.S.length c3] 26),(0,arD p),(1,arT p),(2,arS p)]) p_1 (sD p c1) (sT1 p c2) (sS p c3)/\True/\bif !decide ((fisF p_1).snd=(0:Int)) then
 Q (VRes.ret (VV.tup [VV.nils,I (fisF p_1).snd])) VB.free
 else bif (fisF p_1).fst then
 Q (VRes.ret (VV.tup [VV.nils,I 6])) VB.free
 else FitP 0 (VH.mk 4 (nsDo0.zip [arD p,arT p,arS p,pnB p c1 c2 c3])) (dsDo0.zip (VDo0 p.T.length)) (VH.mk 4 (nsDo0.zip [arD p,arT p,arS p,pnB p c1 c2 c3])) (dsDo0.zip (VDo0 p.T.length))/\(PnOk p/\p.T.length<=c2/\l=douL p p.T.length)/\Q (VRes.ret (VV.tup [VV.sl 4 l.length,I 0])) (VB.vec l.length (dG l) 1 (3:TypeId))):=by kernel_rfl
end Go.Sx.Nos
namespace Go.Sx.Nos
open Go Go.Sx Go.Proofs
set_option maxRecDepth 1000000
section
variable {p:Pn} {c1 c2 c3:Nat} {l:List Int}
theorem rm_ok (hp:PnOk p) (k:Nat):PnOk (rmP p k):=
 ⟨hp.d,Nat.le_trans (List.length_eraseIdx_le ..) hp.t,hp.s,hp.dr,fun t ht=>hp.ts t (List.mem_of_mem_eraseIdx ht),hp.sd⟩
theorem rm_len {k:Nat} (h:k<p.T.length):(rmP p k).T.length=p.T.length - 1:=by
 show (p.T.eraseIdx k).length=_
 rw [List.length_eraseIdx,if_pos h]
theorem le_z {a b n:Nat} (h:a+b<=n):Int.toNat 0+a+b<=0+n:=by
 show 0+a+b<=0+n
 omega
theorem ov_in {o k j:Nat} {g f:Nat->List VV} (h:o<=j/\j<o+k):ovG o k g f j=f (j - o):=by
 unfold ovG
 rw [show Nat.ble o j=true by rw [Nat.ble_eq]; exact h.1,blt_t h.2]
 rfl
theorem ov_out {o k j:Nat} {g f:Nat->List VV} (h:¬ (o<=j/\j<o+k)):ovG o k g f j=g j:=by
 unfold ovG
 cases h1:Nat.ble o j with
 | false=>rfl
 | true=>
  have:=Nat.le_of_ble_eq_true h1
  rw [blt_f (by omega)]
  rfl
theorem rm_el {T:List Ts} {k j a b c d e f:Nat} {g:Nat->List VV} {Z:Nat->List VV} (hg:∀ m,g m=tG T m) (ha:a=T.length - 1) (hc:c=k) (hd:d=T.length - 1 - k) (he:e=k+1) (hf:f=0) (hk:k<T.length) (hj:j<T.length - 1) :
  ovG a b (ovG c d g fun m=>g (e+m)) Z (f+j)=tG (T.eraseIdx k) j:=by
 subst ha; subst hc; subst hd; subst he; subst hf
 rw [Nat.zero_add,ov_out (by omega)]
 have ht:tG (T.eraseIdx c) j=if j<c then tG T j else tG T (j+1):=by
  unfold tG
  rw [List.getD_eq_getElem?_getD,List.getElem?_eraseIdx,List.getD_eq_getElem?_getD,List.getD_eq_getElem?_getD]
  split <;> rfl
 rw [ht]
 by_cases h:c<=j
 ·rw [ov_in (by omega),if_neg (by omega),hg,show c+1+(j - c)=j+1 by omega]
 ·rw [ov_out (by omega),if_pos (by omega),hg]
theorem dou_s {k:Nat} (h:fitF (rmP p k)):douL p (k+1)=douL p k ++ [(k:Int)]:=if_pos h
theorem dou_n {k:Nat} (h:¬ fitF (rmP p k)):douL p (k+1)=douL p k:=if_neg h
theorem dou_le (k:Nat):(douL p k).length<=k:=by
 induction k with
 | zero=>exact Nat.le_refl 0
 | succ k ih=>
  by_cases h:fitF (rmP p k)
  ·rw [dou_s h,List.length_append]
   simp only [List.length_singleton]
   omega
  ·rw [dou_n h]; omega
theorem fit_one {L:List Int} {y:Int}:(VB.vec (L ++ [y]).length (dG (L ++ [y])) 1 3).fit (.vec (L.length+1) (catG L.length (dG L) fun j=>List.take 1 (List.drop (j*1) [I y])) 1 3):=by
 refine ⟨by simp,rfl,rfl,fun j hj=>?_⟩
 rw [List.length_append,List.length_singleton] at hj
 unfold catG
 by_cases hjk:j<L.length
 ·rw [blt_t hjk]; exact dG_l hjk
 ·rw [blt_f (by omega)]
  obtain rfl:j=L.length:=by omega
  show List.take 1 (List.drop ((L.length - L.length)*1) [I y])=_
  rw [Nat.sub_self]
  have:=dG_r (S:=L) (R:=[y]) (j:=0)
  exact this.symm
theorem lDos_ok:LSound Try.prog true (.block 1 (.loop (loopB 1 (bodyOf Try.prog 32)))) 49 (lDos p c1 c2 c3 l):=by
 by_cases hh:PnOk p/\p.T.length<=c2/\l=douL p p.T.length
 ·obtain ⟨hp,hc2,hl⟩:=hh
  have hT:=hp.t
  refine loop_row hmix (tab_good hmix (l:=[triT]) (fun x hx=>by simp only [List.mem_singleton] at hx; subst hx; exact triT_ok) (unroll:=10) 20) (un:=10) (ds:=dsDo) (ns:=nsDo) (nx:=5) (fun k:Nat=>VDo p.T.length (douL p k).length k) (fun k=>BDo p c1 c2 c3 (douL p k))
   (fun k=>k<=p.T.length) (fun k=>p.T.length - k) (fun _ e vs bs=>e=.exit 1/\vs=VDo p.T.length l.length p.T.length/\bs=BDo p c1 c2 c3 l) noL_ok ?_ ?_
  ·intro k hk
   refine cast (do_ev p c1 c2 c3 (douL p k) k _).symm ?_
   by_cases h:k<p.T.length
   ·have hd:=dou_le (p:=p) k
    refine cond_dk (by omega) (cond_k (Nat.ble_eq_true_of_le (by omega)) ⟨tk_T,cond_k (room40 (by omega)) (cond_r (by omega) (cond_k (by rw [beq_t rfl,Bool.true_and]; exact decide_eq_true ⟨by omega,by omega,by omega,by omega⟩) (cond_d (fun hn=>by omega) (fun _=>cond_dk ⟨by omega,by omega,by omega⟩ (cond_k (beq_t rfl) (cond_dk ⟨by omega,by omega,by omega⟩ (cond_k (beq_t rfl) (cond_k (beq_t rfl) (cond_k (beq_t rfl) (cond_dk (le_z (by omega)) (cond_dk ⟨by omega,by omega,by omega⟩ (cond_k (by rw [beq_t rfl,Bool.true_and]; rfl) ⟨rmP p k,⟨isD_own rfl,⟨?_,rfl,_,_,rfl,fun j hj=>?_⟩,isS_own rfl⟩,rm_ok hp k,fun hf=>?_,fun hf=>?_⟩))))))))))))⟩)
    ·rw [rm_len h]; omega
    ·rw [rm_len h] at hj
     exact rm_el (T:=p.T) (k:=k) (fun m=>by
      show catG 0 _ _ m=_
      unfold catG
      rw [blt_f (by omega)]
      show tG p.T ((0:Int)+((m - 0:Nat):Int)).toNat=_
      rw [zero_toNat,Nat.sub_zero]) (by omega) (by omega) (by omega) (by omega) rfl h hj
    ·refine cond_k (beq_t rfl) (cond_k (room8 (by omega)) (cond_r (by omega) ⟨k+1,by omega,by dsimp only; omega,?_,?_,fun _ _ _ ho=>ho⟩))
     ·show VDo p.T.length ((douL p k).length+1) ((k:Int)+1)=VDo p.T.length (douL p (k+1)).length ((k+1:Nat):Int)
      rw [dou_s hf,List.length_append]
      rfl
     ·show fitBs (BDo p c1 c2 c3 (douL p (k+1))) _
      rw [dou_s hf]
      exact ⟨VB.fit_refl _,VB.fit_refl _,VB.fit_refl _,VB.fit_refl _,fit_one,trivial⟩
    ·refine cond_r (by omega) ⟨k+1,by omega,by dsimp only; omega,?_,?_,fun _ _ _ ho=>ho⟩
     ·show VDo p.T.length (douL p k).length ((k:Int)+1)=VDo p.T.length (douL p (k+1)).length ((k+1:Nat):Int)
      rw [dou_n hf]
      rfl
     ·show fitBs (BDo p c1 c2 c3 (douL p (k+1))) _
      rw [dou_n hf]
      exact fitBs_refl _
   ·obtain rfl:k=p.T.length:=by omega
    exact cond_d (fun h=>by omega) (fun _=>⟨rfl,by rw [hl]; rfl,by rw [hl]; rfl⟩)
  ·rintro lock tt h K ⟨hf,_,hK⟩
   refine ⟨0,hf,Nat.zero_le _,?_⟩
   rintro e vs bs ⟨rfl,rfl,rfl⟩
   exact hK
 ·rintro lock tt h K ⟨_,hc,_⟩
  exact (hh hc).elim
theorem lDo_ok:LSound Try.prog true (.block 1 (.loop (loopB 1 (bodyOf Try.prog 32)))) 49 (lDo p c1 c2 c3 l):=
 ghost_row (d:=6) (nx:=4) (bs:=nsDo0.zip [arD p,arT p,arS p,pnB p c1 c2 c3]) (t0:=[25,24,1].zip [I 0,I p.T.length,.ptr (.own 3 0)]) (dG []) 1 3 lDos_ok (by
  rintro lock t h K ⟨hf,hi,hK⟩
  exact ⟨hf,⟨⟨rfl,rfl,VB.fit_refl _,VB.fit_refl _,VB.fit_refl _,VB.fit_refl _,VB.fit_refl _,trivial⟩,rfl,rfl,rfl,rfl,trivial⟩,hi,hK⟩)
theorem doL_ok:LoopsOk Try.prog 32 [(1,lDo p c1 c2 c3 l)]:=by
 intro x hx
 simp only [List.mem_singleton] at hx
 subst hx
 exact ⟨by kernel_rfl,lDo_ok⟩
theorem fi_ok:∀ x ∈ [fisT],SpOk Try.prog x.1 x.2:=fun x hx=>by
 simp only [List.mem_singleton] at hx
 subst hx
 exact fisT_ok
theorem calls_vac {f:FuncId} {h h':VH} {r:VRes} (hc:¬ p.T.length<=c2):CallsV Try.prog f [.agg (pnV p c1 c2 c3)] h r h':=by
 intro B R w xs em hx
 obtain ⟨y,ys,⟨zs,⟨a,_,ha,⟨b,_,hb,_,rfl⟩,rfl⟩,rfl⟩,_,rfl⟩:=hx
 exact (hc hb.1).elim
theorem dou_v :
  (¬ PnOk p->∃ h',CallsV Try.prog 32 [.agg (pnV p c1 c2 c3)] (pnH p) (.ret (.tup [.nils,I 1])) h') /\
  (PnOk p->fitF p->∃ h',CallsV Try.prog 32 [.agg (pnV p c1 c2 c3)] (pnH p) (.ret (.tup [.nils,I 6])) h') /\
  (PnOk p->¬ fitF p->CallsV Try.prog 32 [.agg (pnV p c1 c2 c3)] (pnH p) (.ret (.tup [.sl 4 (douL p p.T.length).length,I 0])) ⟨5,[(4,.vec (douL p p.T.length).length (dG (douL p p.T.length)) 1 3)]⟩):=by
 by_cases hcc:p.T.length<=c2
 ·obtain ⟨l,hl⟩:∃ l,l=douL p p.T.length:=⟨_,rfl⟩
  rw [<- hl]
  obtain ⟨r,h',hQ,hc⟩:=of_callN (callL_good hmix (tabs_ok fi_ok) (doL_ok (p:=p) (c1:=c1) (c2:=c2) (c3:=c3) (l:=l)) (un:=10) 20) (f:=32) (args:=[.agg (pnV p c1 c2 c3)]) (h:=pnH p)
   (K:=thD4 fun r b=>(¬ PnOk p/\r=.ret (.tup [.nils,I 1])) ∨ (PnOk p/\fitF p/\r=.ret (.tup [.nils,I 6])) ∨ (PnOk p/\¬ fitF p/\r=.ret (.tup [.sl 4 l.length,I 0])/\b=.vec l.length (dG l) 1 3))
   (by
    refine cast (doa_ev p c1 c2 c3 l _).symm ?_
    refine ⟨p,pnIs_own rfl rfl rfl,trivial,?_⟩
    by_cases hp:PnOk p
    ·by_cases hf:fitF p
     ·have e:fisF p=(true,0):=by unfold fisF; rw [if_pos hp,fitB_t hf]
      rw [e]
      exact .inr (.inl ⟨hp,hf,rfl⟩)
     ·have e:fisF p=(false,0):=by unfold fisF; rw [if_pos hp,fitB_f hf]
      rw [e]
      exact ⟨fitP_self rfl,⟨hp,hcc,hl⟩,.inr (.inr ⟨hp,hf,rfl,rfl⟩)⟩
    ·have e:fisF p=(false,1):=by unfold fisF; rw [if_neg hp]
     rw [e]
     exact .inl ⟨hp,rfl⟩)
  rcases hQ with ⟨h1,rfl⟩ | ⟨h1,h2,rfl⟩ | ⟨h1,h2,rfl,hb⟩
  ·exact ⟨fun _=>⟨_,hc⟩,fun h=>absurd h h1,fun h=>absurd h h1⟩
  ·exact ⟨fun h=>absurd h1 h,fun _ _=>⟨_,hc⟩,fun _ h=>absurd h2 h⟩
  ·exact ⟨fun h=>absurd h1 h,fun _ h=>absurd h h2,fun _ _=>calls_weak hc (show 3<=5 by decide) ⟨by rw [hb]; exact VB.fit_refl _,trivial⟩ rfl rfl⟩
 ·exact ⟨fun _=>⟨⟨0,[]⟩,calls_vac hcc⟩,fun _ _=>⟨⟨0,[]⟩,calls_vac hcc⟩,fun _ _=>calls_vac hcc⟩
end
noncomputable def douT:FuncId × Spec1:=(32,fun _ args h K=>match args with
 | [.agg [d,t,s]]=>∃ p:Pn,pnIs h p d t s/\(match h with
   | ⟨nx,bs⟩=>(¬ PnOk p->K (.ret (.tup [.nils,I 1])) ⟨nx,bs⟩)/\(PnOk p->fitF p->K (.ret (.tup [.nils,I 6])) ⟨nx,bs⟩) /\
     (PnOk p->¬ fitF p->K (.ret (.tup [.sl nx (douL p p.T.length).length,I 0])) ⟨nx+1,(nx,.vec (douL p p.T.length).length (dG (douL p p.T.length)) 1 3)::bs⟩))
 | _=>False)
theorem douT_ok:SpOk Try.prog douT.1 douT.2:=by
 intro lock args h K hK
 simp only [douT] at hK
 split at hK
 ·rename_i d t s
  obtain ⟨p,hpn,hK⟩:=hK
  obtain ⟨nx,bs⟩:=h
  obtain ⟨k1,k2,k3⟩:=hK
  by_cases hp:PnOk p
  ·by_cases hf:fitF p
   ·exact ⟨_,_,k2 hp hf,lockP_refl _ _,calls_pn (f:=32) (pl:=[]) (r:=.ret (.tup [.nils,I 6])) (fun c1 c2 c3=>dou_v.2.1 hp hf) rfl rfl hpn⟩
   ·have h1:=calls_pnN (f:=32) (pl:=[]) (r:=.ret (.tup [.sl 4 (douL p p.T.length).length,I 0])) (bl:=[.vec (douL p p.T.length).length (dG (douL p p.T.length)) 1 3]) 4 (fun c1 c2 c3=>⟨_,dou_v.2.2 hp hf,fun i=>by
     match i with
     | 0=>rfl
     | i+1=>
      rw [at_8 (by omega)]
      rfl⟩) rfl (fun c hc=>by
     simp only [List.mem_singleton] at hc
     subst hc
     exact fun j _=>rfl) rfl hpn
    have s4:shN 4 nx 4=nx:=by unfold shN; rw [if_neg (by decide)]; omega
    have e1:(VRes.ret (.tup [.sl 4 (douL p p.T.length).length,I 0])).sh 4 nx=.ret (.tup [.sl nx (douL p p.T.length).length,I 0]):=congrArg (fun n=>VRes.ret (.tup [.sl n (douL p p.T.length).length,I 0])) s4
    refine ⟨_,_,k3 hp hf,lockP_push (lock:=lock) (VH.mk nx bs) [.vec (douL p p.T.length).length (dG (douL p p.T.length)) 1 3],?_⟩
    have h1:CallsV Try.prog 32 [.agg [d,t,s]] ⟨nx,bs⟩ ((VRes.ret (.tup [.sl 4 (douL p p.T.length).length,I 0])).sh 4 nx) (pushL ⟨nx,bs⟩ (([.vec (douL p p.T.length).length (dG (douL p p.T.length)) 1 3]:List VB).map (VB.sh 4 nx))):=h1
    rw [e1] at h1
    exact h1
  ·exact ⟨_,_,k1 hp,lockP_refl _ _,calls_pn (f:=32) (pl:=[]) (r:=.ret (.tup [.nils,I 1])) (fun c1 c2 c3=>dou_v.1 hp) rfl rfl hpn⟩
 ·exact hK.elim
end Go.Sx.Nos
namespace Go.Sx.Nod
open Go Go.Sx Go.Proofs
set_option maxRecDepth 1000000
noncomputable def rfR:FuncId × Spec1:=(26,fun _ args h K=>match args with
 | [.agg [x,y,z]]=>∃ p:Nos.Pn,isD h 2 (.agg [x,y,z]) (.agg (pnL p))/\K (.ret (Nos.fiV (Nos.fisF p))) h
 | _=>False)
def dsE0:List Nat:=[7,6,1,2,3]
def VE0 (k L:Nat):List VV:=[I k,.sl 1 L,.ptr (.own 0 0),.nils,I 0]
def BE0 (p:Nos.Pn) (B:List Int):List VB:=[.cells (pnL p) 26,.vec B.length (dG B) 1 3]
theorem e0_ev (p:Nos.Pn) (k:Nat) (B:List Int) (X:VEx->List VV->List VB->Prop):codeE Try.prog (callN Try.prog (tabS [rfR]) noL 10 20) (fun _=>none) true 10 (ntOf Try.prog 36) 0 (loopB 0 (bodyOf Try.prog 36)) (dsE0.zip (VE0 k B.length)) ⟨2,[0,1].zip (BE0 p B)⟩ (obs 2 dsE0 [0,1] X) =
 (bif decide ((↑k:Int)<(↑p.T.length:Int)) then
 bif decide ((0:Int)<=(0:Int)/\(0:Int)<=(↑k:Int)/\(↑k:Int)<=(↑p.T.length:Int)) then
 bif roomB (0+((↑k:Int) - (0:Int)).toNat) (40) then
 bif inK .i64 ((↑k:Int)+(1:Int)) then
 bif decide ((0:Int)<=(↑k:Int)+(1:Int)/\(↑k:Int)+(1:Int)<=(↑p.T.length:Int)/\(↑p.T.length:Int)<=(↑p.T.length:Int)) then
 bif (0+((↑k:Int) - (0:Int)).toNat).beq (0+((↑k:Int) - (0:Int)).toNat) then
 bif roomB (0+((↑k:Int) - (0:Int)).toNat+((↑p.T.length:Int) - ((↑k:Int)+(1:Int))).toNat) (40) then
 ∃ (p_1:Nos.Pn),isD (VH.mk (4) ((2,VB.cells [VV.tl p.D.length 1 (dG p.D),VV.sl (3) (0+((↑k:Int) - (0:Int)).toNat+((↑p.T.length:Int) - ((↑k:Int)+(1:Int))).toNat),VV.tl p.S.length 3 (Nos.sG p.S)] 26)::(3,VB.vec (0+((↑k:Int) - (0:Int)).toNat+((↑p.T.length:Int) - ((↑k:Int)+(1:Int))).toNat) (catG (0+((↑k:Int) - (0:Int)).toNat) (catG 0 (fun (j:Nat)=>List.take (5) (List.drop (j*(5)) [])) fun (j:Nat)=>Nos.tG p.T (Int.toNat (0:Int)+j)) fun (j:Nat)=>Nos.tG p.T (((↑k:Int)+(1:Int)).toNat+j)) (5) 32)::(3,VB.vec (0+((↑k:Int) - (0:Int)).toNat) (catG 0 (fun (j:Nat)=>List.take (5) (List.drop (j*(5)) [])) fun (j:Nat)=>Nos.tG p.T (Int.toNat (0:Int)+j)) (5) 32)::(3,VB.vec 0 (fun (j:Nat)=>List.take (5) (List.drop (j*(5)) [])) (5) 32)::(2,VB.cells [VV.tl p.D.length 1 (dG p.D),VV.tl p.T.length 5 (Nos.tG p.T),VV.tl p.S.length 3 (Nos.sG p.S)] 26)::(2,VB.cells [VV.nils,VV.nils,VV.nils] 26)::[0,1].zip (BE0 p B))) 2 (VV.agg [VV.tl p.D.length 1 (dG p.D),VV.sl (3) (0+((↑k:Int) - (0:Int)).toNat+((↑p.T.length:Int) - ((↑k:Int)+(1:Int))).toNat),VV.tl p.S.length 3 (Nos.sG p.S)]) (VV.agg (pnL p_1))/\bif (Nos.fisF p_1).fst then
 bif B.length.beq B.length then
 bif roomB (B.length+1) (8) then
 bif inK .i64 ((↑k:Int)+(1:Int)) then
 X .normal [I ((↑k:Int)+(1:Int)),VV.sl 1 (B.length+1),VV.ptr (VA.own 0 0),VV.nils,I 0] [.cells (pnL p) 26,VB.vec (B.length+1) (catG B.length (dG B) fun (j:Nat)=>List.take (1) (List.drop (j*(1)) [I (↑k:Int)])) (1) 3]
 else False
 else False
 else False
 else bif inK .i64 ((↑k:Int)+(1:Int)) then
 X .normal [I ((↑k:Int)+(1:Int)),VV.sl 1 B.length,VV.ptr (VA.own 0 0),VV.nils,I 0] [.cells (pnL p) 26,VB.vec B.length (dG B) 1 (3:TypeId)]
 else False
 else False
 else False
 else False
 else False
 else False
 else False
 else X (VEx.exit 0) [I (↑k:Int),VV.sl 1 B.length,VV.ptr (VA.own 0 0),VV.nils,I 0] [.cells (pnL p) 26,VB.vec B.length (dG B) 1 (3:TypeId)]):=by kernel_rfl
noncomputable def lE0s (p:Nos.Pn) (B:List Int):LT:=fun lock tt h K=>
 FitP lock h tt ⟨2,[0,1].zip (BE0 p [])⟩ (dsE0.zip (VE0 0 0))/\(Nos.PnOk p/\B=Nos.douL p p.T.length)/\K .normal (dsE0.zip (VE0 p.T.length B.length)) ⟨2,[0,1].zip (BE0 p B)⟩
def dsE00:List Nat:=[6,7,1,2,3]
noncomputable def lE0 (p:Nos.Pn) (B:List Int):LT:=fun lock tt h K=>
 FitP lock h tt ⟨1,[0].zip [.cells (pnL p) 26]⟩ (dsE00.zip [.nils,I 0,.ptr (.own 0 0),.nils,I 0])/\(Nos.PnOk p/\B=Nos.douL p p.T.length)/\K .normal (dsE0.zip (VE0 p.T.length B.length)) ⟨2,[0,1].zip (BE0 p B)⟩
theorem dt_ev (p:Nos.Pn) (B:List Int) (Q:VRes->VB->Prop):callN Try.prog (tabS [rfR]) (atF 36 [(0,lE0 p B)]) 10 20 0 (.fn 36) [.agg (pnL p)] ⟨0,[]⟩ (fun r h=>Q r (h.at 1)) =
 (∃ (p_1:Nos.Pn),isD (VH.mk (0+1) [(0,VB.cells [VV.tl p.D.length 1 (dG p.D),VV.tl p.T.length 5 (Nos.tG p.T),VV.tl p.S.length 3 (Nos.sG p.S)] 26)]) 2 (VV.agg [VV.tl p.D.length 1 (dG p.D),VV.tl p.T.length 5 (Nos.tG p.T),VV.tl p.S.length 3 (Nos.sG p.S)]) (VV.agg (pnL p_1))/\bif !decide ((Nos.fisF p_1).snd=(0:Int)) then
 Q (VRes.ret (VV.tup [VV.nils,I (Nos.fisF p_1).snd])) VB.free
 else bif (Nos.fisF p_1).fst then
 Q (VRes.ret (VV.tup [VV.nils,I 6])) VB.free
 else FitP 0 (VH.mk 1 ([0].zip [VB.cells (pnL p) (26:TypeId)])) (dsE00.zip [VV.nils,I 0,VV.ptr (VA.own 0 0),VV.nils,I 0]) (VH.mk 1 ([0].zip [VB.cells (pnL p) (26:TypeId)])) (dsE00.zip [VV.nils,I 0,VV.ptr (VA.own 0 0),VV.nils,I 0])/\(Nos.PnOk p/\B=Nos.douL p p.T.length)/\Q (VRes.ret (VV.tup [VV.sl 1 B.length,I 0])) (VB.vec B.length (dG B) 1 (3:TypeId))):=by kernel_rfl
end Go.Sx.Nod
namespace Go.Sx.Nod
open Go Go.Sx Go.Proofs
open Go.Sx.Nos (Pn PnOk fitF fisF fiV rmP douL rm_ok rm_len dou_s dou_n dou_le)
set_option maxRecDepth 1000000
theorem room40' {n:Nat} (h:n<=1000000):roomB n 40=true:=by
 unfold roomB
 rw [Nat.ble_eq_true_of_le (by omega),Nat.ble_eq_true_of_le (by omega)]
 rfl
section
variable {p:Pn} {B:List Int}
theorem rfR_ok:SpOk Try.prog rfR.1 rfR.2:=by
 intro lock args h K hK
 simp only [rfR] at hK
 split at hK
 ·obtain ⟨p,h1,hK⟩:=hK
  obtain ⟨h',hc⟩:=rfit_v (p:=p)
  exact ⟨_,h,hK,lockP_refl _ _,calls_lendDP 2 hc rfl ⟨h1,trivial⟩⟩
 ·exact hK.elim
theorem er_el {T:List Nos.Ts} {k a c j:Nat} {g0:Nat->List VV} (ha:a=k) (hc:c=k+1) (_:k<T.length):catG a (catG 0 g0 fun j=>Nos.tG T (Int.toNat 0+j)) (fun j=>Nos.tG T (c+j)) j=Nos.tG (T.eraseIdx k) j:=by
 subst ha
 subst hc
 have ht:Nos.tG (T.eraseIdx a) j=if j<a then Nos.tG T j else Nos.tG T (j+1):=by
  unfold Nos.tG
  rw [List.getD_eq_getElem?_getD,List.getElem?_eraseIdx,List.getD_eq_getElem?_getD,List.getD_eq_getElem?_getD]
  split <;> rfl
 rw [ht]
 by_cases h:j<a
 ·rw [if_pos h,catG_lt h,catG_ge (Nat.zero_le _)]
  show Nos.tG T (0+(j - 0))=_
  rw [Nat.zero_add,Nat.sub_zero]
 ·rw [if_neg h,catG_ge (by omega)]
  show Nos.tG T (a+1+(j - a))=_
  rw [show a+1+(j - a)=j+1 by omega]
theorem lE0s_ok:LSound Try.prog true (.block 0 (.loop (loopB 0 (bodyOf Try.prog 36)))) (ntOf Try.prog 36) (lE0s p B):=by
 by_cases hh:PnOk p/\B=douL p p.T.length
 ·obtain ⟨hp,hB⟩:=hh
  have hT:=hp.t
  refine loop_row hmix (noL_good (tab1 rfR_ok)) (un:=10) (ds:=dsE0) (ns:=[0,1]) (nx:=2) (fun k:Nat=>VE0 k (douL p k).length) (fun k=>BE0 p (douL p k)) (fun k=>k<=p.T.length) (fun k=>p.T.length - k)
   (fun _ e vs bs=>e=.exit 0/\vs=VE0 p.T.length B.length/\bs=BE0 p B) noL_ok ?_ ?_
  ·intro k hk
   have hlen:=dou_le (p:=p) k
   refine cast (e0_ev p k (douL p k) _).symm ?_
   refine cond_d (fun h=>?_) (fun h=>?_)
   ·have hk2:k<p.T.length:=by omega
    have hr:=rm_len hk2
    refine cond_dk ⟨by omega,by omega,by omega⟩ (cond_k (room40' (by omega)) (cond_r (by omega) (cond_dk ⟨by omega,by omega,by omega⟩ (cond_k (Nat.beq_refl _) (cond_k (room40' (by omega)) ⟨rmP p k,⟨⟨rfl,rfl,fun _ _=>rfl⟩,⟨by show (rmP p k).T.length=_; omega,by decide,_,_,rfl,fun j hj=>er_el (by omega) (by omega) hk2⟩,⟨rfl,rfl,fun _ _=>rfl⟩,trivial⟩,?_⟩)))))
    by_cases hf:fitF (rmP p k)
    ·have e:fisF (rmP p k)=(true,0):=by unfold fisF; rw [if_pos (rm_ok hp k),Nos.fitB_t hf]
     rw [e]
     refine cond_k rfl (cond_k (Nat.beq_refl _) (cond_k (room8 (by omega)) (cond_r (by omega) ⟨k+1,by show k+1<=_; omega,by show p.T.length - (k+1)<p.T.length - k; omega,?_,?_,fun _ _ _ h=>h⟩)))
     ·show _=VE0 (k+1) (douL p (k+1)).length
      rw [dou_s hf,List.length_append]; rfl
     ·show fitBs (BE0 p (douL p (k+1))) _
      rw [dou_s hf]
      exact ⟨VB.fit_refl _,Nos.fit_one,trivial⟩
    ·have e:fisF (rmP p k)=(false,0):=by unfold fisF; rw [if_pos (rm_ok hp k),Nos.fitB_f hf]
     rw [e]
     refine cond_r (by omega) ⟨k+1,by show k+1<=_; omega,by show p.T.length - (k+1)<p.T.length - k; omega,?_,?_,fun _ _ _ h=>h⟩
     ·show _=VE0 (k+1) (douL p (k+1)).length
      rw [dou_n hf]; rfl
     ·show fitBs (BE0 p (douL p (k+1))) _
      rw [dou_n hf]
      exact fitBs_refl _
   ·obtain rfl:k=p.T.length:=by omega
    rw [<- hB]
    exact ⟨rfl,rfl,rfl⟩
  ·rintro lock tt h K ⟨hf,_,hK⟩
   refine ⟨0,hf,Nat.zero_le _,?_⟩
   rintro e vs bs ⟨rfl,rfl,rfl⟩
   exact hK
 ·rintro lock tt h K ⟨hf,hc,_⟩
  exact (hh hc).elim
theorem lE0_ok:LSound Try.prog true (.block 0 (.loop (loopB 0 (bodyOf Try.prog 36)))) (ntOf Try.prog 36) (lE0 p B):=
 Nos.ghost_row (d:=6) (nx:=1) (bs:=[0].zip [.cells (pnL p) 26]) (t0:=[7,1,2,3].zip [I 0,.ptr (.own 0 0),.nils,I 0]) (dG []) 1 3 lE0s_ok (by
  rintro lock t h K ⟨hf,hi,hK⟩
  exact ⟨hf,⟨⟨rfl,rfl,VB.fit_refl _,VB.fit_refl _,trivial⟩,rfl,rfl,rfl,rfl,rfl,trivial⟩,hi,hK⟩)
theorem rdou_v:(¬ PnOk p->∃ h',CallsV Try.prog 36 [.agg (pnL p)] ⟨0,[]⟩ (.ret (.tup [.nils,I 1])) h') /\
  (PnOk p->fitF p->∃ h',CallsV Try.prog 36 [.agg (pnL p)] ⟨0,[]⟩ (.ret (.tup [.nils,I 6])) h') /\
  (PnOk p->¬ fitF p->∃ h',CallsV Try.prog 36 [.agg (pnL p)] ⟨0,[]⟩ (.ret (.tup [.tl (douL p p.T.length).length 1 (dG (douL p p.T.length)),I 0])) h'):=by
 obtain ⟨B,hB⟩:∃ B,B=douL p p.T.length:=⟨_,rfl⟩
 rw [<- hB]
 have hall:LoopsOk Try.prog 36 [(0,lE0 p B)]:=fun y hy=>by
  simp only [List.mem_singleton] at hy
  subst hy
  exact ⟨by kernel_rfl,lE0_ok⟩
 obtain ⟨r,h',hQ,hc⟩:=of_callN (callL_good hmix (tab1 rfR_ok) hall (un:=10) 20) (f:=36) (args:=[.agg (pnL p)]) (h:=⟨0,[]⟩)
  (K:=fun r h=>(¬ PnOk p/\r=.ret (.tup [.nils,I 1])) ∨ (PnOk p/\fitF p/\r=.ret (.tup [.nils,I 6])) ∨ (PnOk p/\¬ fitF p/\r=.ret (.tup [.sl 1 B.length,I 0])/\h.at 1=.vec B.length (dG B) 1 3)) (by
  refine cast (dt_ev p B fun r b=>(¬ PnOk p/\r=.ret (.tup [.nils,I 1])) ∨ (PnOk p/\fitF p/\r=.ret (.tup [.nils,I 6])) ∨ (PnOk p/\¬ fitF p/\r=.ret (.tup [.sl 1 B.length,I 0])/\b=.vec B.length (dG B) 1 3)).symm ⟨p,isD_pn,?_⟩
  by_cases hp:PnOk p
  ·by_cases hf:fitF p
   ·have e:fisF p=(true,0):=by unfold fisF; rw [if_pos hp,Nos.fitB_t hf]
    rw [e]
    exact .inr (.inl ⟨hp,hf,rfl⟩)
   ·have e:fisF p=(false,0):=by unfold fisF; rw [if_pos hp,Nos.fitB_f hf]
    rw [e]
    exact ⟨fitP_self rfl,⟨hp,hB⟩,.inr (.inr ⟨hp,hf,rfl,rfl⟩)⟩
  ·have e:fisF p=(false,1):=by unfold fisF; rw [if_neg hp]
   rw [e]
   exact .inl ⟨hp,rfl⟩)
 rcases hQ with ⟨h1,rfl⟩ | ⟨h1,h2,rfl⟩ | ⟨h1,h2,rfl,hb⟩
 ·exact ⟨fun _=>⟨_,hc⟩,fun h=>absurd h h1,fun h=>absurd h h1⟩
 ·exact ⟨fun h=>absurd h1 h,fun _ _=>⟨_,hc⟩,fun _ h=>absurd h2 h⟩
 ·exact ⟨fun h=>absurd h1 h,fun _ h=>absurd h h2,fun _ _=>⟨_,calls_tup hc hb (wkL_refl _)⟩⟩
end
end Go.Sx.Nod
namespace Go.Sx.Nos
open Go Go.Sx Go.Proofs
set_option maxRecDepth 1000000
end Go.Sx.Nos
namespace Go.Sx.Nos
open Go Go.Sx Go.Proofs
set_option maxRecDepth 1000000
section
variable {p:Pn} {c1 c2 c3:Nat} {l:List Int}
end
end Go.Sx.Nos
namespace Go.Sx.Nos
open Go Go.Sx Go.Proofs
set_option maxRecDepth 1000000
section
variable {p:Pn} {c1 c2 c3:Nat} {l:List Int}
end
end Go.Sx.Nos
namespace Go.Sx.Nos
open Go Go.Sx Go.Proofs
set_option maxRecDepth 1000000
def iA (xs:List Int):VB:=arrOf 1 xs.length (dG xs)
def dsE:List Nat:=[4,5,0,1]
def VE (n c m d:Nat) (i:Int):List VV:=[.bool false,I i,.slice (.el 0 [] 0 0) n c,.slice (.el 1 [] 0 0) m d]
def LE (xs ys:List Int) (c d:Nat):LT:=fun lock t h K=>
 FitP lock h t ⟨2,[0,1].zip [iA xs,iA ys]⟩ (dsE.zip (VE xs.length c ys.length d 0))/\(xs.length=ys.length/\xs.length<=100000)/\(xs=ys->K .normal (dsE.zip (VE xs.length c ys.length d xs.length)) ⟨2,[0,1].zip [iA xs,iA ys]⟩)/\(xs ≠ ys->∀ i,K .ret (dsE.zip (VE xs.length c ys.length d i)) ⟨2,[0,1].zip [iA xs,iA ys]⟩)
theorem in37_ev (xs ys:List Int) (c d:Nat) (i:Int) (X:VEx->List VV->List VB->Prop):codeE Try.prog (callN Try.prog noSpec noL 10 20) (fun _=>none) true 10 26 0 (loopB 0 (bodyOf Try.prog 37)) (dsE.zip (VE xs.length c ys.length d i)) ⟨2,[0,1].zip [iA xs,iA ys]⟩ (obs 2 dsE [0,1] X) =
 (bif decide (i<(↑xs.length:Int)) then
 bif decide ((0:Int)<=i/\i<(↑xs.length:Int)) then
 (([]:List Int)=[]/\(0:Int)<=(0:Int)+i/\(0:Int)+i<(↑xs.length:Int))/\bif decide ((0:Int)<=i/\i<(↑ys.length:Int)) then
 (([]:List Int)=[]/\(0:Int)<=(0:Int)+i/\(0:Int)+i<(↑ys.length:Int))/\bif !decide (xs.getD ((0:Int)+i).toNat (0:Int)=ys.getD ((0:Int)+i).toNat (0:Int)) then
 X VEx.ret [VV.bool false,I i,VV.slice (VA.el 0 [] (0:Int) 0) xs.length c,VV.slice (VA.el 1 [] (0:Int) 0) ys.length d] [VB.arr 1 (fun ix i=>ix=[]/\(0:Int)<=i/\i<(↑xs.length:Int)) fun x i=>dG xs i.toNat,VB.arr 1 (fun ix i=>ix=[]/\(0:Int)<=i/\i<(↑ys.length:Int)) fun x i=>dG ys i.toNat]
 else bif inK IntKind.i64 (i+(1:Int)) then
 X VEx.normal [VV.bool false,I (i+(1:Int)),VV.slice (VA.el 0 [] (0:Int) 0) xs.length c,VV.slice (VA.el 1 [] (0:Int) 0) ys.length d] [VB.arr 1 (fun ix i=>ix=[]/\(0:Int)<=i/\i<(↑xs.length:Int)) fun x i=>dG xs i.toNat,VB.arr 1 (fun ix i=>ix=[]/\(0:Int)<=i/\i<(↑ys.length:Int)) fun x i=>dG ys i.toNat]
 else False
 else False
 else False
 else X (VEx.exit 0) [VV.bool false,I i,VV.slice (VA.el 0 [] (0:Int) 0) xs.length c,VV.slice (VA.el 1 [] (0:Int) 0) ys.length d] [VB.arr 1 (fun ix i=>ix=[]/\(0:Int)<=i/\i<(↑xs.length:Int)) fun x i=>dG xs i.toNat,VB.arr 1 (fun ix i=>ix=[]/\(0:Int)<=i/\i<(↑ys.length:Int)) fun x i=>dG ys i.toNat]):=by kernel_rfl
theorem f37_ev (xs ys:List Int) (c d:Nat) (Q:VRes->Prop):spBL Try.prog 37 noSpec [(0,LE xs ys c d)] 10 20 0 [.slice (.el 0 [] 0 0) xs.length c,.slice (.el 1 [] 0 0) ys.length d] ⟨2,[(0,iA xs),(1,iA ys)]⟩ (fun r _=>Q r) =
 (bif !decide ((↑xs.length:Int)=(↑ys.length:Int)) then
 Q (VRes.ret (VV.bool false))
 else FitP 0 (VH.mk 2 ([0,1].zip [iA xs,iA ys])) (dsE.zip (VE xs.length c ys.length d (0:Int))) (VH.mk 2 ([0,1].zip [iA xs,iA ys])) (dsE.zip (VE xs.length c ys.length d (0:Int)))/\(xs.length=ys.length/\xs.length<=100000)/\(xs=ys->Q (VRes.ret (VV.bool true)))/\(xs ≠ ys->∀ (i:Int),Q (VRes.ret (VV.bool false)))):=by kernel_rfl
end Go.Sx.Nos
namespace Go.Sx.Nos
open Go Go.Sx Go.Proofs
set_option maxRecDepth 1000000
section
variable {xs ys:List Int} {c d:Nat}
def OE (xs ys:List Int) (c d:Nat) (_:Nat) (e:VEx) (vs:List VV) (bs:List VB):Prop:=
 bs=[iA xs,iA ys]/\((xs=ys/\e=.exit 0/\vs=VE xs.length c ys.length d xs.length) ∨ (xs ≠ ys/\e=.ret/\∃ i,vs=VE xs.length c ys.length d i))
theorem LE_ok:LSound Try.prog true (.block 0 (.loop (loopB 0 (bodyOf Try.prog 37)))) 26 (LE xs ys c d):=by
 by_cases hn:xs.length=ys.length/\xs.length<=100000
 ·obtain ⟨hl,hn⟩:=hn
  refine loop_row hmix good0 (un:=10) (ds:=dsE) (ns:=[0,1]) (nx:=2) (fun i:Nat=>VE xs.length c ys.length d i) (fun _=>[iA xs,iA ys]) (fun i=>i<=xs.length/\∀ j,j<i->xs.getD j 0=ys.getD j 0) (fun i=>xs.length - i) (OE xs ys c d) noL_ok ?_ ?_
  ·rintro i ⟨h0,h1⟩
   refine cast (in37_ev xs ys c d i _).symm ?_
   by_cases hlt:i<xs.length
   ·refine cond_dk (by omega) (cond_dk ⟨by omega,by omega⟩ ⟨⟨rfl,by omega,by omega⟩,cond_dk ⟨by omega,by omega⟩ ⟨⟨rfl,by omega,by omega⟩,?_⟩⟩)
    rw [show ((0:Int)+(i:Int)).toNat=i by omega]
    refine cond_nd (fun h=>?_) (fun h=>cond_r (by omega) ⟨i+1,⟨by omega,fun j hj=>?_⟩,by dsimp only; omega,rfl,fitBs_refl _,fun _ _ _ h=>h⟩)
    ·exact ⟨rfl,.inr ⟨fun e=>h (by rw [e]),rfl,_,rfl⟩⟩
    ·by_cases e:j=i
     ·rw [e]; exact h
     ·exact h1 j (by omega)
   ·obtain rfl:i=xs.length:=by omega
    refine cond_d (fun h=>by omega) (fun _=>⟨rfl,.inl ⟨?_,rfl,rfl⟩⟩)
    refine List.ext_getElem hl fun j h2 h3=>?_
    have:=h1 j h2
    rwa [List.getD_eq_getElem?_getD,List.getElem?_eq_getElem h2,List.getD_eq_getElem?_getD,List.getElem?_eq_getElem h3] at this
  ·rintro lock t h K ⟨hf,_,k1,k2⟩
   refine ⟨0,hf,⟨Nat.zero_le _,fun j hj=>by omega⟩,?_⟩
   rintro e vs bs ⟨rfl,⟨g,rfl,rfl⟩ | ⟨g,rfl,i,rfl⟩⟩
   ·exact k1 g
   ·exact k2 g i
 ·rintro lock t h K ⟨hf,hc,_⟩
  exact (hn hc).elim
theorem ints_v (hn:xs.length<=100000):∃ h',CallsV Try.prog 37 [.slice (.el 0 [] 0 0) xs.length c,.slice (.el 1 [] 0 0) ys.length d] ⟨2,[(0,iA xs),(1,iA ys)]⟩ (.ret (.bool (decide (xs=ys)))) h':=by
 have hsp:=spBL_ok hmix (sp:=noSpec) (fun _ _ h=>absurd h (by simp [noSpec])) (f:=37) (l:=[(0,LE xs ys c d)]) (fun x hx=>by
  simp only [List.mem_singleton] at hx
  subst hx
  exact ⟨by kernel_rfl,LE_ok⟩) (un:=10) (fu:=20)
 obtain ⟨r,h',hQ,hc⟩:=of_sp hsp (args:=[.slice (.el 0 [] 0 0) xs.length c,.slice (.el 1 [] 0 0) ys.length d]) (h:=⟨2,[(0,iA xs),(1,iA ys)]⟩) (K:=fun r _=>r=.ret (.bool (decide (xs=ys))))
  (by
   refine cast (f37_ev xs ys c d _).symm ?_
   refine cond_nd (fun h=>?_) (fun h=>⟨fitP_self rfl,⟨by omega,hn⟩,fun h=>by rw [decide_eq_true h],fun h _=>by rw [decide_eq_false h]⟩)
   rw [decide_eq_false (fun e=>h (by rw [e]))])
 subst hQ
 exact ⟨h',hc⟩
end
def intsT:FuncId × Spec1:=(37,fun _ args h K=>match args with
 | [a,b]=>∃ xs ys:List Int,isList h a xs.length 1 (dG xs)/\isList h b ys.length 1 (dG ys)/\xs.length<=100000/\K (.ret (.bool (decide (xs=ys)))) h
 | _=>False)
theorem intsT_ok:SpOk Try.prog intsT.1 intsT.2:=by
 intro lock args h K hK
 simp only [intsT] at hK
 split at hK
 ·obtain ⟨xs,ys,h1,h2,hn,hK⟩:=hK
  refine ⟨_,h,hK,lockP_refl _ _,calls_listsP (ags:=[.l xs.length 1 (dG xs),.l ys.length 1 (dG ys)]) (fun cs=>?_) rfl ⟨_,_,rfl,h1,fun _ _=>rfl,_,_,rfl,h2,fun _ _=>rfl,rfl⟩⟩
  match cs with
  | []=>exact ints_v hn
  | [_]=>exact ints_v hn
  | _::_::_=>exact ints_v hn
 ·exact hK.elim
end Go.Sx.Nos
namespace Go.Sx.Nod
open Go Go.Sx Go.Proofs
set_option maxRecDepth 1000000
def cnR (p:Nos.Pn) (f:FuncId) (C:Prop) (v:VV):FuncId × Spec1:=(f,fun _ args h K=>match args with
 | [x]=>x=.agg (pnL p)/\C/\K (.ret v) h
 | _=>False)
noncomputable def rowsG (p:Nos.Pn) (C:Prop) (v w:VV):List (FuncId × Spec1):=[dT p 14 1 Nos.boV cT fun ns=>Nos.greatB p (g0 ns 0),Nos.alvT,Nos.intsT,cnR p 31 C v,cnR p 35 C v,cnR p 32 C w,cnR p 36 C w]
theorem g1_ev (p:Nos.Pn) (C:Prop) (Q:VRes->Prop):callN Try.prog (tabS (rowsG p C (.tup [.nils,I 1]) (.tup [.nils,I 1]))) noL 10 20 0 (.fn 11) [.agg (pnL p)] ⟨0,[]⟩ (fun r _=>Q r) =
 (VV.agg (pnL p)=VV.agg (pnL p)/\cT [(10:Int)]/\∀ (v:Bool),v=(fun (ns:List Int)=>Nos.greatB p (g0 ns 0)) [(10:Int)]->bif v then
 Q (VRes.ret (VV.bool true))
 else VV.agg (pnL p)=VV.agg (pnL p)/\C/\VV.agg (pnL p)=VV.agg (pnL p)/\C/\VV.agg (pnL p)=VV.agg (pnL p)/\C/\VV.agg (pnL p)=VV.agg (pnL p)/\C/\∃ (xs:List Int),∃ (ys:List Int),isList (VH.mk (0+1) [(0,VB.cells [VV.tl p.D.length 1 (dG p.D),VV.tl p.T.length 5 (Nos.tG p.T),VV.tl p.S.length 3 (Nos.sG p.S)] 26)]) VV.nils xs.length 1 (Nos.dG xs)/\isList (VH.mk (0+1) [(0,VB.cells [VV.tl p.D.length 1 (dG p.D),VV.tl p.T.length 5 (Nos.tG p.T),VV.tl p.S.length 3 (Nos.sG p.S)] 26)]) VV.nils ys.length 1 (Nos.dG ys)/\xs.length<=100000/\bif decide (xs=ys) then
 ∃ (xs:List Int),∃ (ys:List Int),isList (VH.mk (0+1) [(0,VB.cells [VV.tl p.D.length 1 (dG p.D),VV.tl p.T.length 5 (Nos.tG p.T),VV.tl p.S.length 3 (Nos.sG p.S)] 26)]) VV.nils xs.length 1 (Nos.dG xs)/\isList (VH.mk (0+1) [(0,VB.cells [VV.tl p.D.length 1 (dG p.D),VV.tl p.T.length 5 (Nos.tG p.T),VV.tl p.S.length 3 (Nos.sG p.S)] 26)]) VV.nils ys.length 1 (Nos.dG ys)/\xs.length<=100000/\bif decide (xs=ys) then
 Q (VRes.ret (VV.bool true))
 else Q (VRes.ret (VV.bool false))
 else Q (VRes.ret (VV.bool false))):=by kernel_rfl
theorem g2_ev (p:Nos.Pn) (C:Prop) (B:List Int) (Q:VRes->Prop):callN Try.prog (tabS (rowsG p C (.tup [.nils,I 6]) (.tup [.tl B.length 1 (dG B),I 0]))) noL 10 20 0 (.fn 11) [.agg (pnL p)] ⟨0,[]⟩ (fun r _=>Q r) =
 (VV.agg (pnL p)=VV.agg (pnL p)/\cT [(10:Int)]/\∀ (v:Bool),v=(fun (ns:List Int)=>Nos.greatB p (g0 ns 0)) [(10:Int)]->bif v then
 Q (VRes.ret (VV.bool true))
 else VV.agg (pnL p)=VV.agg (pnL p)/\C/\VV.agg (pnL p)=VV.agg (pnL p)/\C/\VV.agg (pnL p)=VV.agg (pnL p)/\C/\VV.agg (pnL p)=VV.agg (pnL p)/\C/\∃ (xs:List Int),∃ (ys:List Int),isList (VH.mk (0+1) [(0,VB.cells [VV.tl p.D.length 1 (dG p.D),VV.tl p.T.length 5 (Nos.tG p.T),VV.tl p.S.length 3 (Nos.sG p.S)] 26)]) VV.nils xs.length 1 (Nos.dG xs)/\isList (VH.mk (0+1) [(0,VB.cells [VV.tl p.D.length 1 (dG p.D),VV.tl p.T.length 5 (Nos.tG p.T),VV.tl p.S.length 3 (Nos.sG p.S)] 26)]) VV.nils ys.length 1 (Nos.dG ys)/\xs.length<=100000/\bif decide (xs=ys) then
 ∃ (xs:List Int),∃ (ys:List Int),isList (VH.mk (0+1) [(0,VB.cells [VV.tl p.D.length 1 (dG p.D),VV.tl p.T.length 5 (Nos.tG p.T),VV.tl p.S.length 3 (Nos.sG p.S)] 26)]) (VV.tl B.length 1 (dG B)) xs.length 1 (Nos.dG xs)/\isList (VH.mk (0+1) [(0,VB.cells [VV.tl p.D.length 1 (dG p.D),VV.tl p.T.length 5 (Nos.tG p.T),VV.tl p.S.length 3 (Nos.sG p.S)] 26)]) (VV.tl B.length 1 (dG B)) ys.length 1 (Nos.dG ys)/\xs.length<=100000/\bif decide (xs=ys) then
 Q (VRes.ret (VV.bool true))
 else Q (VRes.ret (VV.bool false))
 else Q (VRes.ret (VV.bool false))):=by kernel_rfl
theorem g3_ev (p:Nos.Pn) (C:Prop) (B:List Int) (Q:VRes->Prop):callN Try.prog (tabS (rowsG p C (.tup [.tl 16 1 (dG B),I 0]) (.tup [.nils,I 6]))) noL 10 20 0 (.fn 11) [.agg (pnL p)] ⟨0,[]⟩ (fun r _=>Q r) =
 (VV.agg (pnL p)=VV.agg (pnL p)/\cT [(10:Int)]/\∀ (v:Bool),v=(fun (ns:List Int)=>Nos.greatB p (g0 ns 0)) [(10:Int)]->bif v then
 Q (VRes.ret (VV.bool true))
 else VV.agg (pnL p)=VV.agg (pnL p)/\C/\VV.agg (pnL p)=VV.agg (pnL p)/\C/\VV.agg (pnL p)=VV.agg (pnL p)/\C/\VV.agg (pnL p)=VV.agg (pnL p)/\C/\∃ (xs:List Int),∃ (ys:List Int),isList (VH.mk (0+1) [(0,VB.cells [VV.tl p.D.length 1 (dG p.D),VV.tl p.T.length 5 (Nos.tG p.T),VV.tl p.S.length 3 (Nos.sG p.S)] 26)]) (VV.tl 16 1 (dG B)) xs.length 1 (Nos.dG xs)/\isList (VH.mk (0+1) [(0,VB.cells [VV.tl p.D.length 1 (dG p.D),VV.tl p.T.length 5 (Nos.tG p.T),VV.tl p.S.length 3 (Nos.sG p.S)] 26)]) (VV.tl 16 1 (dG B)) ys.length 1 (Nos.dG ys)/\xs.length<=100000/\bif decide (xs=ys) then
 ∃ (xs:List Int),∃ (ys:List Int),isList (VH.mk (0+1) [(0,VB.cells [VV.tl p.D.length 1 (dG p.D),VV.tl p.T.length 5 (Nos.tG p.T),VV.tl p.S.length 3 (Nos.sG p.S)] 26)]) VV.nils xs.length 1 (Nos.dG xs)/\isList (VH.mk (0+1) [(0,VB.cells [VV.tl p.D.length 1 (dG p.D),VV.tl p.T.length 5 (Nos.tG p.T),VV.tl p.S.length 3 (Nos.sG p.S)] 26)]) VV.nils ys.length 1 (Nos.dG ys)/\xs.length<=100000/\bif decide (xs=ys) then
 Q (VRes.ret (VV.bool true))
 else Q (VRes.ret (VV.bool false))
 else Q (VRes.ret (VV.bool false))):=by kernel_rfl
end Go.Sx.Nod
namespace Go.Sx.Nod
open Go Go.Sx Go.Proofs
open Go.Sx.Nos (Pn PnOk fitF douL grp)
set_option maxRecDepth 1000000
section
variable {p:Pn}
theorem cnR_ok {f:FuncId} {C:Prop} {v:VV} (hv:v.bel 0=true) (hf:C->∃ h',CallsV Try.prog f [.agg (pnL p)] ⟨0,[]⟩ (.ret v) h'):SpOk Try.prog (cnR p f C v).1 (cnR p f C v).2:=by
 intro lock args h K hK
 simp only [cnR] at hK
 split at hK
 ·obtain ⟨rfl,hC,hK⟩:=hK
  obtain ⟨h',hc⟩:=hf hC
  exact ⟨_,h,hK,lockP_refl _ _,calls_lift0 hc rfl hv⟩
 ·exact hK.elim
theorem grp_d:(¬ PnOk p->∃ h',CallsV Try.prog 31 [.agg (pnL p)] ⟨0,[]⟩ (.ret (.tup [.nils,I 1])) h') /\
  (PnOk p->¬ fitF p->∃ h',CallsV Try.prog 31 [.agg (pnL p)] ⟨0,[]⟩ (.ret (.tup [.nils,I 6])) h') /\
  (PnOk p->fitF p->∃ h',CallsV Try.prog 31 [.agg (pnL p)] ⟨0,[]⟩ (.ret (.tup [.tl 16 1 (dG (grp p 16)),I 0])) h'):=by
 obtain ⟨r,h',hK,_,hc⟩:=Nos.grpT_ok 0 [.agg (pnL p)] ⟨0,[]⟩ (fun r h=>(¬ PnOk p/\r=.ret (.tup [.nils,I 1])) ∨ (PnOk p/\¬ fitF p/\r=.ret (.tup [.nils,I 6])) ∨ (PnOk p/\fitF p/\r=.ret (.tup [.sl 0 16,I 0])/\h.at 0=.vec 16 (dG (grp p 16)) 1 3))
  ⟨p,pn_tl,fun h=>.inl ⟨h,rfl⟩,fun h1 h2=>.inr (.inl ⟨h1,h2,rfl⟩),fun h1 h2=>.inr (.inr ⟨h1,h2,rfl,rfl⟩)⟩
 rcases hK with ⟨h1,rfl⟩ | ⟨h1,h2,rfl⟩ | ⟨h1,h2,rfl,hb⟩
 ·exact ⟨fun _=>⟨_,hc⟩,fun h=>absurd h h1,fun h=>absurd h h1⟩
 ·exact ⟨fun h=>absurd h1 h,fun _ _=>⟨_,hc⟩,fun _ h=>absurd h h2⟩
 ·exact ⟨fun h=>absurd h1 h,fun _ h=>absurd h2 h,fun _ _=>⟨_,calls_tup hc hb (wkL_refl _)⟩⟩
theorem dou_d:(¬ PnOk p->∃ h',CallsV Try.prog 32 [.agg (pnL p)] ⟨0,[]⟩ (.ret (.tup [.nils,I 1])) h') /\
  (PnOk p->fitF p->∃ h',CallsV Try.prog 32 [.agg (pnL p)] ⟨0,[]⟩ (.ret (.tup [.nils,I 6])) h') /\
  (PnOk p->¬ fitF p->∃ h',CallsV Try.prog 32 [.agg (pnL p)] ⟨0,[]⟩ (.ret (.tup [.tl (douL p p.T.length).length 1 (dG (douL p p.T.length)),I 0])) h'):=by
 obtain ⟨r,h',hK,_,hc⟩:=Nos.douT_ok 0 [.agg (pnL p)] ⟨0,[]⟩ (fun r h=>(¬ PnOk p/\r=.ret (.tup [.nils,I 1])) ∨ (PnOk p/\fitF p/\r=.ret (.tup [.nils,I 6])) ∨ (PnOk p/\¬ fitF p/\r=.ret (.tup [.sl 0 (douL p p.T.length).length,I 0])/\h.at 0=.vec (douL p p.T.length).length (dG (douL p p.T.length)) 1 3))
  ⟨p,pn_tl,fun h=>.inl ⟨h,rfl⟩,fun h1 h2=>.inr (.inl ⟨h1,h2,rfl⟩),fun h1 h2=>.inr (.inr ⟨h1,h2,rfl,rfl⟩)⟩
 rcases hK with ⟨h1,rfl⟩ | ⟨h1,h2,rfl⟩ | ⟨h1,h2,rfl,hb⟩
 ·exact ⟨fun _=>⟨_,hc⟩,fun h=>absurd h h1,fun h=>absurd h h1⟩
 ·exact ⟨fun h=>absurd h1 h,fun _ _=>⟨_,hc⟩,fun _ h=>absurd h2 h⟩
 ·exact ⟨fun h=>absurd h1 h,fun _ h=>absurd h h2,fun _ _=>⟨_,calls_tup hc hb (wkL_refl _)⟩⟩
theorem rowsG_ok {C:Prop} {v w:VV} (hv:v.bel 0=true) (hw:w.bel 0=true) (h1:C->∃ h',CallsV Try.prog 31 [.agg (pnL p)] ⟨0,[]⟩ (.ret v) h') (h2:C->∃ h',CallsV Try.prog 35 [.agg (pnL p)] ⟨0,[]⟩ (.ret v) h') (h3:C->∃ h',CallsV Try.prog 32 [.agg (pnL p)] ⟨0,[]⟩ (.ret w) h') (h4:C->∃ h',CallsV Try.prog 36 [.agg (pnL p)] ⟨0,[]⟩ (.ret w) h'):∀ x ∈ rowsG p C v w,SpOk Try.prog x.1 x.2:=fun x hx=>by
 simp only [rowsG,List.mem_cons,List.not_mem_nil,or_false] at hx
 rcases hx with rfl | rfl | rfl | rfl | rfl | rfl | rfl
 ·exact dT_n (fun _=>rfl) fun ns hn _ c1 c2 c3=>by
   match ns,hn with
   | [m],_=>exact Nos.great_v p c1 c2 c3 m
 ·exact Nos.alvT_ok
 ·exact Nos.intsT_ok
 ·exact cnR_ok hv h1
 ·exact cnR_ok hv h2
 ·exact cnR_ok hw h3
 ·exact cnR_ok hw h4
theorem li_nil {h:VH}:isList h .nils ([]:List Int).length 1 (Nos.dG []):=rfl
theorem li_tl {h:VH} {B:List Int}:isList h (.tl B.length 1 (dG B)) B.length 1 (Nos.dG B):=⟨rfl,rfl,fun _ _=>rfl⟩
theorem g1_v (hp:¬ PnOk p):∃ h',CallsV Try.prog 11 [.agg (pnL p)] ⟨0,[]⟩ (.ret (.bool true)) h':=by
 have hrow:=rowsG_ok (p:=p) (C:=True) (v:=.tup [.nils,I 1]) (w:=.tup [.nils,I 1]) rfl rfl (fun _=>grp_d.1 hp) (fun _=>rgrp_v.1 hp) (fun _=>dou_d.1 hp) (fun _=>rdou_v.1 hp)
 obtain ⟨r,h',rfl,hc⟩:=of_callN (noL_good (tabs4 hrow)) (f:=11) (args:=[.agg (pnL p)]) (h:=⟨0,[]⟩) (K:=fun r _=>r=.ret (.bool true)) (by
  refine cast (g1_ev p True _).symm ⟨rfl,trivial,fun v _=>Nos.cond_b (fun _=>rfl) fun _=>⟨rfl,trivial,rfl,trivial,rfl,trivial,rfl,trivial,[],[],li_nil,li_nil,by decide,cond_dk rfl ⟨[],[],li_nil,li_nil,by decide,cond_dk rfl rfl⟩⟩⟩)
 exact ⟨h',hc⟩
theorem g2_v {B:List Int} (hp:PnOk p) (hf:¬ fitF p) (hB:B=douL p p.T.length) (hl:B.length<=100000):∃ h',CallsV Try.prog 11 [.agg (pnL p)] ⟨0,[]⟩ (.ret (.bool true)) h':=by
 have e1:=dou_d.2.2 hp hf
 have e2:=rdou_v.2.2 hp hf
 rw [<- hB] at e1 e2
 have hrow:=rowsG_ok (p:=p) (C:=True) (v:=.tup [.nils,I 6]) (w:=.tup [.tl B.length 1 (dG B),I 0]) rfl rfl (fun _=>grp_d.2.1 hp hf) (fun _=>rgrp_v.2.1 hp hf) (fun _=>e1) (fun _=>e2)
 obtain ⟨r,h',rfl,hc⟩:=of_callN (noL_good (tabs4 hrow)) (f:=11) (args:=[.agg (pnL p)]) (h:=⟨0,[]⟩) (K:=fun r _=>r=.ret (.bool true)) (by
  refine cast (g2_ev p True B _).symm ⟨rfl,trivial,fun v _=>Nos.cond_b (fun _=>rfl) fun _=>⟨rfl,trivial,rfl,trivial,rfl,trivial,rfl,trivial,[],[],li_nil,li_nil,by decide,cond_dk rfl ⟨B,B,li_tl,li_tl,hl,cond_dk rfl rfl⟩⟩⟩)
 exact ⟨h',hc⟩
theorem g3_v {B:List Int} (hp:PnOk p) (hf:fitF p) (hB:B=grp p 16) (hl:B.length=16):∃ h',CallsV Try.prog 11 [.agg (pnL p)] ⟨0,[]⟩ (.ret (.bool true)) h':=by
 have e1:=grp_d.2.2 hp hf
 have e2:=rgrp_v.2.2 hp hf
 rw [<- hB] at e1 e2
 have hrow:=rowsG_ok (p:=p) (C:=True) (v:=.tup [.tl 16 1 (dG B),I 0]) (w:=.tup [.nils,I 6]) rfl rfl (fun _=>e1) (fun _=>e2) (fun _=>dou_d.2.1 hp hf) (fun _=>rdou_v.2.1 hp hf)
 obtain ⟨r,h',rfl,hc⟩:=of_callN (noL_good (tabs4 hrow)) (f:=11) (args:=[.agg (pnL p)]) (h:=⟨0,[]⟩) (K:=fun r _=>r=.ret (.bool true)) (by
  refine cast (g3_ev p True B _).symm ⟨rfl,trivial,fun v _=>Nos.cond_b (fun _=>rfl) fun _=>⟨rfl,trivial,rfl,trivial,rfl,trivial,rfl,trivial,B,B,⟨hl.symm,rfl,fun _ _=>rfl⟩,⟨hl.symm,rfl,fun _ _=>rfl⟩,by omega,cond_dk rfl ⟨[],[],li_nil,li_nil,by decide,cond_dk rfl rfl⟩⟩⟩)
 exact ⟨h',hc⟩
theorem groups_v:∃ h',CallsV Try.prog 11 [.agg (pnL p)] ⟨0,[]⟩ (.ret (.bool true)) h':=by
 by_cases hp:PnOk p
 ·by_cases hf:fitF p
  ·exact g3_v hp hf rfl (Nos.grp_len 16)
  ·have hl:=Nos.dou_le (p:=p) p.T.length
   have hT:=hp.t
   exact g2_v hp hf rfl (by omega)
 ·exact g1_v hp
end
end Go.Sx.Nod
