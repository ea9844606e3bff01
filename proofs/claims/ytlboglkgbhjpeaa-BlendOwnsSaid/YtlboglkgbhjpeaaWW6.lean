/- stream: Rf1 Rf2 Rf3 Rg1 Rg2 Rg3 Rg4 Rf5 Rf6 Rg5 Rf7 Mc1 Fb3 Fc1 Md1 Ma1 Ma2 Md2 Md3 Rh1 Rf8 Rg6 Rf9, in one text. -/
import Derived.Test.YtlboglkgbhjpeaaWW4
import Derived.Test.YtlboglkgbhjpeaaWW5
import Derived.Test.YtlboglkgbhjpeaaWW1
namespace Go.Sx.Bln
open Go Go.Sx Go.Proofs
set_option maxRecDepth 1000000
def vO (D:List Int):VB:=.vec D.length (dG D) 1 3
def pO (s:Stk):Nat->List Int
 | 0=>[]
 | j+1=>pO s j ++ [(s.prof.getD j s0).lo,(s.prof.getD j s0).hi]
def cO (l:List Stk):Nat->List Int
 | 0=>[]
 | i+1=>cO l i ++ [(l.getD i k0).casks,(l.getD i k0).vol,(l.getD i k0).age,(l.getD i k0).cost] ++ pO (l.getD i k0) (l.getD i k0).prof.length
def fO (p:List (List Int)):Nat->List Int
 | 0=>[]
 | i+1=>fO p i ++ p.getD i []
def bnO (l:List Stk) (r:Nat) (G:Nat->Nat->Int):VB:=.bun 7 r l.length G 3
def dsO:List Nat:=[45,44,43,8,7,4,0,1,2]
def VO (l:List Stk) (t:Tst) (p:List (List Int)) (i:Int) (D:List Int):List VV:=[I i,I l.length,stD l,.nils,.sl 2 D.length,.ptr (.own 1 0),stD l,.agg (tsL t),pthD p]
def BO (l:List Stk) (t:Tst) (G:Nat->Nat->Int) (D:List Int):List VB:=[bnO l 0 G,.cells (tsL t) 25,vO D]
theorem o2_ev (l:List Stk) (t:Tst) (p:List (List Int)) (G:Nat->Nat->Int) (D:List Int) (s:Stk) (i j:Nat) (X:VEx->List VV->List VB->Prop):codeE Try.prog (callN Try.prog noSpec noL 10 20) (fun _=>none) true 10 (ntOf Try.prog 3) 0 (loopB 2 (bodyOf Try.prog 3)) ((63::62::61::dsO).zip (I j::I s.prof.length::spD s.prof::VO l t p i D)) ⟨5,[0,1,2].zip (BO l t G D)⟩ (obs 5 (63::62::61::dsO) [0,1,2] X) =
 (bif decide ((j:Int)<(s.prof.length:Int)) then
 bif decide ((0:Int)<=(j:Int)/\(j:Int)<(s.prof.length:Int)) then
 bif D.length.beq D.length then
 bif roomB (D.length+2) (8) then
 bif inK .i64 ((j:Int)+(1:Int)) then
 X .normal [I ((j:Int)+(1:Int)),I (s.prof.length:Int),.tl s.prof.length 2 (spG s.prof),I (i:Int),I (l.length:Int),stD l,.nils,.sl 2 (D.length+2),.ptr (.own 1 0),stD l,.agg (tsL t),pthD p] [.bun 7 0 l.length G 3,.cells (tsL t) 25,.vec (D.length+2) (catG D.length (dG D) fun (j_1:Nat)=>List.take (1) (List.drop (j_1*(1)) [I (s.prof.getD (j:Int).toNat s0).lo,I (s.prof.getD (j:Int).toNat s0).hi])) (1) 3]
 else False
 else False
 else False
 else False
 else X (VEx.exit 2) [I (j:Int),I (s.prof.length:Int),.tl s.prof.length 2 (spG s.prof),I (i:Int),I (l.length:Int),stD l,.nils,.sl 2 D.length,.ptr (.own 1 0),stD l,.agg (tsL t),pthD p] [.bun 7 0 l.length G 3,.cells (tsL t) 25,.vec D.length (dG D) 1 3]):=by kernel_rfl
def lO2 (l:List Stk) (t:Tst) (p:List (List Int)) (G:Nat->Nat->Int) (D:List Int) (s:Stk) (i:Nat):LT:=fun lock tt h K=>
 FitP lock h tt ⟨5,[0,1,2].zip (BO l t G D)⟩ ((63::62::61::dsO).zip (I 0::I s.prof.length::spD s.prof::VO l t p i D))/\(s.prof.length<=6/\D.length<=1000)/\∀ E,E=D ++ pO s s.prof.length->K .normal ((63::62::61::dsO).zip (I s.prof.length::I s.prof.length::spD s.prof::VO l t p i E)) ⟨5,[0,1,2].zip (BO l t G E)⟩
def ckE (s:Stk):List Int:=[s.casks,s.vol,s.age,s.cost]
theorem o0_ev (l:List Stk) (t:Tst) (p:List (List Int)) (G:Nat->Nat->Int) (D:List Int) (i:Nat) (X:VEx->List VV->List VB->Prop):codeE Try.prog (callN Try.prog noSpec noL 10 20) (tabB [(2,lO2 l t p G (D ++ ckE (l.getD i k0)) (l.getD i k0) i)]) true 10 (ntOf Try.prog 3) 0 (loopB 0 (bodyOf Try.prog 3)) (dsO.zip (VO l t p i D)) ⟨3,[0,1,2].zip (BO l t G D)⟩ (obs 3 dsO [0,1,2] X) =
 (bif decide ((i:Int)<(l.length:Int)) then
 bif decide ((0:Int)<=(i:Int)/\(i:Int)<(l.length:Int)) then
 bif D.length.beq D.length then
 bif roomB (D.length+4) (8) then
 FitP 0 (VH.mk (5) ((2,.vec (D.length+4) (catG D.length (dG D) fun (j:Nat)=>List.take (1) (List.drop (j*(1)) [I (l.getD (i:Int).toNat k0).casks,I (l.getD (i:Int).toNat k0).vol,I (l.getD (i:Int).toNat k0).age,I (l.getD (i:Int).toNat k0).cost])) (1) 3)::(4,.vec 4 (fun (j:Nat)=>List.take (1) (List.drop (j*(1)) [I (l.getD (i:Int).toNat k0).casks,I (l.getD (i:Int).toNat k0).vol,I (l.getD (i:Int).toNat k0).age,I (l.getD (i:Int).toNat k0).cost])) (1) 3)::(3,.cells [I (l.getD (i:Int).toNat k0).casks,I (l.getD (i:Int).toNat k0).vol,I (l.getD (i:Int).toNat k0).age,I (l.getD (i:Int).toNat k0).cost,.tl (l.getD (i:Int).toNat k0).prof.length 2 (spG (l.getD (i:Int).toNat k0).prof)] 32)::(3,.cells [I 0,I 0,I 0,I 0,.nils] 32)::[0,1,2].zip (BO l t G D))) ((63,I 0)::(62,I (↑(l.getD (i:Int).toNat k0).prof.length:Int))::(61,.tl (l.getD (i:Int).toNat k0).prof.length 2 (spG (l.getD (i:Int).toNat k0).prof))::(60,.ptr (.own (3) (4)))::(7,.sl 2 (D.length+4))::(59,.sl 2 (D.length+4))::(58,.sl (4) 4)::(57,I (l.getD (i:Int).toNat k0).cost)::(56,.ptr (.own (3) (3)))::(55,I (l.getD (i:Int).toNat k0).age)::(54,.ptr (.own (3) (2)))::(53,I (l.getD (i:Int).toNat k0).vol)::(52,.ptr (.own (3) (1)))::(51,I (l.getD (i:Int).toNat k0).casks)::(50,.ptr (.own (3) 0))::(49,.sl 2 D.length)::(10,.ptr (.own (3) 0))::(48,.agg [I (l.getD (i:Int).toNat k0).casks,I (l.getD (i:Int).toNat k0).vol,I (l.getD (i:Int).toNat k0).age,I (l.getD (i:Int).toNat k0).cost,.tl (l.getD (i:Int).toNat k0).prof.length 2 (spG (l.getD (i:Int).toNat k0).prof)])::(47,.tp [I (l.getD (i:Int).toNat k0).casks,I (l.getD (i:Int).toNat k0).vol,I (l.getD (i:Int).toNat k0).age,I (l.getD (i:Int).toNat k0).cost,.tl (l.getD (i:Int).toNat k0).prof.length 2 (spG (l.getD (i:Int).toNat k0).prof)])::(46,.bool true)::(46,.bool (decide ((i:Int)<(l.length:Int))))::dsO.zip (VO l t p (i:Int) D)) (VH.mk 5 ([0,1,2].zip (BO l t G (D ++ ckE (l.getD i k0))))) ((63::62::61::dsO).zip (I 0::I (↑(l.getD i k0).prof.length:Int)::spD (l.getD i k0).prof::VO l t p (i:Int) (D ++ ckE (l.getD i k0))))/\((l.getD i k0).prof.length<=6/\(D ++ ckE (l.getD i k0)).length<=1000)/\∀ (E:List Int),E=D ++ ckE (l.getD i k0) ++ pO (l.getD i k0) (l.getD i k0).prof.length->bif inK .i64 ((i:Int)+(1:Int)) then
 X .normal [I ((i:Int)+(1:Int)),I (l.length:Int),stD l,.nils,.sl 2 E.length,.ptr (.own 1 0),stD l,.agg (tsL t),pthD p] [.bun 7 0 l.length G 3,.cells (tsL t) 25,.vec E.length (dG E) 1 3]
 else False
 else False
 else False
 else False
 else X (VEx.exit 0) [I (i:Int),I (l.length:Int),stD l,.nils,.sl 2 D.length,.ptr (.own 1 0),stD l,.agg (tsL t),pthD p] [.bun 7 0 l.length G 3,.cells (tsL t) 25,.vec D.length (dG D) 1 3]):=by kernel_rfl
def lO0 (l:List Stk) (t:Tst) (p:List (List Int)) (G:Nat->Nat->Int):LT:=fun lock tt h K=>
 FitP lock h tt ⟨2,[0,1].zip [bnO l 0 G,.cells (tsL t) 25]⟩ (dsO.zip [I 0,I l.length,stD l,.nils,.nils,.ptr (.own 1 0),stD l,.agg (tsL t),pthD p])/\(l.length<=8/\∀ i,(l.getD i k0).prof.length<=6)/\∀ D,D=cO l l.length->K .normal (dsO.zip (VO l t p l.length D)) ⟨3,[0,1,2].zip (BO l t G D)⟩
def VF (l:List Stk) (t:Tst) (p:List (List Int)) (D F:List Int):List VV:=[I l.length,I l.length,stD l,.sl 3 F.length,.sl 2 D.length,.ptr (.own 1 0),stD l,.agg (tsL t),pthD p]
def BF (l:List Stk) (t:Tst) (G:Nat->Nat->Int) (D F:List Int):List VB:=[bnO l 0 G,.cells (tsL t) 25,vO D,vO F]
theorem o4_ev (l:List Stk) (t:Tst) (p:List (List Int)) (G:Nat->Nat->Int) (D F:List Int) (i:Nat) (X:VEx->List VV->List VB->Prop):codeE Try.prog (callN Try.prog noSpec noL 10 20) (fun _=>none) true 10 (ntOf Try.prog 3) 0 (loopB 4 (bodyOf Try.prog 3)) ((78::77::76::dsO).zip (I i::I p.length::pthD p::VF l t p D F)) ⟨4,[0,1,2,3].zip (BF l t G D F)⟩ (obs 4 (78::77::76::dsO) [0,1,2,3] X) =
 (bif decide ((i:Int)<(p.length:Int)) then
 bif decide ((0:Int)<=(i:Int)/\(i:Int)<(p.length:Int)) then
 bif F.length.beq F.length then
 bif roomB (F.length+(p.getD (i:Int).toNat []).length) (8) then
 bif inK .i64 ((i:Int)+(1:Int)) then
 X .normal [I ((i:Int)+(1:Int)),I (p.length:Int),pthD p,I (l.length:Int),I (l.length:Int),stD l,.sl 3 (F.length+(p.getD (i:Int).toNat []).length),.sl 2 D.length,.ptr (.own 1 0),stD l,.agg (tsL t),pthD p] [.bun 7 0 l.length G 3,.cells (tsL t) 25,.vec D.length (dG D) 1 3,.vec (F.length+(p.getD (i:Int).toNat []).length) (catG F.length (dG F) (dG (p.getD (i:Int).toNat []))) (1) 3]
 else False
 else False
 else False
 else False
 else X (VEx.exit 4) [I (i:Int),I (p.length:Int),pthD p,I (l.length:Int),I (l.length:Int),stD l,.sl 3 F.length,.sl 2 D.length,.ptr (.own 1 0),stD l,.agg (tsL t),pthD p] [.bun 7 0 l.length G 3,.cells (tsL t) 25,.vec D.length (dG D) 1 3,.vec F.length (dG F) 1 3]):=by kernel_rfl
def lO4 (l:List Stk) (t:Tst) (p:List (List Int)) (G:Nat->Nat->Int):LT:=fun lock tt h K=>∃ D:List Int,
 FitP lock h tt ⟨3,[0,1,2].zip (BO l t G D)⟩ ((78::77::76::dsO).zip (I 0::I p.length::pthD p::VO l t p l.length D))/\(D=cO l l.length/\p.length<=6/\∀ i,(p.getD i []).length<=6)/\∀ F,F=fO p p.length->K .normal ((78::77::76::dsO).zip (I p.length::I p.length::pthD p::VF l t p D F)) ⟨4,[0,1,2,3].zip (BF l t G D F)⟩
def plO (l:List Stk) (t:Tst) (p:List (List Int)) (x:Rsl):FuncId × Spec1:=(17,fun lock args h K=>match h.nx,args with
 | 5,[.tl L s g,z,.tl L2 s2 g2]=>VV.tl L s g=stD l/\z=.agg (tsL t)/\VV.tl L2 s2 g2=pthD p/\(lock=0/\∃ G':Nat->Nat->Int,h.at 0=.bun 7 0 l.length G' 3)/\K (.ret (.tup [plnH l.length p.length (p.getD 0 []).length,I 0])) (h.put 0 (.bun 7 (p.length*(p.getD 0 []).length) l.length (XG (p.getD 0 []).length x) 3))
 | _,[.tl L s g,z,.tl L2 s2 g2]=>VV.tl L s g=stD l/\z=.agg (tsL t)/\VV.tl L2 s2 g2=pthD p/\K (.ret (.tup [plnD l.length p.length (p.getD 0 []).length x,I 0])) h
 | _,_=>False)
def dsX:List Nat:=[15,17,8,7,4,0,1,2]
def VX (l:List Stk) (t:Tst) (p:List (List Int)) (D F:List Int):List VV:=[.sl 4 (0+t.T.length),I 0,.sl 3 F.length,.sl 2 D.length,.ptr (.own 1 0),stD l,.agg (tsL t),pthD p]
def BX (l:List Stk) (t:Tst) (D F:List Int) (r:Nat) (G:Nat->Nat->Int):List VB:=[bnO l r G,.cells (tsL t) 25,vO D,vO F,.vec (0+t.T.length) (dG t.T) 1 3]
def nG (G:Nat->Nat->Int) (a k:Nat):Nat->Nat->Int:=fun b c=>if b=a/\c<k then -1 else G b c
def mG (G:Nat->Nat->Int) (b j:Nat):Nat->Nat->Int:=fun a c=>if b<=a/\a<b+j then -1 else G a c
def rwX (C:Nat) (f:Nat->Int):VV:=.tl (0+C) 1 (catG 0 (fun (j:Nat)=>List.take 1 (List.drop (j*1) [])) fun (k:Nat)=>[I (f k)])
def ownX (C:Nat) (G:Nat->Nat->Int) (b:Nat):Nat->List VV:=fun j=>[rwX C (mG G b j (b+j))]
def ds6:List Nat:=99::98::97::dsX
def V6 (l:List Stk) (t:Tst) (p:List (List Int)) (D F:List Int) (P Y:Nat) (i:Int):List VV:=I i::I P::plnH l.length P Y::VX l t p D F
def ds8:List Nat:=105::104::103::18::ds6
def V8 (l:List Stk) (t:Tst) (p:List (List Int)) (D F:List Int) (P Y i b:Nat) (j:Int):List VV:=I j::I Y::.tl Y 1 (rowH l.length b)::.sl 5 i::V6 l t p D F P Y i
def ds10:List Nat:=117::116::23::21::ds8
theorem x10_ev (l:List Stk) (t:Tst) (p:List (List Int)) (D F:List Int) (P Y i b j r k:Nat) (G:Nat->Nat->Int) (g g2:Nat->List VV) (X:VEx->List VV->List VB->Prop):codeE Try.prog (callN Try.prog noSpec noL 10 20) (fun _=>none) true 10 (ntOf Try.prog 3) 0 (loopB 10 (bodyOf Try.prog 3)) (ds10.zip (I k::I l.length::.hs 7 (b+j) l.length::.sl 6 (j+1)::V8 l t p D F P Y i b j)) ⟨9,[0,1,2,3,4,5,6].zip (BX l t D F r G ++ [.vec i g 1 26,.vec (j+1) g2 1 23])⟩ (obs 9 ds10 [0,1,2,3,4,5,6] X) =
 (bif decide ((k:Int)<(l.length:Int)) then
 bif decide ((0:Int)<=(k:Int)/\(k:Int)<(l.length:Int)) then
 bif l.length.beq l.length && decide (b+j<r) then
 bif decide (b+j<r/\(k:Int).toNat<l.length) then
 bif inK .i64 ((k:Int)+(1:Int)) then
 X .normal [I ((k:Int)+(1:Int)),I (l.length:Int),.hs 7 (b+j) l.length,.sl 6 (j+1),I (j:Int),I (Y:Int),.tl Y 1 (rowH l.length b),.sl 5 i,I (i:Int),I (P:Int),.tl P 1 fun (i:Nat)=>[.tl Y 1 (rowH l.length (i*Y))],.sl 4 (0+t.T.length),I 0,.sl 3 F.length,.sl 2 D.length,.ptr (.own 1 0),stD l,.agg (tsL t),pthD p] [.bun 7 r l.length (setM G (b+j) (k:Int).toNat (-1:Int)) 3,.cells (tsL t) 25,.vec D.length (dG D) 1 3,.vec F.length (dG F) 1 3,.vec (0+t.T.length) (dG t.T) 1 3,.vec i g 1 26,.vec (j+1) g2 1 23]
 else False
 else False
 else False
 else False
 else X (VEx.exit 10) [I (k:Int),I (l.length:Int),.hs 7 (b+j) l.length,.sl 6 (j+1),I (j:Int),I (Y:Int),.tl Y 1 (rowH l.length b),.sl 5 i,I (i:Int),I (P:Int),.tl P 1 fun (i:Nat)=>[.tl Y 1 (rowH l.length (i*Y))],.sl 4 (0+t.T.length),I 0,.sl 3 F.length,.sl 2 D.length,.ptr (.own 1 0),stD l,.agg (tsL t),pthD p] [.bun 7 r l.length G 3,.cells (tsL t) 25,.vec D.length (dG D) 1 3,.vec F.length (dG F) 1 3,.vec (0+t.T.length) (dG t.T) 1 3,.vec i g 1 26,.vec (j+1) g2 1 23]):=by kernel_rfl
def lX10 (l:List Stk) (t:Tst) (p:List (List Int)) (D F:List Int) (P Y i b r:Nat) (g g2:Nat->List VV):LT:=fun lock tt h K=>∃ (j:Nat) (G:Nat->Nat->Int),
 FitP lock h tt ⟨9,[0,1,2,3,4,5,6].zip (BX l t D F r (mG G b j) ++ [.vec i g 1 26,.vec (j+1) g2 1 23])⟩ (ds10.zip (I 0::I l.length::.hs 7 (b+j) l.length::.sl 6 (j+1)::V8 l t p D F P Y i b j))/\(b+j<r/\l.length<=8) /\
  K .normal (ds10.zip (I l.length::I l.length::.hs 7 (b+j) l.length::.sl 6 (j+1)::V8 l t p D F P Y i b j)) ⟨9,[0,1,2,3,4,5,6].zip (BX l t D F r (mG G b (j+1)) ++ [.vec i g 1 26,.vec (j+1) g2 1 23])⟩
theorem x8_ev (l:List Stk) (t:Tst) (p:List (List Int)) (D F:List Int) (P Y i b j r:Nat) (G:Nat->Nat->Int) (g g2:Nat->List VV) (X:VEx->List VV->List VB->Prop):codeE Try.prog (callN Try.prog noSpec noL 10 20) (tabB [(10,lX10 l t p D F P Y i b r g g2)]) true 10 (ntOf Try.prog 3) 0 (loopB 8 (bodyOf Try.prog 3)) ((21::ds8).zip (.sl 6 j::V8 l t p D F P Y i b j)) ⟨7,[0,1,2,3,4,5,6].zip (BX l t D F r (mG G b j) ++ [.vec i g 1 26,.vec j g2 1 23])⟩ (obs 7 (21::ds8) [0,1,2,3,4,5,6] X) =
 (bif decide ((j:Int)<(Y:Int)) then
 bif decide ((0:Int)<=(j:Int)/\(j:Int)<(Y:Int)) then
 bif l.length.beq l.length && decide (b+(j:Int).toNat<r) then
 bif roomB (0+l.length) (8) then
 bif (0+l.length).beq (0+l.length) && Nat.ble 1 (1) && (occN (7) [] ((112,.sl (7) (0+l.length))::(111,.hs 7 (b+(j:Int).toNat) l.length)::(110,.sl (7) 0)::(109,.sl 6 j)::(23,.hs 7 (b+(j:Int).toNat) l.length)::(108,.hs 7 (b+(j:Int).toNat) l.length)::(107,.tp [.hs 7 (b+(j:Int).toNat) l.length])::(106,.bool true)::(106,.bool (decide ((j:Int)<(Y:Int))))::(21::ds8).zip (VV.sl 6 j::V8 l t p D F P Y i b (j:Int)))).ble 1 then
 bif j.beq j then
 bif roomB (j+1) (24) then
 ∃ (j_1:Nat),∃ (G_1:Nat->Nat->Int),FitP 0 (VH.mk (9) ((6,.vec (j+1) (catG j g2 fun (j_2:Nat)=>List.take (1) (List.drop (j_2*(1)) [.tl (0+l.length) (1) (catG 0 (fun (j:Nat)=>List.take (1) (List.drop (j*(1)) [])) fun (k:Nat)=>[I (mG G b j (b+(j:Int).toNat) k)])])) (1) 23)::(8,.vec 1 (fun (j_2:Nat)=>List.take (1) (List.drop (j_2*(1)) [.tl (0+l.length) (1) (catG 0 (fun (j:Nat)=>List.take (1) (List.drop (j*(1)) [])) fun (k:Nat)=>[I (mG G b j (b+(j:Int).toNat) k)])])) (1) 23)::(7,.gone)::(7,.vec (0+l.length) (catG 0 (fun (j:Nat)=>List.take (1) (List.drop (j*(1)) [])) fun (k:Nat)=>[I (mG G b j (b+(j:Int).toNat) k)]) (1) 3)::(7,.vec 0 (fun (j:Nat)=>List.take (1) (List.drop (j*(1)) [])) (1) 3)::[0,1,2,3,4,5,6].zip (BX l t D F r (mG G b j) ++ [.vec i g 1 26,.vec j g2 1 23]))) ((117,I 0)::(116,I (l.length:Int))::(115,.hs 7 (b+(j:Int).toNat) l.length)::(21,.sl 6 (j+1))::(114,.sl 6 (j+1))::(113,.sl (8) 1)::(112,.sl (7) (0+l.length))::(111,.hs 7 (b+(j:Int).toNat) l.length)::(110,.sl (7) 0)::(109,.sl 6 j)::(23,.hs 7 (b+(j:Int).toNat) l.length)::(108,.hs 7 (b+(j:Int).toNat) l.length)::(107,.tp [.hs 7 (b+(j:Int).toNat) l.length])::(106,.bool true)::(106,.bool (decide ((j:Int)<(Y:Int))))::(21::ds8).zip (VV.sl 6 j::V8 l t p D F P Y i b (j:Int))) (VH.mk 9 ([0,1,2,3,4,5,6].zip (BX l t D F r (mG G_1 b j_1) ++ [.vec i g 1 26,.vec (j_1+1) g2 1 23]))) (ds10.zip (I 0::I (l.length:Int)::.hs 7 (b+j_1) l.length::.sl 6 (j_1+1)::V8 l t p D F P Y i b (j_1:Int)))/\(b+j_1<r/\l.length<=8)/\bif inK .i64 ((j_1:Int)+(1:Int)) then
 X .normal [.sl 6 (j_1+1),I ((j_1:Int)+(1:Int)),I (Y:Int),.tl Y 1 (rowH l.length b),.sl 5 i,I (i:Int),I (P:Int),.tl P 1 fun (i:Nat)=>[.tl Y 1 (rowH l.length (i*Y))],.sl 4 (0+t.T.length),I 0,.sl 3 F.length,.sl 2 D.length,.ptr (.own 1 0),stD l,.agg (tsL t),pthD p] [.bun 7 r l.length (mG G_1 b (j_1+1)) 3,.cells (tsL t) 25,.vec D.length (dG D) 1 3,.vec F.length (dG F) 1 3,.vec (0+t.T.length) (dG t.T) 1 3,.vec i g 1 26,.vec (j_1+1) g2 1 23]
 else False
 else False
 else False
 else bif (0+l.length).beq (0+l.length) && Nat.ble 1 (1) && !(7).beq (8) then
 bif j.beq j then
 bif roomB (j+1) (24) then
 ∃ (j_1:Nat),∃ (G_1:Nat->Nat->Int),FitP 0 (VH.mk (9) ((6,.vec (j+1) (catG j g2 fun (j_2:Nat)=>List.take (1) (List.drop (j_2*(1)) (List.take (1*(1)) (List.drop 0 [.tl (0+l.length) (1) (catG 0 (fun (j:Nat)=>List.take (1) (List.drop (j*(1)) [])) fun (k:Nat)=>[I (mG G b j (b+(j:Int).toNat) k)])])))) (1) 23)::(8,.cells [.tl (0+l.length) (1) (catG 0 (fun (j:Nat)=>List.take (1) (List.drop (j*(1)) [])) fun (k:Nat)=>[I (mG G b j (b+(j:Int).toNat) k)])] 23)::(7,.gone)::(8,.cells [.sl (7) (0+l.length)] 23)::(7,.vec (0+l.length) (catG 0 (fun (j:Nat)=>List.take (1) (List.drop (j*(1)) [])) fun (k:Nat)=>[I (mG G b j (b+(j:Int).toNat) k)]) (1) 3)::(7,.vec 0 (fun (j:Nat)=>List.take (1) (List.drop (j*(1)) [])) (1) 3)::[0,1,2,3,4,5,6].zip (BX l t D F r (mG G b j) ++ [.vec i g 1 26,.vec j g2 1 23]))) ((117,I 0)::(116,I (l.length:Int))::(115,.hs 7 (b+(j:Int).toNat) l.length)::(21,.sl 6 (j+1))::(114,.sl 6 (j+1))::(113,.slice (.own (8) 0) 1 1)::(112,.sl (7) (0+l.length))::(111,.hs 7 (b+(j:Int).toNat) l.length)::(110,.sl (7) 0)::(109,.sl 6 j)::(23,.hs 7 (b+(j:Int).toNat) l.length)::(108,.hs 7 (b+(j:Int).toNat) l.length)::(107,.tp [.hs 7 (b+(j:Int).toNat) l.length])::(106,.bool true)::(106,.bool (decide ((j:Int)<(Y:Int))))::(21::ds8).zip (VV.sl 6 j::V8 l t p D F P Y i b (j:Int))) (VH.mk 9 ([0,1,2,3,4,5,6].zip (BX l t D F r (mG G_1 b j_1) ++ [.vec i g 1 26,.vec (j_1+1) g2 1 23]))) (ds10.zip (I 0::I (l.length:Int)::.hs 7 (b+j_1) l.length::.sl 6 (j_1+1)::V8 l t p D F P Y i b (j_1:Int)))/\(b+j_1<r/\l.length<=8)/\bif inK .i64 ((j_1:Int)+(1:Int)) then
 X .normal [.sl 6 (j_1+1),I ((j_1:Int)+(1:Int)),I (Y:Int),.tl Y 1 (rowH l.length b),.sl 5 i,I (i:Int),I (P:Int),.tl P 1 fun (i:Nat)=>[.tl Y 1 (rowH l.length (i*Y))],.sl 4 (0+t.T.length),I 0,.sl 3 F.length,.sl 2 D.length,.ptr (.own 1 0),stD l,.agg (tsL t),pthD p] [.bun 7 r l.length (mG G_1 b (j_1+1)) 3,.cells (tsL t) 25,.vec D.length (dG D) 1 3,.vec F.length (dG F) 1 3,.vec (0+t.T.length) (dG t.T) 1 3,.vec i g 1 26,.vec (j_1+1) g2 1 23]
 else False
 else False
 else False
 else False
 else False
 else False
 else False
 else X (VEx.exit 8) [.sl 6 j,I (j:Int),I (Y:Int),.tl Y 1 (rowH l.length b),.sl 5 i,I (i:Int),I (P:Int),.tl P 1 fun (i:Nat)=>[.tl Y 1 (rowH l.length (i*Y))],.sl 4 (0+t.T.length),I 0,.sl 3 F.length,.sl 2 D.length,.ptr (.own 1 0),stD l,.agg (tsL t),pthD p] [.bun 7 r l.length (mG G b j) 3,.cells (tsL t) 25,.vec D.length (dG D) 1 3,.vec F.length (dG F) 1 3,.vec (0+t.T.length) (dG t.T) 1 3,.vec i g 1 26,.vec j g2 1 23]):=by kernel_rfl
def lX8 (l:List Stk) (t:Tst) (p:List (List Int)) (D F:List Int) (P Y r:Nat) (g:Nat->List VV):LT:=fun lock tt h K=>∃ (i b:Nat) (G:Nat->Nat->Int),
 FitP lock h tt ⟨6,[0,1,2,3,4,5].zip (BX l t D F r G ++ [.vec i g 1 26])⟩ ((21,.nils)::ds8.zip (V8 l t p D F P Y i b 0))/\(b+Y<=r/\l.length<=8/\Y<=4) /\
  ∀ G',G'=mG G b Y->K .normal ((21,.tl Y 1 (ownX l.length G b))::(21::ds8).zip (.sl 6 Y::V8 l t p D F P Y i b Y)) ⟨7,(6,.gone)::[0,1,2,3,4,5,6].zip (BX l t D F r G' ++ [.vec i g 1 26,.vec Y (ownX l.length G b) 1 23])⟩
theorem x6_ev (l:List Stk) (t:Tst) (p:List (List Int)) (D F:List Int) (P Y i r:Nat) (G:Nat->Nat->Int) (g:Nat->List VV) (X:VEx->List VV->List VB->Prop):codeE Try.prog (callN Try.prog noSpec noL 10 20) (tabB [(8,lX8 l t p D F P Y r g)]) true 10 (ntOf Try.prog 3) 0 (loopB 6 (bodyOf Try.prog 3)) ((18::ds6).zip (.sl 5 i::V6 l t p D F P Y i)) ⟨6,[0,1,2,3,4,5].zip (BX l t D F r G ++ [.vec i g 1 26])⟩ (obs 6 (18::ds6) [0,1,2,3,4,5] X) =
 (bif decide ((i:Int)<(P:Int)) then
 bif decide ((0:Int)<=(i:Int)/\(i:Int)<(P:Int)) then
 ∃ (i_1:Nat),∃ (b:Nat),∃ (G_1:Nat->Nat->Int),FitP 0 (VH.mk 6 ([0,1,2,3,4,5].zip (BX l t D F r G ++ [.vec i g 1 26]))) ((105,I 0)::(104,I (Y:Int))::(103,.tl Y 1 (rowH l.length ((i:Int).toNat*Y)))::(21,.nils)::(20,.tl Y 1 (rowH l.length ((i:Int).toNat*Y)))::(102,.tl Y 1 (rowH l.length ((i:Int).toNat*Y)))::(101,.tp [.tl Y 1 (rowH l.length ((i:Int).toNat*Y))])::(100,.bool true)::(100,.bool (decide ((i:Int)<(P:Int))))::(18::ds6).zip (VV.sl 5 i::V6 l t p D F P Y (i:Int))) (VH.mk 6 ([0,1,2,3,4,5].zip (BX l t D F r G_1 ++ [.vec i_1 g 1 26]))) ((21,.nils)::ds8.zip (V8 l t p D F P Y i_1 b (0:Int)))/\(b+Y<=r/\l.length<=8/\Y<=4)/\∀ (G':Nat->Nat->Int),G'=mG G_1 b Y->bif i_1.beq i_1 then
 bif roomB (i_1+1) (24) then
 bif inK .i64 ((i_1:Int)+(1:Int)) then
 X .normal [.sl 5 (i_1+1),I ((i_1:Int)+(1:Int)),I (P:Int),.tl P 1 fun (i:Nat)=>[.tl Y 1 (rowH l.length (i*Y))],.sl 4 (0+t.T.length),I 0,.sl 3 F.length,.sl 2 D.length,.ptr (.own 1 0),stD l,.agg (tsL t),pthD p] [.bun 7 r l.length G' 3,.cells (tsL t) 25,.vec D.length (dG D) 1 3,.vec F.length (dG F) 1 3,.vec (0+t.T.length) (dG t.T) 1 3,.vec (i_1+1) (catG i_1 g fun (j:Nat)=>List.take (1) (List.drop (j*(1)) [.tl Y 1 (ownX l.length G_1 b)])) (1) 26]
 else False
 else False
 else False
 else False
 else X (VEx.exit 6) [.sl 5 i,I (i:Int),I (P:Int),.tl P 1 fun (i:Nat)=>[.tl Y 1 (rowH l.length (i*Y))],.sl 4 (0+t.T.length),I 0,.sl 3 F.length,.sl 2 D.length,.ptr (.own 1 0),stD l,.agg (tsL t),pthD p] [.bun 7 r l.length G 3,.cells (tsL t) 25,.vec D.length (dG D) 1 3,.vec F.length (dG F) 1 3,.vec (0+t.T.length) (dG t.T) 1 3,.vec i g 1 26]):=by kernel_rfl
section
variable {l:List Stk} {t:Tst} {p:List (List Int)} {G:Nat->Nat->Int}
theorem dG_app {D E:List Int} {f:Nat->List VV} (hf:∀ j,j<E.length->f j=dG E j) (j:Nat) (hj:j<(D ++ E).length):catG D.length (dG D) f j=dG (D ++ E) j:=by
 unfold catG
 by_cases h:j<D.length
 ·have e:Nat.blt j D.length=true:=by rw [Nat.blt_eq]; exact h
  rw [e,cond_true]
  unfold dG
  rw [List.getD_eq_getElem?_getD,List.getD_eq_getElem?_getD,List.getElem?_append_left h]
 ·have e:Nat.blt j D.length=false:=by
   cases hb:Nat.blt j D.length with
   | false=>rfl
   | true=>rw [Nat.blt_eq] at hb; omega
  rw [List.length_append] at hj
  rw [e,cond_false,hf _ (by omega)]
  unfold dG
  rw [List.getD_eq_getElem?_getD,List.getD_eq_getElem?_getD,List.getElem?_append_right (by omega)]
theorem fit_vO {D E:List Int} {k:Nat} {f:Nat->List VV} (hk:E.length=k) (hf:∀ j,j<k->f j=dG E j):(vO (D ++ E)).fit (.vec (D.length+k) (catG D.length (dG D) f) 1 3):=by
 subst hk
 exact ⟨(List.length_append).symm,rfl,rfl,fun j hj=>dG_app hf j hj⟩
theorem pO_s (s:Stk) (j:Nat):pO s (j+1)=pO s j ++ [(s.prof.getD j s0).lo,(s.prof.getD j s0).hi]:=rfl
theorem pO_len {s:Stk}:∀ j,(pO s j).length=2*j
 | 0=>rfl
 | j+1=>by unfold pO; rw [List.length_append,pO_len j]; rfl
theorem cO_len (h:∀ i,(l.getD i k0).prof.length<=6):∀ i,(cO l i).length<=16*i
 | 0=>Nat.le_refl _
 | i+1=>by
  have:=cO_len h i
  have:=h i
  unfold cO
  rw [List.length_append,List.length_append,pO_len]
  show (cO l i).length+4+_<=_
  omega
theorem fO_len (h:∀ i,(p.getD i []).length<=6):∀ i,(fO p i).length<=6*i
 | 0=>Nat.le_refl _
 | i+1=>by
  have:=fO_len h i
  have:=h i
  unfold fO
  rw [List.length_append]
  omega
theorem roomO8 {n:Nat} (h:n<=100000):roomB n 8=true:=by
 unfold roomB
 rw [Nat.ble_eq_true_of_le (by omega),Nat.ble_eq_true_of_le (by omega)]
 rfl
theorem lO2_ok {D:List Int} {s:Stk} {i:Nat}:LSound Try.prog true (.block 2 (.loop (loopB 2 (bodyOf Try.prog 3)))) (ntOf Try.prog 3) (lO2 l t p G D s i):=by
 rintro lock tt h K ⟨hf,⟨hs,hD⟩,k1⟩
 have key:LSound Try.prog true (.block 2 (.loop (loopB 2 (bodyOf Try.prog 3)))) (ntOf Try.prog 3) (fun lock tt h K=>FitP lock h tt ⟨5,[0,1,2].zip (BO l t G (D ++ []))⟩ ((63::62::61::dsO).zip (I 0::I s.prof.length::spD s.prof::VO l t p i (D ++ []))) /\
   K .normal ((63::62::61::dsO).zip (I s.prof.length::I s.prof.length::spD s.prof::VO l t p i (D ++ pO s s.prof.length))) ⟨5,[0,1,2].zip (BO l t G (D ++ pO s s.prof.length))⟩):=by
  refine loop_row hmix good0 (un:=10) (ds:=63::62::61::dsO) (ns:=[0,1,2]) (nx:=5) (fun j:Nat=>I j::I s.prof.length::spD s.prof::VO l t p i (D ++ pO s j)) (fun j=>BO l t G (D ++ pO s j)) (fun j=>j<=s.prof.length) (fun j=>s.prof.length - j)
   (fun _ e vs bs=>e=.exit 2/\vs=I s.prof.length::I s.prof.length::spD s.prof::VO l t p i (D ++ pO s s.prof.length)/\bs=BO l t G (D ++ pO s s.prof.length)) noL_ok ?_ ?_
  ·intro j hj
   have hlen:(D ++ pO s j).length=D.length+2*j:=by rw [List.length_append,pO_len]
   refine cast (o2_ev l t p G (D ++ pO s j) s i j _).symm ?_
   refine cond_d (fun h=>?_) (fun h=>?_)
   ·refine cond_dk ⟨by omega,by omega⟩ (cond_k (Nat.beq_refl _) (cond_k (roomO8 (by omega)) (cond_r (by omega) ⟨j+1,by show j+1<=_; omega,by dsimp only; omega,?_,?_,fun _ _ _ h=>h⟩)))
    ·show _=(I ((j+1:Nat):Int))::_::_::VO l t p i (D ++ pO s (j+1))
     rw [pO_s,<- List.append_assoc]
     unfold VO
     rw [show (D ++ pO s j ++ [(s.prof.getD j s0).lo,(s.prof.getD j s0).hi]).length=(D ++ pO s j).length+2 from List.length_append]
     rfl
    ·show fitBs (BO l t G (D ++ pO s (j+1))) _
     rw [pO_s,<- List.append_assoc]
     refine ⟨VB.fit_refl _,VB.fit_refl _,fit_vO rfl (fun q hq=>?_),trivial⟩
     rw [show (j:Int).toNat=j from Int.toNat_natCast j]
     match q,hq with
     | 0,_=>rfl
     | 1,_=>rfl
   ·obtain rfl:j=s.prof.length:=by omega
    exact ⟨rfl,rfl,rfl⟩
  ·rintro lock tt h K ⟨hf,k1⟩
   refine ⟨0,hf,Nat.zero_le _,?_⟩
   rintro e vs bs ⟨rfl,rfl,rfl⟩
   exact k1
 exact key lock tt h K ⟨by rw [List.append_nil]; exact hf,k1 _ rfl⟩
end
section
variable {l:List Stk} {t:Tst} {p:List (List Int)} {G:Nat->Nat->Int}
theorem cO_s (l:List Stk) (i:Nat):cO l (i+1)=cO l i ++ ckE (l.getD i k0) ++ pO (l.getD i k0) (l.getD i k0).prof.length:=rfl
theorem fO_s (p:List (List Int)) (i:Nat):fO p (i+1)=fO p i ++ p.getD i []:=rfl
theorem lO0s_ok (hl:l.length<=8) (hp:∀ i,(l.getD i k0).prof.length<=6):LSound Try.prog true (.block 0 (.loop (loopB 0 (bodyOf Try.prog 3)))) (ntOf Try.prog 3) (fun lock tt h K=>
  FitP lock h tt ⟨3,[0,1,2].zip (BO l t G [])⟩ (dsO.zip (VO l t p 0 []))/\K .normal (dsO.zip (VO l t p l.length (cO l l.length))) ⟨3,[0,1,2].zip (BO l t G (cO l l.length))⟩):=by
 refine loop_rowD hmix good0 (un:=10) (ds:=dsO) (ns:=[0,1,2]) (nx:=3) (lsp:=fun i:Nat=>tabB [(2,lO2 l t p G (cO l i ++ ckE (l.getD i k0)) (l.getD i k0) i)]) (fun i:Nat=>VO l t p i (cO l i)) (fun i=>BO l t G (cO l i)) (fun i=>i<=l.length) (fun i=>l.length - i)
  (fun _ e vs bs=>e=.exit 0/\vs=VO l t p l.length (cO l l.length)/\bs=BO l t G (cO l l.length)) (fun _ _=>lsp_one (f:=3) (by kernel_rfl) lO2_ok) ?_ ?_
 ·intro i hi
  have hlen:=cO_len hp i
  refine cast (o0_ev l t p G (cO l i) i _).symm ?_
  refine cond_d (fun h=>?_) (fun h=>?_)
  ·refine cond_dk ⟨by omega,by omega⟩ (cond_k (Nat.beq_refl _) (cond_k (roomO8 (by omega)) ⟨?_,⟨hp i,by rw [List.length_append]; show _+4<=_; omega⟩,fun E hE=>?_⟩))
   ·have e:(cO l i ++ ckE (l.getD i k0)).length=(cO l i).length+4:=List.length_append
    refine ⟨⟨rfl,rfl,VB.fit_refl _,VB.fit_refl _,fit_vO rfl (fun q hq=>?_),trivial⟩,rfl,rfl,rfl,rfl,rfl,rfl,rfl,?_,rfl,rfl,rfl,rfl,trivial⟩
    ·rw [show (i:Int).toNat=i from Int.toNat_natCast i]
     match q,hq with
     | 0,_=>rfl
     | 1,_=>rfl
     | 2,_=>rfl
     | 3,_=>rfl
    ·rw [e]; rfl
   ·subst hE
    rw [<- cO_s]
    exact cond_r (by omega) ⟨i+1,by show i+1<=_; omega,by dsimp only; omega,rfl,⟨VB.fit_refl _,VB.fit_refl _,VB.fit_refl _,trivial⟩,fun _ _ _ h=>h⟩
  ·obtain rfl:i=l.length:=by omega
   exact ⟨rfl,rfl,rfl⟩
 ·rintro lock tt h K ⟨hf,k1⟩
  refine ⟨0,hf,Nat.zero_le _,?_⟩
  rintro e vs bs ⟨rfl,rfl,rfl⟩
  exact k1
theorem lO0_ok:LSound Try.prog true (.block 0 (.loop (loopB 0 (bodyOf Try.prog 3)))) (ntOf Try.prog 3) (lO0 l t p G):=by
 rintro lock tt h K ⟨hf,⟨hl,hp⟩,k1⟩
 refine ghost_row (d:=7) (nx:=2) (bs:=[0,1].zip [bnO l 0 G,.cells (tsL t) 25]) (t0:=[45,44,43,8,4,0,1,2].zip [I 0,I l.length,stD l,.nils,.ptr (.own 1 0),stD l,.agg (tsL t),pthD p]) (dG []) 1 3 (lO0s_ok (t:=t) (p:=p) (G:=G) hl hp) (T:=fun lock tt h K=>FitP lock h tt ⟨2,[0,1].zip [bnO l 0 G,.cells (tsL t) 25]⟩ (dsO.zip [I 0,I l.length,stD l,.nils,.nils,.ptr (.own 1 0),stD l,.agg (tsL t),pthD p])/\K .normal (dsO.zip (VO l t p l.length (cO l l.length))) ⟨3,[0,1,2].zip (BO l t G (cO l l.length))⟩) ?_ lock tt h K ⟨hf,k1 _ rfl⟩
 rintro lock tt h K ⟨hf,k1⟩
 refine ⟨⟨hf.1,?_⟩,⟨⟨rfl,rfl,VB.fit_refl _,VB.fit_refl _,VB.fit_refl _,trivial⟩,rfl,rfl,rfl,rfl,rfl,rfl,rfl,rfl,rfl,trivial⟩,k1⟩
 obtain ⟨a1,a2,a3,a4,a5,a6,a7,a8,a9,_⟩:=hf.2
 exact ⟨a5,a1,a2,a3,a4,a6,a7,a8,a9,trivial⟩
theorem lO4s_ok {D:List Int} (hl:p.length<=6) (hp:∀ i,(p.getD i []).length<=6):LSound Try.prog true (.block 4 (.loop (loopB 4 (bodyOf Try.prog 3)))) (ntOf Try.prog 3) (fun lock tt h K=>
  FitP lock h tt ⟨4,[0,1,2,3].zip (BF l t G D [])⟩ ((78::77::76::dsO).zip (I 0::I p.length::pthD p::VF l t p D []))/\K .normal ((78::77::76::dsO).zip (I p.length::I p.length::pthD p::VF l t p D (fO p p.length))) ⟨4,[0,1,2,3].zip (BF l t G D (fO p p.length))⟩):=by
 refine loop_row hmix good0 (un:=10) (ds:=78::77::76::dsO) (ns:=[0,1,2,3]) (nx:=4) (fun i:Nat=>I i::I p.length::pthD p::VF l t p D (fO p i)) (fun i=>BF l t G D (fO p i)) (fun i=>i<=p.length) (fun i=>p.length - i)
  (fun _ e vs bs=>e=.exit 4/\vs=I p.length::I p.length::pthD p::VF l t p D (fO p p.length)/\bs=BF l t G D (fO p p.length)) noL_ok ?_ ?_
 ·intro i hi
  have hlen:=fO_len hp i
  have hpi:=hp i
  refine cast (o4_ev l t p G D (fO p i) i _).symm ?_
  refine cond_d (fun h=>?_) (fun h=>?_)
  ·rw [show (i:Int).toNat=i from Int.toNat_natCast i]
   refine cond_dk ⟨by omega,by omega⟩ (cond_k (Nat.beq_refl _) (cond_k (roomO8 (by omega)) (cond_r (by omega) ⟨i+1,by show i+1<=_; omega,by dsimp only; omega,?_,?_,fun _ _ _ h=>h⟩)))
   ·show _=(I ((i+1:Nat):Int))::_::_::VF l t p D (fO p (i+1))
    rw [fO_s]
    unfold VF
    rw [List.length_append]
    rfl
   ·show fitBs (BF l t G D (fO p (i+1))) _
    rw [fO_s]
    exact ⟨VB.fit_refl _,VB.fit_refl _,VB.fit_refl _,fit_vO rfl (fun q hq=>rfl),trivial⟩
  ·obtain rfl:i=p.length:=by omega
   exact ⟨rfl,rfl,rfl⟩
 ·rintro lock tt h K ⟨hf,k1⟩
  refine ⟨0,hf,Nat.zero_le _,?_⟩
  rintro e vs bs ⟨rfl,rfl,rfl⟩
  exact k1
theorem lO4_ok:LSound Try.prog true (.block 4 (.loop (loopB 4 (bodyOf Try.prog 3)))) (ntOf Try.prog 3) (lO4 l t p G):=by
 rintro lock tt h K ⟨D,hf,⟨hD,hl,hp⟩,k1⟩
 refine ghost_row (d:=8) (nx:=3) (bs:=[0,1,2].zip (BO l t G D)) (t0:=[78,77,76,45,44,43,7,4,0,1,2].zip [I 0,I p.length,pthD p,I l.length,I l.length,stD l,.sl 2 D.length,.ptr (.own 1 0),stD l,.agg (tsL t),pthD p]) (dG []) 1 3 (lO4s_ok (l:=l) (t:=t) (p:=p) (G:=G) (D:=D) hl hp) (T:=fun lock tt h K=>FitP lock h tt ⟨3,[0,1,2].zip (BO l t G D)⟩ ((78::77::76::dsO).zip (I 0::I p.length::pthD p::VO l t p l.length D))/\K .normal ((78::77::76::dsO).zip (I p.length::I p.length::pthD p::VF l t p D (fO p p.length))) ⟨4,[0,1,2,3].zip (BF l t G D (fO p p.length))⟩) ?_ lock tt h K ⟨hf,k1 _ rfl⟩
 rintro lock tt h K ⟨hf,k1⟩
 refine ⟨⟨hf.1,?_⟩,⟨⟨rfl,rfl,VB.fit_refl _,VB.fit_refl _,VB.fit_refl _,VB.fit_refl _,trivial⟩,rfl,rfl,rfl,rfl,rfl,rfl,rfl,rfl,rfl,rfl,rfl,rfl,trivial⟩,k1⟩
 obtain ⟨a1,a2,a3,a4,a5,a6,a7,a8,a9,a10,a11,a12,_⟩:=hf.2
 exact ⟨a7,a1,a2,a3,a4,a5,a6,a8,a9,a10,a11,a12,trivial⟩
end
section
variable {l:List Stk} {t:Tst} {p:List (List Int)} {D F:List Int} {P Y i b r:Nat} {g g2:Nat->List VV}
theorem nG_z (G:Nat->Nat->Int) (a:Nat):nG G a 0=G:=funext fun b=>funext fun c=>if_neg (fun h=>absurd h.2 (Nat.not_lt_zero c))
theorem mG_z (G:Nat->Nat->Int) (b:Nat):mG G b 0=G:=funext fun a=>funext fun c=>if_neg (fun h=>by omega)
theorem mG_add (G:Nat->Nat->Int) (b Y:Nat):mG (mG G 0 b) b Y=mG G 0 (b+Y):=funext fun a=>funext fun c=>by
 unfold mG
 by_cases h1:b<=a/\a<b+Y
 ·rw [if_pos h1,if_pos (by omega)]
 ·rw [if_neg h1]
  by_cases h2:0<=a/\a<0+b
  ·rw [if_pos h2,if_pos (by omega)]
  ·rw [if_neg h2,if_neg (by omega)]
theorem nG_set (G:Nat->Nat->Int) (a k b c:Nat):setM (nG G a k) a k (-1) b c=nG G a (k+1) b c:=by
 unfold setM nG
 by_cases h:b=a
 ·subst h
  by_cases hk:c=k
  ·subst hk
   rw [Nat.beq_refl,Nat.beq_refl]
   exact (if_pos ⟨rfl,Nat.lt_succ_self _⟩).symm
  ·rw [beq_f hk,Bool.and_false,cond_false]
   by_cases h2:c<k
   ·rw [if_pos ⟨rfl,h2⟩,if_pos ⟨rfl,by omega⟩]
   ·rw [if_neg (fun h=>h2 h.2),if_neg (fun h=>by omega)]
 ·rw [beq_f h,Bool.false_and,cond_false,if_neg (fun h'=>h h'.1),if_neg (fun h'=>h h'.1)]
theorem nG_m (G:Nat->Nat->Int) (b j C a c:Nat) (hc:c<C):nG (mG G b j) (b+j) C a c=mG G b (j+1) a c:=by
 unfold nG mG
 by_cases h:a=b+j
 ·subst h
  rw [if_pos ⟨rfl,hc⟩,if_pos (by omega)]
 ·rw [if_neg (fun h'=>h h'.1)]
  by_cases h2:b<=a/\a<b+j
  ·rw [if_pos h2,if_pos (by omega)]
  ·rw [if_neg h2,if_neg (by omega)]
theorem cond_kf {b:Bool} {p q:Prop} (hb:b=false) (h:q):(bif b then p else q):=by rw [hb]; exact h
theorem lX10_ok:LSound Try.prog true (.block 10 (.loop (loopB 10 (bodyOf Try.prog 3)))) (ntOf Try.prog 3) (lX10 l t p D F P Y i b r g g2):=by
 rintro lock tt h K ⟨j,G,hf,⟨hj,hl⟩,k1⟩
 have key:LSound Try.prog true (.block 10 (.loop (loopB 10 (bodyOf Try.prog 3)))) (ntOf Try.prog 3) (fun lock tt h K=>FitP lock h tt ⟨9,[0,1,2,3,4,5,6].zip (BX l t D F r (nG (mG G b j) (b+j) 0) ++ [.vec i g 1 26,.vec (j+1) g2 1 23])⟩ (ds10.zip (I 0::I l.length::.hs 7 (b+j) l.length::.sl 6 (j+1)::V8 l t p D F P Y i b j)) /\
   K .normal (ds10.zip (I l.length::I l.length::.hs 7 (b+j) l.length::.sl 6 (j+1)::V8 l t p D F P Y i b j)) ⟨9,[0,1,2,3,4,5,6].zip (BX l t D F r (nG (mG G b j) (b+j) l.length) ++ [.vec i g 1 26,.vec (j+1) g2 1 23])⟩):=by
  refine loop_row hmix good0 (un:=10) (ds:=ds10) (ns:=[0,1,2,3,4,5,6]) (nx:=9) (fun k:Nat=>I k::I l.length::.hs 7 (b+j) l.length::.sl 6 (j+1)::V8 l t p D F P Y i b j) (fun k=>BX l t D F r (nG (mG G b j) (b+j) k) ++ [.vec i g 1 26,.vec (j+1) g2 1 23]) (fun k=>k<=l.length) (fun k=>l.length - k)
   (fun _ e vs bs=>e=.exit 10/\vs=I l.length::I l.length::.hs 7 (b+j) l.length::.sl 6 (j+1)::V8 l t p D F P Y i b j/\bs=BX l t D F r (nG (mG G b j) (b+j) l.length) ++ [.vec i g 1 26,.vec (j+1) g2 1 23]) noL_ok ?_ ?_
  ·intro k hk
   refine cast (x10_ev l t p D F P Y i b j r k (nG (mG G b j) (b+j) k) g g2 _).symm ?_
   refine cond_d (fun h=>?_) (fun h=>?_)
   ·refine cond_dk ⟨by omega,by omega⟩ (cond_k (by rw [Nat.beq_refl,decide_eq_true hj]; rfl) (cond_dk ⟨hj,by omega⟩ (cond_r (by omega) ⟨k+1,by show k+1<=_; omega,by dsimp only; omega,rfl,?_,fun _ _ _ h=>h⟩)))
    exact ⟨⟨rfl,rfl,rfl,rfl,fun a c _ _=>nG_set _ _ _ _ _⟩,VB.fit_refl _,VB.fit_refl _,VB.fit_refl _,VB.fit_refl _,VB.fit_refl _,VB.fit_refl _,trivial⟩
   ·obtain rfl:k=l.length:=by omega
    exact ⟨rfl,rfl,rfl⟩
  ·rintro lock tt h K ⟨hf,k1⟩
   refine ⟨0,hf,Nat.zero_le _,?_⟩
   rintro e vs bs ⟨rfl,rfl,rfl⟩
   exact k1
 obtain rfl:=hf.1.1
 obtain ⟨e,t',h',⟨rfl,rfl,rfl⟩,_,hsem⟩:=key 0 tt h (fun e t' h'=>e=.normal/\t'=ds10.zip (I l.length::I l.length::.hs 7 (b+j) l.length::.sl 6 (j+1)::V8 l t p D F P Y i b j)/\h'=⟨9,[0,1,2,3,4,5,6].zip (BX l t D F r (nG (mG G b j) (b+j) l.length) ++ [.vec i g 1 26,.vec (j+1) g2 1 23])⟩) ⟨by rw [nG_z]; exact hf,rfl,rfl,rfl⟩
 refine ⟨_,_,_,k1,lock0 _ _,sem_weak hsem (by rw [hf.1.2.1]; exact Nat.le_refl 9) ⟨⟨rfl,rfl,rfl,rfl,fun a c _ hc=>nG_m _ _ _ _ _ _ hc⟩,VB.fit_refl _,VB.fit_refl _,VB.fit_refl _,VB.fit_refl _,VB.fit_refl _,VB.fit_refl _,trivial⟩ rfl ⟨rfl,rfl,rfl,rfl,rfl,rfl,rfl,rfl,rfl,rfl,rfl,rfl,rfl,rfl,rfl,rfl,rfl,rfl,rfl,trivial⟩ rfl (fun v h=>by cases h)⟩
theorem own_cat {C:Nat} {G:Nat->Nat->Int} {j:Nat} {f:Nat->List VV} (hf:f 0=ownX C G b j) (q:Nat) (hq:q<j+1):catG j (ownX C G b) f q=ownX C G b q:=by
 unfold catG
 by_cases h:q<j
 ·have e:Nat.blt q j=true:=by rw [Nat.blt_eq]; exact h
  rw [e]; rfl
 ·obtain rfl:q=j:=by omega
  have e:Nat.blt q q=false:=by
   cases hb:Nat.blt q q with
   | false=>rfl
   | true=>rw [Nat.blt_eq] at hb; omega
  rw [e,Nat.sub_self]; exact hf
theorem lX8s_ok {G:Nat->Nat->Int} (hb:b+Y<=r) (hl:l.length<=8) (hY:Y<=4):LSound Try.prog true (.block 8 (.loop (loopB 8 (bodyOf Try.prog 3)))) (ntOf Try.prog 3) (fun lock tt h K=>
  FitP lock h tt ⟨7,[0,1,2,3,4,5,6].zip (BX l t D F r (mG G b 0) ++ [.vec i g 1 26,.vec 0 (ownX l.length G b) 1 23])⟩ ((21::ds8).zip (.sl 6 0::V8 l t p D F P Y i b 0)) /\
  K .normal ((21::ds8).zip (.sl 6 Y::V8 l t p D F P Y i b Y)) ⟨7,[0,1,2,3,4,5,6].zip (BX l t D F r (mG G b Y) ++ [.vec i g 1 26,.vec Y (ownX l.length G b) 1 23])⟩):=by
 refine loop_row hmix good0 (un:=10) (ds:=21::ds8) (ns:=[0,1,2,3,4,5,6]) (nx:=7) (lsp:=tabB [(10,lX10 l t p D F P Y i b r g (ownX l.length G b))]) (fun j:Nat=>.sl 6 j::V8 l t p D F P Y i b j) (fun j=>BX l t D F r (mG G b j) ++ [.vec i g 1 26,.vec j (ownX l.length G b) 1 23]) (fun j=>j<=Y) (fun j=>Y - j)
  (fun _ e vs bs=>e=.exit 8/\vs=.sl 6 Y::V8 l t p D F P Y i b Y/\bs=BX l t D F r (mG G b Y) ++ [.vec i g 1 26,.vec Y (ownX l.length G b) 1 23]) (lsp_one (by kernel_rfl) lX10_ok) ?_ ?_
 ·intro j hj
  refine cast (x8_ev l t p D F P Y i b j r G g (ownX l.length G b) _).symm ?_
  refine cond_d (fun h=>?_) (fun h=>?_)
  ·rw [show (j:Int).toNat=j from Int.toNat_natCast j]
   refine cond_dk ⟨by omega,by omega⟩ (cond_k (by rw [Nat.beq_refl,decide_eq_true (by omega)]; rfl) (cond_k (roomO8 (by omega)) (cond_kf (by rw [Nat.beq_refl]; rfl) (cond_k (by rw [Nat.beq_refl]; rfl) (cond_k (Nat.beq_refl _) (cond_k (room24 (by omega)) ⟨j,G,⟨⟨rfl,rfl,VB.fit_refl _,VB.fit_refl _,VB.fit_refl _,VB.fit_refl _,VB.fit_refl _,VB.fit_refl _,⟨rfl,rfl,rfl,fun q hq=>own_cat (C:=l.length) (G:=G) (b:=b) (j:=j) rfl q hq⟩,trivial⟩,⟨rfl,rfl,rfl,rfl,rfl,rfl,rfl,rfl,rfl,rfl,rfl,rfl,rfl,rfl,rfl,rfl,rfl,rfl,rfl,trivial⟩⟩,⟨by omega,hl⟩,cond_r (by omega) ⟨j+1,by show j+1<=_; omega,by dsimp only; omega,rfl,fitBs_refl _,fun _ _ _ h=>h⟩⟩))))))
  ·obtain rfl:j=Y:=by omega
   exact ⟨rfl,rfl,rfl⟩
 ·rintro lock tt h K ⟨hf,k1⟩
  refine ⟨0,hf,Nat.zero_le _,?_⟩
  rintro e vs bs ⟨rfl,rfl,rfl⟩
  exact k1
end
def cpX (C Y:Nat) (G:Nat->Nat->Int):Nat->List VV:=fun i=>[.tl Y 1 (ownX C (mG G 0 (i*Y)) (i*Y))]
def lX6 (l:List Stk) (t:Tst) (p:List (List Int)) (D F:List Int) (P Y:Nat) (G:Nat->Nat->Int):LT:=fun lock tt h K=>
 FitP lock h tt ⟨5,[0,1,2,3,4].zip (BX l t D F (P*Y) G)⟩ ((18,.nils)::ds6.zip (V6 l t p D F P Y 0))/\(l.length<=8/\Y<=4/\P<=6) /\
  K .normal ((18,.tl P 1 (cpX l.length Y G))::(18::ds6).zip (.sl 5 P::V6 l t p D F P Y P)) ⟨6,(5,.gone)::[0,1,2,3,4,5].zip (BX l t D F (P*Y) (mG G 0 (P*Y)) ++ [.vec P (cpX l.length Y G) 1 26])⟩
section
variable {l:List Stk} {t:Tst} {p:List (List Int)} {D F:List Int} {P Y i b r:Nat} {g g2:Nat->List VV}
theorem lX8_ok:LSound Try.prog true (.block 8 (.loop (loopB 8 (bodyOf Try.prog 3)))) (ntOf Try.prog 3) (lX8 l t p D F P Y r g):=by
 rintro lock tt h K ⟨i,b,G,hf,⟨h1,h2,h3⟩,k1⟩
 obtain rfl:=hf.1.1
 have key:=ghost_row (d:=21) (nx:=6) (bs:=[0,1,2,3,4,5].zip (BX l t D F r G ++ [.vec i g 1 26])) (t0:=ds8.zip (V8 l t p D F P Y i b 0)) (ownX l.length G b) 1 23 (lX8s_ok (l:=l) (t:=t) (p:=p) (D:=D) (F:=F) (P:=P) (Y:=Y) (i:=i) (b:=b) (r:=r) (g:=g) (G:=G) h1 h2 h3) (T:=fun lock tt h K=>FitP lock h tt ⟨6,[0,1,2,3,4,5].zip (BX l t D F r G ++ [.vec i g 1 26])⟩ ((21,.nils)::ds8.zip (V8 l t p D F P Y i b 0))/\K .normal ((21::ds8).zip (.sl 6 Y::V8 l t p D F P Y i b Y)) ⟨7,[0,1,2,3,4,5,6].zip (BX l t D F r (mG G b Y) ++ [.vec i g 1 26,.vec Y (ownX l.length G b) 1 23])⟩) (by
  rintro lock tt h K ⟨hf,k1⟩
  rw [mG_z]
  exact ⟨hf,⟨⟨rfl,rfl,VB.fit_refl _,VB.fit_refl _,VB.fit_refl _,VB.fit_refl _,VB.fit_refl _,VB.fit_refl _,VB.fit_refl _,trivial⟩,rfl,rfl,rfl,rfl,rfl,rfl,rfl,rfl,rfl,rfl,rfl,rfl,rfl,rfl,rfl,rfl,trivial⟩,k1⟩)
 obtain ⟨e,t',h',⟨rfl,rfl,rfl⟩,_,hsem⟩:=key 0 tt h (fun e t' h'=>e=.normal/\t'=(21::ds8).zip (.sl 6 Y::V8 l t p D F P Y i b Y)/\h'=⟨7,[0,1,2,3,4,5,6].zip (BX l t D F r (mG G b Y) ++ [.vec i g 1 26,.vec Y (ownX l.length G b) 1 23])⟩) ⟨hf,rfl,rfl,rfl⟩
 exact ⟨_,_,_,k1 _ rfl,lock0 _ _,ToldT.sem (told_one (d:=21) (b:=6) (L:=Y) (s:=1) (g:=ownX l.length G b) (ty:=23) rfl rfl) hsem⟩
theorem cp_cat {C:Nat} {G:Nat->Nat->Int} {j:Nat} {f:Nat->List VV} (hf:f 0=cpX C Y G j) (q:Nat) (hq:q<j+1):catG j (cpX C Y G) f q=cpX C Y G q:=by
 unfold catG
 by_cases h:q<j
 ·have e:Nat.blt q j=true:=by rw [Nat.blt_eq]; exact h
  rw [e]; rfl
 ·obtain rfl:q=j:=by omega
  have e:Nat.blt q q=false:=by
   cases hb:Nat.blt q q with
   | false=>rfl
   | true=>rw [Nat.blt_eq] at hb; omega
  rw [e,Nat.sub_self]; exact hf
theorem lX6s_ok {G:Nat->Nat->Int} (hl:l.length<=8) (hY:Y<=4) (hP:P<=6):LSound Try.prog true (.block 6 (.loop (loopB 6 (bodyOf Try.prog 3)))) (ntOf Try.prog 3) (fun lock tt h K=>
  FitP lock h tt ⟨6,[0,1,2,3,4,5].zip (BX l t D F (P*Y) (mG G 0 (0*Y)) ++ [.vec 0 (cpX l.length Y G) 1 26])⟩ ((18::ds6).zip (.sl 5 0::V6 l t p D F P Y 0)) /\
  K .normal ((18::ds6).zip (.sl 5 P::V6 l t p D F P Y P)) ⟨6,[0,1,2,3,4,5].zip (BX l t D F (P*Y) (mG G 0 (P*Y)) ++ [.vec P (cpX l.length Y G) 1 26])⟩):=by
 refine loop_row hmix good0 (un:=10) (ds:=18::ds6) (ns:=[0,1,2,3,4,5]) (nx:=6) (lsp:=tabB [(8,lX8 l t p D F P Y (P*Y) (cpX l.length Y G))]) (fun i:Nat=>.sl 5 i::V6 l t p D F P Y i) (fun i=>BX l t D F (P*Y) (mG G 0 (i*Y)) ++ [.vec i (cpX l.length Y G) 1 26]) (fun i=>i<=P) (fun i=>P - i)
  (fun _ e vs bs=>e=.exit 6/\vs=.sl 5 P::V6 l t p D F P Y P/\bs=BX l t D F (P*Y) (mG G 0 (P*Y)) ++ [.vec P (cpX l.length Y G) 1 26]) (lsp_one (by kernel_rfl) lX8_ok) ?_ ?_
 ·intro i hi
  refine cast (x6_ev l t p D F P Y i (P*Y) (mG G 0 (i*Y)) (cpX l.length Y G) _).symm ?_
  refine cond_d (fun h=>?_) (fun h=>?_)
  ·rw [show (i:Int).toNat=i from Int.toNat_natCast i]
   have hb:i*Y+Y<=P*Y:=by rw [<- Nat.succ_mul]; exact Nat.mul_le_mul_right Y (by omega)
   refine cond_dk ⟨by omega,by omega⟩ ⟨i,i*Y,mG G 0 (i*Y),⟨⟨rfl,rfl,VB.fit_refl _,VB.fit_refl _,VB.fit_refl _,VB.fit_refl _,VB.fit_refl _,VB.fit_refl _,trivial⟩,rfl,rfl,rfl,rfl,rfl,rfl,rfl,rfl,rfl,rfl,rfl,rfl,rfl,rfl,rfl,rfl,trivial⟩,⟨hb,hl,hY⟩,fun G' hG=>?_⟩
   rw [mG_add,<- Nat.succ_mul] at hG
   subst hG
   refine cond_k (Nat.beq_refl _) (cond_k (room24 (by omega)) (cond_r (by omega) ⟨i+1,by show i+1<=_; omega,by dsimp only; omega,rfl,⟨VB.fit_refl _,VB.fit_refl _,VB.fit_refl _,VB.fit_refl _,VB.fit_refl _,⟨rfl,rfl,rfl,fun q hq=>cp_cat (C:=l.length) (G:=G) (j:=i) rfl q hq⟩,trivial⟩,fun _ _ _ h=>h⟩))
  ·obtain rfl:i=P:=by omega
   exact ⟨rfl,rfl,rfl⟩
 ·rintro lock tt h K ⟨hf,k1⟩
  refine ⟨0,hf,Nat.zero_le _,?_⟩
  rintro e vs bs ⟨rfl,rfl,rfl⟩
  exact k1
theorem lX6_ok {G:Nat->Nat->Int}:LSound Try.prog true (.block 6 (.loop (loopB 6 (bodyOf Try.prog 3)))) (ntOf Try.prog 3) (lX6 l t p D F P Y G):=by
 rintro lock tt h K ⟨hf,⟨h1,h2,h3⟩,k1⟩
 obtain rfl:=hf.1.1
 have key:=ghost_row (d:=18) (nx:=5) (bs:=[0,1,2,3,4].zip (BX l t D F (P*Y) G)) (t0:=ds6.zip (V6 l t p D F P Y 0)) (cpX l.length Y G) 1 26 (lX6s_ok (l:=l) (t:=t) (p:=p) (D:=D) (F:=F) (P:=P) (Y:=Y) (G:=G) h1 h2 h3) (T:=fun lock tt h K=>FitP lock h tt ⟨5,[0,1,2,3,4].zip (BX l t D F (P*Y) G)⟩ ((18,.nils)::ds6.zip (V6 l t p D F P Y 0))/\K .normal ((18::ds6).zip (.sl 5 P::V6 l t p D F P Y P)) ⟨6,[0,1,2,3,4,5].zip (BX l t D F (P*Y) (mG G 0 (P*Y)) ++ [.vec P (cpX l.length Y G) 1 26])⟩) (by
  rintro lock tt h K ⟨hf,k1⟩
  rw [Nat.zero_mul,mG_z]
  exact ⟨hf,⟨⟨rfl,rfl,VB.fit_refl _,VB.fit_refl _,VB.fit_refl _,VB.fit_refl _,VB.fit_refl _,VB.fit_refl _,trivial⟩,rfl,rfl,rfl,rfl,rfl,rfl,rfl,rfl,rfl,rfl,rfl,rfl,trivial⟩,k1⟩)
 obtain ⟨e,t',h',⟨rfl,rfl,rfl⟩,_,hsem⟩:=key 0 tt h (fun e t' h'=>e=.normal/\t'=(18::ds6).zip (.sl 5 P::V6 l t p D F P Y P)/\h'=⟨6,[0,1,2,3,4,5].zip (BX l t D F (P*Y) (mG G 0 (P*Y)) ++ [.vec P (cpX l.length Y G) 1 26])⟩) ⟨hf,rfl,rfl,rfl⟩
 exact ⟨_,_,_,k1,lock0 _ _,ToldT.sem (told_one (d:=18) (b:=5) (L:=P) (s:=1) (g:=cpX l.length Y G) (ty:=26) rfl rfl) hsem⟩
end
def lX6E (l:List Stk) (t:Tst) (p:List (List Int)) (P Y:Nat) (G:Nat->Nat->Int):LT:=fun lock tt h K=>∃ D F:List Int,
 FitP lock h tt ⟨5,[0,1,2,3,4].zip (BX l t D F (P*Y) G)⟩ ((18,.nils)::ds6.zip (V6 l t p D F P Y 0))/\(l.length<=8/\Y<=4/\P<=6) /\
  ∀ G',G'=mG G 0 (P*Y)->K .normal ((18,.tl P 1 (cpX l.length Y G))::(18::ds6).zip (.sl 5 P::V6 l t p D F P Y P)) ⟨6,(5,.gone)::[0,1,2,3,4,5].zip (BX l t D F (P*Y) G' ++ [.vec P (cpX l.length Y G) 1 26])⟩
def dsOw:List Nat:=[142,141,140,28,27,26,25,18,15,17,8,7,4,0,1,2]
def VOw (l:List Stk) (t:Tst) (p:List (List Int)) (D F:List Int) (gz gc:Nat->List VV) (i:Int) (A:List Int):List VV:=[I i,I l.length,stD l,.nils,.sl 6 A.length,I 0,.tl p.length 1 gz,.tl p.length 1 gc,.sl 4 (0+t.T.length),I 0,.sl 3 F.length,.sl 2 D.length,.ptr (.own 1 0),stD l,.agg (tsL t),pthD p]
def BOw (t:Tst) (D F A:List Int):List VB:=[.cells (tsL t) 25,vO D,vO F,.vec (0+t.T.length) (dG t.T) 1 3,vO A]
theorem o14_ev (l:List Stk) (t:Tst) (p:List (List Int)) (D F A:List Int) (gz gc:Nat->List VV) (s:Stk) (i j:Nat) (X:VEx->List VV->List VB->Prop):codeE Try.prog (callN Try.prog noSpec noL 10 20) (fun _=>none) true 10 (ntOf Try.prog 3) 0 (loopB 14 (bodyOf Try.prog 3)) ((160::159::158::dsOw).zip (I j::I s.prof.length::spD s.prof::VOw l t p D F gz gc i A)) ⟨9,[1,2,3,4,6].zip (BOw t D F A)⟩ (obs 9 (160::159::158::dsOw) [1,2,3,4,6] X) =
 (bif decide ((j:Int)<(s.prof.length:Int)) then
 bif decide ((0:Int)<=(j:Int)/\(j:Int)<(s.prof.length:Int)) then
 bif A.length.beq A.length then
 bif roomB (A.length+2) (8) then
 bif inK .i64 ((j:Int)+(1:Int)) then
 X .normal [I ((j:Int)+(1:Int)),I (s.prof.length:Int),.tl s.prof.length 2 (spG s.prof),I (i:Int),I (l.length:Int),stD l,.nils,.sl 6 (A.length+2),I 0,.tl p.length 1 gz,.tl p.length 1 gc,.sl 4 (0+t.T.length),I 0,.sl 3 F.length,.sl 2 D.length,.ptr (.own 1 0),stD l,.agg (tsL t),pthD p] [.cells (tsL t) 25,.vec D.length (dG D) 1 3,.vec F.length (dG F) 1 3,.vec (0+t.T.length) (dG t.T) 1 3,.vec (A.length+2) (catG A.length (dG A) fun (j_1:Nat)=>List.take (1) (List.drop (j_1*(1)) [I (s.prof.getD (j:Int).toNat s0).lo,I (s.prof.getD (j:Int).toNat s0).hi])) (1) 3]
 else False
 else False
 else False
 else False
 else X (VEx.exit 14) [I (j:Int),I (s.prof.length:Int),.tl s.prof.length 2 (spG s.prof),I (i:Int),I (l.length:Int),stD l,.nils,.sl 6 A.length,I 0,.tl p.length 1 gz,.tl p.length 1 gc,.sl 4 (0+t.T.length),I 0,.sl 3 F.length,.sl 2 D.length,.ptr (.own 1 0),stD l,.agg (tsL t),pthD p] [.cells (tsL t) 25,.vec D.length (dG D) 1 3,.vec F.length (dG F) 1 3,.vec (0+t.T.length) (dG t.T) 1 3,.vec A.length (dG A) 1 3]):=by kernel_rfl
def lO14 (l:List Stk) (t:Tst) (p:List (List Int)) (D F A:List Int) (gz gc:Nat->List VV) (s:Stk) (i:Nat):LT:=fun lock tt h K=>
 FitP lock h tt ⟨9,[1,2,3,4,6].zip (BOw t D F A)⟩ ((160::159::158::dsOw).zip (I 0::I s.prof.length::spD s.prof::VOw l t p D F gz gc i A))/\(s.prof.length<=6/\A.length<=1000)/\∀ E,E=A ++ pO s s.prof.length->K .normal ((160::159::158::dsOw).zip (I s.prof.length::I s.prof.length::spD s.prof::VOw l t p D F gz gc i E)) ⟨9,[1,2,3,4,6].zip (BOw t D F E)⟩
theorem o12_ev (l:List Stk) (t:Tst) (p:List (List Int)) (D F A:List Int) (gz gc:Nat->List VV) (i:Nat) (X:VEx->List VV->List VB->Prop):codeE Try.prog (callN Try.prog noSpec noL 10 20) (tabB [(14,lO14 l t p D F (A ++ ckE (l.getD i k0)) gz gc (l.getD i k0) i)]) true 10 (ntOf Try.prog 3) 0 (loopB 12 (bodyOf Try.prog 3)) (dsOw.zip (VOw l t p D F gz gc i A)) ⟨7,[1,2,3,4,6].zip (BOw t D F A)⟩ (obs 7 dsOw [1,2,3,4,6] X) =
 (bif decide ((i:Int)<(l.length:Int)) then
 bif decide ((0:Int)<=(i:Int)/\(i:Int)<(l.length:Int)) then
 bif A.length.beq A.length then
 bif roomB (A.length+4) (8) then
 FitP 0 (VH.mk (9) ((6,.vec (A.length+4) (catG A.length (dG A) fun (j:Nat)=>List.take (1) (List.drop (j*(1)) [I (l.getD (i:Int).toNat k0).casks,I (l.getD (i:Int).toNat k0).vol,I (l.getD (i:Int).toNat k0).age,I (l.getD (i:Int).toNat k0).cost])) (1) 3)::(8,.vec 4 (fun (j:Nat)=>List.take (1) (List.drop (j*(1)) [I (l.getD (i:Int).toNat k0).casks,I (l.getD (i:Int).toNat k0).vol,I (l.getD (i:Int).toNat k0).age,I (l.getD (i:Int).toNat k0).cost])) (1) 3)::(7,.cells [I (l.getD (i:Int).toNat k0).casks,I (l.getD (i:Int).toNat k0).vol,I (l.getD (i:Int).toNat k0).age,I (l.getD (i:Int).toNat k0).cost,.tl (l.getD (i:Int).toNat k0).prof.length 2 (spG (l.getD (i:Int).toNat k0).prof)] 32)::(7,.cells [I 0,I 0,I 0,I 0,.nils] 32)::[1,2,3,4,6].zip (BOw t D F A))) ((160,I 0)::(159,I (↑(l.getD (i:Int).toNat k0).prof.length:Int))::(158,.tl (l.getD (i:Int).toNat k0).prof.length 2 (spG (l.getD (i:Int).toNat k0).prof))::(157,.ptr (.own (7) (4)))::(27,.sl 6 (A.length+4))::(156,.sl 6 (A.length+4))::(155,.sl (8) 4)::(154,I (l.getD (i:Int).toNat k0).cost)::(153,.ptr (.own (7) (3)))::(152,I (l.getD (i:Int).toNat k0).age)::(151,.ptr (.own (7) (2)))::(150,I (l.getD (i:Int).toNat k0).vol)::(149,.ptr (.own (7) (1)))::(148,I (l.getD (i:Int).toNat k0).casks)::(147,.ptr (.own (7) 0))::(146,.sl 6 A.length)::(30,.ptr (.own (7) 0))::(145,.agg [I (l.getD (i:Int).toNat k0).casks,I (l.getD (i:Int).toNat k0).vol,I (l.getD (i:Int).toNat k0).age,I (l.getD (i:Int).toNat k0).cost,.tl (l.getD (i:Int).toNat k0).prof.length 2 (spG (l.getD (i:Int).toNat k0).prof)])::(144,.tp [I (l.getD (i:Int).toNat k0).casks,I (l.getD (i:Int).toNat k0).vol,I (l.getD (i:Int).toNat k0).age,I (l.getD (i:Int).toNat k0).cost,.tl (l.getD (i:Int).toNat k0).prof.length 2 (spG (l.getD (i:Int).toNat k0).prof)])::(143,.bool true)::(143,.bool (decide ((i:Int)<(l.length:Int))))::dsOw.zip (VOw l t p D F gz gc (i:Int) A)) (VH.mk 9 ([1,2,3,4,6].zip (BOw t D F (A ++ ckE (l.getD i k0))))) ((160::159::158::dsOw).zip (I 0::I (↑(l.getD i k0).prof.length:Int)::spD (l.getD i k0).prof::VOw l t p D F gz gc (i:Int) (A ++ ckE (l.getD i k0))))/\((l.getD i k0).prof.length<=6/\(A ++ ckE (l.getD i k0)).length<=1000)/\∀ (E:List Int),E=A ++ ckE (l.getD i k0) ++ pO (l.getD i k0) (l.getD i k0).prof.length->bif inK .i64 ((i:Int)+(1:Int)) then
 X .normal [I ((i:Int)+(1:Int)),I (l.length:Int),stD l,.nils,.sl 6 E.length,I 0,.tl p.length 1 gz,.tl p.length 1 gc,.sl 4 (0+t.T.length),I 0,.sl 3 F.length,.sl 2 D.length,.ptr (.own 1 0),stD l,.agg (tsL t),pthD p] [.cells (tsL t) 25,.vec D.length (dG D) 1 3,.vec F.length (dG F) 1 3,.vec (0+t.T.length) (dG t.T) 1 3,.vec E.length (dG E) 1 3]
 else False
 else False
 else False
 else False
 else X (VEx.exit 12) [I (i:Int),I (l.length:Int),stD l,.nils,.sl 6 A.length,I 0,.tl p.length 1 gz,.tl p.length 1 gc,.sl 4 (0+t.T.length),I 0,.sl 3 F.length,.sl 2 D.length,.ptr (.own 1 0),stD l,.agg (tsL t),pthD p] [.cells (tsL t) 25,.vec D.length (dG D) 1 3,.vec F.length (dG F) 1 3,.vec (0+t.T.length) (dG t.T) 1 3,.vec A.length (dG A) 1 3]):=by kernel_rfl
def lO12 (l:List Stk) (t:Tst) (p:List (List Int)):LT:=fun lock tt h K=>∃ (D F:List Int) (gz gc:Nat->List VV),
 FitP lock h tt ⟨6,[1,2,3,4].zip [.cells (tsL t) 25,vO D,vO F,.vec (0+t.T.length) (dG t.T) 1 3]⟩ (dsOw.zip [I 0,I l.length,stD l,.nils,.nils,I 0,.tl p.length 1 gz,.tl p.length 1 gc,.sl 4 (0+t.T.length),I 0,.sl 3 F.length,.sl 2 D.length,.ptr (.own 1 0),stD l,.agg (tsL t),pthD p])/\(l.length<=8/\∀ i,(l.getD i k0).prof.length<=6)/\∀ A,A=cO l l.length->K .normal (dsOw.zip (VOw l t p D F gz gc l.length A)) ⟨7,[1,2,3,4,6].zip (BOw t D F A)⟩
def VOe (l:List Stk) (t:Tst) (p:List (List Int)) (D F A:List Int) (gz gc:Nat->List VV) (B:List Int):List VV:=[I l.length,I l.length,stD l,.sl 7 B.length,.sl 6 A.length,I 0,.tl p.length 1 gz,.tl p.length 1 gc,.sl 4 (0+t.T.length),I 0,.sl 3 F.length,.sl 2 D.length,.ptr (.own 1 0),stD l,.agg (tsL t),pthD p]
def BOe (t:Tst) (D F A B:List Int):List VB:=[.cells (tsL t) 25,vO D,vO F,.vec (0+t.T.length) (dG t.T) 1 3,vO A,vO B]
theorem o16_ev (l:List Stk) (t:Tst) (p:List (List Int)) (D F A B:List Int) (gz gc:Nat->List VV) (i:Nat) (X:VEx->List VV->List VB->Prop):codeE Try.prog (callN Try.prog noSpec noL 10 20) (fun _=>none) true 10 (ntOf Try.prog 3) 0 (loopB 16 (bodyOf Try.prog 3)) ((175::174::173::dsOw).zip (I i::I p.length::pthD p::VOe l t p D F A gz gc B)) ⟨8,[1,2,3,4,6,7].zip (BOe t D F A B)⟩ (obs 8 (175::174::173::dsOw) [1,2,3,4,6,7] X) =
 (bif decide ((i:Int)<(p.length:Int)) then
 bif decide ((0:Int)<=(i:Int)/\(i:Int)<(p.length:Int)) then
 bif B.length.beq B.length then
 bif roomB (B.length+(p.getD (i:Int).toNat []).length) (8) then
 bif inK .i64 ((i:Int)+(1:Int)) then
 X .normal [I ((i:Int)+(1:Int)),I (p.length:Int),pthD p,I (l.length:Int),I (l.length:Int),stD l,.sl 7 (B.length+(p.getD (i:Int).toNat []).length),.sl 6 A.length,I 0,.tl p.length 1 gz,.tl p.length 1 gc,.sl 4 (0+t.T.length),I 0,.sl 3 F.length,.sl 2 D.length,.ptr (.own 1 0),stD l,.agg (tsL t),pthD p] [.cells (tsL t) 25,.vec D.length (dG D) 1 3,.vec F.length (dG F) 1 3,.vec (0+t.T.length) (dG t.T) 1 3,.vec A.length (dG A) 1 3,.vec (B.length+(p.getD (i:Int).toNat []).length) (catG B.length (dG B) (dG (p.getD (i:Int).toNat []))) (1) 3]
 else False
 else False
 else False
 else False
 else X (VEx.exit 16) [I (i:Int),I (p.length:Int),pthD p,I (l.length:Int),I (l.length:Int),stD l,.sl 7 B.length,.sl 6 A.length,I 0,.tl p.length 1 gz,.tl p.length 1 gc,.sl 4 (0+t.T.length),I 0,.sl 3 F.length,.sl 2 D.length,.ptr (.own 1 0),stD l,.agg (tsL t),pthD p] [.cells (tsL t) 25,.vec D.length (dG D) 1 3,.vec F.length (dG F) 1 3,.vec (0+t.T.length) (dG t.T) 1 3,.vec A.length (dG A) 1 3,.vec B.length (dG B) 1 3]):=by kernel_rfl
def lO16 (l:List Stk) (t:Tst) (p:List (List Int)):LT:=fun lock tt h K=>∃ (D F A:List Int) (gz gc:Nat->List VV),
 FitP lock h tt ⟨7,[1,2,3,4,6].zip (BOw t D F A)⟩ ((175::174::173::dsOw).zip (I 0::I p.length::pthD p::VOw l t p D F gz gc l.length A))/\(p.length<=6/\∀ i,(p.getD i []).length<=6)/\∀ B,B=fO p p.length->K .normal ((175::174::173::dsOw).zip (I p.length::I p.length::pthD p::VOe l t p D F A gz gc B)) ⟨8,[1,2,3,4,6,7].zip (BOe t D F A B)⟩
section
variable {l:List Stk} {t:Tst} {p:List (List Int)} {D F:List Int} {gz gc:Nat->List VV}
theorem lO14_ok {A:List Int} {s:Stk} {i:Nat}:LSound Try.prog true (.block 14 (.loop (loopB 14 (bodyOf Try.prog 3)))) (ntOf Try.prog 3) (lO14 l t p D F A gz gc s i):=by
 rintro lock tt h K ⟨hf,⟨hs,hA⟩,k1⟩
 have key:LSound Try.prog true (.block 14 (.loop (loopB 14 (bodyOf Try.prog 3)))) (ntOf Try.prog 3) (fun lock tt h K=>FitP lock h tt ⟨9,[1,2,3,4,6].zip (BOw t D F (A ++ []))⟩ ((160::159::158::dsOw).zip (I 0::I s.prof.length::spD s.prof::VOw l t p D F gz gc i (A ++ []))) /\
   K .normal ((160::159::158::dsOw).zip (I s.prof.length::I s.prof.length::spD s.prof::VOw l t p D F gz gc i (A ++ pO s s.prof.length))) ⟨9,[1,2,3,4,6].zip (BOw t D F (A ++ pO s s.prof.length))⟩):=by
  refine loop_row hmix good0 (un:=10) (ds:=160::159::158::dsOw) (ns:=[1,2,3,4,6]) (nx:=9) (fun j:Nat=>I j::I s.prof.length::spD s.prof::VOw l t p D F gz gc i (A ++ pO s j)) (fun j=>BOw t D F (A ++ pO s j)) (fun j=>j<=s.prof.length) (fun j=>s.prof.length - j)
   (fun _ e vs bs=>e=.exit 14/\vs=I s.prof.length::I s.prof.length::spD s.prof::VOw l t p D F gz gc i (A ++ pO s s.prof.length)/\bs=BOw t D F (A ++ pO s s.prof.length)) noL_ok ?_ ?_
  ·intro j hj
   have hlen:(A ++ pO s j).length=A.length+2*j:=by rw [List.length_append,pO_len]
   refine cast (o14_ev l t p D F (A ++ pO s j) gz gc s i j _).symm ?_
   refine cond_d (fun h=>?_) (fun h=>?_)
   ·refine cond_dk ⟨by omega,by omega⟩ (cond_k (Nat.beq_refl _) (cond_k (roomO8 (by omega)) (cond_r (by omega) ⟨j+1,by show j+1<=_; omega,by dsimp only; omega,?_,?_,fun _ _ _ h=>h⟩)))
    ·show _=(I ((j+1:Nat):Int))::_::_::VOw l t p D F gz gc i (A ++ pO s (j+1))
     rw [pO_s,<- List.append_assoc]
     unfold VOw
     rw [show (A ++ pO s j ++ [(s.prof.getD j s0).lo,(s.prof.getD j s0).hi]).length=(A ++ pO s j).length+2 from List.length_append]
     rfl
    ·show fitBs (BOw t D F (A ++ pO s (j+1))) _
     rw [pO_s,<- List.append_assoc]
     refine ⟨VB.fit_refl _,VB.fit_refl _,VB.fit_refl _,VB.fit_refl _,fit_vO rfl (fun q hq=>?_),trivial⟩
     rw [show (j:Int).toNat=j from Int.toNat_natCast j]
     match q,hq with
     | 0,_=>rfl
     | 1,_=>rfl
   ·obtain rfl:j=s.prof.length:=by omega
    exact ⟨rfl,rfl,rfl⟩
  ·rintro lock tt h K ⟨hf,k1⟩
   refine ⟨0,hf,Nat.zero_le _,?_⟩
   rintro e vs bs ⟨rfl,rfl,rfl⟩
   exact k1
 exact key lock tt h K ⟨by rw [List.append_nil]; exact hf,k1 _ rfl⟩
theorem lO12s_ok (hl:l.length<=8) (hp:∀ i,(l.getD i k0).prof.length<=6):LSound Try.prog true (.block 12 (.loop (loopB 12 (bodyOf Try.prog 3)))) (ntOf Try.prog 3) (fun lock tt h K=>
  FitP lock h tt ⟨7,[1,2,3,4,6].zip (BOw t D F [])⟩ (dsOw.zip (VOw l t p D F gz gc 0 []))/\K .normal (dsOw.zip (VOw l t p D F gz gc l.length (cO l l.length))) ⟨7,[1,2,3,4,6].zip (BOw t D F (cO l l.length))⟩):=by
 refine loop_rowD hmix good0 (un:=10) (ds:=dsOw) (ns:=[1,2,3,4,6]) (nx:=7) (lsp:=fun i:Nat=>tabB [(14,lO14 l t p D F (cO l i ++ ckE (l.getD i k0)) gz gc (l.getD i k0) i)]) (fun i:Nat=>VOw l t p D F gz gc i (cO l i)) (fun i=>BOw t D F (cO l i)) (fun i=>i<=l.length) (fun i=>l.length - i)
  (fun _ e vs bs=>e=.exit 12/\vs=VOw l t p D F gz gc l.length (cO l l.length)/\bs=BOw t D F (cO l l.length)) (fun _ _=>lsp_one (f:=3) (by kernel_rfl) lO14_ok) ?_ ?_
 ·intro i hi
  have hlen:=cO_len hp i
  refine cast (o12_ev l t p D F (cO l i) gz gc i _).symm ?_
  refine cond_d (fun h=>?_) (fun h=>?_)
  ·refine cond_dk ⟨by omega,by omega⟩ (cond_k (Nat.beq_refl _) (cond_k (roomO8 (by omega)) ⟨?_,⟨hp i,by rw [List.length_append]; show _+4<=_; omega⟩,fun E hE=>?_⟩))
   ·have e:(cO l i ++ ckE (l.getD i k0)).length=(cO l i).length+4:=List.length_append
    refine ⟨⟨rfl,rfl,VB.fit_refl _,VB.fit_refl _,VB.fit_refl _,VB.fit_refl _,fit_vO rfl (fun q hq=>?_),trivial⟩,rfl,rfl,rfl,rfl,rfl,rfl,rfl,?_,rfl,rfl,rfl,rfl,rfl,rfl,rfl,rfl,rfl,rfl,rfl,trivial⟩
    ·rw [show (i:Int).toNat=i from Int.toNat_natCast i]
     match q,hq with
     | 0,_=>rfl
     | 1,_=>rfl
     | 2,_=>rfl
     | 3,_=>rfl
    ·rw [e]; rfl
   ·subst hE
    rw [<- cO_s]
    exact cond_r (by omega) ⟨i+1,by show i+1<=_; omega,by dsimp only; omega,rfl,fitBs_refl _,fun _ _ _ h=>h⟩
  ·obtain rfl:i=l.length:=by omega
   exact ⟨rfl,rfl,rfl⟩
 ·rintro lock tt h K ⟨hf,k1⟩
  refine ⟨0,hf,Nat.zero_le _,?_⟩
  rintro e vs bs ⟨rfl,rfl,rfl⟩
  exact k1
theorem lO12_ok:LSound Try.prog true (.block 12 (.loop (loopB 12 (bodyOf Try.prog 3)))) (ntOf Try.prog 3) (lO12 l t p):=by
 rintro lock tt h K ⟨D,F,gz,gc,hf,⟨hl,hp⟩,k1⟩
 refine ghost_row (d:=27) (nx:=6) (bs:=[1,2,3,4].zip [.cells (tsL t) 25,vO D,vO F,.vec (0+t.T.length) (dG t.T) 1 3]) (t0:=[142,141,140,28,26,25,18,15,17,8,7,4,0,1,2].zip [I 0,I l.length,stD l,.nils,I 0,.tl p.length 1 gz,.tl p.length 1 gc,.sl 4 (0+t.T.length),I 0,.sl 3 F.length,.sl 2 D.length,.ptr (.own 1 0),stD l,.agg (tsL t),pthD p]) (dG []) 1 3 (lO12s_ok (t:=t) (p:=p) (D:=D) (F:=F) (gz:=gz) (gc:=gc) hl hp) (T:=fun lock tt h K=>FitP lock h tt ⟨6,[1,2,3,4].zip [.cells (tsL t) 25,vO D,vO F,.vec (0+t.T.length) (dG t.T) 1 3]⟩ (dsOw.zip [I 0,I l.length,stD l,.nils,.nils,I 0,.tl p.length 1 gz,.tl p.length 1 gc,.sl 4 (0+t.T.length),I 0,.sl 3 F.length,.sl 2 D.length,.ptr (.own 1 0),stD l,.agg (tsL t),pthD p])/\K .normal (dsOw.zip (VOw l t p D F gz gc l.length (cO l l.length))) ⟨7,[1,2,3,4,6].zip (BOw t D F (cO l l.length))⟩) ?_ lock tt h K ⟨hf,k1 _ rfl⟩
 rintro lock tt h K ⟨hf,k1⟩
 refine ⟨⟨hf.1,?_⟩,⟨⟨rfl,rfl,VB.fit_refl _,VB.fit_refl _,VB.fit_refl _,VB.fit_refl _,VB.fit_refl _,trivial⟩,rfl,rfl,rfl,rfl,rfl,rfl,rfl,rfl,rfl,rfl,rfl,rfl,rfl,rfl,rfl,rfl,trivial⟩,k1⟩
 obtain ⟨a1,a2,a3,a4,a5,a6,a7,a8,a9,a10,a11,a12,a13,a14,a15,a16,_⟩:=hf.2
 exact ⟨a5,a1,a2,a3,a4,a6,a7,a8,a9,a10,a11,a12,a13,a14,a15,a16,trivial⟩
theorem lO16s_ok {A:List Int} (hl:p.length<=6) (hp:∀ i,(p.getD i []).length<=6):LSound Try.prog true (.block 16 (.loop (loopB 16 (bodyOf Try.prog 3)))) (ntOf Try.prog 3) (fun lock tt h K=>
  FitP lock h tt ⟨8,[1,2,3,4,6,7].zip (BOe t D F A [])⟩ ((175::174::173::dsOw).zip (I 0::I p.length::pthD p::VOe l t p D F A gz gc []))/\K .normal ((175::174::173::dsOw).zip (I p.length::I p.length::pthD p::VOe l t p D F A gz gc (fO p p.length))) ⟨8,[1,2,3,4,6,7].zip (BOe t D F A (fO p p.length))⟩):=by
 refine loop_row hmix good0 (un:=10) (ds:=175::174::173::dsOw) (ns:=[1,2,3,4,6,7]) (nx:=8) (fun i:Nat=>I i::I p.length::pthD p::VOe l t p D F A gz gc (fO p i)) (fun i=>BOe t D F A (fO p i)) (fun i=>i<=p.length) (fun i=>p.length - i)
  (fun _ e vs bs=>e=.exit 16/\vs=I p.length::I p.length::pthD p::VOe l t p D F A gz gc (fO p p.length)/\bs=BOe t D F A (fO p p.length)) noL_ok ?_ ?_
 ·intro i hi
  have hlen:=fO_len hp i
  have hpi:=hp i
  refine cast (o16_ev l t p D F A (fO p i) gz gc i _).symm ?_
  refine cond_d (fun h=>?_) (fun h=>?_)
  ·rw [show (i:Int).toNat=i from Int.toNat_natCast i]
   refine cond_dk ⟨by omega,by omega⟩ (cond_k (Nat.beq_refl _) (cond_k (roomO8 (by omega)) (cond_r (by omega) ⟨i+1,by show i+1<=_; omega,by dsimp only; omega,?_,?_,fun _ _ _ h=>h⟩)))
   ·show _=(I ((i+1:Nat):Int))::_::_::VOe l t p D F A gz gc (fO p (i+1))
    rw [fO_s]
    unfold VOe
    rw [List.length_append]
    rfl
   ·show fitBs (BOe t D F A (fO p (i+1))) _
    rw [fO_s]
    exact ⟨VB.fit_refl _,VB.fit_refl _,VB.fit_refl _,VB.fit_refl _,VB.fit_refl _,fit_vO rfl (fun q hq=>rfl),trivial⟩
  ·obtain rfl:i=p.length:=by omega
   exact ⟨rfl,rfl,rfl⟩
 ·rintro lock tt h K ⟨hf,k1⟩
  refine ⟨0,hf,Nat.zero_le _,?_⟩
  rintro e vs bs ⟨rfl,rfl,rfl⟩
  exact k1
theorem lO16_ok:LSound Try.prog true (.block 16 (.loop (loopB 16 (bodyOf Try.prog 3)))) (ntOf Try.prog 3) (lO16 l t p):=by
 rintro lock tt h K ⟨D,F,A,gz,gc,hf,⟨hl,hp⟩,k1⟩
 refine ghost_row (d:=28) (nx:=7) (bs:=[1,2,3,4,6].zip (BOw t D F A)) (t0:=[175,174,173,142,141,140,27,26,25,18,15,17,8,7,4,0,1,2].zip [I 0,I p.length,pthD p,I l.length,I l.length,stD l,.sl 6 A.length,I 0,.tl p.length 1 gz,.tl p.length 1 gc,.sl 4 (0+t.T.length),I 0,.sl 3 F.length,.sl 2 D.length,.ptr (.own 1 0),stD l,.agg (tsL t),pthD p]) (dG []) 1 3 (lO16s_ok (l:=l) (t:=t) (p:=p) (D:=D) (F:=F) (A:=A) (gz:=gz) (gc:=gc) hl hp) (T:=fun lock tt h K=>FitP lock h tt ⟨7,[1,2,3,4,6].zip (BOw t D F A)⟩ ((175::174::173::dsOw).zip (I 0::I p.length::pthD p::VOw l t p D F gz gc l.length A))/\K .normal ((175::174::173::dsOw).zip (I p.length::I p.length::pthD p::VOe l t p D F A gz gc (fO p p.length))) ⟨8,[1,2,3,4,6,7].zip (BOe t D F A (fO p p.length))⟩) ?_ lock tt h K ⟨hf,k1 _ rfl⟩
 rintro lock tt h K ⟨hf,k1⟩
 refine ⟨⟨hf.1,?_⟩,⟨⟨rfl,rfl,VB.fit_refl _,VB.fit_refl _,VB.fit_refl _,VB.fit_refl _,VB.fit_refl _,VB.fit_refl _,trivial⟩,rfl,rfl,rfl,rfl,rfl,rfl,rfl,rfl,rfl,rfl,rfl,rfl,rfl,rfl,rfl,rfl,rfl,rfl,rfl,trivial⟩,k1⟩
 obtain ⟨a1,a2,a3,a4,a5,a6,a7,a8,a9,a10,a11,a12,a13,a14,a15,a16,a17,a18,a19,_⟩:=hf.2
 exact ⟨a7,a1,a2,a3,a4,a5,a6,a8,a9,a10,a11,a12,a13,a14,a15,a16,a17,a18,a19,trivial⟩
end
theorem z_ev (l:List Stk) (t:Tst) (p:List (List Int)) (G:Nat->Nat->Int) (x:Rsl) (Q:VRes->Prop):callN Try.prog (tabS [grY l t false,wiR p,plO l t p x,cheapA,inR,spR,alT]) (atF 3 [(0,lO0 l t p G),(4,lO4 l t p G),(6,lX6E l t p p.length (p.getD 0 []).length (XG (p.getD 0 []).length x)),(12,lO12 l t p),(16,lO16 l t p)]) 10 20 0 (.fn 3) [stD l,.agg (tsL t),pthD p] ⟨1,[(0,.bun 7 0 l.length G 3)]⟩ (fun r _=>Q r) =
 (isD (VH.mk (2) [(1,.cells (tsL t) 25),(0,.bun 7 0 l.length G 3)]) 4 (stD l) (stD l)/\isD (VH.mk (2) [(1,.cells (tsL t) 25),(0,.bun 7 0 l.length G 3)]) 4 (VV.agg (tsL t)) (VV.agg (tsL t))/\greatF l t (64:Int)=false/\isD (VH.mk (2) [(1,.cells (tsL t) 25),(0,.bun 7 0 l.length G 3)]) 4 (pthD p) (pthD p)/\∀ (b:Bool),(b=false->p.length<=6/\∀ (i:Nat),(p.getD i []).length<=6)->bif b then
 Q (VRes.ret (VV.bool true))
 else FitP 0 (VH.mk 2 ([0,1].zip [bnO l 0 G,.cells (tsL t) 25])) (dsO.zip [I 0,I (l.length:Int),stD l,.nils,.nils,.ptr (.own 1 0),stD l,.agg (tsL t),pthD p]) (VH.mk 2 ([0,1].zip [bnO l 0 G,.cells (tsL t) 25])) (dsO.zip [I 0,I (l.length:Int),stD l,.nils,.nils,.ptr (.own 1 0),stD l,.agg (tsL t),pthD p])/\(l.length<=8/\∀ (i:Nat),(l.getD i k0).prof.length.le 6)/\∀ (D:List Int),D=cO l l.length->∃ (D_1:List Int),FitP 0 (VH.mk 3 ([0,1,2].zip (BO l t G D))) ((78,I 0)::(77,I (p.length:Int))::(76,pthD p)::dsO.zip (VO l t p (l.length:Int) D)) (VH.mk 3 ([0,1,2].zip (BO l t G D_1))) ((78::77::76::dsO).zip (I 0::I (p.length:Int)::pthD p::VO l t p (l.length:Int) D_1))/\(D_1=cO l l.length/\p.length<=6/\∀ (i:Nat),(p.getD i []).length.le 6)/\∀ (F:List Int),F=fO p p.length->bif roomB (0+t.T.length) (8) then
 stD l=stD l/\VV.agg (tsL t)=VV.agg (tsL t)/\pthD p=pthD p/\(0=0/\∃ (G':Nat->Nat->Int),(VH.mk (5) ((4,.vec (0+t.T.length) (catG 0 (fun (j:Nat)=>List.take (1) (List.drop (j*(1)) [])) (dG t.T)) (1) 3)::(4,.vec 0 (fun (j:Nat)=>List.take (1) (List.drop (j*(1)) [])) (1) 3)::[0,1,2,3].zip (BF l t G D_1 F))).at 0=VB.bun 7 0 l.length G' 3)/\∃ (D:List Int),∃ (F_1:List Int),FitP 0 ((VH.mk (5) ((4,.vec (0+t.T.length) (catG 0 (fun (j:Nat)=>List.take (1) (List.drop (j*(1)) [])) (dG t.T)) (1) 3)::(4,.vec 0 (fun (j:Nat)=>List.take (1) (List.drop (j*(1)) [])) (1) 3)::[0,1,2,3].zip (BF l t G D_1 F))).put 0 (VB.bun 7 (p.length*(p.getD 0 []).length) l.length (XG (p.getD 0 []).length x) 3)) ((99,I 0)::(98,I (p.length:Int))::(97,.tl p.length 1 fun (i:Nat)=>[.tl (p.getD 0 []).length 1 (rowH l.length (i*(p.getD 0 []).length))])::(18,.nils)::(17,I 0)::(16,.tl p.length 1 fun (i:Nat)=>[.tl (p.getD 0 []).length 1 (rowH l.length (i*(p.getD 0 []).length))])::(96,I 0)::(95,.tl p.length 1 fun (i:Nat)=>[.tl (p.getD 0 []).length 1 (rowH l.length (i*(p.getD 0 []).length))])::(90,.tup [plnH l.length p.length (p.getD 0 []).length,I 0])::(94,.tup [plnH l.length p.length (p.getD 0 []).length,I 0])::(93,pthD p)::(92,.agg (tsL t))::(91,stD l)::(15,.sl (4) (0+t.T.length))::(89,.sl (4) (0+t.T.length))::(88,.tl t.T.length 1 (dG t.T))::(87,.ptr (.own 1 0))::(86,.sl (4) 0)::(78::77::76::dsO).zip (I (p.length:Int)::I (p.length:Int)::pthD p::VF l t p D_1 F)) (VH.mk 5 ([0,1,2,3,4].zip (BX l t D F_1 (p.length*(p.getD 0 []).length) (XG (p.getD 0 []).length x)))) ((18,.nils)::ds6.zip (V6 l t p D F_1 p.length (p.getD 0 []).length (0:Int)))/\(l.length<=8/\(p.getD 0 []).length<=4/\p.length<=6)/\∀ (G':Nat->Nat->Int),G'=mG (XG (p.getD 0 []).length x) 0 (p.length*(p.getD 0 []).length)->stD l=stD l/\VV.agg (tsL t)=VV.agg (tsL t)/\pthD p=pthD p/\∃ (l_1:List Stk),∃ (t_1:Tst),isD (VH.mk 6 ((5,.gone)::[0,1,2,3,4,5].zip (BX l t D F_1 (p.length*(p.getD 0 []).length) G' ++ [.vec p.length (cpX l.length (p.getD 0 []).length (XG (p.getD 0 []).length x)) 1 26]))) 4 (stD l) (stD l_1)/\isD (VH.mk 6 ((5,.gone)::[0,1,2,3,4,5].zip (BX l t D F_1 (p.length*(p.getD 0 []).length) G' ++ [.vec p.length (cpX l.length (p.getD 0 []).length (XG (p.getD 0 []).length x)) 1 26]))) 4 (VV.agg (tsL t)) (VV.agg (tsL t_1))/\∃ (D_2:List Int),∃ (F:List Int),∃ (gz:Nat->List VV),∃ (gc:Nat->List VV),FitP 0 (VH.mk 6 ((5,.gone)::[0,1,2,3,4,5].zip (BX l t D F_1 (p.length*(p.getD 0 []).length) G' ++ [.vec p.length (cpX l.length (p.getD 0 []).length (XG (p.getD 0 []).length x)) 1 26]))) ((142,I 0)::(141,I (l.length:Int))::(140,stD l)::(28,.nils)::(27,.nils)::(139,.tup [.any,I (chpC l_1 t_1 (0:Int) (5:Int)),I (chpE l_1 t_1 (0:Int) (5:Int))])::(138,.agg (tsL t))::(137,stD l)::(26,I 0)::(25,.tl p.length 1 (plnG l.length (p.getD 0 []).length x))::(136,I 0)::(135,.tl p.length 1 (plnG l.length (p.getD 0 []).length x))::(130,.tup [plnD l.length p.length (p.getD 0 []).length x,I 0])::(134,.tup [plnD l.length p.length (p.getD 0 []).length x,I 0])::(133,pthD p)::(132,.agg (tsL t))::(131,stD l)::(18,.tl p.length 1 (cpX l.length (p.getD 0 []).length (XG (p.getD 0 []).length x)))::(18::ds6).zip (VV.sl 5 p.length::V6 l t p D F_1 p.length (p.getD 0 []).length (p.length:Int))) (VH.mk 6 ([1,2,3,4].zip [.cells (tsL t) 25,vO D_2,vO F,.vec (0+t.T.length) (dG t.T) 1 3])) (dsOw.zip [I 0,I (l.length:Int),stD l,.nils,.nils,I 0,.tl p.length 1 gz,.tl p.length 1 gc,.sl 4 (0+t.T.length),I 0,.sl 3 F.length,.sl 2 D_2.length,.ptr (.own 1 0),stD l,.agg (tsL t),pthD p])/\(l.length<=8/\∀ (i:Nat),(l.getD i k0).prof.length.le 6)/\∀ (A:List Int),A=cO l l.length->∃ (D:List Int),∃ (F_2:List Int),∃ (A_1:List Int),∃ (gz_1:Nat->List VV),∃ (gc_1:Nat->List VV),FitP 0 (VH.mk 7 ([1,2,3,4,6].zip (BOw t D_2 F A))) ((175,I 0)::(174,I (p.length:Int))::(173,pthD p)::dsOw.zip (VOw l t p D_2 F gz gc (l.length:Int) A)) (VH.mk 7 ([1,2,3,4,6].zip (BOw t D F_2 A_1))) ((175::174::173::dsOw).zip (I 0::I (p.length:Int)::pthD p::VOw l t p D F_2 gz_1 gc_1 (l.length:Int) A_1))/\(p.length<=6/\∀ (i:Nat),(p.getD i []).length.le 6)/\∀ (B:List Int),B=fO p p.length->∃ (L:Nat),∃ (n:Nat->Int),isD (VH.mk 8 ([1,2,3,4,6,7].zip (BOe t D F_2 A_1 B))) 2 (VV.sl 2 D.length) (d1 L n)/\isD (VH.mk 8 ([1,2,3,4,6,7].zip (BOe t D F_2 A_1 B))) 2 (VV.sl 6 A_1.length) (d1 L n)/\L<=100000/\∃ (L:Nat),∃ (n:Nat->Int),isD (VH.mk 8 ([1,2,3,4,6,7].zip (BOe t D F_2 A_1 B))) 2 (VV.sl 3 F_2.length) (d1 L n)/\isD (VH.mk 8 ([1,2,3,4,6,7].zip (BOe t D F_2 A_1 B))) 2 (VV.sl 7 B.length) (d1 L n)/\L<=100000/\∃ (L:Nat),∃ (n:Nat->Int),isD (VH.mk 8 ([1,2,3,4,6,7].zip (BOe t D F_2 A_1 B))) 2 (VV.tl t.T.length 1 (dG t.T)) (d1 L n)/\isD (VH.mk 8 ([1,2,3,4,6,7].zip (BOe t D F_2 A_1 B))) 2 (VV.sl 4 (0+t.T.length)) (d1 L n)/\L<=100000/\∃ (x':VV),∃ (y':VV),∃ (p_1:Nat),∃ (q:Nat->Nat),∃ (r:Nat->Nat->Nat),∃ (v:Nat->Nat->Nat->Int),isD (VH.mk 8 ([1,2,3,4,6,7].zip (BOe t D F_2 A_1 B))) 2 (VV.tl p.length 1 gz_1) x'/\isD (VH.mk 8 ([1,2,3,4,6,7].zip (BOe t D F_2 A_1 B))) 2 (VV.tl p.length 1 gc_1) y'/\(wkL [x'] [d3 p_1 q r v]/\wkL [y'] [d3 p_1 q r v])/\okD p_1 q r/\Q (VRes.ret (VV.bool true))
 else False):=by kernel_rfl
section
variable {l:List Stk} {t:Tst}
theorem pln_v {p:List (List Int)} (hb:pthB p):PlnOut l t p:=by
 cases ho:okAll l t with
 | false=>exact plnE_v (.inl ho)
 | true=>
  cases hp:okPaths p with
  | false=>exact plnE_v (.inr ⟨hb,hp⟩)
  | true=>
   exact pln_out ho hp
end
section
variable {l:List Stk} {t:Tst} {y m:Int}
end
section
variable {l:List Stk} {t:Tst} {y m:Int}
end
section
variable {l:List Stk} {t:Tst} {P:List (List Int)} {Y:Nat}
end
section
variable {l l':List Stk} {t:Tst} {p:List (List Int)}
end
section
variable {l:List Stk} {t:Tst} {p:List (List Int)} {wh:Int} {x:Rsl}
end
theorem isD_p {h:VH} {k:Nat} {p:List (List Int)}:isD h (k+1) (.tl p.length 1 (pthG p)) (pthD p):=⟨rfl,rfl,fun _ _=>rfl⟩
section
variable {l:List Stk} {t:Tst} {p:List (List Int)} {wh:Int} {x:Rsl}
end
section
variable {l:List Stk} {t:Tst} {p:List (List Int)} {x:Rsl} {G:Nat->Nat->Int}
theorem prof6 (h:anyG l=false) (i:Nat):(l.getD i k0).prof.length<=6:=by
 by_cases hi:i<l.length
 ·refine Nat.le_of_not_lt fun hc=>?_
  have:anyG l=true:=by
   unfold anyG
   rw [List.any_eq_true]
   exact ⟨i,List.mem_range.2 hi,decide_eq_true hc⟩
  rw [this] at h; cases h
 ·have e:l.getD i k0=k0:=by rw [List.getD_eq_getElem?_getD,List.getElem?_eq_none (by omega)]; rfl
  rw [e]; decide
theorem lX6E_ok {P Y:Nat}:LSound Try.prog true (.block 6 (.loop (loopB 6 (bodyOf Try.prog 3)))) (ntOf Try.prog 3) (lX6E l t p P Y G):=by
 rintro lock tt h K ⟨D,F,hf,hc,k1⟩
 exact lX6_ok lock tt h K ⟨hf,hc,k1 _ rfl⟩
theorem pld (ho:okAll l t=true) (hp:okPaths p=true) (hx:planF l t p (p.getD 0 []).length (p.getD 0 []).length (2 ^ p.length - 1) (mostF l)=some x):∃ h',CallsV Try.prog 17 [stD l,.agg (tsL t),pthD p] ⟨0,[]⟩ (.ret (.tup [plnD l.length p.length (p.getD 0 []).length x,I 0])) h':=by
 obtain ⟨r,h',hc,⟨h1,_⟩ | ⟨_,x',h2,rfl⟩⟩:=pln_v (l:=l) (t:=t) (pthB_of hp)
 ·exact (h1 (plE_s ho hp hx)).elim
 ·rw [hx] at h2
  cases h2
  exact ⟨_,hc⟩
theorem plO_ok (ho:okAll l t=true) (hp:okPaths p=true) (hx:planF l t p (p.getD 0 []).length (p.getD 0 []).length (2 ^ p.length - 1) (mostF l)=some x):SpOk Try.prog (plO l t p x).1 (plO l t p x).2:=by
 intro lock args h K hK
 simp only [plO] at hK
 split at hK
 ·obtain ⟨e1,rfl,e2,⟨rfl,G',hat⟩,hK⟩:=hK
  rw [e1,e2]
  exact ⟨_,_,hK,lock0 _ _,plo_ok ho hp hx hat⟩
 ·obtain ⟨e1,rfl,e2,hK⟩:=hK
  rw [e1,e2]
  obtain ⟨h',hc⟩:=pld ho hp hx
  exact ⟨_,h,hK,lockP_refl _ _,calls_lift0 hc rfl rfl⟩
 ·exact hK.elim
theorem own_row {Y i j:Nat} (hj:j<Y) (k:Nat):mG (mG (XG Y x) 0 (i*Y)) (i*Y) j (i*Y+j) k=x i j k:=by
 unfold mG
 rw [if_neg (by omega),if_neg (by omega)]
 unfold XG
 rw [Nat.mul_comm,Nat.mul_add_div (by omega),Nat.div_eq_of_lt hj,Nat.mul_add_mod,Nat.mod_eq_of_lt hj,Nat.add_zero]
theorem cp_weak {P C Y:Nat}:wkL [.tl P 1 (cpX C Y (XG Y x))] [d3 P (fun _=>Y) (fun _ _=>C) x]:=by
 refine tl_weak rfl (fun i hi=>tl_weak rfl (fun j hj=>tl_weak (Nat.zero_add _).symm (fun k hk=>?_)))
 show wkL [I (mG (mG (XG Y x) 0 (i*Y)) (i*Y) j (i*Y+j) k)] [I (x i j k)]
 rw [own_row hj]
 exact wkL_refl _
theorem owns_z (hg:greatF l t 64=false) (ho:okAll l t=true) (hp:okPaths p=true) (hx:planF l t p (p.getD 0 []).length (p.getD 0 []).length (2 ^ p.length - 1) (mostF l)=some x):∃ h',CallsV Try.prog 3 [stD l,.agg (tsL t),pthD p] ⟨1,[(0,.bun 7 0 l.length G 3)]⟩ (.ret (.bool true)) h':=by
 have hall:LoopsOk Try.prog 3 [(0,lO0 l t p G),(4,lO4 l t p G),(6,lX6E l t p p.length (p.getD 0 []).length (XG (p.getD 0 []).length x)),(12,lO12 l t p),(16,lO16 l t p)]:=fun y hy=>by
  simp only [List.mem_cons,List.not_mem_nil,or_false] at hy
  rcases hy with rfl | rfl | rfl | rfl | rfl
  ·exact ⟨by kernel_rfl,lO0_ok⟩
  ·exact ⟨by kernel_rfl,lO4_ok⟩
  ·exact ⟨by kernel_rfl,lX6E_ok⟩
  ·exact ⟨by kernel_rfl,lO12_ok⟩
  ·exact ⟨by kernel_rfl,lO16_ok⟩
 have htab:∀ f T,tabS [grY l t false,wiR p,plO l t p x,cheapA,inR,spR,alT] f=some T->SpOk Try.prog f T:=tab_ok _ (fun y hy=>by
  simp only [List.mem_cons,List.not_mem_nil,or_false] at hy
  rcases hy with rfl | rfl | rfl | rfl | rfl | rfl | rfl
  ·exact grY_ok l t false
  ·exact wiR_ok p
  ·exact plO_ok ho hp hx
  ·exact cheapA_ok
  ·exact inR_ok
  ·exact spR_ok
  ·exact alT_ok)
 obtain ⟨g1,g2,g3,_⟩:=great_len hg
 have hpr:=prof6 g3
 obtain ⟨q1,q2,_⟩:=paths_of hp
 obtain ⟨r,h',rfl,hc⟩:=of_callN (callL_good hmix htab hall (un:=10) 20) (f:=3) (args:=[stD l,.agg (tsL t),pthD p]) (h:=⟨1,[(0,.bun 7 0 l.length G 3)]⟩) (K:=fun r _=>r=.ret (.bool true)) (by
  refine cast (z_ev l t p G x _).symm ⟨isD_l,isD_t,hg,isD_p,fun b hb=>?_⟩
  cases b with
  | true=>exact rfl
  | false=>
   obtain ⟨w1,w2⟩:=hb rfl
   have hc1:=cO_len hpr l.length
   have hf1:=fO_len w2 p.length
   refine ⟨fitP_self rfl,⟨g1,hpr⟩,fun D hD=>⟨D,fitP_self (ds:=78::77::76::dsO) (vs:=I 0::I p.length::pthD p::VO l t p l.length D) rfl,⟨hD,w1,w2⟩,fun F hF=>cond_k (roomO8 (by omega)) ⟨rfl,rfl,rfl,⟨rfl,_,rfl⟩,D,F,?_,⟨g1,q2.2,w1⟩,fun G' _=>⟨rfl,rfl,rfl,l,t,isD_l,isD_t,D,F,plnG l.length (p.getD 0 []).length x,cpX l.length (p.getD 0 []).length (XG (p.getD 0 []).length x),?_,⟨g1,hpr⟩,fun A hA=>⟨D,F,A,_,_,fitP_self (ds:=175::174::173::dsOw) (vs:=I 0::I p.length::pthD p::VOw l t p D F _ _ l.length A) rfl,⟨w1,w2⟩,fun B hB=>?_⟩⟩⟩⟩⟩
   ·exact ⟨⟨rfl,rfl,VB.fit_refl _,VB.fit_refl _,VB.fit_refl _,VB.fit_refl _,⟨rfl,rfl,rfl,fun q hq=>rfl⟩,trivial⟩,rfl,rfl,rfl,rfl,rfl,rfl,rfl,rfl,rfl,rfl,rfl,rfl,trivial⟩
   ·exact ⟨⟨rfl,rfl,VB.fit_refl _,VB.fit_refl _,VB.fit_refl _,VB.fit_refl _,trivial⟩,rfl,rfl,rfl,rfl,rfl,rfl,rfl,rfl,rfl,rfl,rfl,rfl,rfl,rfl,rfl,rfl,trivial⟩
   ·subst hD hF hA hB
    refine ⟨_,fun j=>(cO l l.length).getD j 0,⟨rfl,Nat.le_refl _,_,_,rfl,fun _ _=>rfl⟩,⟨rfl,Nat.le_refl _,_,_,rfl,fun _ _=>rfl⟩,by omega,_,fun j=>(fO p p.length).getD j 0,⟨rfl,Nat.le_refl _,_,_,rfl,fun _ _=>rfl⟩,⟨rfl,Nat.le_refl _,_,_,rfl,fun _ _=>rfl⟩,by omega,t.T.length,fun j=>t.T.getD j 0,⟨rfl,rfl,fun _ _=>rfl⟩,⟨(Nat.zero_add _).symm,Nat.le_refl _,_,_,rfl,fun _ _=>rfl⟩,by omega,.tl p.length 1 (plnG l.length (p.getD 0 []).length x),.tl p.length 1 (cpX l.length (p.getD 0 []).length (XG (p.getD 0 []).length x)),p.length,fun _=>(p.getD 0 []).length,fun _ _=>l.length,x,⟨rfl,rfl,fun _ _=>rfl⟩,⟨rfl,rfl,fun _ _=>rfl⟩,⟨wkL_refl _,cp_weak⟩,⟨by omega,fun _=>(show (p.getD 0 []).length<=100000 by omega),fun _ _=>(show l.length<=100000 by omega)⟩,rfl⟩)
 exact ⟨h',hc⟩
end
def VNw (l:List Stk) (t:Tst) (p:List (List Int)) (D F:List Int) (er:Int) (i:Int) (A:List Int):List VV:=[I i,I l.length,stD l,.nils,.sl 5 A.length,I er,.nils,.nils,.sl 4 (0+t.T.length),I er,.sl 3 F.length,.sl 2 D.length,.ptr (.own 1 0),stD l,.agg (tsL t),pthD p]
theorem n14_ev (l:List Stk) (t:Tst) (p:List (List Int)) (D F A:List Int) (er:Int) (s:Stk) (i j:Nat) (X:VEx->List VV->List VB->Prop):codeE Try.prog (callN Try.prog noSpec noL 10 20) (fun _=>none) true 10 (ntOf Try.prog 3) 0 (loopB 14 (bodyOf Try.prog 3)) ((160::159::158::dsOw).zip (I j::I s.prof.length::spD s.prof::VNw l t p D F er i A)) ⟨8,[1,2,3,4,5].zip (BOw t D F A)⟩ (obs 8 (160::159::158::dsOw) [1,2,3,4,5] X) =
 (bif decide ((j:Int)<(s.prof.length:Int)) then
 bif decide ((0:Int)<=(j:Int)/\(j:Int)<(s.prof.length:Int)) then
 bif A.length.beq A.length then
 bif roomB (A.length+2) (8) then
 bif inK .i64 ((j:Int)+(1:Int)) then
 X .normal [I ((j:Int)+(1:Int)),I (s.prof.length:Int),.tl s.prof.length 2 (spG s.prof),I (i:Int),I (l.length:Int),stD l,.nils,.sl 5 (A.length+2),I er,.nils,.nils,.sl 4 (0+t.T.length),I er,.sl 3 F.length,.sl 2 D.length,.ptr (.own 1 0),stD l,.agg (tsL t),pthD p] [.cells (tsL t) 25,.vec D.length (dG D) 1 3,.vec F.length (dG F) 1 3,.vec (0+t.T.length) (dG t.T) 1 3,.vec (A.length+2) (catG A.length (dG A) fun (j_1:Nat)=>List.take (1) (List.drop (j_1*(1)) [I (s.prof.getD (j:Int).toNat s0).lo,I (s.prof.getD (j:Int).toNat s0).hi])) (1) 3]
 else False
 else False
 else False
 else False
 else X (VEx.exit 14) [I (j:Int),I (s.prof.length:Int),.tl s.prof.length 2 (spG s.prof),I (i:Int),I (l.length:Int),stD l,.nils,.sl 5 A.length,I er,.nils,.nils,.sl 4 (0+t.T.length),I er,.sl 3 F.length,.sl 2 D.length,.ptr (.own 1 0),stD l,.agg (tsL t),pthD p] [.cells (tsL t) 25,.vec D.length (dG D) 1 3,.vec F.length (dG F) 1 3,.vec (0+t.T.length) (dG t.T) 1 3,.vec A.length (dG A) 1 3]):=by kernel_rfl
def lN14 (l:List Stk) (t:Tst) (p:List (List Int)) (D F A:List Int) (er:Int) (s:Stk) (i:Nat):LT:=fun lock tt h K=>
 FitP lock h tt ⟨8,[1,2,3,4,5].zip (BOw t D F A)⟩ ((160::159::158::dsOw).zip (I 0::I s.prof.length::spD s.prof::VNw l t p D F er i A))/\(s.prof.length<=6/\A.length<=1000)/\∀ E,E=A ++ pO s s.prof.length->K .normal ((160::159::158::dsOw).zip (I s.prof.length::I s.prof.length::spD s.prof::VNw l t p D F er i E)) ⟨8,[1,2,3,4,5].zip (BOw t D F E)⟩
theorem n12_ev (l:List Stk) (t:Tst) (p:List (List Int)) (D F A:List Int) (er:Int) (i:Nat) (X:VEx->List VV->List VB->Prop):codeE Try.prog (callN Try.prog noSpec noL 10 20) (tabB [(14,lN14 l t p D F (A ++ ckE (l.getD i k0)) er (l.getD i k0) i)]) true 10 (ntOf Try.prog 3) 0 (loopB 12 (bodyOf Try.prog 3)) (dsOw.zip (VNw l t p D F er i A)) ⟨6,[1,2,3,4,5].zip (BOw t D F A)⟩ (obs 6 dsOw [1,2,3,4,5] X) =
 (bif decide ((i:Int)<(l.length:Int)) then
 bif decide ((0:Int)<=(i:Int)/\(i:Int)<(l.length:Int)) then
 bif A.length.beq A.length then
 bif roomB (A.length+4) (8) then
 FitP 0 (VH.mk (8) ((5,.vec (A.length+4) (catG A.length (dG A) fun (j:Nat)=>List.take (1) (List.drop (j*(1)) [I (l.getD (i:Int).toNat k0).casks,I (l.getD (i:Int).toNat k0).vol,I (l.getD (i:Int).toNat k0).age,I (l.getD (i:Int).toNat k0).cost])) (1) 3)::(7,.vec 4 (fun (j:Nat)=>List.take (1) (List.drop (j*(1)) [I (l.getD (i:Int).toNat k0).casks,I (l.getD (i:Int).toNat k0).vol,I (l.getD (i:Int).toNat k0).age,I (l.getD (i:Int).toNat k0).cost])) (1) 3)::(6,.cells [I (l.getD (i:Int).toNat k0).casks,I (l.getD (i:Int).toNat k0).vol,I (l.getD (i:Int).toNat k0).age,I (l.getD (i:Int).toNat k0).cost,.tl (l.getD (i:Int).toNat k0).prof.length 2 (spG (l.getD (i:Int).toNat k0).prof)] 32)::(6,.cells [I 0,I 0,I 0,I 0,.nils] 32)::[1,2,3,4,5].zip (BOw t D F A))) ((160,I 0)::(159,I (↑(l.getD (i:Int).toNat k0).prof.length:Int))::(158,.tl (l.getD (i:Int).toNat k0).prof.length 2 (spG (l.getD (i:Int).toNat k0).prof))::(157,.ptr (.own (6) (4)))::(27,.sl 5 (A.length+4))::(156,.sl 5 (A.length+4))::(155,.sl (7) 4)::(154,I (l.getD (i:Int).toNat k0).cost)::(153,.ptr (.own (6) (3)))::(152,I (l.getD (i:Int).toNat k0).age)::(151,.ptr (.own (6) (2)))::(150,I (l.getD (i:Int).toNat k0).vol)::(149,.ptr (.own (6) (1)))::(148,I (l.getD (i:Int).toNat k0).casks)::(147,.ptr (.own (6) 0))::(146,.sl 5 A.length)::(30,.ptr (.own (6) 0))::(145,.agg [I (l.getD (i:Int).toNat k0).casks,I (l.getD (i:Int).toNat k0).vol,I (l.getD (i:Int).toNat k0).age,I (l.getD (i:Int).toNat k0).cost,.tl (l.getD (i:Int).toNat k0).prof.length 2 (spG (l.getD (i:Int).toNat k0).prof)])::(144,.tp [I (l.getD (i:Int).toNat k0).casks,I (l.getD (i:Int).toNat k0).vol,I (l.getD (i:Int).toNat k0).age,I (l.getD (i:Int).toNat k0).cost,.tl (l.getD (i:Int).toNat k0).prof.length 2 (spG (l.getD (i:Int).toNat k0).prof)])::(143,.bool true)::(143,.bool (decide ((i:Int)<(l.length:Int))))::dsOw.zip (VNw l t p D F er (i:Int) A)) (VH.mk 8 ([1,2,3,4,5].zip (BOw t D F (A ++ ckE (l.getD i k0))))) ((160::159::158::dsOw).zip (I 0::I (↑(l.getD i k0).prof.length:Int)::spD (l.getD i k0).prof::VNw l t p D F er (i:Int) (A ++ ckE (l.getD i k0))))/\((l.getD i k0).prof.length<=6/\(A ++ ckE (l.getD i k0)).length<=1000)/\∀ (E:List Int),E=A ++ ckE (l.getD i k0) ++ pO (l.getD i k0) (l.getD i k0).prof.length->bif inK .i64 ((i:Int)+(1:Int)) then
 X .normal [I ((i:Int)+(1:Int)),I (l.length:Int),stD l,.nils,.sl 5 E.length,I er,.nils,.nils,.sl 4 (0+t.T.length),I er,.sl 3 F.length,.sl 2 D.length,.ptr (.own 1 0),stD l,.agg (tsL t),pthD p] [.cells (tsL t) 25,.vec D.length (dG D) 1 3,.vec F.length (dG F) 1 3,.vec (0+t.T.length) (dG t.T) 1 3,.vec E.length (dG E) 1 3]
 else False
 else False
 else False
 else False
 else X (VEx.exit 12) [I (i:Int),I (l.length:Int),stD l,.nils,.sl 5 A.length,I er,.nils,.nils,.sl 4 (0+t.T.length),I er,.sl 3 F.length,.sl 2 D.length,.ptr (.own 1 0),stD l,.agg (tsL t),pthD p] [.cells (tsL t) 25,.vec D.length (dG D) 1 3,.vec F.length (dG F) 1 3,.vec (0+t.T.length) (dG t.T) 1 3,.vec A.length (dG A) 1 3]):=by kernel_rfl
def lN12 (l:List Stk) (t:Tst) (p:List (List Int)):LT:=fun lock tt h K=>∃ (D F:List Int) (er:Int),
 FitP lock h tt ⟨5,[1,2,3,4].zip [.cells (tsL t) 25,vO D,vO F,.vec (0+t.T.length) (dG t.T) 1 3]⟩ (dsOw.zip [I 0,I l.length,stD l,.nils,.nils,I er,.nils,.nils,.sl 4 (0+t.T.length),I er,.sl 3 F.length,.sl 2 D.length,.ptr (.own 1 0),stD l,.agg (tsL t),pthD p])/\(l.length<=8/\∀ i,(l.getD i k0).prof.length<=6)/\∀ A,A=cO l l.length->K .normal (dsOw.zip (VNw l t p D F er l.length A)) ⟨6,[1,2,3,4,5].zip (BOw t D F A)⟩
def VNe (l:List Stk) (t:Tst) (p:List (List Int)) (D F A:List Int) (er:Int) (B:List Int):List VV:=[I l.length,I l.length,stD l,.sl 6 B.length,.sl 5 A.length,I er,.nils,.nils,.sl 4 (0+t.T.length),I er,.sl 3 F.length,.sl 2 D.length,.ptr (.own 1 0),stD l,.agg (tsL t),pthD p]
theorem n16_ev (l:List Stk) (t:Tst) (p:List (List Int)) (D F A B:List Int) (er:Int) (i:Nat) (X:VEx->List VV->List VB->Prop):codeE Try.prog (callN Try.prog noSpec noL 10 20) (fun _=>none) true 10 (ntOf Try.prog 3) 0 (loopB 16 (bodyOf Try.prog 3)) ((175::174::173::dsOw).zip (I i::I p.length::pthD p::VNe l t p D F A er B)) ⟨7,[1,2,3,4,5,6].zip (BOe t D F A B)⟩ (obs 7 (175::174::173::dsOw) [1,2,3,4,5,6] X) =
 (bif decide ((i:Int)<(p.length:Int)) then
 bif decide ((0:Int)<=(i:Int)/\(i:Int)<(p.length:Int)) then
 bif B.length.beq B.length then
 bif roomB (B.length+(p.getD (i:Int).toNat []).length) (8) then
 bif inK .i64 ((i:Int)+(1:Int)) then
 X .normal [I ((i:Int)+(1:Int)),I (p.length:Int),pthD p,I (l.length:Int),I (l.length:Int),stD l,.sl 6 (B.length+(p.getD (i:Int).toNat []).length),.sl 5 A.length,I er,.nils,.nils,.sl 4 (0+t.T.length),I er,.sl 3 F.length,.sl 2 D.length,.ptr (.own 1 0),stD l,.agg (tsL t),pthD p] [.cells (tsL t) 25,.vec D.length (dG D) 1 3,.vec F.length (dG F) 1 3,.vec (0+t.T.length) (dG t.T) 1 3,.vec A.length (dG A) 1 3,.vec (B.length+(p.getD (i:Int).toNat []).length) (catG B.length (dG B) (dG (p.getD (i:Int).toNat []))) (1) 3]
 else False
 else False
 else False
 else False
 else X (VEx.exit 16) [I (i:Int),I (p.length:Int),pthD p,I (l.length:Int),I (l.length:Int),stD l,.sl 6 B.length,.sl 5 A.length,I er,.nils,.nils,.sl 4 (0+t.T.length),I er,.sl 3 F.length,.sl 2 D.length,.ptr (.own 1 0),stD l,.agg (tsL t),pthD p] [.cells (tsL t) 25,.vec D.length (dG D) 1 3,.vec F.length (dG F) 1 3,.vec (0+t.T.length) (dG t.T) 1 3,.vec A.length (dG A) 1 3,.vec B.length (dG B) 1 3]):=by kernel_rfl
def lN16 (l:List Stk) (t:Tst) (p:List (List Int)):LT:=fun lock tt h K=>∃ (D F A:List Int) (er:Int),
 FitP lock h tt ⟨6,[1,2,3,4,5].zip (BOw t D F A)⟩ ((175::174::173::dsOw).zip (I 0::I p.length::pthD p::VNw l t p D F er l.length A))/\(p.length<=6/\∀ i,(p.getD i []).length<=6)/\∀ B,B=fO p p.length->K .normal ((175::174::173::dsOw).zip (I p.length::I p.length::pthD p::VNe l t p D F A er B)) ⟨7,[1,2,3,4,5,6].zip (BOe t D F A B)⟩
section
variable {l:List Stk} {t:Tst} {p:List (List Int)} {D F:List Int} {er:Int}
theorem lN14_ok {A:List Int} {s:Stk} {i:Nat}:LSound Try.prog true (.block 14 (.loop (loopB 14 (bodyOf Try.prog 3)))) (ntOf Try.prog 3) (lN14 l t p D F A er s i):=by
 rintro lock tt h K ⟨hf,⟨hs,hA⟩,k1⟩
 have key:LSound Try.prog true (.block 14 (.loop (loopB 14 (bodyOf Try.prog 3)))) (ntOf Try.prog 3) (fun lock tt h K=>FitP lock h tt ⟨8,[1,2,3,4,5].zip (BOw t D F (A ++ []))⟩ ((160::159::158::dsOw).zip (I 0::I s.prof.length::spD s.prof::VNw l t p D F er i (A ++ []))) /\
   K .normal ((160::159::158::dsOw).zip (I s.prof.length::I s.prof.length::spD s.prof::VNw l t p D F er i (A ++ pO s s.prof.length))) ⟨8,[1,2,3,4,5].zip (BOw t D F (A ++ pO s s.prof.length))⟩):=by
  refine loop_row hmix good0 (un:=10) (ds:=160::159::158::dsOw) (ns:=[1,2,3,4,5]) (nx:=8) (fun j:Nat=>I j::I s.prof.length::spD s.prof::VNw l t p D F er i (A ++ pO s j)) (fun j=>BOw t D F (A ++ pO s j)) (fun j=>j<=s.prof.length) (fun j=>s.prof.length - j)
   (fun _ e vs bs=>e=.exit 14/\vs=I s.prof.length::I s.prof.length::spD s.prof::VNw l t p D F er i (A ++ pO s s.prof.length)/\bs=BOw t D F (A ++ pO s s.prof.length)) noL_ok ?_ ?_
  ·intro j hj
   have hlen:(A ++ pO s j).length=A.length+2*j:=by rw [List.length_append,pO_len]
   refine cast (n14_ev l t p D F (A ++ pO s j) er s i j _).symm ?_
   refine cond_d (fun h=>?_) (fun h=>?_)
   ·refine cond_dk ⟨by omega,by omega⟩ (cond_k (Nat.beq_refl _) (cond_k (roomO8 (by omega)) (cond_r (by omega) ⟨j+1,by show j+1<=_; omega,by dsimp only; omega,?_,?_,fun _ _ _ h=>h⟩)))
    ·show _=(I ((j+1:Nat):Int))::_::_::VNw l t p D F er i (A ++ pO s (j+1))
     rw [pO_s,<- List.append_assoc]
     unfold VNw
     rw [show (A ++ pO s j ++ [(s.prof.getD j s0).lo,(s.prof.getD j s0).hi]).length=(A ++ pO s j).length+2 from List.length_append]
     rfl
    ·show fitBs (BOw t D F (A ++ pO s (j+1))) _
     rw [pO_s,<- List.append_assoc]
     refine ⟨VB.fit_refl _,VB.fit_refl _,VB.fit_refl _,VB.fit_refl _,fit_vO rfl (fun q hq=>?_),trivial⟩
     rw [show (j:Int).toNat=j from Int.toNat_natCast j]
     match q,hq with
     | 0,_=>rfl
     | 1,_=>rfl
   ·obtain rfl:j=s.prof.length:=by omega
    exact ⟨rfl,rfl,rfl⟩
  ·rintro lock tt h K ⟨hf,k1⟩
   refine ⟨0,hf,Nat.zero_le _,?_⟩
   rintro e vs bs ⟨rfl,rfl,rfl⟩
   exact k1
 exact key lock tt h K ⟨by rw [List.append_nil]; exact hf,k1 _ rfl⟩
theorem lN12s_ok (hl:l.length<=8) (hp:∀ i,(l.getD i k0).prof.length<=6):LSound Try.prog true (.block 12 (.loop (loopB 12 (bodyOf Try.prog 3)))) (ntOf Try.prog 3) (fun lock tt h K=>
  FitP lock h tt ⟨6,[1,2,3,4,5].zip (BOw t D F [])⟩ (dsOw.zip (VNw l t p D F er 0 []))/\K .normal (dsOw.zip (VNw l t p D F er l.length (cO l l.length))) ⟨6,[1,2,3,4,5].zip (BOw t D F (cO l l.length))⟩):=by
 refine loop_rowD hmix good0 (un:=10) (ds:=dsOw) (ns:=[1,2,3,4,5]) (nx:=6) (lsp:=fun i:Nat=>tabB [(14,lN14 l t p D F (cO l i ++ ckE (l.getD i k0)) er (l.getD i k0) i)]) (fun i:Nat=>VNw l t p D F er i (cO l i)) (fun i=>BOw t D F (cO l i)) (fun i=>i<=l.length) (fun i=>l.length - i)
  (fun _ e vs bs=>e=.exit 12/\vs=VNw l t p D F er l.length (cO l l.length)/\bs=BOw t D F (cO l l.length)) (fun _ _=>lsp_one (f:=3) (by kernel_rfl) lN14_ok) ?_ ?_
 ·intro i hi
  have hlen:=cO_len hp i
  refine cast (n12_ev l t p D F (cO l i) er i _).symm ?_
  refine cond_d (fun h=>?_) (fun h=>?_)
  ·refine cond_dk ⟨by omega,by omega⟩ (cond_k (Nat.beq_refl _) (cond_k (roomO8 (by omega)) ⟨?_,⟨hp i,by rw [List.length_append]; show _+4<=_; omega⟩,fun E hE=>?_⟩))
   ·have e:(cO l i ++ ckE (l.getD i k0)).length=(cO l i).length+4:=List.length_append
    refine ⟨⟨rfl,rfl,VB.fit_refl _,VB.fit_refl _,VB.fit_refl _,VB.fit_refl _,fit_vO rfl (fun q hq=>?_),trivial⟩,rfl,rfl,rfl,rfl,rfl,rfl,rfl,?_,rfl,rfl,rfl,rfl,rfl,rfl,rfl,rfl,rfl,rfl,rfl,trivial⟩
    ·rw [show (i:Int).toNat=i from Int.toNat_natCast i]
     match q,hq with
     | 0,_=>rfl
     | 1,_=>rfl
     | 2,_=>rfl
     | 3,_=>rfl
    ·rw [e]; rfl
   ·subst hE
    rw [<- cO_s]
    exact cond_r (by omega) ⟨i+1,by show i+1<=_; omega,by dsimp only; omega,rfl,fitBs_refl _,fun _ _ _ h=>h⟩
  ·obtain rfl:i=l.length:=by omega
   exact ⟨rfl,rfl,rfl⟩
 ·rintro lock tt h K ⟨hf,k1⟩
  refine ⟨0,hf,Nat.zero_le _,?_⟩
  rintro e vs bs ⟨rfl,rfl,rfl⟩
  exact k1
theorem lN12_ok:LSound Try.prog true (.block 12 (.loop (loopB 12 (bodyOf Try.prog 3)))) (ntOf Try.prog 3) (lN12 l t p):=by
 rintro lock tt h K ⟨D,F,er,hf,⟨hl,hp⟩,k1⟩
 refine ghost_row (d:=27) (nx:=5) (bs:=[1,2,3,4].zip [.cells (tsL t) 25,vO D,vO F,.vec (0+t.T.length) (dG t.T) 1 3]) (t0:=[142,141,140,28,26,25,18,15,17,8,7,4,0,1,2].zip [I 0,I l.length,stD l,.nils,I er,.nils,.nils,.sl 4 (0+t.T.length),I er,.sl 3 F.length,.sl 2 D.length,.ptr (.own 1 0),stD l,.agg (tsL t),pthD p]) (dG []) 1 3 (lN12s_ok (t:=t) (p:=p) (D:=D) (F:=F) (er:=er) hl hp) (T:=fun lock tt h K=>FitP lock h tt ⟨5,[1,2,3,4].zip [.cells (tsL t) 25,vO D,vO F,.vec (0+t.T.length) (dG t.T) 1 3]⟩ (dsOw.zip [I 0,I l.length,stD l,.nils,.nils,I er,.nils,.nils,.sl 4 (0+t.T.length),I er,.sl 3 F.length,.sl 2 D.length,.ptr (.own 1 0),stD l,.agg (tsL t),pthD p])/\K .normal (dsOw.zip (VNw l t p D F er l.length (cO l l.length))) ⟨6,[1,2,3,4,5].zip (BOw t D F (cO l l.length))⟩) ?_ lock tt h K ⟨hf,k1 _ rfl⟩
 rintro lock tt h K ⟨hf,k1⟩
 refine ⟨⟨hf.1,?_⟩,⟨⟨rfl,rfl,VB.fit_refl _,VB.fit_refl _,VB.fit_refl _,VB.fit_refl _,VB.fit_refl _,trivial⟩,rfl,rfl,rfl,rfl,rfl,rfl,rfl,rfl,rfl,rfl,rfl,rfl,rfl,rfl,rfl,rfl,trivial⟩,k1⟩
 obtain ⟨a1,a2,a3,a4,a5,a6,a7,a8,a9,a10,a11,a12,a13,a14,a15,a16,_⟩:=hf.2
 exact ⟨a5,a1,a2,a3,a4,a6,a7,a8,a9,a10,a11,a12,a13,a14,a15,a16,trivial⟩
theorem lN16s_ok {A:List Int} (hl:p.length<=6) (hp:∀ i,(p.getD i []).length<=6):LSound Try.prog true (.block 16 (.loop (loopB 16 (bodyOf Try.prog 3)))) (ntOf Try.prog 3) (fun lock tt h K=>
  FitP lock h tt ⟨7,[1,2,3,4,5,6].zip (BOe t D F A [])⟩ ((175::174::173::dsOw).zip (I 0::I p.length::pthD p::VNe l t p D F A er []))/\K .normal ((175::174::173::dsOw).zip (I p.length::I p.length::pthD p::VNe l t p D F A er (fO p p.length))) ⟨7,[1,2,3,4,5,6].zip (BOe t D F A (fO p p.length))⟩):=by
 refine loop_row hmix good0 (un:=10) (ds:=175::174::173::dsOw) (ns:=[1,2,3,4,5,6]) (nx:=7) (fun i:Nat=>I i::I p.length::pthD p::VNe l t p D F A er (fO p i)) (fun i=>BOe t D F A (fO p i)) (fun i=>i<=p.length) (fun i=>p.length - i)
  (fun _ e vs bs=>e=.exit 16/\vs=I p.length::I p.length::pthD p::VNe l t p D F A er (fO p p.length)/\bs=BOe t D F A (fO p p.length)) noL_ok ?_ ?_
 ·intro i hi
  have hlen:=fO_len hp i
  have hpi:=hp i
  refine cast (n16_ev l t p D F A (fO p i) er i _).symm ?_
  refine cond_d (fun h=>?_) (fun h=>?_)
  ·rw [show (i:Int).toNat=i from Int.toNat_natCast i]
   refine cond_dk ⟨by omega,by omega⟩ (cond_k (Nat.beq_refl _) (cond_k (roomO8 (by omega)) (cond_r (by omega) ⟨i+1,by show i+1<=_; omega,by dsimp only; omega,?_,?_,fun _ _ _ h=>h⟩)))
   ·show _=(I ((i+1:Nat):Int))::_::_::VNe l t p D F A er (fO p (i+1))
    rw [fO_s]
    unfold VNe
    rw [List.length_append]
    rfl
   ·show fitBs (BOe t D F A (fO p (i+1))) _
    rw [fO_s]
    exact ⟨VB.fit_refl _,VB.fit_refl _,VB.fit_refl _,VB.fit_refl _,VB.fit_refl _,fit_vO rfl (fun q hq=>rfl),trivial⟩
  ·obtain rfl:i=p.length:=by omega
   exact ⟨rfl,rfl,rfl⟩
 ·rintro lock tt h K ⟨hf,k1⟩
  refine ⟨0,hf,Nat.zero_le _,?_⟩
  rintro e vs bs ⟨rfl,rfl,rfl⟩
  exact k1
theorem lN16_ok:LSound Try.prog true (.block 16 (.loop (loopB 16 (bodyOf Try.prog 3)))) (ntOf Try.prog 3) (lN16 l t p):=by
 rintro lock tt h K ⟨D,F,A,er,hf,⟨hl,hp⟩,k1⟩
 refine ghost_row (d:=28) (nx:=6) (bs:=[1,2,3,4,5].zip (BOw t D F A)) (t0:=[175,174,173,142,141,140,27,26,25,18,15,17,8,7,4,0,1,2].zip [I 0,I p.length,pthD p,I l.length,I l.length,stD l,.sl 5 A.length,I er,.nils,.nils,.sl 4 (0+t.T.length),I er,.sl 3 F.length,.sl 2 D.length,.ptr (.own 1 0),stD l,.agg (tsL t),pthD p]) (dG []) 1 3 (lN16s_ok (l:=l) (t:=t) (p:=p) (D:=D) (F:=F) (A:=A) (er:=er) hl hp) (T:=fun lock tt h K=>FitP lock h tt ⟨6,[1,2,3,4,5].zip (BOw t D F A)⟩ ((175::174::173::dsOw).zip (I 0::I p.length::pthD p::VNw l t p D F er l.length A))/\K .normal ((175::174::173::dsOw).zip (I p.length::I p.length::pthD p::VNe l t p D F A er (fO p p.length))) ⟨7,[1,2,3,4,5,6].zip (BOe t D F A (fO p p.length))⟩) ?_ lock tt h K ⟨hf,k1 _ rfl⟩
 rintro lock tt h K ⟨hf,k1⟩
 refine ⟨⟨hf.1,?_⟩,⟨⟨rfl,rfl,VB.fit_refl _,VB.fit_refl _,VB.fit_refl _,VB.fit_refl _,VB.fit_refl _,VB.fit_refl _,trivial⟩,rfl,rfl,rfl,rfl,rfl,rfl,rfl,rfl,rfl,rfl,rfl,rfl,rfl,rfl,rfl,rfl,rfl,rfl,rfl,trivial⟩,k1⟩
 obtain ⟨a1,a2,a3,a4,a5,a6,a7,a8,a9,a10,a11,a12,a13,a14,a15,a16,a17,a18,a19,_⟩:=hf.2
 exact ⟨a7,a1,a2,a3,a4,a5,a6,a8,a9,a10,a11,a12,a13,a14,a15,a16,a17,a18,a19,trivial⟩
end
def peR (l:List Stk) (t:Tst) (p:List (List Int)) (er:Int):FuncId × Spec1:=(17,fun _ args h K=>match args with
 | [.tl L s g,z,.tl L2 s2 g2]=>VV.tl L s g=stD l/\z=.agg (tsL t)/\VV.tl L2 s2 g2=pthD p/\(p.length<=6/\∀ i,(p.getD i []).length<=6)/\K (.ret (.tup [.nils,I er])) h
 | _=>False)
theorem ze_ev (l:List Stk) (t:Tst) (p:List (List Int)) (G:Nat->Nat->Int) (er:Int) (Q:VRes->Prop):callN Try.prog (tabS [grY l t false,wiR p,peR l t p er,cheapA,inR,spR,alT]) (atF 3 [(0,lO0 l t p G),(4,lO4 l t p G),(12,lN12 l t p),(16,lN16 l t p)]) 10 20 0 (.fn 3) [stD l,.agg (tsL t),pthD p] ⟨1,[(0,.bun 7 0 l.length G 3)]⟩ (fun r _=>Q r) =
 (isD (VH.mk (2) [(1,.cells (tsL t) 25),(0,.bun 7 0 l.length G 3)]) 4 (stD l) (stD l)/\isD (VH.mk (2) [(1,.cells (tsL t) 25),(0,.bun 7 0 l.length G 3)]) 4 (VV.agg (tsL t)) (VV.agg (tsL t))/\greatF l t (64:Int)=false/\isD (VH.mk (2) [(1,.cells (tsL t) 25),(0,.bun 7 0 l.length G 3)]) 4 (pthD p) (pthD p)/\∀ (b:Bool),(b=false->p.length<=6/\∀ (i:Nat),(p.getD i []).length<=6)->bif b then
 Q (VRes.ret (VV.bool true))
 else FitP 0 (VH.mk 2 ([0,1].zip [bnO l 0 G,.cells (tsL t) 25])) (dsO.zip [I 0,I (l.length:Int),stD l,.nils,.nils,.ptr (.own 1 0),stD l,.agg (tsL t),pthD p]) (VH.mk 2 ([0,1].zip [bnO l 0 G,.cells (tsL t) 25])) (dsO.zip [I 0,I (l.length:Int),stD l,.nils,.nils,.ptr (.own 1 0),stD l,.agg (tsL t),pthD p])/\(l.length<=8/\∀ (i:Nat),(l.getD i k0).prof.length.le 6)/\∀ (D:List Int),D=cO l l.length->∃ (D_1:List Int),FitP 0 (VH.mk 3 ([0,1,2].zip (BO l t G D))) ((78,I 0)::(77,I (p.length:Int))::(76,pthD p)::dsO.zip (VO l t p (l.length:Int) D)) (VH.mk 3 ([0,1,2].zip (BO l t G D_1))) ((78::77::76::dsO).zip (I 0::I (p.length:Int)::pthD p::VO l t p (l.length:Int) D_1))/\(D_1=cO l l.length/\p.length<=6/\∀ (i:Nat),(p.getD i []).length.le 6)/\∀ (F:List Int),F=fO p p.length->bif roomB (0+t.T.length) (8) then
 stD l=stD l/\VV.agg (tsL t)=VV.agg (tsL t)/\pthD p=pthD p/\(p.length<=6/\∀ (i:Nat),(p.getD i []).length.le 6)/\stD l=stD l/\VV.agg (tsL t)=VV.agg (tsL t)/\pthD p=pthD p/\(p.length<=6/\∀ (i:Nat),(p.getD i []).length.le 6)/\∃ (l_1:List Stk),∃ (t_1:Tst),isD (VH.mk (5) ((4,.vec (0+t.T.length) (catG 0 (fun (j:Nat)=>List.take (1) (List.drop (j*(1)) [])) (dG t.T)) (1) 3)::(4,.vec 0 (fun (j:Nat)=>List.take (1) (List.drop (j*(1)) [])) (1) 3)::[0,1,2,3].zip (BF l t G D_1 F))) 4 (stD l) (stD l_1)/\isD (VH.mk (5) ((4,.vec (0+t.T.length) (catG 0 (fun (j:Nat)=>List.take (1) (List.drop (j*(1)) [])) (dG t.T)) (1) 3)::(4,.vec 0 (fun (j:Nat)=>List.take (1) (List.drop (j*(1)) [])) (1) 3)::[0,1,2,3].zip (BF l t G D_1 F))) 4 (VV.agg (tsL t)) (VV.agg (tsL t_1))/\∃ (D:List Int),∃ (F_1:List Int),∃ (er_1:Int),FitP 0 (VH.mk (5) ((4,.vec (0+t.T.length) (catG 0 (fun (j:Nat)=>List.take (1) (List.drop (j*(1)) [])) (dG t.T)) (1) 3)::(4,.vec 0 (fun (j:Nat)=>List.take (1) (List.drop (j*(1)) [])) (1) 3)::[0,1,2,3].zip (BF l t G D_1 F))) ((142,I 0)::(141,I (l.length:Int))::(140,stD l)::(28,.nils)::(27,.nils)::(139,.tup [.any,I (chpC l_1 t_1 (0:Int) (5:Int)),I (chpE l_1 t_1 (0:Int) (5:Int))])::(138,.agg (tsL t))::(137,stD l)::(26,I er)::(25,.nils)::(136,I er)::(135,.nils)::(130,.tup [.nils,I er])::(134,.tup [.nils,I er])::(133,pthD p)::(132,.agg (tsL t))::(131,stD l)::(100,.bool false)::(100,.bool (decide ((0:Int)<(0:Int))))::(99,I 0)::(98,I 0)::(97,.nils)::(18,.nils)::(17,I er)::(16,.nils)::(96,I er)::(95,.nils)::(90,.tup [.nils,I er])::(94,.tup [.nils,I er])::(93,pthD p)::(92,.agg (tsL t))::(91,stD l)::(15,.sl (4) (0+t.T.length))::(89,.sl (4) (0+t.T.length))::(88,.tl t.T.length 1 (dG t.T))::(87,.ptr (.own 1 0))::(86,.sl (4) 0)::(78::77::76::dsO).zip (I (p.length:Int)::I (p.length:Int)::pthD p::VF l t p D_1 F)) (VH.mk 5 ([1,2,3,4].zip [.cells (tsL t) 25,vO D,vO F_1,.vec (0+t.T.length) (dG t.T) 1 3])) (dsOw.zip [I 0,I (l.length:Int),stD l,.nils,.nils,I er_1,.nils,.nils,.sl 4 (0+t.T.length),I er_1,.sl 3 F_1.length,.sl 2 D.length,.ptr (.own 1 0),stD l,.agg (tsL t),pthD p])/\(l.length<=8/\∀ (i:Nat),(l.getD i k0).prof.length.le 6)/\∀ (A:List Int),A=cO l l.length->∃ (D_2:List Int),∃ (F:List Int),∃ (A_1:List Int),∃ (er:Int),FitP 0 (VH.mk 6 ([1,2,3,4,5].zip (BOw t D F_1 A))) ((175,I 0)::(174,I (p.length:Int))::(173,pthD p)::dsOw.zip (VNw l t p D F_1 er_1 (l.length:Int) A)) (VH.mk 6 ([1,2,3,4,5].zip (BOw t D_2 F A_1))) ((175::174::173::dsOw).zip (I 0::I (p.length:Int)::pthD p::VNw l t p D_2 F er (l.length:Int) A_1))/\(p.length<=6/\∀ (i:Nat),(p.getD i []).length.le 6)/\∀ (B:List Int),B=fO p p.length->∃ (L:Nat),∃ (n:Nat->Int),isD (VH.mk 7 ([1,2,3,4,5,6].zip (BOe t D_2 F A_1 B))) 2 (VV.sl 2 D_2.length) (d1 L n)/\isD (VH.mk 7 ([1,2,3,4,5,6].zip (BOe t D_2 F A_1 B))) 2 (VV.sl 5 A_1.length) (d1 L n)/\L<=100000/\∃ (L:Nat),∃ (n:Nat->Int),isD (VH.mk 7 ([1,2,3,4,5,6].zip (BOe t D_2 F A_1 B))) 2 (VV.sl 3 F.length) (d1 L n)/\isD (VH.mk 7 ([1,2,3,4,5,6].zip (BOe t D_2 F A_1 B))) 2 (VV.sl 6 B.length) (d1 L n)/\L<=100000/\∃ (L:Nat),∃ (n:Nat->Int),isD (VH.mk 7 ([1,2,3,4,5,6].zip (BOe t D_2 F A_1 B))) 2 (VV.tl t.T.length 1 (dG t.T)) (d1 L n)/\isD (VH.mk 7 ([1,2,3,4,5,6].zip (BOe t D_2 F A_1 B))) 2 (VV.sl 4 (0+t.T.length)) (d1 L n)/\L<=100000/\∃ (x':VV),∃ (y':VV),∃ (p:Nat),∃ (q:Nat->Nat),∃ (r:Nat->Nat->Nat),∃ (v:Nat->Nat->Nat->Int),isD (VH.mk 7 ([1,2,3,4,5,6].zip (BOe t D_2 F A_1 B))) 2 VV.nils x'/\isD (VH.mk 7 ([1,2,3,4,5,6].zip (BOe t D_2 F A_1 B))) 2 VV.nils y'/\(wkL [x'] [d3 p q r v]/\wkL [y'] [d3 p q r v])/\okD p q r/\bif decide (er=er) then
 Q (VRes.ret (VV.bool true))
 else Q (VRes.ret (VV.bool false))
 else False):=by kernel_rfl
theorem zg_ev (l:List Stk) (t:Tst) (p:List (List Int)) (Q:VRes->Prop):callN Try.prog (tabS [grY l t true,alT]) noL 10 20 0 (.fn 3) [stD l,.agg (tsL t),pthD p] ⟨0,[]⟩ (fun r _=>Q r) =
 (isD (VH.mk (0+1) [(0,.cells (tsL t) 25)]) 4 (stD l) (stD l)/\isD (VH.mk (0+1) [(0,.cells (tsL t) 25)]) 4 (VV.agg (tsL t)) (VV.agg (tsL t))/\greatF l t (64:Int)=true/\Q (VRes.ret (VV.bool true))):=by kernel_rfl
end Go.Sx.Bln
