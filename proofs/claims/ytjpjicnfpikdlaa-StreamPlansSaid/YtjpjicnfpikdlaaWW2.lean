/- stream: Qf2 CxPd Ka1 Ka2 Ka3 Ka4 Ka5 Ka6 Ka7 Ka8 Ka9, in one text. -/
import Derived.Test.YtjpjicnfpikdlaaWW1
import Derived.Test.YtjpjicnfpikdlaaSxSp
import Derived.Test.YtjpjicnfpikdlaaSxY
import Derived.Test.YtjpjicnfpikdlaaSxQ
import Derived.Test.YtjpjicnfpikdlaaProg
namespace Go.Sx.Srn
open Go Go.Sx Go.Proofs
set_option maxRecDepth 1000000
def byG (B:List Int) (j:Nat):List VV:=[.int .u8 (B.getD j 0)]
def byD (B:List Int):VV:=.tl B.length 1 (byG B)
def dsO:List Nat:=[14,13,12,11,10,0,1,2,3,4]
def VO (R:List Int) (l:List Brn) (B:List Int) (hour more:Int) (S:List Int) (er:Int) (i:Nat) (o:VV):List VV:=[I i,o,I er,inD S,.bool false,inD R,buD l,byD B,.int .u8 hour,.int .u32 more]
theorem spo_ev (R:List Int) (l:List Brn) (B:List Int) (hour more:Int) (S:List Int) (er:Int) (i:Nat) (g:Nat->List VV) (X:VEx->List VV->List VB->Prop):codeE Try.prog (callN Try.prog noSpec noL 10 20) (fun _=>none) true 10 (ntOf Try.prog 10) 0 (loopB 0 (bodyOf Try.prog 10)) (dsO.zip (VO R l B hour more S er i (.sl 0 i))) ⟨1,[0].zip [.vec i g 1 3]⟩ (obs 1 dsO [0] X) =
 (bif decide ((↑i:Int)<(↑l.length:Int)) then
 bif decide ((↑B.length:Int) > (0:Int)) then
 bif decide ((0:Int)<=(↑i:Int)/\(↑i:Int)<(↑l.length:Int)) then
 bif decide ((↑B.length:Int)=(0:Int)) then
 False
 else bif decide ((0:Int)<=remZ (↑i:Int) (↑B.length:Int)/\remZ (↑i:Int) (↑B.length:Int)<(↑B.length:Int)) then
 bif inK .i64 (B.getD (remZ (↑i:Int) (↑B.length:Int)).toNat (0:Int)) then
 bif decide ((0:Int)<=(↑i:Int)/\(↑i:Int)<(↑l.length:Int)) then
 bif decide ((0:Int)<=(↑i:Int)/\(↑i:Int)<(↑l.length:Int)) then
 bif inK .i64 ((l.getD (↑i:Int).toNat z0).du - (l.getD (↑i:Int).toNat z0).hr) then
 bif decide ((0:Int)<=(↑i:Int)/\(↑i:Int)<(↑l.length:Int)) then
 bif inK .i64 ((l.getD (↑i:Int).toNat z0).du - (l.getD (↑i:Int).toNat z0).hr - (l.getD (↑i:Int).toNat z0).rd) then
 bif inK .i64 ((l.getD (↑i:Int).toNat z0).du - (l.getD (↑i:Int).toNat z0).hr - (l.getD (↑i:Int).toNat z0).rd+(1:Int)) then
 bif decide ((l.getD (↑i:Int).toNat z0).du - (l.getD (↑i:Int).toNat z0).hr - (l.getD (↑i:Int).toNat z0).rd+(1:Int)=(0:Int)) then
 False
 else bif inK .i64 ((l.getD (↑i:Int).toNat z0).rd+remZ (B.getD (remZ (↑i:Int) (↑B.length:Int)).toNat (0:Int)) ((l.getD (↑i:Int).toNat z0).du - (l.getD (↑i:Int).toNat z0).hr - (l.getD (↑i:Int).toNat z0).rd+(1:Int))) then
 bif i.beq i then
 bif roomB (i+1) (8) then
 bif inK .i64 ((↑i:Int)+(1:Int)) then
 X .normal [I ((↑i:Int)+(1:Int)),VV.sl 0 (i+1),I er,inD S,VV.bool false,inD R,buD l,byD B,VV.int IntKind.u8 hour,VV.int IntKind.u32 more] [VB.vec (i+1) (catG i g fun (j:Nat)=>List.take (1) (List.drop (j*(1)) [I ((l.getD (↑i:Int).toNat z0).rd+remZ (B.getD (remZ (↑i:Int) (↑B.length:Int)).toNat (0:Int)) ((l.getD (↑i:Int).toNat z0).du - (l.getD (↑i:Int).toNat z0).hr - (l.getD (↑i:Int).toNat z0).rd+(1:Int)))])) (1) 3]
 else False
 else False
 else False
 else False
 else False
 else False
 else False
 else False
 else False
 else False
 else False
 else False
 else False
 else X (VEx.exit 0) [I (↑i:Int),VV.sl 0 i,I er,inD S,VV.bool false,inD R,buD l,byD B,VV.int IntKind.u8 hour,VV.int IntKind.u32 more] [VB.vec i g 1 (3:TypeId)]
 else X (VEx.exit 0) [I (↑i:Int),VV.sl 0 i,I er,inD S,VV.bool false,inD R,buD l,byD B,VV.int IntKind.u8 hour,VV.int IntKind.u32 more] [VB.vec i g 1 (3:TypeId)]):=by kernel_rfl
def otX (l:List Brn) (B:List Int) (i:Nat):Int:=(l.getD i z0).rd+B.getD (i % B.length) 0 % ((l.getD i z0).du - (l.getD i z0).hr - (l.getD i z0).rd+1)
def otF (l:List Brn) (B:List Int):List Int:=if B.length=0 then [] else (List.range l.length).map (otX l B)
def byB (B:List Int):Prop:=True/\∀ i,0<=B.getD i 0/\B.getD i 0<=255
def lO (R:List Int) (l:List Brn) (B:List Int) (hour more:Int) (er:Int):LT:=fun lock tt h K=>
 ∃ S:List Int,FitP lock h tt ⟨0,([]:List Nat).zip []⟩ (dsO.zip (VO R l B hour more S er 0 .nils))/\(lsB R.length l/\R.length<=168/\byB B)/\∀ E:List Int,E=otF l B->K .normal (dsO.zip (VO R l B hour more S er E.length (.sl 0 E.length))) ⟨1,[0].zip [.vec E.length (dG E) 1 3]⟩
def dsC:List Nat:=[17,16,15,13,11,10,0,1,3,4]
def VC (R:List Int) (l:List Brn) (hour more:Int) (S E:List Int) (i:Nat) (c:Bool) (late:Int):List VV:=[I i,.bool c,I late,inD E,inD S,.bool false,inD R,buD l,.int .u8 hour,.int .u32 more]
theorem spc_ev (R:List Int) (l:List Brn) (hour more:Int) (S E:List Int) (i:Nat) (c:Bool) (late:Int) (X:VEx->List VV->List VB->Prop):codeE Try.prog (callN Try.prog noSpec noL 10 20) (fun _=>none) true 10 (ntOf Try.prog 10) 0 (loopB 2 (bodyOf Try.prog 10)) (dsC.zip (VC R l hour more S E i c late)) ⟨1,([]:List Nat).zip []⟩ (obs 1 dsC [] X) =
 (bif decide ((↑i:Int)<(↑S.length:Int)) then
 bif decide ((0:Int)<=(↑i:Int)/\(↑i:Int)<(↑S.length:Int)) then
 bif decide ((0:Int)<=(↑i:Int)/\(↑i:Int)<(↑l.length:Int)) then
 bif decide (S.getD (↑i:Int).toNat (0:Int)<(l.getD (↑i:Int).toNat z0).rd) then
 X VEx.ret [I (↑i:Int),VV.bool c,I late,inD E,inD S,VV.bool false,inD R,buD l,VV.int IntKind.u8 hour,VV.int IntKind.u32 more] []
 else bif decide ((0:Int)<=(↑i:Int)/\(↑i:Int)<(↑S.length:Int)) then
 bif decide ((0:Int)<=(↑i:Int)/\(↑i:Int)<(↑l.length:Int)) then
 bif inK .i64 (S.getD (↑i:Int).toNat (0:Int)+(l.getD (↑i:Int).toNat z0).hr) then
 bif decide ((0:Int)<=(↑i:Int)/\(↑i:Int)<(↑l.length:Int)) then
 bif decide (S.getD (↑i:Int).toNat (0:Int)+(l.getD (↑i:Int).toNat z0).hr > (l.getD (↑i:Int).toNat z0).du) then
 X VEx.ret [I (↑i:Int),VV.bool c,I late,inD E,inD S,VV.bool false,inD R,buD l,VV.int IntKind.u8 hour,VV.int IntKind.u32 more] []
 else bif inK .i64 ((↑i:Int)+(1:Int)) then
 X .normal [I ((↑i:Int)+(1:Int)),VV.bool c,I late,inD E,inD S,VV.bool false,inD R,buD l,VV.int IntKind.u8 hour,VV.int IntKind.u32 more] []
 else False
 else False
 else False
 else False
 else False
 else False
 else False
 else X (VEx.exit 2) [I (↑i:Int),VV.bool c,I late,inD E,inD S,VV.bool false,inD R,buD l,VV.int IntKind.u8 hour,VV.int IntKind.u32 more] []):=by kernel_rfl
def lC (R:List Int) (l:List Brn) (hour more:Int):LT:=fun lock tt h K=>
 ∃ (S E:List Int) (c:Bool) (late:Int),FitP lock h tt ⟨1,([]:List Nat).zip []⟩ (dsC.zip (VC R l hour more S E 0 c late))/\(lsB R.length l/\R.length<=168/\S.length=l.length/\dvB l S)/\K .normal (dsC.zip (VC R l hour more S E S.length c late)) ⟨1,([]:List Nat).zip []⟩
def dsX:List Nat:=[20,18,13,11,10,0,1,3,4]
def VX (R:List Int) (l:List Brn) (hour more:Int) (S E:List Int) (i:Nat) (e:Int):List VV:=[I i,I e,inD E,inD S,.bool false,inD R,buD l,.int .u8 hour,.int .u32 more]
theorem spx_ev (R:List Int) (l:List Brn) (hour more:Int) (S E:List Int) (i:Nat) (e:Int) (X:VEx->List VV->List VB->Prop):codeE Try.prog (callN Try.prog noSpec noL 10 20) (fun _=>none) true 10 (ntOf Try.prog 10) 0 (loopB 4 (bodyOf Try.prog 10)) (dsX.zip (VX R l hour more S E i e)) ⟨1,([]:List Nat).zip []⟩ (obs 1 dsX [] X) =
 (bif decide ((↑i:Int)<(↑S.length:Int)) then
 bif decide ((0:Int)<=(↑i:Int)/\(↑i:Int)<(↑S.length:Int)) then
 bif decide ((0:Int)<=(↑i:Int)/\(↑i:Int)<(↑E.length:Int)) then
 bif !decide (S.getD (↑i:Int).toNat (0:Int)=E.getD (↑i:Int).toNat (0:Int)) then
 bif decide ((0:Int)<=(↑i:Int)/\(↑i:Int)<(↑E.length:Int)) then
 bif decide ((0:Int)<=(↑i:Int)/\(↑i:Int)<(↑S.length:Int)) then
 bif decide (E.getD (↑i:Int).toNat (0:Int)<S.getD (↑i:Int).toNat (0:Int)) then
 X VEx.ret [I (↑i:Int),I e,inD E,inD S,VV.bool false,inD R,buD l,VV.int IntKind.u8 hour,VV.int IntKind.u32 more] []
 else X (VEx.exit 4) [I (↑i:Int),I e,inD E,inD S,VV.bool false,inD R,buD l,VV.int IntKind.u8 hour,VV.int IntKind.u32 more] []
 else False
 else False
 else bif inK .i64 ((↑i:Int)+(1:Int)) then
 X .normal [I ((↑i:Int)+(1:Int)),I e,inD E,inD S,VV.bool false,inD R,buD l,VV.int IntKind.u8 hour,VV.int IntKind.u32 more] []
 else False
 else False
 else False
 else X (VEx.exit 4) [I (↑i:Int),I e,inD E,inD S,VV.bool false,inD R,buD l,VV.int IntKind.u8 hour,VV.int IntKind.u32 more] []):=by kernel_rfl
def lX (R:List Int) (l:List Brn) (hour more:Int):LT:=fun lock tt h K=>
 ∃ (S E:List Int) (e:Int),FitP lock h tt ⟨1,([]:List Nat).zip []⟩ (dsX.zip (VX R l hour more S E 0 e))/\(S.length<=100000/\E.length=S.length/\(E=S ∨ lexP S E))/\∀ i:Nat,K .normal (dsX.zip (VX R l hour more S E i e)) ⟨1,([]:List Nat).zip []⟩
def runA (l:List Brn) (er:Int):FuncId × Spec1:=(21,fun _ args h K=>match args with
 | [.tl n s g,y]=>∃ W:List Int,(n=W.length/\s=1/\∀ j,j<n->g j=dG W j)/\y=buD l/\rsE W l=er/\∀ S:List Int,S=rsD W l->K (.ret (.tup [inD S,I er])) h
 | _=>False)
def plA (l:List Brn):FuncId × Spec1:=(32,fun _ args h K=>match args with
 | [x,y,z]=>∃ (W D:List Int),isD h 3 x (inD W)/\y=buD l/\isD h 3 z (inD D)/\(cnP l D/\W.length<=100000)/\∀ (b:Bool) (e:Int),b=okP W l D->e=(if okP W l D=true then endF l D D.length else 0)->K (.ret (.tup [I e,.bool b])) h
 | _=>False)
def rmY (R:List Int):FuncId × Spec1:=(30,fun _ args h K=>match args with
 | [x]=>x=inD R/\rmB R/\K (.ret (.bool true)) h
 | _=>False)
def brY (R:List Int) (l:List Brn):FuncId × Spec1:=(31,fun _ args h K=>match args with
 | [x,y]=>x=I R.length/\y=buD l/\(R.length<=168/\lsB R.length l)/\K (.ret (.bool true)) h
 | _=>False)
def tsL:Nat->List Nat:=fun id=>bif Nat.beq id 13 then [13] else bif Nat.beq id 38 then [21] else []
theorem sp1_ev (R:List Int) (l:List Brn) (B:List Int) (hour more:Int) (Q:VRes->Prop):callSp Try.prog (callN Try.prog (tabS [runA l 1,awT]) noL 10 20) (fun _=>none) 10 tsL 10 [inD R,buD l,byD B,.int .u8 hour,.int .u32 more] ⟨0,[]⟩ (fun r _=>Q r) =
 (bif decide ((↑R.length:Int) > (20:Int)) then
 Q (VRes.ret (VV.bool true))
 else bif decide ((↑l.length:Int) > (5:Int)) then
 Q (VRes.ret (VV.bool true))
 else ∃ (W:List Int),(R.length=W.length/\1=1/\∀ (j:Nat),j<R.length->dG R j=dG W j)/\buD l=buD l/\rsE W l=(1:Int)/\∀ (S:List Int),S=rsD W l->bif decide ((↑S.length:Int)=(0:Int)) then
 Q (VRes.ret (VV.bool true))
 else Q (VRes.ret (VV.bool false))):=by kernel_rfl
theorem sp4_ev (R:List Int) (l:List Brn) (B:List Int) (hour more:Int) (Q:VRes->Prop):callSp Try.prog (callN Try.prog (tabS [runA l 4,rmY R,brY R l,plA l,awT]) noL 10 20) (tabB [(0,lO R l B hour more 4)]) 10 tsL 10 [inD R,buD l,byD B,.int .u8 hour,.int .u32 more] ⟨0,[]⟩ (fun r _=>Q r) =
 (bif decide ((↑R.length:Int) > (20:Int)) then
 Q (VRes.ret (VV.bool true))
 else bif decide ((↑l.length:Int) > (5:Int)) then
 Q (VRes.ret (VV.bool true))
 else ∃ (W:List Int),(R.length=W.length/\1=1/\∀ (j:Nat),j<R.length->dG R j=dG W j)/\buD l=buD l/\rsE W l=(4:Int)/\∀ (S:List Int),S=rsD W l->inD R=inD R/\rmB R/\I (↑R.length:Int)=I (↑R.length:Int)/\buD l=buD l/\(R.length<=168/\lsB R.length l)/\∃ (S_1:List Int),FitP 0 (VH.mk 0 []) [(14,I 0),(13,VV.nils),(63,VV.bool false),(63,VV.bool !true),(62,VV.bool !true),(57,VV.bool false),(61,VV.bool true),(57,VV.bool false),(60,buD l),(57,VV.bool false),(59,I (↑R.length:Int)),(57,VV.bool false),(58,inD R),(57,VV.bool false),(57,VV.bool !true),(56,VV.bool !true),(55,VV.bool true),(54,inD R),(47,VV.bool false),(47,VV.bool !decide ((4:Int)=(4:Int))),(46,VV.bool !decide ((4:Int)=(4:Int))),(44,VV.bool true),(45,I 4),(44,VV.bool true),(44,VV.bool !decide ((4:Int)=(0:Int))),(43,VV.bool !decide ((4:Int)=(0:Int))),(42,I 4),(12,I 4),(11,inD S),(41,I 4),(40,inD S),(36,VV.tup [inD S,I 4]),(39,VV.tup [inD S,I 4]),(38,buD l),(37,inD R),(34,VV.bool false),(34,VV.bool (decide ((↑l.length:Int) > (5:Int)))),(33,VV.bool (decide ((↑l.length:Int) > (5:Int)))),(30,VV.bool false),(32,I (↑l.length:Int)),(30,VV.bool false),(31,buD l),(30,VV.bool false),(30,VV.bool (decide ((↑R.length:Int) > (20:Int)))),(29,VV.bool (decide ((↑R.length:Int) > (20:Int)))),(28,I (↑R.length:Int)),(27,inD R),(10,VV.bool false),(0,inD R),(1,buD l),(2,byD B),(3,VV.int IntKind.u8 hour),(4,VV.int IntKind.u32 more)] (VH.mk 0 ([].zip [])) (dsO.zip (VO R l B hour more S_1 (4:Int) 0 VV.nils))/\(lsB R.length l/\R.length<=168/\byB B)/\∀ (E:List Int),E=otF l B->∃ (W:List Int),∃ (D:List Int),isD (VH.mk 1 ([0].zip [VB.vec E.length (dG E) 1 (3:TypeId)])) 3 (inD R) (inD W)/\buD l=buD l/\isD (VH.mk 1 ([0].zip [VB.vec E.length (dG E) 1 (3:TypeId)])) 3 (VV.sl 0 E.length) (inD D)/\(cnP l D/\W.length<=100000)/\∀ (b:Bool) (e:Int),b=okP W l D->(e=if okP W l D=true then
 endF l D D.length
 else (0:Int))->bif E.length.beq E.length && Nat.ble 1 1 then
 bif b then
 bif !decide ((↑E.length:Int)=(↑l.length:Int)) then
 bif decide ((↑S_1.length:Int)=(0:Int)) then
 Q (VRes.ret (VV.bool true))
 else Q (VRes.ret (VV.bool false))
 else Q (VRes.ret (VV.bool false))
 else bif decide ((↑S_1.length:Int)=(0:Int)) then
 Q (VRes.ret (VV.bool true))
 else Q (VRes.ret (VV.bool false))
 else False):=by kernel_rfl
theorem sp0_ev (R:List Int) (l:List Brn) (B:List Int) (hour more:Int) (Q:VRes->Prop):callSp Try.prog (callN Try.prog (tabS [runA l 0,rmY R,brY R l,plA l,awT]) noL 10 20) (tabB [(0,lO R l B hour more 0),(2,lC R l hour more),(4,lX R l hour more)]) 10 tsL 10 [inD R,buD l,byD B,.int .u8 hour,.int .u32 more] ⟨0,[]⟩ (fun r _=>Q r) =
 (bif decide ((↑R.length:Int) > (20:Int)) then
 Q (VRes.ret (VV.bool true))
 else bif decide ((↑l.length:Int) > (5:Int)) then
 Q (VRes.ret (VV.bool true))
 else ∃ (W:List Int),(R.length=W.length/\1=1/\∀ (j:Nat),j<R.length->dG R j=dG W j)/\buD l=buD l/\rsE W l=(0:Int)/\∀ (S:List Int),S=rsD W l->inD R=inD R/\rmB R/\I (↑R.length:Int)=I (↑R.length:Int)/\buD l=buD l/\(R.length<=168/\lsB R.length l)/\∃ (S_1:List Int),FitP 0 (VH.mk 0 []) [(14,I 0),(13,VV.nils),(63,VV.bool false),(63,VV.bool !true),(62,VV.bool !true),(57,VV.bool false),(61,VV.bool true),(57,VV.bool false),(60,buD l),(57,VV.bool false),(59,I (↑R.length:Int)),(57,VV.bool false),(58,inD R),(57,VV.bool false),(57,VV.bool !true),(56,VV.bool !true),(55,VV.bool true),(54,inD R),(47,VV.bool false),(47,VV.bool false),(46,udf),(44,VV.bool false),(45,udf),(44,VV.bool false),(44,VV.bool !decide ((0:Int)=(0:Int))),(43,VV.bool !decide ((0:Int)=(0:Int))),(42,I 0),(12,I 0),(11,inD S),(41,I 0),(40,inD S),(36,VV.tup [inD S,I 0]),(39,VV.tup [inD S,I 0]),(38,buD l),(37,inD R),(34,VV.bool false),(34,VV.bool (decide ((↑l.length:Int) > (5:Int)))),(33,VV.bool (decide ((↑l.length:Int) > (5:Int)))),(30,VV.bool false),(32,I (↑l.length:Int)),(30,VV.bool false),(31,buD l),(30,VV.bool false),(30,VV.bool (decide ((↑R.length:Int) > (20:Int)))),(29,VV.bool (decide ((↑R.length:Int) > (20:Int)))),(28,I (↑R.length:Int)),(27,inD R),(10,VV.bool false),(0,inD R),(1,buD l),(2,byD B),(3,VV.int IntKind.u8 hour),(4,VV.int IntKind.u32 more)] (VH.mk 0 ([].zip [])) (dsO.zip (VO R l B hour more S_1 (0:Int) 0 VV.nils))/\(lsB R.length l/\R.length<=168/\byB B)/\∀ (E:List Int),E=otF l B->∃ (W:List Int),∃ (D:List Int),isD (VH.mk 1 ([0].zip [VB.vec E.length (dG E) 1 (3:TypeId)])) 3 (inD R) (inD W)/\buD l=buD l/\isD (VH.mk 1 ([0].zip [VB.vec E.length (dG E) 1 (3:TypeId)])) 3 (VV.sl 0 E.length) (inD D)/\(cnP l D/\W.length<=100000)/\∀ (b:Bool) (e:Int),b=okP W l D->(e=if okP W l D=true then
 endF l D D.length
 else (0:Int))->bif E.length.beq E.length && Nat.ble 1 1 then
 bif b then
 bif !decide ((↑S_1.length:Int)=(↑l.length:Int)) then
 Q (VRes.ret (VV.bool false))
 else ∃ (S:List Int),∃ (E_1:List Int),∃ (c:Bool),∃ (late:Int),FitP 0 (VH.mk 1 ((0,VB.gone)::[0].zip [VB.vec E.length (dG E) 1 (3:TypeId)])) ((17,I 0)::(142,VV.bool false)::(142,VV.bool !decide ((↑S_1.length:Int)=(↑l.length:Int)))::(141,I (↑l.length:Int))::(140,buD l)::(139,I (↑S_1.length:Int))::(138,VV.tl S_1.length 1 (dG S_1))::(127,VV.bool false)::(127,VV.bool !decide ((0:Int)=(0:Int)))::(126,I 0)::(16,VV.bool (decide ((↑E.length:Int)=(↑l.length:Int))))::(125,VV.bool (decide ((↑E.length:Int)=(↑l.length:Int))))::(124,VV.bool (decide ((↑E.length:Int)=(↑l.length:Int))))::(119,VV.bool true)::(123,I (↑l.length:Int))::(119,VV.bool true)::(122,buD l)::(119,VV.bool true)::(121,I (↑E.length:Int))::(119,VV.bool true)::(120,inD E)::(119,VV.bool true)::(119,VV.bool b)::(118,VV.bool b)::(13,inD E)::(16,VV.bool b)::(15,I e)::(117,VV.bool b)::(116,I e)::(111,VV.tup [I e,VV.bool b])::(115,VV.tup [I e,VV.bool b])::(114,VV.sl 0 E.length)::(113,buD l)::(112,inD R)::dsO.zip (VO R l B hour more S_1 (0:Int) E.length (VV.sl 0 E.length))) (VH.mk 1 ([].zip [])) (dsC.zip (VC R l hour more S E_1 0 c late))/\(lsB R.length l/\R.length<=168/\S.length=l.length/\dvB l S)/\∃ (W:List Int),∃ (D:List Int),isD (VH.mk 1 ([].zip [])) 3 (inD R) (inD W)/\buD l=buD l/\isD (VH.mk 1 ([].zip [])) 3 (inD S) (inD D)/\(cnP l D/\W.length<=100000)/\∀ (b:Bool) (e:Int),b=okP W l D->(e=if okP W l D=true then
 endF l D D.length
 else (0:Int))->bif !b then
 Q (VRes.ret (VV.bool false))
 else bif c then
 bif decide (late<e) then
 Q (VRes.ret (VV.bool false))
 else bif c then
 bif decide (late=e) then
 ∃ (S_2:List Int),∃ (E:List Int),∃ (e_1:Int),FitP 0 (VH.mk 1 ([].zip [])) ((20,I 0)::(199,VV.bool true)::(199,VV.bool (decide (late=e)))::(198,VV.bool (decide (late=e)))::(195,VV.bool true)::(197,I e)::(195,VV.bool true)::(196,I late)::(195,VV.bool true)::(195,VV.bool c)::(194,VV.bool c)::(193,VV.bool false)::(193,VV.bool (decide (late<e)))::(192,VV.bool (decide (late<e)))::(186,VV.bool false)::(191,VV.bool (decide (late<e)))::(188,VV.bool true)::(190,I e)::(188,VV.bool true)::(189,I late)::(188,VV.bool true)::(188,VV.bool c)::(186,VV.bool false)::(187,VV.bool c)::(186,VV.bool false)::(186,VV.bool !b)::(185,VV.bool !b)::(184,VV.bool b)::(19,VV.bool b)::(18,I e)::(183,VV.bool b)::(182,I e)::(177,VV.tup [I e,VV.bool b])::(181,VV.tup [I e,VV.bool b])::(180,inD S)::(179,buD l)::(178,inD R)::dsC.zip (VC R l hour more S E_1 S.length c late)) (VH.mk 1 ([].zip [])) (dsX.zip (VX R l hour more S_2 E 0 e_1))/\(S_2.length<=100000/\E.length=S_2.length/\(E=S_2 ∨ lexP S_2 E))/\∀ (i:Nat),bif decide ((↑R.length:Int)=(0:Int)) then
 Q (VRes.ret (VV.bool true))
 else bif roomB (0+R.length) (8) then
 bif inK .i64 hour then
 bif decide ((↑(0+R.length):Int)=(0:Int)) then
 False
 else bif decide ((0:Int)<=remZ hour (↑(0+R.length):Int)/\remZ hour (↑(0+R.length):Int)<(↑(0+R.length):Int)) then
 bif (0+R.length).beq (0+R.length) && Nat.ble 1 Try.prog.types[3].size then
 bif (0+R.length).beq (0+R.length) then
 bif inK .i64 more then
 bif inK .i64 (R.getD ((remZ hour (↑(0+R.length):Int)).toNat - 0) (0:Int)+more) then
 bif decide ((0:Int)<=remZ hour (↑(0+R.length):Int)/\remZ hour (↑(0+R.length):Int)<(↑(0+R.length):Int)) then
 bif (0+R.length).beq (0+R.length) && Nat.ble 1 Try.prog.types[3].size then
 bif (0+R.length).beq (0+R.length) && [I (min (8796093022208:Int) (R.getD ((remZ hour (↑(0+R.length):Int)).toNat - 0) (0:Int)+more))].all VV.one && belL 0 [I (min (8796093022208:Int) (R.getD ((remZ hour (↑(0+R.length):Int)).toNat - 0) (0:Int)+more))] then
 bif (0+R.length).beq (0+R.length) && Nat.ble 1 (1) then
 ∃ (W:List Int),(0+R.length=W.length/\1=1/\∀ (j:Nat),j<0+R.length->atG (remZ hour (↑(0+R.length):Int)).toNat (catG 0 (fun (j:Nat)=>List.take (1) (List.drop (j*(1)) [])) (dG R)) [I (min (8796093022208:Int) (R.getD ((remZ hour (↑(0+R.length):Int)).toNat - 0) (0:Int)+more))] j=dG W j)/\buD l=buD l/\rsE W l=(0:Int)/\∀ (S:List Int),S=rsD W l->bif !decide ((↑S.length:Int)=(↑l.length:Int)) then
 Q (VRes.ret (VV.bool false))
 else ∃ (W:List Int),∃ (D:List Int),isD (VH.mk (2) ((1,VB.gone)::(1,VB.vec (0+R.length) (atG (remZ hour (↑(0+R.length):Int)).toNat (catG 0 (fun (j:Nat)=>List.take (1) (List.drop (j*(1)) [])) (dG R)) [I (min (8796093022208:Int) (R.getD ((remZ hour (↑(0+R.length):Int)).toNat - 0) (0:Int)+more))]) (1) 3)::(1,VB.vec (0+R.length) (catG 0 (fun (j:Nat)=>List.take (1) (List.drop (j*(1)) [])) (dG R)) (1) 3)::(1,VB.vec 0 (fun (j:Nat)=>List.take (1) (List.drop (j*(1)) [])) (1) 3)::[].zip [])) 3 (VV.tl (0+R.length) (1) (atG (remZ hour (↑(0+R.length):Int)).toNat (catG 0 (fun (j:Nat)=>List.take (1) (List.drop (j*(1)) [])) (dG R)) [I (min (8796093022208:Int) (R.getD ((remZ hour (↑(0+R.length):Int)).toNat - 0) (0:Int)+more))])) (inD W)/\buD l=buD l/\isD (VH.mk (2) ((1,VB.gone)::(1,VB.vec (0+R.length) (atG (remZ hour (↑(0+R.length):Int)).toNat (catG 0 (fun (j:Nat)=>List.take (1) (List.drop (j*(1)) [])) (dG R)) [I (min (8796093022208:Int) (R.getD ((remZ hour (↑(0+R.length):Int)).toNat - 0) (0:Int)+more))]) (1) 3)::(1,VB.vec (0+R.length) (catG 0 (fun (j:Nat)=>List.take (1) (List.drop (j*(1)) [])) (dG R)) (1) 3)::(1,VB.vec 0 (fun (j:Nat)=>List.take (1) (List.drop (j*(1)) [])) (1) 3)::[].zip [])) 3 (inD S) (inD D)/\(cnP l D/\W.length<=100000)/\∀ (b:Bool) (e:Int),b=okP W l D->(e=if okP W l D=true then
 endF l D D.length
 else (0:Int))->bif decide (e<=e_1) then
 Q (VRes.ret (VV.bool true))
 else Q (VRes.ret (VV.bool false))
 else False
 else False
 else False
 else False
 else False
 else False
 else False
 else False
 else False
 else False
 else False
 else bif decide ((↑R.length:Int)=(0:Int)) then
 Q (VRes.ret (VV.bool true))
 else bif roomB (0+R.length) (8) then
 bif inK .i64 hour then
 bif decide ((↑(0+R.length):Int)=(0:Int)) then
 False
 else bif decide ((0:Int)<=remZ hour (↑(0+R.length):Int)/\remZ hour (↑(0+R.length):Int)<(↑(0+R.length):Int)) then
 bif (0+R.length).beq (0+R.length) && Nat.ble 1 Try.prog.types[3].size then
 bif (0+R.length).beq (0+R.length) then
 bif inK .i64 more then
 bif inK .i64 (R.getD ((remZ hour (↑(0+R.length):Int)).toNat - 0) (0:Int)+more) then
 bif decide ((0:Int)<=remZ hour (↑(0+R.length):Int)/\remZ hour (↑(0+R.length):Int)<(↑(0+R.length):Int)) then
 bif (0+R.length).beq (0+R.length) && Nat.ble 1 Try.prog.types[3].size then
 bif (0+R.length).beq (0+R.length) && [I (min (8796093022208:Int) (R.getD ((remZ hour (↑(0+R.length):Int)).toNat - 0) (0:Int)+more))].all VV.one && belL 0 [I (min (8796093022208:Int) (R.getD ((remZ hour (↑(0+R.length):Int)).toNat - 0) (0:Int)+more))] then
 bif (0+R.length).beq (0+R.length) && Nat.ble 1 (1) then
 ∃ (W:List Int),(0+R.length=W.length/\1=1/\∀ (j:Nat),j<0+R.length->atG (remZ hour (↑(0+R.length):Int)).toNat (catG 0 (fun (j:Nat)=>List.take (1) (List.drop (j*(1)) [])) (dG R)) [I (min (8796093022208:Int) (R.getD ((remZ hour (↑(0+R.length):Int)).toNat - 0) (0:Int)+more))] j=dG W j)/\buD l=buD l/\rsE W l=(0:Int)/\∀ (S:List Int),S=rsD W l->bif !decide ((↑S.length:Int)=(↑l.length:Int)) then
 Q (VRes.ret (VV.bool false))
 else ∃ (W:List Int),∃ (D:List Int),isD (VH.mk (2) ((1,VB.gone)::(1,VB.vec (0+R.length) (atG (remZ hour (↑(0+R.length):Int)).toNat (catG 0 (fun (j:Nat)=>List.take (1) (List.drop (j*(1)) [])) (dG R)) [I (min (8796093022208:Int) (R.getD ((remZ hour (↑(0+R.length):Int)).toNat - 0) (0:Int)+more))]) (1) 3)::(1,VB.vec (0+R.length) (catG 0 (fun (j:Nat)=>List.take (1) (List.drop (j*(1)) [])) (dG R)) (1) 3)::(1,VB.vec 0 (fun (j:Nat)=>List.take (1) (List.drop (j*(1)) [])) (1) 3)::[].zip [])) 3 (VV.tl (0+R.length) (1) (atG (remZ hour (↑(0+R.length):Int)).toNat (catG 0 (fun (j:Nat)=>List.take (1) (List.drop (j*(1)) [])) (dG R)) [I (min (8796093022208:Int) (R.getD ((remZ hour (↑(0+R.length):Int)).toNat - 0) (0:Int)+more))])) (inD W)/\buD l=buD l/\isD (VH.mk (2) ((1,VB.gone)::(1,VB.vec (0+R.length) (atG (remZ hour (↑(0+R.length):Int)).toNat (catG 0 (fun (j:Nat)=>List.take (1) (List.drop (j*(1)) [])) (dG R)) [I (min (8796093022208:Int) (R.getD ((remZ hour (↑(0+R.length):Int)).toNat - 0) (0:Int)+more))]) (1) 3)::(1,VB.vec (0+R.length) (catG 0 (fun (j:Nat)=>List.take (1) (List.drop (j*(1)) [])) (dG R)) (1) 3)::(1,VB.vec 0 (fun (j:Nat)=>List.take (1) (List.drop (j*(1)) [])) (1) 3)::[].zip [])) 3 (inD S) (inD D)/\(cnP l D/\W.length<=100000)/\∀ (b:Bool) (e_1:Int),b=okP W l D->(e_1=if okP W l D=true then
 endF l D D.length
 else (0:Int))->bif decide (e_1<=e) then
 Q (VRes.ret (VV.bool true))
 else Q (VRes.ret (VV.bool false))
 else False
 else False
 else False
 else False
 else False
 else False
 else False
 else False
 else False
 else False
 else False
 else bif decide ((↑R.length:Int)=(0:Int)) then
 Q (VRes.ret (VV.bool true))
 else bif roomB (0+R.length) (8) then
 bif inK .i64 hour then
 bif decide ((↑(0+R.length):Int)=(0:Int)) then
 False
 else bif decide ((0:Int)<=remZ hour (↑(0+R.length):Int)/\remZ hour (↑(0+R.length):Int)<(↑(0+R.length):Int)) then
 bif (0+R.length).beq (0+R.length) && Nat.ble 1 Try.prog.types[3].size then
 bif (0+R.length).beq (0+R.length) then
 bif inK .i64 more then
 bif inK .i64 (R.getD ((remZ hour (↑(0+R.length):Int)).toNat - 0) (0:Int)+more) then
 bif decide ((0:Int)<=remZ hour (↑(0+R.length):Int)/\remZ hour (↑(0+R.length):Int)<(↑(0+R.length):Int)) then
 bif (0+R.length).beq (0+R.length) && Nat.ble 1 Try.prog.types[3].size then
 bif (0+R.length).beq (0+R.length) && [I (min (8796093022208:Int) (R.getD ((remZ hour (↑(0+R.length):Int)).toNat - 0) (0:Int)+more))].all VV.one && belL 0 [I (min (8796093022208:Int) (R.getD ((remZ hour (↑(0+R.length):Int)).toNat - 0) (0:Int)+more))] then
 bif (0+R.length).beq (0+R.length) && Nat.ble 1 (1) then
 ∃ (W:List Int),(0+R.length=W.length/\1=1/\∀ (j:Nat),j<0+R.length->atG (remZ hour (↑(0+R.length):Int)).toNat (catG 0 (fun (j:Nat)=>List.take (1) (List.drop (j*(1)) [])) (dG R)) [I (min (8796093022208:Int) (R.getD ((remZ hour (↑(0+R.length):Int)).toNat - 0) (0:Int)+more))] j=dG W j)/\buD l=buD l/\rsE W l=(0:Int)/\∀ (S:List Int),S=rsD W l->bif !decide ((↑S.length:Int)=(↑l.length:Int)) then
 Q (VRes.ret (VV.bool false))
 else ∃ (W:List Int),∃ (D:List Int),isD (VH.mk (2) ((1,VB.gone)::(1,VB.vec (0+R.length) (atG (remZ hour (↑(0+R.length):Int)).toNat (catG 0 (fun (j:Nat)=>List.take (1) (List.drop (j*(1)) [])) (dG R)) [I (min (8796093022208:Int) (R.getD ((remZ hour (↑(0+R.length):Int)).toNat - 0) (0:Int)+more))]) (1) 3)::(1,VB.vec (0+R.length) (catG 0 (fun (j:Nat)=>List.take (1) (List.drop (j*(1)) [])) (dG R)) (1) 3)::(1,VB.vec 0 (fun (j:Nat)=>List.take (1) (List.drop (j*(1)) [])) (1) 3)::[].zip [])) 3 (VV.tl (0+R.length) (1) (atG (remZ hour (↑(0+R.length):Int)).toNat (catG 0 (fun (j:Nat)=>List.take (1) (List.drop (j*(1)) [])) (dG R)) [I (min (8796093022208:Int) (R.getD ((remZ hour (↑(0+R.length):Int)).toNat - 0) (0:Int)+more))])) (inD W)/\buD l=buD l/\isD (VH.mk (2) ((1,VB.gone)::(1,VB.vec (0+R.length) (atG (remZ hour (↑(0+R.length):Int)).toNat (catG 0 (fun (j:Nat)=>List.take (1) (List.drop (j*(1)) [])) (dG R)) [I (min (8796093022208:Int) (R.getD ((remZ hour (↑(0+R.length):Int)).toNat - 0) (0:Int)+more))]) (1) 3)::(1,VB.vec (0+R.length) (catG 0 (fun (j:Nat)=>List.take (1) (List.drop (j*(1)) [])) (dG R)) (1) 3)::(1,VB.vec 0 (fun (j:Nat)=>List.take (1) (List.drop (j*(1)) [])) (1) 3)::[].zip [])) 3 (inD S) (inD D)/\(cnP l D/\W.length<=100000)/\∀ (b:Bool) (e_1:Int),b=okP W l D->(e_1=if okP W l D=true then
 endF l D D.length
 else (0:Int))->bif decide (e_1<=e) then
 Q (VRes.ret (VV.bool true))
 else Q (VRes.ret (VV.bool false))
 else False
 else False
 else False
 else False
 else False
 else False
 else False
 else False
 else False
 else False
 else False
 else bif c then
 bif decide (late=e) then
 ∃ (S_2:List Int),∃ (E:List Int),∃ (e_1:Int),FitP 0 (VH.mk 1 ([].zip [])) ((20,I 0)::(199,VV.bool true)::(199,VV.bool (decide (late=e)))::(198,VV.bool (decide (late=e)))::(195,VV.bool true)::(197,I e)::(195,VV.bool true)::(196,I late)::(195,VV.bool true)::(195,VV.bool c)::(194,VV.bool c)::(193,VV.bool false)::(193,VV.bool false)::(192,VV.bool false)::(186,VV.bool false)::(191,udf)::(188,VV.bool false)::(190,udf)::(188,VV.bool false)::(189,udf)::(188,VV.bool false)::(188,VV.bool c)::(186,VV.bool false)::(187,VV.bool c)::(186,VV.bool false)::(186,VV.bool !b)::(185,VV.bool !b)::(184,VV.bool b)::(19,VV.bool b)::(18,I e)::(183,VV.bool b)::(182,I e)::(177,VV.tup [I e,VV.bool b])::(181,VV.tup [I e,VV.bool b])::(180,inD S)::(179,buD l)::(178,inD R)::dsC.zip (VC R l hour more S E_1 S.length c late)) (VH.mk 1 ([].zip [])) (dsX.zip (VX R l hour more S_2 E 0 e_1))/\(S_2.length<=100000/\E.length=S_2.length/\(E=S_2 ∨ lexP S_2 E))/\∀ (i:Nat),bif decide ((↑R.length:Int)=(0:Int)) then
 Q (VRes.ret (VV.bool true))
 else bif roomB (0+R.length) (8) then
 bif inK .i64 hour then
 bif decide ((↑(0+R.length):Int)=(0:Int)) then
 False
 else bif decide ((0:Int)<=remZ hour (↑(0+R.length):Int)/\remZ hour (↑(0+R.length):Int)<(↑(0+R.length):Int)) then
 bif (0+R.length).beq (0+R.length) && Nat.ble 1 Try.prog.types[3].size then
 bif (0+R.length).beq (0+R.length) then
 bif inK .i64 more then
 bif inK .i64 (R.getD ((remZ hour (↑(0+R.length):Int)).toNat - 0) (0:Int)+more) then
 bif decide ((0:Int)<=remZ hour (↑(0+R.length):Int)/\remZ hour (↑(0+R.length):Int)<(↑(0+R.length):Int)) then
 bif (0+R.length).beq (0+R.length) && Nat.ble 1 Try.prog.types[3].size then
 bif (0+R.length).beq (0+R.length) && [I (min (8796093022208:Int) (R.getD ((remZ hour (↑(0+R.length):Int)).toNat - 0) (0:Int)+more))].all VV.one && belL 0 [I (min (8796093022208:Int) (R.getD ((remZ hour (↑(0+R.length):Int)).toNat - 0) (0:Int)+more))] then
 bif (0+R.length).beq (0+R.length) && Nat.ble 1 (1) then
 ∃ (W:List Int),(0+R.length=W.length/\1=1/\∀ (j:Nat),j<0+R.length->atG (remZ hour (↑(0+R.length):Int)).toNat (catG 0 (fun (j:Nat)=>List.take (1) (List.drop (j*(1)) [])) (dG R)) [I (min (8796093022208:Int) (R.getD ((remZ hour (↑(0+R.length):Int)).toNat - 0) (0:Int)+more))] j=dG W j)/\buD l=buD l/\rsE W l=(0:Int)/\∀ (S:List Int),S=rsD W l->bif !decide ((↑S.length:Int)=(↑l.length:Int)) then
 Q (VRes.ret (VV.bool false))
 else ∃ (W:List Int),∃ (D:List Int),isD (VH.mk (2) ((1,VB.gone)::(1,VB.vec (0+R.length) (atG (remZ hour (↑(0+R.length):Int)).toNat (catG 0 (fun (j:Nat)=>List.take (1) (List.drop (j*(1)) [])) (dG R)) [I (min (8796093022208:Int) (R.getD ((remZ hour (↑(0+R.length):Int)).toNat - 0) (0:Int)+more))]) (1) 3)::(1,VB.vec (0+R.length) (catG 0 (fun (j:Nat)=>List.take (1) (List.drop (j*(1)) [])) (dG R)) (1) 3)::(1,VB.vec 0 (fun (j:Nat)=>List.take (1) (List.drop (j*(1)) [])) (1) 3)::[].zip [])) 3 (VV.tl (0+R.length) (1) (atG (remZ hour (↑(0+R.length):Int)).toNat (catG 0 (fun (j:Nat)=>List.take (1) (List.drop (j*(1)) [])) (dG R)) [I (min (8796093022208:Int) (R.getD ((remZ hour (↑(0+R.length):Int)).toNat - 0) (0:Int)+more))])) (inD W)/\buD l=buD l/\isD (VH.mk (2) ((1,VB.gone)::(1,VB.vec (0+R.length) (atG (remZ hour (↑(0+R.length):Int)).toNat (catG 0 (fun (j:Nat)=>List.take (1) (List.drop (j*(1)) [])) (dG R)) [I (min (8796093022208:Int) (R.getD ((remZ hour (↑(0+R.length):Int)).toNat - 0) (0:Int)+more))]) (1) 3)::(1,VB.vec (0+R.length) (catG 0 (fun (j:Nat)=>List.take (1) (List.drop (j*(1)) [])) (dG R)) (1) 3)::(1,VB.vec 0 (fun (j:Nat)=>List.take (1) (List.drop (j*(1)) [])) (1) 3)::[].zip [])) 3 (inD S) (inD D)/\(cnP l D/\W.length<=100000)/\∀ (b:Bool) (e:Int),b=okP W l D->(e=if okP W l D=true then
 endF l D D.length
 else (0:Int))->bif decide (e<=e_1) then
 Q (VRes.ret (VV.bool true))
 else Q (VRes.ret (VV.bool false))
 else False
 else False
 else False
 else False
 else False
 else False
 else False
 else False
 else False
 else False
 else False
 else bif decide ((↑R.length:Int)=(0:Int)) then
 Q (VRes.ret (VV.bool true))
 else bif roomB (0+R.length) (8) then
 bif inK .i64 hour then
 bif decide ((↑(0+R.length):Int)=(0:Int)) then
 False
 else bif decide ((0:Int)<=remZ hour (↑(0+R.length):Int)/\remZ hour (↑(0+R.length):Int)<(↑(0+R.length):Int)) then
 bif (0+R.length).beq (0+R.length) && Nat.ble 1 Try.prog.types[3].size then
 bif (0+R.length).beq (0+R.length) then
 bif inK .i64 more then
 bif inK .i64 (R.getD ((remZ hour (↑(0+R.length):Int)).toNat - 0) (0:Int)+more) then
 bif decide ((0:Int)<=remZ hour (↑(0+R.length):Int)/\remZ hour (↑(0+R.length):Int)<(↑(0+R.length):Int)) then
 bif (0+R.length).beq (0+R.length) && Nat.ble 1 Try.prog.types[3].size then
 bif (0+R.length).beq (0+R.length) && [I (min (8796093022208:Int) (R.getD ((remZ hour (↑(0+R.length):Int)).toNat - 0) (0:Int)+more))].all VV.one && belL 0 [I (min (8796093022208:Int) (R.getD ((remZ hour (↑(0+R.length):Int)).toNat - 0) (0:Int)+more))] then
 bif (0+R.length).beq (0+R.length) && Nat.ble 1 (1) then
 ∃ (W:List Int),(0+R.length=W.length/\1=1/\∀ (j:Nat),j<0+R.length->atG (remZ hour (↑(0+R.length):Int)).toNat (catG 0 (fun (j:Nat)=>List.take (1) (List.drop (j*(1)) [])) (dG R)) [I (min (8796093022208:Int) (R.getD ((remZ hour (↑(0+R.length):Int)).toNat - 0) (0:Int)+more))] j=dG W j)/\buD l=buD l/\rsE W l=(0:Int)/\∀ (S:List Int),S=rsD W l->bif !decide ((↑S.length:Int)=(↑l.length:Int)) then
 Q (VRes.ret (VV.bool false))
 else ∃ (W:List Int),∃ (D:List Int),isD (VH.mk (2) ((1,VB.gone)::(1,VB.vec (0+R.length) (atG (remZ hour (↑(0+R.length):Int)).toNat (catG 0 (fun (j:Nat)=>List.take (1) (List.drop (j*(1)) [])) (dG R)) [I (min (8796093022208:Int) (R.getD ((remZ hour (↑(0+R.length):Int)).toNat - 0) (0:Int)+more))]) (1) 3)::(1,VB.vec (0+R.length) (catG 0 (fun (j:Nat)=>List.take (1) (List.drop (j*(1)) [])) (dG R)) (1) 3)::(1,VB.vec 0 (fun (j:Nat)=>List.take (1) (List.drop (j*(1)) [])) (1) 3)::[].zip [])) 3 (VV.tl (0+R.length) (1) (atG (remZ hour (↑(0+R.length):Int)).toNat (catG 0 (fun (j:Nat)=>List.take (1) (List.drop (j*(1)) [])) (dG R)) [I (min (8796093022208:Int) (R.getD ((remZ hour (↑(0+R.length):Int)).toNat - 0) (0:Int)+more))])) (inD W)/\buD l=buD l/\isD (VH.mk (2) ((1,VB.gone)::(1,VB.vec (0+R.length) (atG (remZ hour (↑(0+R.length):Int)).toNat (catG 0 (fun (j:Nat)=>List.take (1) (List.drop (j*(1)) [])) (dG R)) [I (min (8796093022208:Int) (R.getD ((remZ hour (↑(0+R.length):Int)).toNat - 0) (0:Int)+more))]) (1) 3)::(1,VB.vec (0+R.length) (catG 0 (fun (j:Nat)=>List.take (1) (List.drop (j*(1)) [])) (dG R)) (1) 3)::(1,VB.vec 0 (fun (j:Nat)=>List.take (1) (List.drop (j*(1)) [])) (1) 3)::[].zip [])) 3 (inD S) (inD D)/\(cnP l D/\W.length<=100000)/\∀ (b:Bool) (e_1:Int),b=okP W l D->(e_1=if okP W l D=true then
 endF l D D.length
 else (0:Int))->bif decide (e_1<=e) then
 Q (VRes.ret (VV.bool true))
 else Q (VRes.ret (VV.bool false))
 else False
 else False
 else False
 else False
 else False
 else False
 else False
 else False
 else False
 else False
 else False
 else bif decide ((↑R.length:Int)=(0:Int)) then
 Q (VRes.ret (VV.bool true))
 else bif roomB (0+R.length) (8) then
 bif inK .i64 hour then
 bif decide ((↑(0+R.length):Int)=(0:Int)) then
 False
 else bif decide ((0:Int)<=remZ hour (↑(0+R.length):Int)/\remZ hour (↑(0+R.length):Int)<(↑(0+R.length):Int)) then
 bif (0+R.length).beq (0+R.length) && Nat.ble 1 Try.prog.types[3].size then
 bif (0+R.length).beq (0+R.length) then
 bif inK .i64 more then
 bif inK .i64 (R.getD ((remZ hour (↑(0+R.length):Int)).toNat - 0) (0:Int)+more) then
 bif decide ((0:Int)<=remZ hour (↑(0+R.length):Int)/\remZ hour (↑(0+R.length):Int)<(↑(0+R.length):Int)) then
 bif (0+R.length).beq (0+R.length) && Nat.ble 1 Try.prog.types[3].size then
 bif (0+R.length).beq (0+R.length) && [I (min (8796093022208:Int) (R.getD ((remZ hour (↑(0+R.length):Int)).toNat - 0) (0:Int)+more))].all VV.one && belL 0 [I (min (8796093022208:Int) (R.getD ((remZ hour (↑(0+R.length):Int)).toNat - 0) (0:Int)+more))] then
 bif (0+R.length).beq (0+R.length) && Nat.ble 1 (1) then
 ∃ (W:List Int),(0+R.length=W.length/\1=1/\∀ (j:Nat),j<0+R.length->atG (remZ hour (↑(0+R.length):Int)).toNat (catG 0 (fun (j:Nat)=>List.take (1) (List.drop (j*(1)) [])) (dG R)) [I (min (8796093022208:Int) (R.getD ((remZ hour (↑(0+R.length):Int)).toNat - 0) (0:Int)+more))] j=dG W j)/\buD l=buD l/\rsE W l=(0:Int)/\∀ (S:List Int),S=rsD W l->bif !decide ((↑S.length:Int)=(↑l.length:Int)) then
 Q (VRes.ret (VV.bool false))
 else ∃ (W:List Int),∃ (D:List Int),isD (VH.mk (2) ((1,VB.gone)::(1,VB.vec (0+R.length) (atG (remZ hour (↑(0+R.length):Int)).toNat (catG 0 (fun (j:Nat)=>List.take (1) (List.drop (j*(1)) [])) (dG R)) [I (min (8796093022208:Int) (R.getD ((remZ hour (↑(0+R.length):Int)).toNat - 0) (0:Int)+more))]) (1) 3)::(1,VB.vec (0+R.length) (catG 0 (fun (j:Nat)=>List.take (1) (List.drop (j*(1)) [])) (dG R)) (1) 3)::(1,VB.vec 0 (fun (j:Nat)=>List.take (1) (List.drop (j*(1)) [])) (1) 3)::[].zip [])) 3 (VV.tl (0+R.length) (1) (atG (remZ hour (↑(0+R.length):Int)).toNat (catG 0 (fun (j:Nat)=>List.take (1) (List.drop (j*(1)) [])) (dG R)) [I (min (8796093022208:Int) (R.getD ((remZ hour (↑(0+R.length):Int)).toNat - 0) (0:Int)+more))])) (inD W)/\buD l=buD l/\isD (VH.mk (2) ((1,VB.gone)::(1,VB.vec (0+R.length) (atG (remZ hour (↑(0+R.length):Int)).toNat (catG 0 (fun (j:Nat)=>List.take (1) (List.drop (j*(1)) [])) (dG R)) [I (min (8796093022208:Int) (R.getD ((remZ hour (↑(0+R.length):Int)).toNat - 0) (0:Int)+more))]) (1) 3)::(1,VB.vec (0+R.length) (catG 0 (fun (j:Nat)=>List.take (1) (List.drop (j*(1)) [])) (dG R)) (1) 3)::(1,VB.vec 0 (fun (j:Nat)=>List.take (1) (List.drop (j*(1)) [])) (1) 3)::[].zip [])) 3 (inD S) (inD D)/\(cnP l D/\W.length<=100000)/\∀ (b:Bool) (e_1:Int),b=okP W l D->(e_1=if okP W l D=true then
 endF l D D.length
 else (0:Int))->bif decide (e_1<=e) then
 Q (VRes.ret (VV.bool true))
 else Q (VRes.ret (VV.bool false))
 else False
 else False
 else False
 else False
 else False
 else False
 else False
 else False
 else False
 else False
 else False
 else bif !decide ((↑S_1.length:Int)=(↑l.length:Int)) then
 Q (VRes.ret (VV.bool false))
 else ∃ (S:List Int),∃ (E_1:List Int),∃ (c:Bool),∃ (late:Int),FitP 0 (VH.mk 1 ((0,VB.gone)::[0].zip [VB.vec E.length (dG E) 1 (3:TypeId)])) ((17,I 0)::(142,VV.bool false)::(142,VV.bool !decide ((↑S_1.length:Int)=(↑l.length:Int)))::(141,I (↑l.length:Int))::(140,buD l)::(139,I (↑S_1.length:Int))::(138,VV.tl S_1.length 1 (dG S_1))::(127,VV.bool false)::(127,VV.bool !decide ((0:Int)=(0:Int)))::(126,I 0)::(16,VV.bool false)::(125,VV.bool false)::(124,udf)::(119,VV.bool false)::(123,udf)::(119,VV.bool false)::(122,udf)::(119,VV.bool false)::(121,udf)::(119,VV.bool false)::(120,udf)::(119,VV.bool false)::(119,VV.bool b)::(118,VV.bool b)::(13,inD E)::(16,VV.bool b)::(15,I e)::(117,VV.bool b)::(116,I e)::(111,VV.tup [I e,VV.bool b])::(115,VV.tup [I e,VV.bool b])::(114,VV.sl 0 E.length)::(113,buD l)::(112,inD R)::dsO.zip (VO R l B hour more S_1 (0:Int) E.length (VV.sl 0 E.length))) (VH.mk 1 ([].zip [])) (dsC.zip (VC R l hour more S E_1 0 c late))/\(lsB R.length l/\R.length<=168/\S.length=l.length/\dvB l S)/\∃ (W:List Int),∃ (D:List Int),isD (VH.mk 1 ([].zip [])) 3 (inD R) (inD W)/\buD l=buD l/\isD (VH.mk 1 ([].zip [])) 3 (inD S) (inD D)/\(cnP l D/\W.length<=100000)/\∀ (b:Bool) (e:Int),b=okP W l D->(e=if okP W l D=true then
 endF l D D.length
 else (0:Int))->bif !b then
 Q (VRes.ret (VV.bool false))
 else bif c then
 bif decide (late<e) then
 Q (VRes.ret (VV.bool false))
 else bif c then
 bif decide (late=e) then
 ∃ (S_2:List Int),∃ (E:List Int),∃ (e_1:Int),FitP 0 (VH.mk 1 ([].zip [])) ((20,I 0)::(199,VV.bool true)::(199,VV.bool (decide (late=e)))::(198,VV.bool (decide (late=e)))::(195,VV.bool true)::(197,I e)::(195,VV.bool true)::(196,I late)::(195,VV.bool true)::(195,VV.bool c)::(194,VV.bool c)::(193,VV.bool false)::(193,VV.bool (decide (late<e)))::(192,VV.bool (decide (late<e)))::(186,VV.bool false)::(191,VV.bool (decide (late<e)))::(188,VV.bool true)::(190,I e)::(188,VV.bool true)::(189,I late)::(188,VV.bool true)::(188,VV.bool c)::(186,VV.bool false)::(187,VV.bool c)::(186,VV.bool false)::(186,VV.bool !b)::(185,VV.bool !b)::(184,VV.bool b)::(19,VV.bool b)::(18,I e)::(183,VV.bool b)::(182,I e)::(177,VV.tup [I e,VV.bool b])::(181,VV.tup [I e,VV.bool b])::(180,inD S)::(179,buD l)::(178,inD R)::dsC.zip (VC R l hour more S E_1 S.length c late)) (VH.mk 1 ([].zip [])) (dsX.zip (VX R l hour more S_2 E 0 e_1))/\(S_2.length<=100000/\E.length=S_2.length/\(E=S_2 ∨ lexP S_2 E))/\∀ (i:Nat),bif decide ((↑R.length:Int)=(0:Int)) then
 Q (VRes.ret (VV.bool true))
 else bif roomB (0+R.length) (8) then
 bif inK .i64 hour then
 bif decide ((↑(0+R.length):Int)=(0:Int)) then
 False
 else bif decide ((0:Int)<=remZ hour (↑(0+R.length):Int)/\remZ hour (↑(0+R.length):Int)<(↑(0+R.length):Int)) then
 bif (0+R.length).beq (0+R.length) && Nat.ble 1 Try.prog.types[3].size then
 bif (0+R.length).beq (0+R.length) then
 bif inK .i64 more then
 bif inK .i64 (R.getD ((remZ hour (↑(0+R.length):Int)).toNat - 0) (0:Int)+more) then
 bif decide ((0:Int)<=remZ hour (↑(0+R.length):Int)/\remZ hour (↑(0+R.length):Int)<(↑(0+R.length):Int)) then
 bif (0+R.length).beq (0+R.length) && Nat.ble 1 Try.prog.types[3].size then
 bif (0+R.length).beq (0+R.length) && [I (min (8796093022208:Int) (R.getD ((remZ hour (↑(0+R.length):Int)).toNat - 0) (0:Int)+more))].all VV.one && belL 0 [I (min (8796093022208:Int) (R.getD ((remZ hour (↑(0+R.length):Int)).toNat - 0) (0:Int)+more))] then
 bif (0+R.length).beq (0+R.length) && Nat.ble 1 (1) then
 ∃ (W:List Int),(0+R.length=W.length/\1=1/\∀ (j:Nat),j<0+R.length->atG (remZ hour (↑(0+R.length):Int)).toNat (catG 0 (fun (j:Nat)=>List.take (1) (List.drop (j*(1)) [])) (dG R)) [I (min (8796093022208:Int) (R.getD ((remZ hour (↑(0+R.length):Int)).toNat - 0) (0:Int)+more))] j=dG W j)/\buD l=buD l/\rsE W l=(0:Int)/\∀ (S:List Int),S=rsD W l->bif !decide ((↑S.length:Int)=(↑l.length:Int)) then
 Q (VRes.ret (VV.bool false))
 else ∃ (W:List Int),∃ (D:List Int),isD (VH.mk (2) ((1,VB.gone)::(1,VB.vec (0+R.length) (atG (remZ hour (↑(0+R.length):Int)).toNat (catG 0 (fun (j:Nat)=>List.take (1) (List.drop (j*(1)) [])) (dG R)) [I (min (8796093022208:Int) (R.getD ((remZ hour (↑(0+R.length):Int)).toNat - 0) (0:Int)+more))]) (1) 3)::(1,VB.vec (0+R.length) (catG 0 (fun (j:Nat)=>List.take (1) (List.drop (j*(1)) [])) (dG R)) (1) 3)::(1,VB.vec 0 (fun (j:Nat)=>List.take (1) (List.drop (j*(1)) [])) (1) 3)::[].zip [])) 3 (VV.tl (0+R.length) (1) (atG (remZ hour (↑(0+R.length):Int)).toNat (catG 0 (fun (j:Nat)=>List.take (1) (List.drop (j*(1)) [])) (dG R)) [I (min (8796093022208:Int) (R.getD ((remZ hour (↑(0+R.length):Int)).toNat - 0) (0:Int)+more))])) (inD W)/\buD l=buD l/\isD (VH.mk (2) ((1,VB.gone)::(1,VB.vec (0+R.length) (atG (remZ hour (↑(0+R.length):Int)).toNat (catG 0 (fun (j:Nat)=>List.take (1) (List.drop (j*(1)) [])) (dG R)) [I (min (8796093022208:Int) (R.getD ((remZ hour (↑(0+R.length):Int)).toNat - 0) (0:Int)+more))]) (1) 3)::(1,VB.vec (0+R.length) (catG 0 (fun (j:Nat)=>List.take (1) (List.drop (j*(1)) [])) (dG R)) (1) 3)::(1,VB.vec 0 (fun (j:Nat)=>List.take (1) (List.drop (j*(1)) [])) (1) 3)::[].zip [])) 3 (inD S) (inD D)/\(cnP l D/\W.length<=100000)/\∀ (b:Bool) (e:Int),b=okP W l D->(e=if okP W l D=true then
 endF l D D.length
 else (0:Int))->bif decide (e<=e_1) then
 Q (VRes.ret (VV.bool true))
 else Q (VRes.ret (VV.bool false))
 else False
 else False
 else False
 else False
 else False
 else False
 else False
 else False
 else False
 else False
 else False
 else bif decide ((↑R.length:Int)=(0:Int)) then
 Q (VRes.ret (VV.bool true))
 else bif roomB (0+R.length) (8) then
 bif inK .i64 hour then
 bif decide ((↑(0+R.length):Int)=(0:Int)) then
 False
 else bif decide ((0:Int)<=remZ hour (↑(0+R.length):Int)/\remZ hour (↑(0+R.length):Int)<(↑(0+R.length):Int)) then
 bif (0+R.length).beq (0+R.length) && Nat.ble 1 Try.prog.types[3].size then
 bif (0+R.length).beq (0+R.length) then
 bif inK .i64 more then
 bif inK .i64 (R.getD ((remZ hour (↑(0+R.length):Int)).toNat - 0) (0:Int)+more) then
 bif decide ((0:Int)<=remZ hour (↑(0+R.length):Int)/\remZ hour (↑(0+R.length):Int)<(↑(0+R.length):Int)) then
 bif (0+R.length).beq (0+R.length) && Nat.ble 1 Try.prog.types[3].size then
 bif (0+R.length).beq (0+R.length) && [I (min (8796093022208:Int) (R.getD ((remZ hour (↑(0+R.length):Int)).toNat - 0) (0:Int)+more))].all VV.one && belL 0 [I (min (8796093022208:Int) (R.getD ((remZ hour (↑(0+R.length):Int)).toNat - 0) (0:Int)+more))] then
 bif (0+R.length).beq (0+R.length) && Nat.ble 1 (1) then
 ∃ (W:List Int),(0+R.length=W.length/\1=1/\∀ (j:Nat),j<0+R.length->atG (remZ hour (↑(0+R.length):Int)).toNat (catG 0 (fun (j:Nat)=>List.take (1) (List.drop (j*(1)) [])) (dG R)) [I (min (8796093022208:Int) (R.getD ((remZ hour (↑(0+R.length):Int)).toNat - 0) (0:Int)+more))] j=dG W j)/\buD l=buD l/\rsE W l=(0:Int)/\∀ (S:List Int),S=rsD W l->bif !decide ((↑S.length:Int)=(↑l.length:Int)) then
 Q (VRes.ret (VV.bool false))
 else ∃ (W:List Int),∃ (D:List Int),isD (VH.mk (2) ((1,VB.gone)::(1,VB.vec (0+R.length) (atG (remZ hour (↑(0+R.length):Int)).toNat (catG 0 (fun (j:Nat)=>List.take (1) (List.drop (j*(1)) [])) (dG R)) [I (min (8796093022208:Int) (R.getD ((remZ hour (↑(0+R.length):Int)).toNat - 0) (0:Int)+more))]) (1) 3)::(1,VB.vec (0+R.length) (catG 0 (fun (j:Nat)=>List.take (1) (List.drop (j*(1)) [])) (dG R)) (1) 3)::(1,VB.vec 0 (fun (j:Nat)=>List.take (1) (List.drop (j*(1)) [])) (1) 3)::[].zip [])) 3 (VV.tl (0+R.length) (1) (atG (remZ hour (↑(0+R.length):Int)).toNat (catG 0 (fun (j:Nat)=>List.take (1) (List.drop (j*(1)) [])) (dG R)) [I (min (8796093022208:Int) (R.getD ((remZ hour (↑(0+R.length):Int)).toNat - 0) (0:Int)+more))])) (inD W)/\buD l=buD l/\isD (VH.mk (2) ((1,VB.gone)::(1,VB.vec (0+R.length) (atG (remZ hour (↑(0+R.length):Int)).toNat (catG 0 (fun (j:Nat)=>List.take (1) (List.drop (j*(1)) [])) (dG R)) [I (min (8796093022208:Int) (R.getD ((remZ hour (↑(0+R.length):Int)).toNat - 0) (0:Int)+more))]) (1) 3)::(1,VB.vec (0+R.length) (catG 0 (fun (j:Nat)=>List.take (1) (List.drop (j*(1)) [])) (dG R)) (1) 3)::(1,VB.vec 0 (fun (j:Nat)=>List.take (1) (List.drop (j*(1)) [])) (1) 3)::[].zip [])) 3 (inD S) (inD D)/\(cnP l D/\W.length<=100000)/\∀ (b:Bool) (e_1:Int),b=okP W l D->(e_1=if okP W l D=true then
 endF l D D.length
 else (0:Int))->bif decide (e_1<=e) then
 Q (VRes.ret (VV.bool true))
 else Q (VRes.ret (VV.bool false))
 else False
 else False
 else False
 else False
 else False
 else False
 else False
 else False
 else False
 else False
 else False
 else bif decide ((↑R.length:Int)=(0:Int)) then
 Q (VRes.ret (VV.bool true))
 else bif roomB (0+R.length) (8) then
 bif inK .i64 hour then
 bif decide ((↑(0+R.length):Int)=(0:Int)) then
 False
 else bif decide ((0:Int)<=remZ hour (↑(0+R.length):Int)/\remZ hour (↑(0+R.length):Int)<(↑(0+R.length):Int)) then
 bif (0+R.length).beq (0+R.length) && Nat.ble 1 Try.prog.types[3].size then
 bif (0+R.length).beq (0+R.length) then
 bif inK .i64 more then
 bif inK .i64 (R.getD ((remZ hour (↑(0+R.length):Int)).toNat - 0) (0:Int)+more) then
 bif decide ((0:Int)<=remZ hour (↑(0+R.length):Int)/\remZ hour (↑(0+R.length):Int)<(↑(0+R.length):Int)) then
 bif (0+R.length).beq (0+R.length) && Nat.ble 1 Try.prog.types[3].size then
 bif (0+R.length).beq (0+R.length) && [I (min (8796093022208:Int) (R.getD ((remZ hour (↑(0+R.length):Int)).toNat - 0) (0:Int)+more))].all VV.one && belL 0 [I (min (8796093022208:Int) (R.getD ((remZ hour (↑(0+R.length):Int)).toNat - 0) (0:Int)+more))] then
 bif (0+R.length).beq (0+R.length) && Nat.ble 1 (1) then
 ∃ (W:List Int),(0+R.length=W.length/\1=1/\∀ (j:Nat),j<0+R.length->atG (remZ hour (↑(0+R.length):Int)).toNat (catG 0 (fun (j:Nat)=>List.take (1) (List.drop (j*(1)) [])) (dG R)) [I (min (8796093022208:Int) (R.getD ((remZ hour (↑(0+R.length):Int)).toNat - 0) (0:Int)+more))] j=dG W j)/\buD l=buD l/\rsE W l=(0:Int)/\∀ (S:List Int),S=rsD W l->bif !decide ((↑S.length:Int)=(↑l.length:Int)) then
 Q (VRes.ret (VV.bool false))
 else ∃ (W:List Int),∃ (D:List Int),isD (VH.mk (2) ((1,VB.gone)::(1,VB.vec (0+R.length) (atG (remZ hour (↑(0+R.length):Int)).toNat (catG 0 (fun (j:Nat)=>List.take (1) (List.drop (j*(1)) [])) (dG R)) [I (min (8796093022208:Int) (R.getD ((remZ hour (↑(0+R.length):Int)).toNat - 0) (0:Int)+more))]) (1) 3)::(1,VB.vec (0+R.length) (catG 0 (fun (j:Nat)=>List.take (1) (List.drop (j*(1)) [])) (dG R)) (1) 3)::(1,VB.vec 0 (fun (j:Nat)=>List.take (1) (List.drop (j*(1)) [])) (1) 3)::[].zip [])) 3 (VV.tl (0+R.length) (1) (atG (remZ hour (↑(0+R.length):Int)).toNat (catG 0 (fun (j:Nat)=>List.take (1) (List.drop (j*(1)) [])) (dG R)) [I (min (8796093022208:Int) (R.getD ((remZ hour (↑(0+R.length):Int)).toNat - 0) (0:Int)+more))])) (inD W)/\buD l=buD l/\isD (VH.mk (2) ((1,VB.gone)::(1,VB.vec (0+R.length) (atG (remZ hour (↑(0+R.length):Int)).toNat (catG 0 (fun (j:Nat)=>List.take (1) (List.drop (j*(1)) [])) (dG R)) [I (min (8796093022208:Int) (R.getD ((remZ hour (↑(0+R.length):Int)).toNat - 0) (0:Int)+more))]) (1) 3)::(1,VB.vec (0+R.length) (catG 0 (fun (j:Nat)=>List.take (1) (List.drop (j*(1)) [])) (dG R)) (1) 3)::(1,VB.vec 0 (fun (j:Nat)=>List.take (1) (List.drop (j*(1)) [])) (1) 3)::[].zip [])) 3 (inD S) (inD D)/\(cnP l D/\W.length<=100000)/\∀ (b:Bool) (e_1:Int),b=okP W l D->(e_1=if okP W l D=true then
 endF l D D.length
 else (0:Int))->bif decide (e_1<=e) then
 Q (VRes.ret (VV.bool true))
 else Q (VRes.ret (VV.bool false))
 else False
 else False
 else False
 else False
 else False
 else False
 else False
 else False
 else False
 else False
 else False
 else bif c then
 bif decide (late=e) then
 ∃ (S_2:List Int),∃ (E:List Int),∃ (e_1:Int),FitP 0 (VH.mk 1 ([].zip [])) ((20,I 0)::(199,VV.bool true)::(199,VV.bool (decide (late=e)))::(198,VV.bool (decide (late=e)))::(195,VV.bool true)::(197,I e)::(195,VV.bool true)::(196,I late)::(195,VV.bool true)::(195,VV.bool c)::(194,VV.bool c)::(193,VV.bool false)::(193,VV.bool false)::(192,VV.bool false)::(186,VV.bool false)::(191,udf)::(188,VV.bool false)::(190,udf)::(188,VV.bool false)::(189,udf)::(188,VV.bool false)::(188,VV.bool c)::(186,VV.bool false)::(187,VV.bool c)::(186,VV.bool false)::(186,VV.bool !b)::(185,VV.bool !b)::(184,VV.bool b)::(19,VV.bool b)::(18,I e)::(183,VV.bool b)::(182,I e)::(177,VV.tup [I e,VV.bool b])::(181,VV.tup [I e,VV.bool b])::(180,inD S)::(179,buD l)::(178,inD R)::dsC.zip (VC R l hour more S E_1 S.length c late)) (VH.mk 1 ([].zip [])) (dsX.zip (VX R l hour more S_2 E 0 e_1))/\(S_2.length<=100000/\E.length=S_2.length/\(E=S_2 ∨ lexP S_2 E))/\∀ (i:Nat),bif decide ((↑R.length:Int)=(0:Int)) then
 Q (VRes.ret (VV.bool true))
 else bif roomB (0+R.length) (8) then
 bif inK .i64 hour then
 bif decide ((↑(0+R.length):Int)=(0:Int)) then
 False
 else bif decide ((0:Int)<=remZ hour (↑(0+R.length):Int)/\remZ hour (↑(0+R.length):Int)<(↑(0+R.length):Int)) then
 bif (0+R.length).beq (0+R.length) && Nat.ble 1 Try.prog.types[3].size then
 bif (0+R.length).beq (0+R.length) then
 bif inK .i64 more then
 bif inK .i64 (R.getD ((remZ hour (↑(0+R.length):Int)).toNat - 0) (0:Int)+more) then
 bif decide ((0:Int)<=remZ hour (↑(0+R.length):Int)/\remZ hour (↑(0+R.length):Int)<(↑(0+R.length):Int)) then
 bif (0+R.length).beq (0+R.length) && Nat.ble 1 Try.prog.types[3].size then
 bif (0+R.length).beq (0+R.length) && [I (min (8796093022208:Int) (R.getD ((remZ hour (↑(0+R.length):Int)).toNat - 0) (0:Int)+more))].all VV.one && belL 0 [I (min (8796093022208:Int) (R.getD ((remZ hour (↑(0+R.length):Int)).toNat - 0) (0:Int)+more))] then
 bif (0+R.length).beq (0+R.length) && Nat.ble 1 (1) then
 ∃ (W:List Int),(0+R.length=W.length/\1=1/\∀ (j:Nat),j<0+R.length->atG (remZ hour (↑(0+R.length):Int)).toNat (catG 0 (fun (j:Nat)=>List.take (1) (List.drop (j*(1)) [])) (dG R)) [I (min (8796093022208:Int) (R.getD ((remZ hour (↑(0+R.length):Int)).toNat - 0) (0:Int)+more))] j=dG W j)/\buD l=buD l/\rsE W l=(0:Int)/\∀ (S:List Int),S=rsD W l->bif !decide ((↑S.length:Int)=(↑l.length:Int)) then
 Q (VRes.ret (VV.bool false))
 else ∃ (W:List Int),∃ (D:List Int),isD (VH.mk (2) ((1,VB.gone)::(1,VB.vec (0+R.length) (atG (remZ hour (↑(0+R.length):Int)).toNat (catG 0 (fun (j:Nat)=>List.take (1) (List.drop (j*(1)) [])) (dG R)) [I (min (8796093022208:Int) (R.getD ((remZ hour (↑(0+R.length):Int)).toNat - 0) (0:Int)+more))]) (1) 3)::(1,VB.vec (0+R.length) (catG 0 (fun (j:Nat)=>List.take (1) (List.drop (j*(1)) [])) (dG R)) (1) 3)::(1,VB.vec 0 (fun (j:Nat)=>List.take (1) (List.drop (j*(1)) [])) (1) 3)::[].zip [])) 3 (VV.tl (0+R.length) (1) (atG (remZ hour (↑(0+R.length):Int)).toNat (catG 0 (fun (j:Nat)=>List.take (1) (List.drop (j*(1)) [])) (dG R)) [I (min (8796093022208:Int) (R.getD ((remZ hour (↑(0+R.length):Int)).toNat - 0) (0:Int)+more))])) (inD W)/\buD l=buD l/\isD (VH.mk (2) ((1,VB.gone)::(1,VB.vec (0+R.length) (atG (remZ hour (↑(0+R.length):Int)).toNat (catG 0 (fun (j:Nat)=>List.take (1) (List.drop (j*(1)) [])) (dG R)) [I (min (8796093022208:Int) (R.getD ((remZ hour (↑(0+R.length):Int)).toNat - 0) (0:Int)+more))]) (1) 3)::(1,VB.vec (0+R.length) (catG 0 (fun (j:Nat)=>List.take (1) (List.drop (j*(1)) [])) (dG R)) (1) 3)::(1,VB.vec 0 (fun (j:Nat)=>List.take (1) (List.drop (j*(1)) [])) (1) 3)::[].zip [])) 3 (inD S) (inD D)/\(cnP l D/\W.length<=100000)/\∀ (b:Bool) (e:Int),b=okP W l D->(e=if okP W l D=true then
 endF l D D.length
 else (0:Int))->bif decide (e<=e_1) then
 Q (VRes.ret (VV.bool true))
 else Q (VRes.ret (VV.bool false))
 else False
 else False
 else False
 else False
 else False
 else False
 else False
 else False
 else False
 else False
 else False
 else bif decide ((↑R.length:Int)=(0:Int)) then
 Q (VRes.ret (VV.bool true))
 else bif roomB (0+R.length) (8) then
 bif inK .i64 hour then
 bif decide ((↑(0+R.length):Int)=(0:Int)) then
 False
 else bif decide ((0:Int)<=remZ hour (↑(0+R.length):Int)/\remZ hour (↑(0+R.length):Int)<(↑(0+R.length):Int)) then
 bif (0+R.length).beq (0+R.length) && Nat.ble 1 Try.prog.types[3].size then
 bif (0+R.length).beq (0+R.length) then
 bif inK .i64 more then
 bif inK .i64 (R.getD ((remZ hour (↑(0+R.length):Int)).toNat - 0) (0:Int)+more) then
 bif decide ((0:Int)<=remZ hour (↑(0+R.length):Int)/\remZ hour (↑(0+R.length):Int)<(↑(0+R.length):Int)) then
 bif (0+R.length).beq (0+R.length) && Nat.ble 1 Try.prog.types[3].size then
 bif (0+R.length).beq (0+R.length) && [I (min (8796093022208:Int) (R.getD ((remZ hour (↑(0+R.length):Int)).toNat - 0) (0:Int)+more))].all VV.one && belL 0 [I (min (8796093022208:Int) (R.getD ((remZ hour (↑(0+R.length):Int)).toNat - 0) (0:Int)+more))] then
 bif (0+R.length).beq (0+R.length) && Nat.ble 1 (1) then
 ∃ (W:List Int),(0+R.length=W.length/\1=1/\∀ (j:Nat),j<0+R.length->atG (remZ hour (↑(0+R.length):Int)).toNat (catG 0 (fun (j:Nat)=>List.take (1) (List.drop (j*(1)) [])) (dG R)) [I (min (8796093022208:Int) (R.getD ((remZ hour (↑(0+R.length):Int)).toNat - 0) (0:Int)+more))] j=dG W j)/\buD l=buD l/\rsE W l=(0:Int)/\∀ (S:List Int),S=rsD W l->bif !decide ((↑S.length:Int)=(↑l.length:Int)) then
 Q (VRes.ret (VV.bool false))
 else ∃ (W:List Int),∃ (D:List Int),isD (VH.mk (2) ((1,VB.gone)::(1,VB.vec (0+R.length) (atG (remZ hour (↑(0+R.length):Int)).toNat (catG 0 (fun (j:Nat)=>List.take (1) (List.drop (j*(1)) [])) (dG R)) [I (min (8796093022208:Int) (R.getD ((remZ hour (↑(0+R.length):Int)).toNat - 0) (0:Int)+more))]) (1) 3)::(1,VB.vec (0+R.length) (catG 0 (fun (j:Nat)=>List.take (1) (List.drop (j*(1)) [])) (dG R)) (1) 3)::(1,VB.vec 0 (fun (j:Nat)=>List.take (1) (List.drop (j*(1)) [])) (1) 3)::[].zip [])) 3 (VV.tl (0+R.length) (1) (atG (remZ hour (↑(0+R.length):Int)).toNat (catG 0 (fun (j:Nat)=>List.take (1) (List.drop (j*(1)) [])) (dG R)) [I (min (8796093022208:Int) (R.getD ((remZ hour (↑(0+R.length):Int)).toNat - 0) (0:Int)+more))])) (inD W)/\buD l=buD l/\isD (VH.mk (2) ((1,VB.gone)::(1,VB.vec (0+R.length) (atG (remZ hour (↑(0+R.length):Int)).toNat (catG 0 (fun (j:Nat)=>List.take (1) (List.drop (j*(1)) [])) (dG R)) [I (min (8796093022208:Int) (R.getD ((remZ hour (↑(0+R.length):Int)).toNat - 0) (0:Int)+more))]) (1) 3)::(1,VB.vec (0+R.length) (catG 0 (fun (j:Nat)=>List.take (1) (List.drop (j*(1)) [])) (dG R)) (1) 3)::(1,VB.vec 0 (fun (j:Nat)=>List.take (1) (List.drop (j*(1)) [])) (1) 3)::[].zip [])) 3 (inD S) (inD D)/\(cnP l D/\W.length<=100000)/\∀ (b:Bool) (e_1:Int),b=okP W l D->(e_1=if okP W l D=true then
 endF l D D.length
 else (0:Int))->bif decide (e_1<=e) then
 Q (VRes.ret (VV.bool true))
 else Q (VRes.ret (VV.bool false))
 else False
 else False
 else False
 else False
 else False
 else False
 else False
 else False
 else False
 else False
 else False
 else bif decide ((↑R.length:Int)=(0:Int)) then
 Q (VRes.ret (VV.bool true))
 else bif roomB (0+R.length) (8) then
 bif inK .i64 hour then
 bif decide ((↑(0+R.length):Int)=(0:Int)) then
 False
 else bif decide ((0:Int)<=remZ hour (↑(0+R.length):Int)/\remZ hour (↑(0+R.length):Int)<(↑(0+R.length):Int)) then
 bif (0+R.length).beq (0+R.length) && Nat.ble 1 Try.prog.types[3].size then
 bif (0+R.length).beq (0+R.length) then
 bif inK .i64 more then
 bif inK .i64 (R.getD ((remZ hour (↑(0+R.length):Int)).toNat - 0) (0:Int)+more) then
 bif decide ((0:Int)<=remZ hour (↑(0+R.length):Int)/\remZ hour (↑(0+R.length):Int)<(↑(0+R.length):Int)) then
 bif (0+R.length).beq (0+R.length) && Nat.ble 1 Try.prog.types[3].size then
 bif (0+R.length).beq (0+R.length) && [I (min (8796093022208:Int) (R.getD ((remZ hour (↑(0+R.length):Int)).toNat - 0) (0:Int)+more))].all VV.one && belL 0 [I (min (8796093022208:Int) (R.getD ((remZ hour (↑(0+R.length):Int)).toNat - 0) (0:Int)+more))] then
 bif (0+R.length).beq (0+R.length) && Nat.ble 1 (1) then
 ∃ (W:List Int),(0+R.length=W.length/\1=1/\∀ (j:Nat),j<0+R.length->atG (remZ hour (↑(0+R.length):Int)).toNat (catG 0 (fun (j:Nat)=>List.take (1) (List.drop (j*(1)) [])) (dG R)) [I (min (8796093022208:Int) (R.getD ((remZ hour (↑(0+R.length):Int)).toNat - 0) (0:Int)+more))] j=dG W j)/\buD l=buD l/\rsE W l=(0:Int)/\∀ (S:List Int),S=rsD W l->bif !decide ((↑S.length:Int)=(↑l.length:Int)) then
 Q (VRes.ret (VV.bool false))
 else ∃ (W:List Int),∃ (D:List Int),isD (VH.mk (2) ((1,VB.gone)::(1,VB.vec (0+R.length) (atG (remZ hour (↑(0+R.length):Int)).toNat (catG 0 (fun (j:Nat)=>List.take (1) (List.drop (j*(1)) [])) (dG R)) [I (min (8796093022208:Int) (R.getD ((remZ hour (↑(0+R.length):Int)).toNat - 0) (0:Int)+more))]) (1) 3)::(1,VB.vec (0+R.length) (catG 0 (fun (j:Nat)=>List.take (1) (List.drop (j*(1)) [])) (dG R)) (1) 3)::(1,VB.vec 0 (fun (j:Nat)=>List.take (1) (List.drop (j*(1)) [])) (1) 3)::[].zip [])) 3 (VV.tl (0+R.length) (1) (atG (remZ hour (↑(0+R.length):Int)).toNat (catG 0 (fun (j:Nat)=>List.take (1) (List.drop (j*(1)) [])) (dG R)) [I (min (8796093022208:Int) (R.getD ((remZ hour (↑(0+R.length):Int)).toNat - 0) (0:Int)+more))])) (inD W)/\buD l=buD l/\isD (VH.mk (2) ((1,VB.gone)::(1,VB.vec (0+R.length) (atG (remZ hour (↑(0+R.length):Int)).toNat (catG 0 (fun (j:Nat)=>List.take (1) (List.drop (j*(1)) [])) (dG R)) [I (min (8796093022208:Int) (R.getD ((remZ hour (↑(0+R.length):Int)).toNat - 0) (0:Int)+more))]) (1) 3)::(1,VB.vec (0+R.length) (catG 0 (fun (j:Nat)=>List.take (1) (List.drop (j*(1)) [])) (dG R)) (1) 3)::(1,VB.vec 0 (fun (j:Nat)=>List.take (1) (List.drop (j*(1)) [])) (1) 3)::[].zip [])) 3 (inD S) (inD D)/\(cnP l D/\W.length<=100000)/\∀ (b:Bool) (e_1:Int),b=okP W l D->(e_1=if okP W l D=true then
 endF l D D.length
 else (0:Int))->bif decide (e_1<=e) then
 Q (VRes.ret (VV.bool true))
 else Q (VRes.ret (VV.bool false))
 else False
 else False
 else False
 else False
 else False
 else False
 else False
 else False
 else False
 else False
 else False
 else False):=by kernel_rfl
end Go.Sx.Srn
namespace Go.Sx.Srn
open Go Go.Sx Go.Proofs Go.ChangeShapes Go.WideShapes Go.RowKit
set_option maxRecDepth 1000000
theorem leavesP5:leavesT Try.prog 5 5=some [5]:=by kernel_rfl
theorem undP5:Try.prog.underlying 5=some (.int .u8):=by kernel_rfl
theorem undP48:Try.prog.underlying 48=some (.int .u32):=by kernel_rfl
theorem undP63:Try.prog.underlying 63=some (.slice 5):=by kernel_rfl
theorem cellsP5:Try.prog.cellsOf 5=1:=by kernel_rfl
section
variable {H:Type} {enc:TypeId × Value->H} {w:World} {b0 base:Nat} {spare:Nat->Bool} {held:Bool} {d:DataW H} {p:List MemPlace} {v:Value} {fuel:Nat} {y:DataW H × List MemPlace}
abbrev U8:={n:Int // 0<=n/\n<=255}
theorem wfU8 {n:Int} (h:(Lit.int .u8 n).wf=true):0<=n/\n<=255:=by
 simp only [Lit.wf,Bool.and_eq_true,decide_eq_true_eq] at h
 exact h
theorem wfU32 {n:Int} (h:(Lit.int .u32 n).wf=true):0<=n/\n<=4294967295:=by
 simp only [Lit.wf,Bool.and_eq_true,decide_eq_true_eq] at h
 exact h
theorem leafB {v:Value} (h:∃ m v' y,some v=some v'/\DataW.trod enc Try.prog w base spare held m 5 [v']=some y):∃ n:U8,v=.int .u8 n.1:=by
 obtain ⟨m,v',y,e,h⟩:=h
 cases e
 obtain ⟨n,rfl,hn⟩:=leaf_int undP5 h
 exact ⟨⟨n,wfU8 hn⟩,rfl⟩
theorem bytes_rd (h:DataW.trod enc Try.prog w base spare held fuel 63 [v]=some y):∃ B:List Int,VRel (dataR w) (byD B) v/\byB B:=by
 obtain ⟨l,hl⟩:=read_list (α:=U8) (f:=fun n=>[.int .u8 n.1]) (d0:=⟨0,by decide⟩) undP63 leavesP5 cellsP5 (by decide) (fun _=>rfl) (fun xs hx hc=>by
  obtain ⟨a,rfl⟩:=len1 hx
  obtain ⟨n,rfl⟩:=leafB (hc 0 5 rfl)
  exact ⟨n,_,_,rfl,rfl,rfl⟩) h
 have e:∀ j,(l.map Subtype.val).getD j 0=(l.getD j ⟨0,by decide⟩).1:=fun j=>by
  rw [List.getD_eq_getElem?_getD,List.getD_eq_getElem?_getD,List.getElem?_map]
  cases l[j]? <;> rfl
 refine ⟨l.map Subtype.val,?_,trivial,fun i=>by rw [e]; exact (l.getD i ⟨0,by decide⟩).2⟩
 have e2:byD (l.map Subtype.val)=.tl l.length 1 (fun j=>[.int .u8 (l.getD j ⟨0,by decide⟩).1]):=by
  unfold byD byG
  rw [List.length_map]
  congr 1
  funext j
  rw [e]
 rw [e2]
 exact hl
theorem bytes_in (s:Value.okWide Try.prog w .any b0 63 v) (h:DataW.Trod enc Try.prog w base spare held 63 v d p):∃ B:List Int,VRel (dataR w) (byD B) v/\byB B:=by
 obtain ⟨_,_,h⟩:=open_list undP63 s h
 exact bytes_rd h
end
end Go.Sx.Srn
namespace Go.Sx.Str
open Go Go.Sx Go.Proofs
set_option maxRecDepth 1000000
theorem hmix:Try.prog.follows .mixedOrders=true:=by kernel_rfl
theorem none_good {un:Nat} (m:Nat):Good Try.prog (callN Try.prog noSpec noL un m):=
 callN_good hmix (fun _ _ h=>by cases h) (fun _ _ _ _ _ _ _ h=>by cases h) m
theorem good0:Good Try.prog (callN Try.prog noSpec noL 10 20):=none_good 20
theorem noL_ok {b:Code} {n:Nat}:∀ id T,(fun _:Nat=>(none:Option LT)) id=some T->∀ b' ∈ blocksOf id b,LSound Try.prog true (.block id b') n T:=fun _ _ h=>by cases h
theorem lo_one {f:FuncId} {id:Nat} {T:LT} (hb:blocksOf id (bodyOf Try.prog f)=[.loop (loopB id (bodyOf Try.prog f))]) (hs:LSound Try.prog true (.block id (.loop (loopB id (bodyOf Try.prog f)))) (ntOf Try.prog f) T):LoopsOk Try.prog f [(id,T)]:=by
 intro x hx
 simp only [List.mem_singleton] at hx
 subst hx
 exact ⟨hb,hs⟩
theorem cond_b {b:Bool} {p q:Prop} (h1:b=true->p) (h2:b=false->q):(bif b then p else q):=by
 cases b
 ·exact h2 rfl
 ·exact h1 rfl
def boQ (Q:Bool->Prop):VRes->VH->Prop:=fun r _=>match r with
 | .ret (.bool b)=>Q b
 | _=>False
theorem boQ_of {Q:Bool->Prop} {r:VRes} {h:VH} (hq:boQ Q r h):∃ b,r=.ret (.bool b)/\Q b:=by
 unfold boQ at hq
 split at hq
 ·exact ⟨_,rfl,hq⟩
 ·exact hq.elim
theorem by_bo {call:CallT} (hg:Good Try.prog call) {f:FuncId} {args:List VV} {b:Bool} (hK:call 0 (.fn f) args ⟨0,[]⟩ (boQ (· = b))) (ha:belL 0 args=true) (h:VH):CallsV Try.prog f args h (.ret (.bool b)) h:=by
 obtain ⟨r,h',h1,_,h2⟩:=hg _ _ _ _ _ hK
 obtain ⟨b',rfl,rfl⟩:=boQ_of h1
 exact calls_lift0 h2 ha rfl
abbrev I (n:Int):VV:=.int .i64 n
structure Pt where
 k:Int
 flo:Int
 fhi:Int
 wlo:Int
 whi:Int
 hlo:Int
 hhi:Int
 slo:Int
 shi:Int
structure Wt where
 flo:Int
 fhi:Int
 wlo:Int
 whi:Int
def ptL (p:Pt):List VV:=[I p.k,I p.flo,I p.fhi,I p.wlo,I p.whi,I p.hlo,I p.hhi,I p.slo,I p.shi]
def wtL (w:Wt):List VV:=[I w.flo,I w.fhi,I w.wlo,I w.whi]
def ptsA (n:Nat) (l:Int->Pt):VB:=.arr 9 (fun ix i=>ix=[]/\0<=i/\i<(n:Int)) (fun _ i=>ptL (l i))
def spanB (lo hi least most:Int):Bool:=decide (least<=lo) && decide (lo<=hi) && decide (hi<=most)
def watB (w:Wt):Bool:=spanB w.flo w.fhi 1 1073741824 && spanB w.wlo w.whi 0 100000
def ptB (p:Pt):Bool:=
 bif decide (p.k=0) then spanB p.flo p.fhi 1 1073741824 && spanB p.wlo p.whi 0 100000
 else bif decide (p.k=1) then spanB p.flo p.fhi 0 1073741824
 else bif decide (p.k=2) then spanB p.hlo p.hhi 0 1099511627776
 else bif decide (p.k=3) then spanB p.wlo p.whi 0 100000 && spanB p.slo p.shi 0 10000
 else false
def mD (t f u g:Int):Int:=quoZ (t*f+u*g) (f+g)
def mU (t f u g:Int):Int:=quoZ (t*f+u*g+(f+g) - 1) (f+g)
def joinW (w:Wt) (p:Pt):Wt:=
 ⟨w.flo+p.flo,w.fhi+p.fhi,if p.wlo<w.wlo then mD w.wlo w.flo p.wlo p.fhi else mD w.wlo w.fhi p.wlo p.flo,if p.whi<w.whi then mU w.whi w.fhi p.whi p.flo else mU w.whi w.flo p.whi p.fhi⟩
def drawW (w:Wt) (p:Pt):Wt:=⟨w.flo - p.fhi,w.fhi - p.flo,w.wlo,w.whi⟩
def addW (w:Wt) (p:Pt):Wt:=⟨w.flo,w.fhi,w.wlo+quoZ p.hlo w.fhi,w.whi+quoZ (p.hhi+w.flo - 1) w.flo⟩
def airW (w:Wt) (p:Pt):Wt:=
 ⟨w.flo,w.fhi,if w.wlo > p.wlo then mD w.wlo (10000 - p.shi) p.wlo p.shi else mD w.wlo (10000 - p.slo) p.wlo p.slo,if w.whi > p.whi then mU w.whi (10000 - p.slo) p.whi p.slo else mU w.whi (10000 - p.shi) p.whi p.shi⟩
def stepW (w:Wt) (p:Pt):Wt:=
 bif decide (p.k=0) then joinW w p else bif decide (p.k=1) then drawW w p else bif decide (p.k=2) then addW w p else airW w p
def errW (w:Wt):Int:=bif decide (w.flo<1) then 10 else bif decide (w.fhi > 1073741824) || decide (w.whi > 100000) then 12 else 0
def runL (l:Int->Pt):Nat->Int->Wt->List Wt
 | 0,_,_=>[]
 | m+1,i,w=>stepW w (l i)::runL l m (i+1) (stepW w (l i))
def runE (l:Int->Pt):Nat->Int->Wt->Int
 | 0,_,_=>0
 | m+1,i,w=>bif !ptB (l i) then 1 else bif decide (errW (stepW w (l i))=0) then runE l m (i+1) (stepW w (l i)) else errW (stepW w (l i))
def runI (l:Int->Pt):Nat->Int->Wt->Int
 | 0,i,_=>i
 | m+1,i,w=>bif ptB (l i) && decide (errW (stepW w (l i))=0) then runI l m (i+1) (stepW w (l i)) else i
def w0:Wt:=⟨0,0,0,0⟩
def vecW (xs:List Wt):VB:=.vec xs.length (fun j=>wtL (xs.getD j w0)) 4 25
structure WOk (w:Wt):Prop where
 f:1<=w.flo/\w.flo<=w.fhi/\w.fhi<=1073741824
 w:0<=w.wlo/\w.wlo<=w.whi/\w.whi<=100000
theorem spanB_iff {a c x y:Int}:spanB a c x y=true ↔ x<=a/\a<=c/\c<=y:=by simp [spanB,and_assoc]
theorem watB_iff {w:Wt}:watB w=true ↔ WOk w:=by
 unfold watB
 rw [Bool.and_eq_true,spanB_iff,spanB_iff]
 exact ⟨fun h=>⟨h.1,h.2⟩,fun h=>⟨h.f,h.w⟩⟩
theorem mul_in {a b A B:Int} (ha:0<=a/\a<=A) (hb:0<=b/\b<=B):0<=a*b/\a*b<=A*B:=
 ⟨Int.mul_nonneg ha.1 hb.1,Int.le_trans (Int.mul_le_mul_of_nonneg_right ha.2 hb.1) (Int.mul_le_mul_of_nonneg_left hb.2 (by omega))⟩
theorem mD_le {t f u g:Int} (ht:0<=t) (hu:0<=u) (hf:0<=f) (hg:0<=g) (h:0<f+g):0<=mD t f u g/\mD t f u g*(f+g)<=t*f+u*g:=by
 have h0:0<=t*f+u*g:=Int.add_nonneg (Int.mul_nonneg ht hf) (Int.mul_nonneg hu hg)
 unfold mD
 rw [quoZ_nn h0]
 exact ⟨Int.ediv_nonneg h0 (by omega),Int.ediv_mul_le _ (by omega)⟩
theorem mU_ge {t f u g:Int} (ht:0<=t) (hu:0<=u) (hf:0<=f) (hg:0<=g) (h:0<f+g):0<=mU t f u g/\t*f+u*g<=mU t f u g*(f+g):=by
 have h0:0<=t*f+u*g:=Int.add_nonneg (Int.mul_nonneg ht hf) (Int.mul_nonneg hu hg)
 unfold mU
 rw [quoZ_nn (by omega)]
 refine ⟨Int.ediv_nonneg (by omega) (by omega),?_⟩
 generalize t*f+u*g=s at *
 generalize f+g=d at *
 have h1:=Int.lt_ediv_add_one_mul_self (s+d - 1) h
 rw [Int.add_mul,Int.one_mul] at h1
 omega
end Go.Sx.Str
namespace Go.Sx.Str
open Go Go.Sx Go.Proofs
set_option maxRecDepth 1000000
theorem isSpan_ev (lo hi least most:Int) (Q:VRes->VH->Prop):callN Try.prog noSpec noL 10 20 0 (.fn 49) [.agg [I lo,I hi],I least,I most] ⟨0,[]⟩ Q =
 (bif decide (lo ≥ least) then
 bif decide (lo<=hi) then
 Q (VRes.ret (VV.bool (decide (hi<=most)))) (VH.mk (0+1) ([(0,VB.cells [I lo,I hi] 23)]))
 else Q (VRes.ret (VV.bool false)) (VH.mk (0+1) ([(0,VB.cells [I lo,I hi] 23)]))
 else Q (VRes.ret (VV.bool false)) (VH.mk (0+1) ([(0,VB.cells [I lo,I hi] 23)]))):=by kernel_rfl
theorem mean_ev (t f u g:Int) (Q:VRes->VH->Prop):callN Try.prog noSpec noL 10 20 0 (.fn 79) [I t,I f,I u,I g] ⟨0,[]⟩ Q =
 (bif inK IntKind.i64 (t*f) then
 bif inK IntKind.i64 (u*g) then
 bif inK IntKind.i64 (t*f+u*g) then
 bif inK IntKind.i64 (f+g) then
 bif decide (f+g=(0:Int)) then
 False
 else bif inK IntKind.i64 (quoZ (t*f+u*g) (f+g)) then
 bif inK IntKind.i64 (f+g) then
 bif inK IntKind.i64 (t*f+u*g+(f+g)) then
 bif inK IntKind.i64 (t*f+u*g+(f+g) - (1:Int)) then
 bif decide (f+g=(0:Int)) then
 False
 else bif inK IntKind.i64 (quoZ (t*f+u*g+(f+g) - (1:Int)) (f+g)) then
 Q (VRes.ret (VV.tup [I (quoZ (t*f+u*g) (f+g)),I (quoZ (t*f+u*g+(f+g) - (1:Int)) (f+g))])) (VH.mk (0) ([]))
 else False
 else False
 else False
 else False
 else False
 else False
 else False
 else False
 else False):=by kernel_rfl
theorem up_ev (a b:Int) (Q:VRes->VH->Prop):callN Try.prog noSpec noL 10 20 0 (.fn 80) [I a,I b] ⟨0,[]⟩ Q =
 (bif inK IntKind.i64 (a+b) then
 bif inK IntKind.i64 (a+b - (1:Int)) then
 bif decide (b=(0:Int)) then
 False
 else bif inK IntKind.i64 (quoZ (a+b - (1:Int)) b) then
 Q (VRes.ret (I (quoZ (a+b - (1:Int)) b))) (VH.mk (0) ([]))
 else False
 else False
 else False):=by kernel_rfl
theorem within_ev (n a b:Int) (Q:VRes->VH->Prop):callN Try.prog noSpec noL 10 20 0 (.fn 38) [I n,I a,I b] ⟨0,[]⟩ Q =
 (bif decide (n ≥ a) then
 Q (VRes.ret (VV.bool (decide (n<=b)))) (VH.mk (0) ([]))
 else Q (VRes.ret (VV.bool false)) (VH.mk (0) ([]))):=by kernel_rfl
end Go.Sx.Str
namespace Go.Sx.Str
open Go Go.Sx Go.Proofs
set_option maxRecDepth 1000000
theorem lift0 {f:FuncId} {args:List VV} {r:VRes} {h h':VH} (hc:CallsV Try.prog f args ⟨0,[]⟩ r h') (ha:belL 0 args=true) (hr:r.bel 0=true):CallsV Try.prog f args h r h:=
 calls_lift hc (Nat.zero_le _) (fun m hm=>absurd hm (Nat.not_lt_zero m)) (fun m hm=>absurd hm (Nat.not_lt_zero m)) (fun m hm=>absurd hm (Nat.not_lt_zero m)) (fun m hm=>absurd hm (Nat.not_lt_zero m)) ha hr
theorem isSpan_v (lo hi a b:Int) (h:VH):CallsV Try.prog 49 [.agg [I lo,I hi],I a,I b] h (.ret (.bool (spanB lo hi a b))) h:=by
 refine by_bo good0 ?_ rfl h
 rw [isSpan_ev]
 unfold spanB boQ
 repeat' first
  | (refine cond_d (fun _=>?_) (fun _=>?_))
 all_goals (simp; try omega)
def inB (n a b:Int):Bool:=decide (a<=n) && decide (n<=b)
theorem inB_iff {n a b:Int}:inB n a b=true ↔ a<=n/\n<=b:=by simp [inB]
theorem within_v (n a b:Int) (h:VH):CallsV Try.prog 38 [I n,I a,I b] h (.ret (.bool (inB n a b))) h:=by
 refine by_bo good0 ?_ rfl h
 rw [within_ev]
 unfold inB boQ
 refine cond_d (fun _=>?_) (fun _=>?_) <;> (simp; try omega)
def spanT (f:FuncId):FuncId × Spec1:=(f,fun _ args h K=>match args with
 | [.agg [.int .i64 a,.int .i64 b],.int .i64 x,.int .i64 y]=>K (.ret (.bool (spanB a b x y))) h
 | _=>False)
def inT (f:FuncId):FuncId × Spec1:=(f,fun _ args h K=>match args with
 | [.int .i64 n,.int .i64 a,.int .i64 b]=>K (.ret (.bool (inB n a b))) h
 | _=>False)
theorem spanT_ok {f:FuncId} (hf:∀ lo hi a b h,CallsV Try.prog f [.agg [I lo,I hi],I a,I b] h (.ret (.bool (spanB lo hi a b))) h):SpOk Try.prog (spanT f).1 (spanT f).2:=by
 intro lock args h K hK
 simp only [spanT] at hK
 split at hK
 ·exact ⟨_,h,hK,lockP_refl _ _,hf _ _ _ _ h⟩
 ·exact hK.elim
theorem inT_ok {f:FuncId} (hf:∀ n a b h,CallsV Try.prog f [I n,I a,I b] h (.ret (.bool (inB n a b))) h):SpOk Try.prog (inT f).1 (inT f).2:=by
 intro lock args h K hK
 simp only [inT] at hK
 split at hK
 ·exact ⟨_,h,hK,lockP_refl _ _,hf _ _ _ h⟩
 ·exact hK.elim
def meanOk (t f u g:Int):Prop:=(0<=t/\t<=100000)/\(0<=f/\f<=1073741824)/\(0<=u/\u<=100000)/\(0<=g/\g<=1073741824)/\0<f+g
def meanT:FuncId × Spec1:=(79,fun _ args h K=>match args with
 | [.int .i64 t,.int .i64 f,.int .i64 u,.int .i64 g]=>meanOk t f u g/\K (.ret (.tup [I (mD t f u g),I (mU t f u g)])) h
 | _=>False)
def upOk (a b:Int):Prop:=(0<=a/\a<=4611686018427387904)/\(0<b/\b<=4294967296)
def upT (f:FuncId):FuncId × Spec1:=(f,fun _ args h K=>match args with
 | [.int .i64 a,.int .i64 b]=>upOk a b/\K (.ret (I (quoZ (a+b - 1) b))) h
 | _=>False)
theorem sum_in {t f u g:Int} (h:meanOk t f u g):(0<=t*f/\t*f<=107374182400000)/\(0<=u*g/\u*g<=107374182400000):=by
 obtain ⟨h1,h2,h3,h4,_⟩:=h
 exact ⟨mul_in h1 h2,mul_in h3 h4⟩
theorem quo_in {a b:Int} (ha:0<=a) (hb:0<b):0<=quoZ a b/\quoZ a b<=a:=by
 rw [quoZ_nn ha]
 exact ⟨Int.ediv_nonneg ha (by omega),Int.ediv_le_self _ ha⟩
theorem meanT_ok:SpOk Try.prog meanT.1 meanT.2:=by
 intro lock args h K hK
 simp only [meanT] at hK
 split at hK
 ·rename_i t f u g
  obtain ⟨hm,hK⟩:=hK
  obtain ⟨s1,s2⟩:=sum_in hm
  obtain ⟨h1,h2,h3,h4,h5⟩:=hm
  have q1:=quo_in (a:=t*f+u*g) (b:=f+g) (by omega) h5
  have q2:=quo_in (a:=t*f+u*g+(f+g) - 1) (b:=f+g) (by omega) h5
  obtain ⟨r,h',hQ,hc⟩:=of_callN good0 (f:=79) (args:=[I t,I f,I u,I g]) (h:=⟨0,[]⟩) (K:=fun r _=>r=.ret (.tup [I (mD t f u g),I (mU t f u g)]))
   (by
    rw [mean_ev]
    exact cond_r (by omega) (cond_r (by omega) (cond_r (by omega) (cond_r (by omega) (cond_d (fun h=>by omega) (fun _=>cond_r (by omega) (cond_r (by omega) (cond_r (by omega) (cond_r (by omega) (cond_d (fun h=>by omega) (fun _=>cond_r (by omega) rfl)))))))))))
  subst hQ
  exact ⟨_,h,hK,lockP_refl _ _,lift0 hc rfl rfl⟩
 ·exact hK.elim
theorem up_v {a b:Int} (ho:upOk a b):∃ h',CallsV Try.prog 80 [I a,I b] ⟨0,[]⟩ (.ret (I (quoZ (a+b - 1) b))) h':=by
 obtain ⟨h1,h2⟩:=ho
 have q1:=quo_in (a:=a+b - 1) (b:=b) (by omega) h2.1
 obtain ⟨r,h',hQ,hc⟩:=of_callN good0 (f:=80) (args:=[I a,I b]) (h:=⟨0,[]⟩) (K:=fun r _=>r=.ret (I (quoZ (a+b - 1) b)))
  (by
   rw [up_ev]
   exact cond_r (by omega) (cond_r (by omega) (cond_d (fun h=>by omega) (fun _=>cond_r (by omega) rfl))))
 subst hQ
 exact ⟨h',hc⟩
theorem upT_ok {f:FuncId} (hf:∀ a b,upOk a b->∃ h',CallsV Try.prog f [I a,I b] ⟨0,[]⟩ (.ret (I (quoZ (a+b - 1) b))) h'):SpOk Try.prog (upT f).1 (upT f).2:=by
 intro lock args h K hK
 simp only [upT] at hK
 split at hK
 ·obtain ⟨ho,hK⟩:=hK
  obtain ⟨h',hc⟩:=hf _ _ ho
  exact ⟨_,h,hK,lockP_refl _ _,lift0 hc rfl rfl⟩
 ·exact hK.elim
end Go.Sx.Str
namespace Go.Sx.Str
open Go Go.Sx Go.Proofs
set_option maxRecDepth 1000000
def rfOf:Code->Option (Code × Code)
 | .rangeFunc _ _ ac bd=>some (ac,bd)
 | .seq a b=>match rfOf a with
  | some r=>some r
  | none=>rfOf b
 | .block _ b=>rfOf b
 | _=>none
def rfAs (P:Program) (f:FuncId):Code:=match rfOf (bodyOf P f) with
 | some (ac,_)=>ac
 | none=>.skip
def rfBd (P:Program) (f:FuncId):Code:=match rfOf (bodyOf P f) with
 | some (_,bd)=>bd
 | none=>.skip
noncomputable def as35:Code:=rfAs Try.prog 35
noncomputable def bd35:Code:=rfBd Try.prog 35
abbrev fF:VV:=.func 51 [] [.ptr (.own 5 0),.ptr (.own 6 0),.ptr (.own 7 0)]
def sl35 (w:Wt):Slots:=[(14,fF),(7,.ptr (.own 13 0)),(13,.ptr (.own 12 0)),(12,.agg (wtL w)),(11,.agg (wtL w)),(6,.ptr (.own 11 0)),(5,.ptr (.own 10 0)),(4,.ptr (.own 9 0)),(2,.ptr (.own 8 0)),(0,.agg (wtL w)),(1,fF)]
noncomputable def rec35 (w:Wt):VB:=.loop true none (sl35 w) 67 [15,16] as35 bd35
noncomputable def rec35r (w:Wt):VB:=.loop false (some .ret) (sl35 w) 67 [15,16] as35 bd35
def dsF:List Nat:=[10,5,9,0,1,2,3]
def VF (n:Nat) (i k:Int):List VV:=[I i,I k,I (n+1),.yld 14,.ptr (.own 5 0),.ptr (.own 6 0),.ptr (.own 7 0)]
def nsF:List Nat:=[0,5,6,7,9,10,11,12,13,14,15]
noncomputable def BFl (n cap:Nat) (l:Int->Pt) (f:Wt) (w:Wt) (xs:List Wt):List VB:=[ptsA n l,.cells [.slice (.el 0 [] 0 0) n cap] 26,.cells [I (-1)] 3,.cells [.nilp] 78,.cells [.sl 15 xs.length] 29,.cells [I 0] 3,.cells [I 0] 30,.cells (wtL w) 89,.cells [.ptr (.own 12 0)] 87,rec35 f,vecW xs]
def tSt:List (FuncId × Spec1):=[spanT 49,meanT,upT 80]
theorem w0_ev (n cap:Nat) (l:Int->Pt) (f w:Wt) (xs:List Wt) (i k:Int) (X:VEx->List VV->List VB->Prop):codeE Try.prog (callN Try.prog (tabS tSt) noL 10 20) (fun _=>none) true 10 44 0 (loopB 0 (bodyOf Try.prog 51)) (dsF.zip (VF n i k)) ⟨16,nsF.zip (BFl n cap l f w xs)⟩ (obs 16 dsF nsF X) =
 (bif decide (i<(↑n:Int)+(1:Int)) then
 bif decide (i=(-1:Int)) then
 bif decide (i<(↑n:Int)) then
 bif decide ((0:Int)<=i/\i<(↑n:Int)) then
 (([]:List Int)=[]/\(0:Int)<=(0:Int)+i/\(0:Int)+i<(↑n:Int))/\bif decide ((l ((0:Int)+i)).k=(0:Int)) then
 bif spanB (l ((0:Int)+i)).flo (l ((0:Int)+i)).fhi (1:Int) (1073741824:Int) then
 bif !spanB (l ((0:Int)+i)).wlo (l ((0:Int)+i)).whi (0:Int) (100000:Int) then
 X VEx.ret [I i,I k,I ((↑n:Int)+(1:Int)),VV.yld 14,VV.ptr (VA.own 5 0),VV.ptr (VA.own 6 0),VV.ptr (VA.own 7 0)] [ptsA n l,VB.cells [VV.slice (VA.el 0 [] (0:Int) 0) n cap] (26:TypeId),VB.cells [I (-1)] (3:TypeId),VB.cells [VV.nilp] (78:TypeId),VB.cells [VV.nils] (29:TypeId),VB.cells [I k] (3:TypeId),VB.cells [I 1] (30:TypeId),VB.cells [I w.flo,I w.fhi,I w.wlo,I w.whi] (89:TypeId),VB.cells [VV.ptr (VA.own 12 0)] (87:TypeId),VB.loop false (some VEx.ret) (sl35 f) 67 [15,16] as35 bd35,VB.vec xs.length (fun j=>wtL (xs.getD j w0)) 4 (25:TypeId)]
 else bif decide ((l ((0:Int)+i)).wlo<w.wlo) then
 bif decide ((l ((0:Int)+i)).whi<w.whi) then
 meanOk w.wlo w.flo (l ((0:Int)+i)).wlo (l ((0:Int)+i)).fhi/\meanOk w.whi w.fhi (l ((0:Int)+i)).whi (l ((0:Int)+i)).flo/\bif inK IntKind.i64 (w.flo+(l ((0:Int)+i)).flo) then
 bif inK IntKind.i64 (w.fhi+(l ((0:Int)+i)).fhi) then
 bif decide (w.flo+(l ((0:Int)+i)).flo<(1:Int)) then
 X VEx.ret [I i,I k,I ((↑n:Int)+(1:Int)),VV.yld 14,VV.ptr (VA.own 5 0),VV.ptr (VA.own 6 0),VV.ptr (VA.own 7 0)] [ptsA n l,VB.cells [VV.slice (VA.el 0 [] (0:Int) 0) n cap] (26:TypeId),VB.cells [I (-1)] (3:TypeId),VB.cells [VV.nilp] (78:TypeId),VB.cells [VV.nils] (29:TypeId),VB.cells [I k] (3:TypeId),VB.cells [I 10] (30:TypeId),VB.cells [I (w.flo+(l ((0:Int)+i)).flo),I (w.fhi+(l ((0:Int)+i)).fhi),I (mD w.wlo w.flo (l ((0:Int)+i)).wlo (l ((0:Int)+i)).fhi),I (mU w.whi w.fhi (l ((0:Int)+i)).whi (l ((0:Int)+i)).flo)] (89:TypeId),VB.cells [VV.ptr (VA.own 12 0)] (87:TypeId),VB.loop false (some VEx.ret) (sl35 f) 67 [15,16] as35 bd35,VB.vec xs.length (fun j=>wtL (xs.getD j w0)) 4 (25:TypeId)]
 else bif decide (w.fhi+(l ((0:Int)+i)).fhi > (1073741824:Int)) then
 X VEx.ret [I i,I k,I ((↑n:Int)+(1:Int)),VV.yld 14,VV.ptr (VA.own 5 0),VV.ptr (VA.own 6 0),VV.ptr (VA.own 7 0)] [ptsA n l,VB.cells [VV.slice (VA.el 0 [] (0:Int) 0) n cap] (26:TypeId),VB.cells [I (-1)] (3:TypeId),VB.cells [VV.nilp] (78:TypeId),VB.cells [VV.nils] (29:TypeId),VB.cells [I k] (3:TypeId),VB.cells [I 12] (30:TypeId),VB.cells [I (w.flo+(l ((0:Int)+i)).flo),I (w.fhi+(l ((0:Int)+i)).fhi),I (mD w.wlo w.flo (l ((0:Int)+i)).wlo (l ((0:Int)+i)).fhi),I (mU w.whi w.fhi (l ((0:Int)+i)).whi (l ((0:Int)+i)).flo)] (89:TypeId),VB.cells [VV.ptr (VA.own 12 0)] (87:TypeId),VB.loop false (some VEx.ret) (sl35 f) 67 [15,16] as35 bd35,VB.vec xs.length (fun j=>wtL (xs.getD j w0)) 4 (25:TypeId)]
 else bif decide (mU w.whi w.fhi (l ((0:Int)+i)).whi (l ((0:Int)+i)).flo > (100000:Int)) then
 X VEx.ret [I i,I k,I ((↑n:Int)+(1:Int)),VV.yld 14,VV.ptr (VA.own 5 0),VV.ptr (VA.own 6 0),VV.ptr (VA.own 7 0)] [ptsA n l,VB.cells [VV.slice (VA.el 0 [] (0:Int) 0) n cap] (26:TypeId),VB.cells [I (-1)] (3:TypeId),VB.cells [VV.nilp] (78:TypeId),VB.cells [VV.nils] (29:TypeId),VB.cells [I k] (3:TypeId),VB.cells [I 12] (30:TypeId),VB.cells [I (w.flo+(l ((0:Int)+i)).flo),I (w.fhi+(l ((0:Int)+i)).fhi),I (mD w.wlo w.flo (l ((0:Int)+i)).wlo (l ((0:Int)+i)).fhi),I (mU w.whi w.fhi (l ((0:Int)+i)).whi (l ((0:Int)+i)).flo)] (89:TypeId),VB.cells [VV.ptr (VA.own 12 0)] (87:TypeId),VB.loop false (some VEx.ret) (sl35 f) 67 [15,16] as35 bd35,VB.vec xs.length (fun j=>wtL (xs.getD j w0)) 4 (25:TypeId)]
 else bif xs.length.beq xs.length then
 bif roomB (xs.length+1) (32) then
 bif inK IntKind.i64 (k+(1:Int)) then
 bif inK IntKind.i64 (i+(1:Int)) then
 X VEx.normal [I (i+(1:Int)),I (k+(1:Int)),I ((↑n:Int)+(1:Int)),VV.yld 14,VV.ptr (VA.own 5 0),VV.ptr (VA.own 6 0),VV.ptr (VA.own 7 0)] [ptsA n l,VB.cells [VV.slice (VA.el 0 [] (0:Int) 0) n cap] (26:TypeId),VB.cells [I (-1)] (3:TypeId),VB.cells [VV.nilp] (78:TypeId),VB.cells [VV.sl 15 (xs.length+1)] (29:TypeId),VB.cells [I 0] (3:TypeId),VB.cells [I 0] (30:TypeId),VB.cells [I (w.flo+(l ((0:Int)+i)).flo),I (w.fhi+(l ((0:Int)+i)).fhi),I (mD w.wlo w.flo (l ((0:Int)+i)).wlo (l ((0:Int)+i)).fhi),I (mU w.whi w.fhi (l ((0:Int)+i)).whi (l ((0:Int)+i)).flo)] (89:TypeId),VB.cells [VV.ptr (VA.own 12 0)] (87:TypeId),VB.loop true none (sl35 f) 67 [15,16] as35 bd35,VB.vec (xs.length+1) (catG xs.length (fun j=>wtL (xs.getD j w0)) fun j=>List.take (4) (List.drop (j*(4)) [I (w.flo+(l ((0:Int)+i)).flo),I (w.fhi+(l ((0:Int)+i)).fhi),I (mD w.wlo w.flo (l ((0:Int)+i)).wlo (l ((0:Int)+i)).fhi),I (mU w.whi w.fhi (l ((0:Int)+i)).whi (l ((0:Int)+i)).flo)])) (4) 25]
 else False
 else False
 else False
 else False
 else False
 else False
 else meanOk w.wlo w.flo (l ((0:Int)+i)).wlo (l ((0:Int)+i)).fhi/\meanOk w.whi w.flo (l ((0:Int)+i)).whi (l ((0:Int)+i)).fhi/\bif inK IntKind.i64 (w.flo+(l ((0:Int)+i)).flo) then
 bif inK IntKind.i64 (w.fhi+(l ((0:Int)+i)).fhi) then
 bif decide (w.flo+(l ((0:Int)+i)).flo<(1:Int)) then
 X VEx.ret [I i,I k,I ((↑n:Int)+(1:Int)),VV.yld 14,VV.ptr (VA.own 5 0),VV.ptr (VA.own 6 0),VV.ptr (VA.own 7 0)] [ptsA n l,VB.cells [VV.slice (VA.el 0 [] (0:Int) 0) n cap] (26:TypeId),VB.cells [I (-1)] (3:TypeId),VB.cells [VV.nilp] (78:TypeId),VB.cells [VV.nils] (29:TypeId),VB.cells [I k] (3:TypeId),VB.cells [I 10] (30:TypeId),VB.cells [I (w.flo+(l ((0:Int)+i)).flo),I (w.fhi+(l ((0:Int)+i)).fhi),I (mD w.wlo w.flo (l ((0:Int)+i)).wlo (l ((0:Int)+i)).fhi),I (mU w.whi w.flo (l ((0:Int)+i)).whi (l ((0:Int)+i)).fhi)] (89:TypeId),VB.cells [VV.ptr (VA.own 12 0)] (87:TypeId),VB.loop false (some VEx.ret) (sl35 f) 67 [15,16] as35 bd35,VB.vec xs.length (fun j=>wtL (xs.getD j w0)) 4 (25:TypeId)]
 else bif decide (w.fhi+(l ((0:Int)+i)).fhi > (1073741824:Int)) then
 X VEx.ret [I i,I k,I ((↑n:Int)+(1:Int)),VV.yld 14,VV.ptr (VA.own 5 0),VV.ptr (VA.own 6 0),VV.ptr (VA.own 7 0)] [ptsA n l,VB.cells [VV.slice (VA.el 0 [] (0:Int) 0) n cap] (26:TypeId),VB.cells [I (-1)] (3:TypeId),VB.cells [VV.nilp] (78:TypeId),VB.cells [VV.nils] (29:TypeId),VB.cells [I k] (3:TypeId),VB.cells [I 12] (30:TypeId),VB.cells [I (w.flo+(l ((0:Int)+i)).flo),I (w.fhi+(l ((0:Int)+i)).fhi),I (mD w.wlo w.flo (l ((0:Int)+i)).wlo (l ((0:Int)+i)).fhi),I (mU w.whi w.flo (l ((0:Int)+i)).whi (l ((0:Int)+i)).fhi)] (89:TypeId),VB.cells [VV.ptr (VA.own 12 0)] (87:TypeId),VB.loop false (some VEx.ret) (sl35 f) 67 [15,16] as35 bd35,VB.vec xs.length (fun j=>wtL (xs.getD j w0)) 4 (25:TypeId)]
 else bif decide (mU w.whi w.flo (l ((0:Int)+i)).whi (l ((0:Int)+i)).fhi > (100000:Int)) then
 X VEx.ret [I i,I k,I ((↑n:Int)+(1:Int)),VV.yld 14,VV.ptr (VA.own 5 0),VV.ptr (VA.own 6 0),VV.ptr (VA.own 7 0)] [ptsA n l,VB.cells [VV.slice (VA.el 0 [] (0:Int) 0) n cap] (26:TypeId),VB.cells [I (-1)] (3:TypeId),VB.cells [VV.nilp] (78:TypeId),VB.cells [VV.nils] (29:TypeId),VB.cells [I k] (3:TypeId),VB.cells [I 12] (30:TypeId),VB.cells [I (w.flo+(l ((0:Int)+i)).flo),I (w.fhi+(l ((0:Int)+i)).fhi),I (mD w.wlo w.flo (l ((0:Int)+i)).wlo (l ((0:Int)+i)).fhi),I (mU w.whi w.flo (l ((0:Int)+i)).whi (l ((0:Int)+i)).fhi)] (89:TypeId),VB.cells [VV.ptr (VA.own 12 0)] (87:TypeId),VB.loop false (some VEx.ret) (sl35 f) 67 [15,16] as35 bd35,VB.vec xs.length (fun j=>wtL (xs.getD j w0)) 4 (25:TypeId)]
 else bif xs.length.beq xs.length then
 bif roomB (xs.length+1) (32) then
 bif inK IntKind.i64 (k+(1:Int)) then
 bif inK IntKind.i64 (i+(1:Int)) then
 X VEx.normal [I (i+(1:Int)),I (k+(1:Int)),I ((↑n:Int)+(1:Int)),VV.yld 14,VV.ptr (VA.own 5 0),VV.ptr (VA.own 6 0),VV.ptr (VA.own 7 0)] [ptsA n l,VB.cells [VV.slice (VA.el 0 [] (0:Int) 0) n cap] (26:TypeId),VB.cells [I (-1)] (3:TypeId),VB.cells [VV.nilp] (78:TypeId),VB.cells [VV.sl 15 (xs.length+1)] (29:TypeId),VB.cells [I 0] (3:TypeId),VB.cells [I 0] (30:TypeId),VB.cells [I (w.flo+(l ((0:Int)+i)).flo),I (w.fhi+(l ((0:Int)+i)).fhi),I (mD w.wlo w.flo (l ((0:Int)+i)).wlo (l ((0:Int)+i)).fhi),I (mU w.whi w.flo (l ((0:Int)+i)).whi (l ((0:Int)+i)).fhi)] (89:TypeId),VB.cells [VV.ptr (VA.own 12 0)] (87:TypeId),VB.loop true none (sl35 f) 67 [15,16] as35 bd35,VB.vec (xs.length+1) (catG xs.length (fun j=>wtL (xs.getD j w0)) fun j=>List.take (4) (List.drop (j*(4)) [I (w.flo+(l ((0:Int)+i)).flo),I (w.fhi+(l ((0:Int)+i)).fhi),I (mD w.wlo w.flo (l ((0:Int)+i)).wlo (l ((0:Int)+i)).fhi),I (mU w.whi w.flo (l ((0:Int)+i)).whi (l ((0:Int)+i)).fhi)])) (4) 25]
 else False
 else False
 else False
 else False
 else False
 else False
 else bif decide ((l ((0:Int)+i)).whi<w.whi) then
 meanOk w.wlo w.fhi (l ((0:Int)+i)).wlo (l ((0:Int)+i)).flo/\meanOk w.whi w.fhi (l ((0:Int)+i)).whi (l ((0:Int)+i)).flo/\bif inK IntKind.i64 (w.flo+(l ((0:Int)+i)).flo) then
 bif inK IntKind.i64 (w.fhi+(l ((0:Int)+i)).fhi) then
 bif decide (w.flo+(l ((0:Int)+i)).flo<(1:Int)) then
 X VEx.ret [I i,I k,I ((↑n:Int)+(1:Int)),VV.yld 14,VV.ptr (VA.own 5 0),VV.ptr (VA.own 6 0),VV.ptr (VA.own 7 0)] [ptsA n l,VB.cells [VV.slice (VA.el 0 [] (0:Int) 0) n cap] (26:TypeId),VB.cells [I (-1)] (3:TypeId),VB.cells [VV.nilp] (78:TypeId),VB.cells [VV.nils] (29:TypeId),VB.cells [I k] (3:TypeId),VB.cells [I 10] (30:TypeId),VB.cells [I (w.flo+(l ((0:Int)+i)).flo),I (w.fhi+(l ((0:Int)+i)).fhi),I (mD w.wlo w.fhi (l ((0:Int)+i)).wlo (l ((0:Int)+i)).flo),I (mU w.whi w.fhi (l ((0:Int)+i)).whi (l ((0:Int)+i)).flo)] (89:TypeId),VB.cells [VV.ptr (VA.own 12 0)] (87:TypeId),VB.loop false (some VEx.ret) (sl35 f) 67 [15,16] as35 bd35,VB.vec xs.length (fun j=>wtL (xs.getD j w0)) 4 (25:TypeId)]
 else bif decide (w.fhi+(l ((0:Int)+i)).fhi > (1073741824:Int)) then
 X VEx.ret [I i,I k,I ((↑n:Int)+(1:Int)),VV.yld 14,VV.ptr (VA.own 5 0),VV.ptr (VA.own 6 0),VV.ptr (VA.own 7 0)] [ptsA n l,VB.cells [VV.slice (VA.el 0 [] (0:Int) 0) n cap] (26:TypeId),VB.cells [I (-1)] (3:TypeId),VB.cells [VV.nilp] (78:TypeId),VB.cells [VV.nils] (29:TypeId),VB.cells [I k] (3:TypeId),VB.cells [I 12] (30:TypeId),VB.cells [I (w.flo+(l ((0:Int)+i)).flo),I (w.fhi+(l ((0:Int)+i)).fhi),I (mD w.wlo w.fhi (l ((0:Int)+i)).wlo (l ((0:Int)+i)).flo),I (mU w.whi w.fhi (l ((0:Int)+i)).whi (l ((0:Int)+i)).flo)] (89:TypeId),VB.cells [VV.ptr (VA.own 12 0)] (87:TypeId),VB.loop false (some VEx.ret) (sl35 f) 67 [15,16] as35 bd35,VB.vec xs.length (fun j=>wtL (xs.getD j w0)) 4 (25:TypeId)]
 else bif decide (mU w.whi w.fhi (l ((0:Int)+i)).whi (l ((0:Int)+i)).flo > (100000:Int)) then
 X VEx.ret [I i,I k,I ((↑n:Int)+(1:Int)),VV.yld 14,VV.ptr (VA.own 5 0),VV.ptr (VA.own 6 0),VV.ptr (VA.own 7 0)] [ptsA n l,VB.cells [VV.slice (VA.el 0 [] (0:Int) 0) n cap] (26:TypeId),VB.cells [I (-1)] (3:TypeId),VB.cells [VV.nilp] (78:TypeId),VB.cells [VV.nils] (29:TypeId),VB.cells [I k] (3:TypeId),VB.cells [I 12] (30:TypeId),VB.cells [I (w.flo+(l ((0:Int)+i)).flo),I (w.fhi+(l ((0:Int)+i)).fhi),I (mD w.wlo w.fhi (l ((0:Int)+i)).wlo (l ((0:Int)+i)).flo),I (mU w.whi w.fhi (l ((0:Int)+i)).whi (l ((0:Int)+i)).flo)] (89:TypeId),VB.cells [VV.ptr (VA.own 12 0)] (87:TypeId),VB.loop false (some VEx.ret) (sl35 f) 67 [15,16] as35 bd35,VB.vec xs.length (fun j=>wtL (xs.getD j w0)) 4 (25:TypeId)]
 else bif xs.length.beq xs.length then
 bif roomB (xs.length+1) (32) then
 bif inK IntKind.i64 (k+(1:Int)) then
 bif inK IntKind.i64 (i+(1:Int)) then
 X VEx.normal [I (i+(1:Int)),I (k+(1:Int)),I ((↑n:Int)+(1:Int)),VV.yld 14,VV.ptr (VA.own 5 0),VV.ptr (VA.own 6 0),VV.ptr (VA.own 7 0)] [ptsA n l,VB.cells [VV.slice (VA.el 0 [] (0:Int) 0) n cap] (26:TypeId),VB.cells [I (-1)] (3:TypeId),VB.cells [VV.nilp] (78:TypeId),VB.cells [VV.sl 15 (xs.length+1)] (29:TypeId),VB.cells [I 0] (3:TypeId),VB.cells [I 0] (30:TypeId),VB.cells [I (w.flo+(l ((0:Int)+i)).flo),I (w.fhi+(l ((0:Int)+i)).fhi),I (mD w.wlo w.fhi (l ((0:Int)+i)).wlo (l ((0:Int)+i)).flo),I (mU w.whi w.fhi (l ((0:Int)+i)).whi (l ((0:Int)+i)).flo)] (89:TypeId),VB.cells [VV.ptr (VA.own 12 0)] (87:TypeId),VB.loop true none (sl35 f) 67 [15,16] as35 bd35,VB.vec (xs.length+1) (catG xs.length (fun j=>wtL (xs.getD j w0)) fun j=>List.take (4) (List.drop (j*(4)) [I (w.flo+(l ((0:Int)+i)).flo),I (w.fhi+(l ((0:Int)+i)).fhi),I (mD w.wlo w.fhi (l ((0:Int)+i)).wlo (l ((0:Int)+i)).flo),I (mU w.whi w.fhi (l ((0:Int)+i)).whi (l ((0:Int)+i)).flo)])) (4) 25]
 else False
 else False
 else False
 else False
 else False
 else False
 else meanOk w.wlo w.fhi (l ((0:Int)+i)).wlo (l ((0:Int)+i)).flo/\meanOk w.whi w.flo (l ((0:Int)+i)).whi (l ((0:Int)+i)).fhi/\bif inK IntKind.i64 (w.flo+(l ((0:Int)+i)).flo) then
 bif inK IntKind.i64 (w.fhi+(l ((0:Int)+i)).fhi) then
 bif decide (w.flo+(l ((0:Int)+i)).flo<(1:Int)) then
 X VEx.ret [I i,I k,I ((↑n:Int)+(1:Int)),VV.yld 14,VV.ptr (VA.own 5 0),VV.ptr (VA.own 6 0),VV.ptr (VA.own 7 0)] [ptsA n l,VB.cells [VV.slice (VA.el 0 [] (0:Int) 0) n cap] (26:TypeId),VB.cells [I (-1)] (3:TypeId),VB.cells [VV.nilp] (78:TypeId),VB.cells [VV.nils] (29:TypeId),VB.cells [I k] (3:TypeId),VB.cells [I 10] (30:TypeId),VB.cells [I (w.flo+(l ((0:Int)+i)).flo),I (w.fhi+(l ((0:Int)+i)).fhi),I (mD w.wlo w.fhi (l ((0:Int)+i)).wlo (l ((0:Int)+i)).flo),I (mU w.whi w.flo (l ((0:Int)+i)).whi (l ((0:Int)+i)).fhi)] (89:TypeId),VB.cells [VV.ptr (VA.own 12 0)] (87:TypeId),VB.loop false (some VEx.ret) (sl35 f) 67 [15,16] as35 bd35,VB.vec xs.length (fun j=>wtL (xs.getD j w0)) 4 (25:TypeId)]
 else bif decide (w.fhi+(l ((0:Int)+i)).fhi > (1073741824:Int)) then
 X VEx.ret [I i,I k,I ((↑n:Int)+(1:Int)),VV.yld 14,VV.ptr (VA.own 5 0),VV.ptr (VA.own 6 0),VV.ptr (VA.own 7 0)] [ptsA n l,VB.cells [VV.slice (VA.el 0 [] (0:Int) 0) n cap] (26:TypeId),VB.cells [I (-1)] (3:TypeId),VB.cells [VV.nilp] (78:TypeId),VB.cells [VV.nils] (29:TypeId),VB.cells [I k] (3:TypeId),VB.cells [I 12] (30:TypeId),VB.cells [I (w.flo+(l ((0:Int)+i)).flo),I (w.fhi+(l ((0:Int)+i)).fhi),I (mD w.wlo w.fhi (l ((0:Int)+i)).wlo (l ((0:Int)+i)).flo),I (mU w.whi w.flo (l ((0:Int)+i)).whi (l ((0:Int)+i)).fhi)] (89:TypeId),VB.cells [VV.ptr (VA.own 12 0)] (87:TypeId),VB.loop false (some VEx.ret) (sl35 f) 67 [15,16] as35 bd35,VB.vec xs.length (fun j=>wtL (xs.getD j w0)) 4 (25:TypeId)]
 else bif decide (mU w.whi w.flo (l ((0:Int)+i)).whi (l ((0:Int)+i)).fhi > (100000:Int)) then
 X VEx.ret [I i,I k,I ((↑n:Int)+(1:Int)),VV.yld 14,VV.ptr (VA.own 5 0),VV.ptr (VA.own 6 0),VV.ptr (VA.own 7 0)] [ptsA n l,VB.cells [VV.slice (VA.el 0 [] (0:Int) 0) n cap] (26:TypeId),VB.cells [I (-1)] (3:TypeId),VB.cells [VV.nilp] (78:TypeId),VB.cells [VV.nils] (29:TypeId),VB.cells [I k] (3:TypeId),VB.cells [I 12] (30:TypeId),VB.cells [I (w.flo+(l ((0:Int)+i)).flo),I (w.fhi+(l ((0:Int)+i)).fhi),I (mD w.wlo w.fhi (l ((0:Int)+i)).wlo (l ((0:Int)+i)).flo),I (mU w.whi w.flo (l ((0:Int)+i)).whi (l ((0:Int)+i)).fhi)] (89:TypeId),VB.cells [VV.ptr (VA.own 12 0)] (87:TypeId),VB.loop false (some VEx.ret) (sl35 f) 67 [15,16] as35 bd35,VB.vec xs.length (fun j=>wtL (xs.getD j w0)) 4 (25:TypeId)]
 else bif xs.length.beq xs.length then
 bif roomB (xs.length+1) (32) then
 bif inK IntKind.i64 (k+(1:Int)) then
 bif inK IntKind.i64 (i+(1:Int)) then
 X VEx.normal [I (i+(1:Int)),I (k+(1:Int)),I ((↑n:Int)+(1:Int)),VV.yld 14,VV.ptr (VA.own 5 0),VV.ptr (VA.own 6 0),VV.ptr (VA.own 7 0)] [ptsA n l,VB.cells [VV.slice (VA.el 0 [] (0:Int) 0) n cap] (26:TypeId),VB.cells [I (-1)] (3:TypeId),VB.cells [VV.nilp] (78:TypeId),VB.cells [VV.sl 15 (xs.length+1)] (29:TypeId),VB.cells [I 0] (3:TypeId),VB.cells [I 0] (30:TypeId),VB.cells [I (w.flo+(l ((0:Int)+i)).flo),I (w.fhi+(l ((0:Int)+i)).fhi),I (mD w.wlo w.fhi (l ((0:Int)+i)).wlo (l ((0:Int)+i)).flo),I (mU w.whi w.flo (l ((0:Int)+i)).whi (l ((0:Int)+i)).fhi)] (89:TypeId),VB.cells [VV.ptr (VA.own 12 0)] (87:TypeId),VB.loop true none (sl35 f) 67 [15,16] as35 bd35,VB.vec (xs.length+1) (catG xs.length (fun j=>wtL (xs.getD j w0)) fun j=>List.take (4) (List.drop (j*(4)) [I (w.flo+(l ((0:Int)+i)).flo),I (w.fhi+(l ((0:Int)+i)).fhi),I (mD w.wlo w.fhi (l ((0:Int)+i)).wlo (l ((0:Int)+i)).flo),I (mU w.whi w.flo (l ((0:Int)+i)).whi (l ((0:Int)+i)).fhi)])) (4) 25]
 else False
 else False
 else False
 else False
 else False
 else False
 else X VEx.ret [I i,I k,I ((↑n:Int)+(1:Int)),VV.yld 14,VV.ptr (VA.own 5 0),VV.ptr (VA.own 6 0),VV.ptr (VA.own 7 0)] [ptsA n l,VB.cells [VV.slice (VA.el 0 [] (0:Int) 0) n cap] (26:TypeId),VB.cells [I (-1)] (3:TypeId),VB.cells [VV.nilp] (78:TypeId),VB.cells [VV.nils] (29:TypeId),VB.cells [I k] (3:TypeId),VB.cells [I 1] (30:TypeId),VB.cells [I w.flo,I w.fhi,I w.wlo,I w.whi] (89:TypeId),VB.cells [VV.ptr (VA.own 12 0)] (87:TypeId),VB.loop false (some VEx.ret) (sl35 f) 67 [15,16] as35 bd35,VB.vec xs.length (fun j=>wtL (xs.getD j w0)) 4 (25:TypeId)]
 else bif decide ((l ((0:Int)+i)).k=(1:Int)) then
 bif !spanB (l ((0:Int)+i)).flo (l ((0:Int)+i)).fhi (0:Int) (1073741824:Int) then
 X VEx.ret [I i,I k,I ((↑n:Int)+(1:Int)),VV.yld 14,VV.ptr (VA.own 5 0),VV.ptr (VA.own 6 0),VV.ptr (VA.own 7 0)] [ptsA n l,VB.cells [VV.slice (VA.el 0 [] (0:Int) 0) n cap] (26:TypeId),VB.cells [I (-1)] (3:TypeId),VB.cells [VV.nilp] (78:TypeId),VB.cells [VV.nils] (29:TypeId),VB.cells [I k] (3:TypeId),VB.cells [I 1] (30:TypeId),VB.cells [I w.flo,I w.fhi,I w.wlo,I w.whi] (89:TypeId),VB.cells [VV.ptr (VA.own 12 0)] (87:TypeId),VB.loop false (some VEx.ret) (sl35 f) 67 [15,16] as35 bd35,VB.vec xs.length (fun j=>wtL (xs.getD j w0)) 4 (25:TypeId)]
 else bif inK IntKind.i64 (w.flo - (l ((0:Int)+i)).fhi) then
 bif inK IntKind.i64 (w.fhi - (l ((0:Int)+i)).flo) then
 bif decide (w.flo - (l ((0:Int)+i)).fhi<(1:Int)) then
 X VEx.ret [I i,I k,I ((↑n:Int)+(1:Int)),VV.yld 14,VV.ptr (VA.own 5 0),VV.ptr (VA.own 6 0),VV.ptr (VA.own 7 0)] [ptsA n l,VB.cells [VV.slice (VA.el 0 [] (0:Int) 0) n cap] (26:TypeId),VB.cells [I (-1)] (3:TypeId),VB.cells [VV.nilp] (78:TypeId),VB.cells [VV.nils] (29:TypeId),VB.cells [I k] (3:TypeId),VB.cells [I 10] (30:TypeId),VB.cells [I (w.flo - (l ((0:Int)+i)).fhi),I (w.fhi - (l ((0:Int)+i)).flo),I w.wlo,I w.whi] (89:TypeId),VB.cells [VV.ptr (VA.own 12 0)] (87:TypeId),VB.loop false (some VEx.ret) (sl35 f) 67 [15,16] as35 bd35,VB.vec xs.length (fun j=>wtL (xs.getD j w0)) 4 (25:TypeId)]
 else bif decide (w.fhi - (l ((0:Int)+i)).flo > (1073741824:Int)) then
 X VEx.ret [I i,I k,I ((↑n:Int)+(1:Int)),VV.yld 14,VV.ptr (VA.own 5 0),VV.ptr (VA.own 6 0),VV.ptr (VA.own 7 0)] [ptsA n l,VB.cells [VV.slice (VA.el 0 [] (0:Int) 0) n cap] (26:TypeId),VB.cells [I (-1)] (3:TypeId),VB.cells [VV.nilp] (78:TypeId),VB.cells [VV.nils] (29:TypeId),VB.cells [I k] (3:TypeId),VB.cells [I 12] (30:TypeId),VB.cells [I (w.flo - (l ((0:Int)+i)).fhi),I (w.fhi - (l ((0:Int)+i)).flo),I w.wlo,I w.whi] (89:TypeId),VB.cells [VV.ptr (VA.own 12 0)] (87:TypeId),VB.loop false (some VEx.ret) (sl35 f) 67 [15,16] as35 bd35,VB.vec xs.length (fun j=>wtL (xs.getD j w0)) 4 (25:TypeId)]
 else bif decide (w.whi > (100000:Int)) then
 X VEx.ret [I i,I k,I ((↑n:Int)+(1:Int)),VV.yld 14,VV.ptr (VA.own 5 0),VV.ptr (VA.own 6 0),VV.ptr (VA.own 7 0)] [ptsA n l,VB.cells [VV.slice (VA.el 0 [] (0:Int) 0) n cap] (26:TypeId),VB.cells [I (-1)] (3:TypeId),VB.cells [VV.nilp] (78:TypeId),VB.cells [VV.nils] (29:TypeId),VB.cells [I k] (3:TypeId),VB.cells [I 12] (30:TypeId),VB.cells [I (w.flo - (l ((0:Int)+i)).fhi),I (w.fhi - (l ((0:Int)+i)).flo),I w.wlo,I w.whi] (89:TypeId),VB.cells [VV.ptr (VA.own 12 0)] (87:TypeId),VB.loop false (some VEx.ret) (sl35 f) 67 [15,16] as35 bd35,VB.vec xs.length (fun j=>wtL (xs.getD j w0)) 4 (25:TypeId)]
 else bif xs.length.beq xs.length then
 bif roomB (xs.length+1) (32) then
 bif inK IntKind.i64 (k+(1:Int)) then
 bif inK IntKind.i64 (i+(1:Int)) then
 X VEx.normal [I (i+(1:Int)),I (k+(1:Int)),I ((↑n:Int)+(1:Int)),VV.yld 14,VV.ptr (VA.own 5 0),VV.ptr (VA.own 6 0),VV.ptr (VA.own 7 0)] [ptsA n l,VB.cells [VV.slice (VA.el 0 [] (0:Int) 0) n cap] (26:TypeId),VB.cells [I (-1)] (3:TypeId),VB.cells [VV.nilp] (78:TypeId),VB.cells [VV.sl 15 (xs.length+1)] (29:TypeId),VB.cells [I 0] (3:TypeId),VB.cells [I 0] (30:TypeId),VB.cells [I (w.flo - (l ((0:Int)+i)).fhi),I (w.fhi - (l ((0:Int)+i)).flo),I w.wlo,I w.whi] (89:TypeId),VB.cells [VV.ptr (VA.own 12 0)] (87:TypeId),VB.loop true none (sl35 f) 67 [15,16] as35 bd35,VB.vec (xs.length+1) (catG xs.length (fun j=>wtL (xs.getD j w0)) fun j=>List.take (4) (List.drop (j*(4)) [I (w.flo - (l ((0:Int)+i)).fhi),I (w.fhi - (l ((0:Int)+i)).flo),I w.wlo,I w.whi])) (4) 25]
 else False
 else False
 else False
 else False
 else False
 else False
 else bif decide ((l ((0:Int)+i)).k=(2:Int)) then
 bif !spanB (l ((0:Int)+i)).hlo (l ((0:Int)+i)).hhi (0:Int) (1099511627776:Int) then
 X VEx.ret [I i,I k,I ((↑n:Int)+(1:Int)),VV.yld 14,VV.ptr (VA.own 5 0),VV.ptr (VA.own 6 0),VV.ptr (VA.own 7 0)] [ptsA n l,VB.cells [VV.slice (VA.el 0 [] (0:Int) 0) n cap] (26:TypeId),VB.cells [I (-1)] (3:TypeId),VB.cells [VV.nilp] (78:TypeId),VB.cells [VV.nils] (29:TypeId),VB.cells [I k] (3:TypeId),VB.cells [I 1] (30:TypeId),VB.cells [I w.flo,I w.fhi,I w.wlo,I w.whi] (89:TypeId),VB.cells [VV.ptr (VA.own 12 0)] (87:TypeId),VB.loop false (some VEx.ret) (sl35 f) 67 [15,16] as35 bd35,VB.vec xs.length (fun j=>wtL (xs.getD j w0)) 4 (25:TypeId)]
 else bif decide (w.fhi=(0:Int)) then
 False
 else bif inK IntKind.i64 (quoZ (l ((0:Int)+i)).hlo w.fhi) then
 bif inK IntKind.i64 (w.wlo+quoZ (l ((0:Int)+i)).hlo w.fhi) then
 upOk (l ((0:Int)+i)).hhi w.flo/\bif inK IntKind.i64 (w.whi+quoZ ((l ((0:Int)+i)).hhi+w.flo - (1:Int)) w.flo) then
 bif decide (w.flo<(1:Int)) then
 X VEx.ret [I i,I k,I ((↑n:Int)+(1:Int)),VV.yld 14,VV.ptr (VA.own 5 0),VV.ptr (VA.own 6 0),VV.ptr (VA.own 7 0)] [ptsA n l,VB.cells [VV.slice (VA.el 0 [] (0:Int) 0) n cap] (26:TypeId),VB.cells [I (-1)] (3:TypeId),VB.cells [VV.nilp] (78:TypeId),VB.cells [VV.nils] (29:TypeId),VB.cells [I k] (3:TypeId),VB.cells [I 10] (30:TypeId),VB.cells [I w.flo,I w.fhi,I (w.wlo+quoZ (l ((0:Int)+i)).hlo w.fhi),I (w.whi+quoZ ((l ((0:Int)+i)).hhi+w.flo - (1:Int)) w.flo)] (89:TypeId),VB.cells [VV.ptr (VA.own 12 0)] (87:TypeId),VB.loop false (some VEx.ret) (sl35 f) 67 [15,16] as35 bd35,VB.vec xs.length (fun j=>wtL (xs.getD j w0)) 4 (25:TypeId)]
 else bif decide (w.fhi > (1073741824:Int)) then
 X VEx.ret [I i,I k,I ((↑n:Int)+(1:Int)),VV.yld 14,VV.ptr (VA.own 5 0),VV.ptr (VA.own 6 0),VV.ptr (VA.own 7 0)] [ptsA n l,VB.cells [VV.slice (VA.el 0 [] (0:Int) 0) n cap] (26:TypeId),VB.cells [I (-1)] (3:TypeId),VB.cells [VV.nilp] (78:TypeId),VB.cells [VV.nils] (29:TypeId),VB.cells [I k] (3:TypeId),VB.cells [I 12] (30:TypeId),VB.cells [I w.flo,I w.fhi,I (w.wlo+quoZ (l ((0:Int)+i)).hlo w.fhi),I (w.whi+quoZ ((l ((0:Int)+i)).hhi+w.flo - (1:Int)) w.flo)] (89:TypeId),VB.cells [VV.ptr (VA.own 12 0)] (87:TypeId),VB.loop false (some VEx.ret) (sl35 f) 67 [15,16] as35 bd35,VB.vec xs.length (fun j=>wtL (xs.getD j w0)) 4 (25:TypeId)]
 else bif decide (w.whi+quoZ ((l ((0:Int)+i)).hhi+w.flo - (1:Int)) w.flo > (100000:Int)) then
 X VEx.ret [I i,I k,I ((↑n:Int)+(1:Int)),VV.yld 14,VV.ptr (VA.own 5 0),VV.ptr (VA.own 6 0),VV.ptr (VA.own 7 0)] [ptsA n l,VB.cells [VV.slice (VA.el 0 [] (0:Int) 0) n cap] (26:TypeId),VB.cells [I (-1)] (3:TypeId),VB.cells [VV.nilp] (78:TypeId),VB.cells [VV.nils] (29:TypeId),VB.cells [I k] (3:TypeId),VB.cells [I 12] (30:TypeId),VB.cells [I w.flo,I w.fhi,I (w.wlo+quoZ (l ((0:Int)+i)).hlo w.fhi),I (w.whi+quoZ ((l ((0:Int)+i)).hhi+w.flo - (1:Int)) w.flo)] (89:TypeId),VB.cells [VV.ptr (VA.own 12 0)] (87:TypeId),VB.loop false (some VEx.ret) (sl35 f) 67 [15,16] as35 bd35,VB.vec xs.length (fun j=>wtL (xs.getD j w0)) 4 (25:TypeId)]
 else bif xs.length.beq xs.length then
 bif roomB (xs.length+1) (32) then
 bif inK IntKind.i64 (k+(1:Int)) then
 bif inK IntKind.i64 (i+(1:Int)) then
 X VEx.normal [I (i+(1:Int)),I (k+(1:Int)),I ((↑n:Int)+(1:Int)),VV.yld 14,VV.ptr (VA.own 5 0),VV.ptr (VA.own 6 0),VV.ptr (VA.own 7 0)] [ptsA n l,VB.cells [VV.slice (VA.el 0 [] (0:Int) 0) n cap] (26:TypeId),VB.cells [I (-1)] (3:TypeId),VB.cells [VV.nilp] (78:TypeId),VB.cells [VV.sl 15 (xs.length+1)] (29:TypeId),VB.cells [I 0] (3:TypeId),VB.cells [I 0] (30:TypeId),VB.cells [I w.flo,I w.fhi,I (w.wlo+quoZ (l ((0:Int)+i)).hlo w.fhi),I (w.whi+quoZ ((l ((0:Int)+i)).hhi+w.flo - (1:Int)) w.flo)] (89:TypeId),VB.cells [VV.ptr (VA.own 12 0)] (87:TypeId),VB.loop true none (sl35 f) 67 [15,16] as35 bd35,VB.vec (xs.length+1) (catG xs.length (fun j=>wtL (xs.getD j w0)) fun j=>List.take (4) (List.drop (j*(4)) [I w.flo,I w.fhi,I (w.wlo+quoZ (l ((0:Int)+i)).hlo w.fhi),I (w.whi+quoZ ((l ((0:Int)+i)).hhi+w.flo - (1:Int)) w.flo)])) (4) 25]
 else False
 else False
 else False
 else False
 else False
 else False
 else False
 else bif decide ((l ((0:Int)+i)).k=(3:Int)) then
 bif spanB (l ((0:Int)+i)).wlo (l ((0:Int)+i)).whi (0:Int) (100000:Int) then
 bif !spanB (l ((0:Int)+i)).slo (l ((0:Int)+i)).shi (0:Int) (10000:Int) then
 X VEx.ret [I i,I k,I ((↑n:Int)+(1:Int)),VV.yld 14,VV.ptr (VA.own 5 0),VV.ptr (VA.own 6 0),VV.ptr (VA.own 7 0)] [ptsA n l,VB.cells [VV.slice (VA.el 0 [] (0:Int) 0) n cap] (26:TypeId),VB.cells [I (-1)] (3:TypeId),VB.cells [VV.nilp] (78:TypeId),VB.cells [VV.nils] (29:TypeId),VB.cells [I k] (3:TypeId),VB.cells [I 1] (30:TypeId),VB.cells [I w.flo,I w.fhi,I w.wlo,I w.whi] (89:TypeId),VB.cells [VV.ptr (VA.own 12 0)] (87:TypeId),VB.loop false (some VEx.ret) (sl35 f) 67 [15,16] as35 bd35,VB.vec xs.length (fun j=>wtL (xs.getD j w0)) 4 (25:TypeId)]
 else bif decide (w.wlo > (l ((0:Int)+i)).wlo) then
 bif decide (w.whi > (l ((0:Int)+i)).whi) then
 bif inK IntKind.i64 ((10000:Int) - (l ((0:Int)+i)).shi) then
 meanOk w.wlo ((10000:Int) - (l ((0:Int)+i)).shi) (l ((0:Int)+i)).wlo (l ((0:Int)+i)).shi/\bif inK IntKind.i64 ((10000:Int) - (l ((0:Int)+i)).slo) then
 meanOk w.whi ((10000:Int) - (l ((0:Int)+i)).slo) (l ((0:Int)+i)).whi (l ((0:Int)+i)).slo/\bif decide (w.flo<(1:Int)) then
 X VEx.ret [I i,I k,I ((↑n:Int)+(1:Int)),VV.yld 14,VV.ptr (VA.own 5 0),VV.ptr (VA.own 6 0),VV.ptr (VA.own 7 0)] [ptsA n l,VB.cells [VV.slice (VA.el 0 [] (0:Int) 0) n cap] (26:TypeId),VB.cells [I (-1)] (3:TypeId),VB.cells [VV.nilp] (78:TypeId),VB.cells [VV.nils] (29:TypeId),VB.cells [I k] (3:TypeId),VB.cells [I 10] (30:TypeId),VB.cells [I w.flo,I w.fhi,I (mD w.wlo ((10000:Int) - (l ((0:Int)+i)).shi) (l ((0:Int)+i)).wlo (l ((0:Int)+i)).shi),I (mU w.whi ((10000:Int) - (l ((0:Int)+i)).slo) (l ((0:Int)+i)).whi (l ((0:Int)+i)).slo)] (89:TypeId),VB.cells [VV.ptr (VA.own 12 0)] (87:TypeId),VB.loop false (some VEx.ret) (sl35 f) 67 [15,16] as35 bd35,VB.vec xs.length (fun j=>wtL (xs.getD j w0)) 4 (25:TypeId)]
 else bif decide (w.fhi > (1073741824:Int)) then
 X VEx.ret [I i,I k,I ((↑n:Int)+(1:Int)),VV.yld 14,VV.ptr (VA.own 5 0),VV.ptr (VA.own 6 0),VV.ptr (VA.own 7 0)] [ptsA n l,VB.cells [VV.slice (VA.el 0 [] (0:Int) 0) n cap] (26:TypeId),VB.cells [I (-1)] (3:TypeId),VB.cells [VV.nilp] (78:TypeId),VB.cells [VV.nils] (29:TypeId),VB.cells [I k] (3:TypeId),VB.cells [I 12] (30:TypeId),VB.cells [I w.flo,I w.fhi,I (mD w.wlo ((10000:Int) - (l ((0:Int)+i)).shi) (l ((0:Int)+i)).wlo (l ((0:Int)+i)).shi),I (mU w.whi ((10000:Int) - (l ((0:Int)+i)).slo) (l ((0:Int)+i)).whi (l ((0:Int)+i)).slo)] (89:TypeId),VB.cells [VV.ptr (VA.own 12 0)] (87:TypeId),VB.loop false (some VEx.ret) (sl35 f) 67 [15,16] as35 bd35,VB.vec xs.length (fun j=>wtL (xs.getD j w0)) 4 (25:TypeId)]
 else bif decide (mU w.whi ((10000:Int) - (l ((0:Int)+i)).slo) (l ((0:Int)+i)).whi (l ((0:Int)+i)).slo > (100000:Int)) then
 X VEx.ret [I i,I k,I ((↑n:Int)+(1:Int)),VV.yld 14,VV.ptr (VA.own 5 0),VV.ptr (VA.own 6 0),VV.ptr (VA.own 7 0)] [ptsA n l,VB.cells [VV.slice (VA.el 0 [] (0:Int) 0) n cap] (26:TypeId),VB.cells [I (-1)] (3:TypeId),VB.cells [VV.nilp] (78:TypeId),VB.cells [VV.nils] (29:TypeId),VB.cells [I k] (3:TypeId),VB.cells [I 12] (30:TypeId),VB.cells [I w.flo,I w.fhi,I (mD w.wlo ((10000:Int) - (l ((0:Int)+i)).shi) (l ((0:Int)+i)).wlo (l ((0:Int)+i)).shi),I (mU w.whi ((10000:Int) - (l ((0:Int)+i)).slo) (l ((0:Int)+i)).whi (l ((0:Int)+i)).slo)] (89:TypeId),VB.cells [VV.ptr (VA.own 12 0)] (87:TypeId),VB.loop false (some VEx.ret) (sl35 f) 67 [15,16] as35 bd35,VB.vec xs.length (fun j=>wtL (xs.getD j w0)) 4 (25:TypeId)]
 else bif xs.length.beq xs.length then
 bif roomB (xs.length+1) (32) then
 bif inK IntKind.i64 (k+(1:Int)) then
 bif inK IntKind.i64 (i+(1:Int)) then
 X VEx.normal [I (i+(1:Int)),I (k+(1:Int)),I ((↑n:Int)+(1:Int)),VV.yld 14,VV.ptr (VA.own 5 0),VV.ptr (VA.own 6 0),VV.ptr (VA.own 7 0)] [ptsA n l,VB.cells [VV.slice (VA.el 0 [] (0:Int) 0) n cap] (26:TypeId),VB.cells [I (-1)] (3:TypeId),VB.cells [VV.nilp] (78:TypeId),VB.cells [VV.sl 15 (xs.length+1)] (29:TypeId),VB.cells [I 0] (3:TypeId),VB.cells [I 0] (30:TypeId),VB.cells [I w.flo,I w.fhi,I (mD w.wlo ((10000:Int) - (l ((0:Int)+i)).shi) (l ((0:Int)+i)).wlo (l ((0:Int)+i)).shi),I (mU w.whi ((10000:Int) - (l ((0:Int)+i)).slo) (l ((0:Int)+i)).whi (l ((0:Int)+i)).slo)] (89:TypeId),VB.cells [VV.ptr (VA.own 12 0)] (87:TypeId),VB.loop true none (sl35 f) 67 [15,16] as35 bd35,VB.vec (xs.length+1) (catG xs.length (fun j=>wtL (xs.getD j w0)) fun j=>List.take (4) (List.drop (j*(4)) [I w.flo,I w.fhi,I (mD w.wlo ((10000:Int) - (l ((0:Int)+i)).shi) (l ((0:Int)+i)).wlo (l ((0:Int)+i)).shi),I (mU w.whi ((10000:Int) - (l ((0:Int)+i)).slo) (l ((0:Int)+i)).whi (l ((0:Int)+i)).slo)])) (4) 25]
 else False
 else False
 else False
 else False
 else False
 else False
 else bif inK IntKind.i64 ((10000:Int) - (l ((0:Int)+i)).shi) then
 meanOk w.wlo ((10000:Int) - (l ((0:Int)+i)).shi) (l ((0:Int)+i)).wlo (l ((0:Int)+i)).shi/\bif inK IntKind.i64 ((10000:Int) - (l ((0:Int)+i)).shi) then
 meanOk w.whi ((10000:Int) - (l ((0:Int)+i)).shi) (l ((0:Int)+i)).whi (l ((0:Int)+i)).shi/\bif decide (w.flo<(1:Int)) then
 X VEx.ret [I i,I k,I ((↑n:Int)+(1:Int)),VV.yld 14,VV.ptr (VA.own 5 0),VV.ptr (VA.own 6 0),VV.ptr (VA.own 7 0)] [ptsA n l,VB.cells [VV.slice (VA.el 0 [] (0:Int) 0) n cap] (26:TypeId),VB.cells [I (-1)] (3:TypeId),VB.cells [VV.nilp] (78:TypeId),VB.cells [VV.nils] (29:TypeId),VB.cells [I k] (3:TypeId),VB.cells [I 10] (30:TypeId),VB.cells [I w.flo,I w.fhi,I (mD w.wlo ((10000:Int) - (l ((0:Int)+i)).shi) (l ((0:Int)+i)).wlo (l ((0:Int)+i)).shi),I (mU w.whi ((10000:Int) - (l ((0:Int)+i)).shi) (l ((0:Int)+i)).whi (l ((0:Int)+i)).shi)] (89:TypeId),VB.cells [VV.ptr (VA.own 12 0)] (87:TypeId),VB.loop false (some VEx.ret) (sl35 f) 67 [15,16] as35 bd35,VB.vec xs.length (fun j=>wtL (xs.getD j w0)) 4 (25:TypeId)]
 else bif decide (w.fhi > (1073741824:Int)) then
 X VEx.ret [I i,I k,I ((↑n:Int)+(1:Int)),VV.yld 14,VV.ptr (VA.own 5 0),VV.ptr (VA.own 6 0),VV.ptr (VA.own 7 0)] [ptsA n l,VB.cells [VV.slice (VA.el 0 [] (0:Int) 0) n cap] (26:TypeId),VB.cells [I (-1)] (3:TypeId),VB.cells [VV.nilp] (78:TypeId),VB.cells [VV.nils] (29:TypeId),VB.cells [I k] (3:TypeId),VB.cells [I 12] (30:TypeId),VB.cells [I w.flo,I w.fhi,I (mD w.wlo ((10000:Int) - (l ((0:Int)+i)).shi) (l ((0:Int)+i)).wlo (l ((0:Int)+i)).shi),I (mU w.whi ((10000:Int) - (l ((0:Int)+i)).shi) (l ((0:Int)+i)).whi (l ((0:Int)+i)).shi)] (89:TypeId),VB.cells [VV.ptr (VA.own 12 0)] (87:TypeId),VB.loop false (some VEx.ret) (sl35 f) 67 [15,16] as35 bd35,VB.vec xs.length (fun j=>wtL (xs.getD j w0)) 4 (25:TypeId)]
 else bif decide (mU w.whi ((10000:Int) - (l ((0:Int)+i)).shi) (l ((0:Int)+i)).whi (l ((0:Int)+i)).shi > (100000:Int)) then
 X VEx.ret [I i,I k,I ((↑n:Int)+(1:Int)),VV.yld 14,VV.ptr (VA.own 5 0),VV.ptr (VA.own 6 0),VV.ptr (VA.own 7 0)] [ptsA n l,VB.cells [VV.slice (VA.el 0 [] (0:Int) 0) n cap] (26:TypeId),VB.cells [I (-1)] (3:TypeId),VB.cells [VV.nilp] (78:TypeId),VB.cells [VV.nils] (29:TypeId),VB.cells [I k] (3:TypeId),VB.cells [I 12] (30:TypeId),VB.cells [I w.flo,I w.fhi,I (mD w.wlo ((10000:Int) - (l ((0:Int)+i)).shi) (l ((0:Int)+i)).wlo (l ((0:Int)+i)).shi),I (mU w.whi ((10000:Int) - (l ((0:Int)+i)).shi) (l ((0:Int)+i)).whi (l ((0:Int)+i)).shi)] (89:TypeId),VB.cells [VV.ptr (VA.own 12 0)] (87:TypeId),VB.loop false (some VEx.ret) (sl35 f) 67 [15,16] as35 bd35,VB.vec xs.length (fun j=>wtL (xs.getD j w0)) 4 (25:TypeId)]
 else bif xs.length.beq xs.length then
 bif roomB (xs.length+1) (32) then
 bif inK IntKind.i64 (k+(1:Int)) then
 bif inK IntKind.i64 (i+(1:Int)) then
 X VEx.normal [I (i+(1:Int)),I (k+(1:Int)),I ((↑n:Int)+(1:Int)),VV.yld 14,VV.ptr (VA.own 5 0),VV.ptr (VA.own 6 0),VV.ptr (VA.own 7 0)] [ptsA n l,VB.cells [VV.slice (VA.el 0 [] (0:Int) 0) n cap] (26:TypeId),VB.cells [I (-1)] (3:TypeId),VB.cells [VV.nilp] (78:TypeId),VB.cells [VV.sl 15 (xs.length+1)] (29:TypeId),VB.cells [I 0] (3:TypeId),VB.cells [I 0] (30:TypeId),VB.cells [I w.flo,I w.fhi,I (mD w.wlo ((10000:Int) - (l ((0:Int)+i)).shi) (l ((0:Int)+i)).wlo (l ((0:Int)+i)).shi),I (mU w.whi ((10000:Int) - (l ((0:Int)+i)).shi) (l ((0:Int)+i)).whi (l ((0:Int)+i)).shi)] (89:TypeId),VB.cells [VV.ptr (VA.own 12 0)] (87:TypeId),VB.loop true none (sl35 f) 67 [15,16] as35 bd35,VB.vec (xs.length+1) (catG xs.length (fun j=>wtL (xs.getD j w0)) fun j=>List.take (4) (List.drop (j*(4)) [I w.flo,I w.fhi,I (mD w.wlo ((10000:Int) - (l ((0:Int)+i)).shi) (l ((0:Int)+i)).wlo (l ((0:Int)+i)).shi),I (mU w.whi ((10000:Int) - (l ((0:Int)+i)).shi) (l ((0:Int)+i)).whi (l ((0:Int)+i)).shi)])) (4) 25]
 else False
 else False
 else False
 else False
 else False
 else False
 else bif decide (w.whi > (l ((0:Int)+i)).whi) then
 bif inK IntKind.i64 ((10000:Int) - (l ((0:Int)+i)).slo) then
 meanOk w.wlo ((10000:Int) - (l ((0:Int)+i)).slo) (l ((0:Int)+i)).wlo (l ((0:Int)+i)).slo/\bif inK IntKind.i64 ((10000:Int) - (l ((0:Int)+i)).slo) then
 meanOk w.whi ((10000:Int) - (l ((0:Int)+i)).slo) (l ((0:Int)+i)).whi (l ((0:Int)+i)).slo/\bif decide (w.flo<(1:Int)) then
 X VEx.ret [I i,I k,I ((↑n:Int)+(1:Int)),VV.yld 14,VV.ptr (VA.own 5 0),VV.ptr (VA.own 6 0),VV.ptr (VA.own 7 0)] [ptsA n l,VB.cells [VV.slice (VA.el 0 [] (0:Int) 0) n cap] (26:TypeId),VB.cells [I (-1)] (3:TypeId),VB.cells [VV.nilp] (78:TypeId),VB.cells [VV.nils] (29:TypeId),VB.cells [I k] (3:TypeId),VB.cells [I 10] (30:TypeId),VB.cells [I w.flo,I w.fhi,I (mD w.wlo ((10000:Int) - (l ((0:Int)+i)).slo) (l ((0:Int)+i)).wlo (l ((0:Int)+i)).slo),I (mU w.whi ((10000:Int) - (l ((0:Int)+i)).slo) (l ((0:Int)+i)).whi (l ((0:Int)+i)).slo)] (89:TypeId),VB.cells [VV.ptr (VA.own 12 0)] (87:TypeId),VB.loop false (some VEx.ret) (sl35 f) 67 [15,16] as35 bd35,VB.vec xs.length (fun j=>wtL (xs.getD j w0)) 4 (25:TypeId)]
 else bif decide (w.fhi > (1073741824:Int)) then
 X VEx.ret [I i,I k,I ((↑n:Int)+(1:Int)),VV.yld 14,VV.ptr (VA.own 5 0),VV.ptr (VA.own 6 0),VV.ptr (VA.own 7 0)] [ptsA n l,VB.cells [VV.slice (VA.el 0 [] (0:Int) 0) n cap] (26:TypeId),VB.cells [I (-1)] (3:TypeId),VB.cells [VV.nilp] (78:TypeId),VB.cells [VV.nils] (29:TypeId),VB.cells [I k] (3:TypeId),VB.cells [I 12] (30:TypeId),VB.cells [I w.flo,I w.fhi,I (mD w.wlo ((10000:Int) - (l ((0:Int)+i)).slo) (l ((0:Int)+i)).wlo (l ((0:Int)+i)).slo),I (mU w.whi ((10000:Int) - (l ((0:Int)+i)).slo) (l ((0:Int)+i)).whi (l ((0:Int)+i)).slo)] (89:TypeId),VB.cells [VV.ptr (VA.own 12 0)] (87:TypeId),VB.loop false (some VEx.ret) (sl35 f) 67 [15,16] as35 bd35,VB.vec xs.length (fun j=>wtL (xs.getD j w0)) 4 (25:TypeId)]
 else bif decide (mU w.whi ((10000:Int) - (l ((0:Int)+i)).slo) (l ((0:Int)+i)).whi (l ((0:Int)+i)).slo > (100000:Int)) then
 X VEx.ret [I i,I k,I ((↑n:Int)+(1:Int)),VV.yld 14,VV.ptr (VA.own 5 0),VV.ptr (VA.own 6 0),VV.ptr (VA.own 7 0)] [ptsA n l,VB.cells [VV.slice (VA.el 0 [] (0:Int) 0) n cap] (26:TypeId),VB.cells [I (-1)] (3:TypeId),VB.cells [VV.nilp] (78:TypeId),VB.cells [VV.nils] (29:TypeId),VB.cells [I k] (3:TypeId),VB.cells [I 12] (30:TypeId),VB.cells [I w.flo,I w.fhi,I (mD w.wlo ((10000:Int) - (l ((0:Int)+i)).slo) (l ((0:Int)+i)).wlo (l ((0:Int)+i)).slo),I (mU w.whi ((10000:Int) - (l ((0:Int)+i)).slo) (l ((0:Int)+i)).whi (l ((0:Int)+i)).slo)] (89:TypeId),VB.cells [VV.ptr (VA.own 12 0)] (87:TypeId),VB.loop false (some VEx.ret) (sl35 f) 67 [15,16] as35 bd35,VB.vec xs.length (fun j=>wtL (xs.getD j w0)) 4 (25:TypeId)]
 else bif xs.length.beq xs.length then
 bif roomB (xs.length+1) (32) then
 bif inK IntKind.i64 (k+(1:Int)) then
 bif inK IntKind.i64 (i+(1:Int)) then
 X VEx.normal [I (i+(1:Int)),I (k+(1:Int)),I ((↑n:Int)+(1:Int)),VV.yld 14,VV.ptr (VA.own 5 0),VV.ptr (VA.own 6 0),VV.ptr (VA.own 7 0)] [ptsA n l,VB.cells [VV.slice (VA.el 0 [] (0:Int) 0) n cap] (26:TypeId),VB.cells [I (-1)] (3:TypeId),VB.cells [VV.nilp] (78:TypeId),VB.cells [VV.sl 15 (xs.length+1)] (29:TypeId),VB.cells [I 0] (3:TypeId),VB.cells [I 0] (30:TypeId),VB.cells [I w.flo,I w.fhi,I (mD w.wlo ((10000:Int) - (l ((0:Int)+i)).slo) (l ((0:Int)+i)).wlo (l ((0:Int)+i)).slo),I (mU w.whi ((10000:Int) - (l ((0:Int)+i)).slo) (l ((0:Int)+i)).whi (l ((0:Int)+i)).slo)] (89:TypeId),VB.cells [VV.ptr (VA.own 12 0)] (87:TypeId),VB.loop true none (sl35 f) 67 [15,16] as35 bd35,VB.vec (xs.length+1) (catG xs.length (fun j=>wtL (xs.getD j w0)) fun j=>List.take (4) (List.drop (j*(4)) [I w.flo,I w.fhi,I (mD w.wlo ((10000:Int) - (l ((0:Int)+i)).slo) (l ((0:Int)+i)).wlo (l ((0:Int)+i)).slo),I (mU w.whi ((10000:Int) - (l ((0:Int)+i)).slo) (l ((0:Int)+i)).whi (l ((0:Int)+i)).slo)])) (4) 25]
 else False
 else False
 else False
 else False
 else False
 else False
 else bif inK IntKind.i64 ((10000:Int) - (l ((0:Int)+i)).slo) then
 meanOk w.wlo ((10000:Int) - (l ((0:Int)+i)).slo) (l ((0:Int)+i)).wlo (l ((0:Int)+i)).slo/\bif inK IntKind.i64 ((10000:Int) - (l ((0:Int)+i)).shi) then
 meanOk w.whi ((10000:Int) - (l ((0:Int)+i)).shi) (l ((0:Int)+i)).whi (l ((0:Int)+i)).shi/\bif decide (w.flo<(1:Int)) then
 X VEx.ret [I i,I k,I ((↑n:Int)+(1:Int)),VV.yld 14,VV.ptr (VA.own 5 0),VV.ptr (VA.own 6 0),VV.ptr (VA.own 7 0)] [ptsA n l,VB.cells [VV.slice (VA.el 0 [] (0:Int) 0) n cap] (26:TypeId),VB.cells [I (-1)] (3:TypeId),VB.cells [VV.nilp] (78:TypeId),VB.cells [VV.nils] (29:TypeId),VB.cells [I k] (3:TypeId),VB.cells [I 10] (30:TypeId),VB.cells [I w.flo,I w.fhi,I (mD w.wlo ((10000:Int) - (l ((0:Int)+i)).slo) (l ((0:Int)+i)).wlo (l ((0:Int)+i)).slo),I (mU w.whi ((10000:Int) - (l ((0:Int)+i)).shi) (l ((0:Int)+i)).whi (l ((0:Int)+i)).shi)] (89:TypeId),VB.cells [VV.ptr (VA.own 12 0)] (87:TypeId),VB.loop false (some VEx.ret) (sl35 f) 67 [15,16] as35 bd35,VB.vec xs.length (fun j=>wtL (xs.getD j w0)) 4 (25:TypeId)]
 else bif decide (w.fhi > (1073741824:Int)) then
 X VEx.ret [I i,I k,I ((↑n:Int)+(1:Int)),VV.yld 14,VV.ptr (VA.own 5 0),VV.ptr (VA.own 6 0),VV.ptr (VA.own 7 0)] [ptsA n l,VB.cells [VV.slice (VA.el 0 [] (0:Int) 0) n cap] (26:TypeId),VB.cells [I (-1)] (3:TypeId),VB.cells [VV.nilp] (78:TypeId),VB.cells [VV.nils] (29:TypeId),VB.cells [I k] (3:TypeId),VB.cells [I 12] (30:TypeId),VB.cells [I w.flo,I w.fhi,I (mD w.wlo ((10000:Int) - (l ((0:Int)+i)).slo) (l ((0:Int)+i)).wlo (l ((0:Int)+i)).slo),I (mU w.whi ((10000:Int) - (l ((0:Int)+i)).shi) (l ((0:Int)+i)).whi (l ((0:Int)+i)).shi)] (89:TypeId),VB.cells [VV.ptr (VA.own 12 0)] (87:TypeId),VB.loop false (some VEx.ret) (sl35 f) 67 [15,16] as35 bd35,VB.vec xs.length (fun j=>wtL (xs.getD j w0)) 4 (25:TypeId)]
 else bif decide (mU w.whi ((10000:Int) - (l ((0:Int)+i)).shi) (l ((0:Int)+i)).whi (l ((0:Int)+i)).shi > (100000:Int)) then
 X VEx.ret [I i,I k,I ((↑n:Int)+(1:Int)),VV.yld 14,VV.ptr (VA.own 5 0),VV.ptr (VA.own 6 0),VV.ptr (VA.own 7 0)] [ptsA n l,VB.cells [VV.slice (VA.el 0 [] (0:Int) 0) n cap] (26:TypeId),VB.cells [I (-1)] (3:TypeId),VB.cells [VV.nilp] (78:TypeId),VB.cells [VV.nils] (29:TypeId),VB.cells [I k] (3:TypeId),VB.cells [I 12] (30:TypeId),VB.cells [I w.flo,I w.fhi,I (mD w.wlo ((10000:Int) - (l ((0:Int)+i)).slo) (l ((0:Int)+i)).wlo (l ((0:Int)+i)).slo),I (mU w.whi ((10000:Int) - (l ((0:Int)+i)).shi) (l ((0:Int)+i)).whi (l ((0:Int)+i)).shi)] (89:TypeId),VB.cells [VV.ptr (VA.own 12 0)] (87:TypeId),VB.loop false (some VEx.ret) (sl35 f) 67 [15,16] as35 bd35,VB.vec xs.length (fun j=>wtL (xs.getD j w0)) 4 (25:TypeId)]
 else bif xs.length.beq xs.length then
 bif roomB (xs.length+1) (32) then
 bif inK IntKind.i64 (k+(1:Int)) then
 bif inK IntKind.i64 (i+(1:Int)) then
 X VEx.normal [I (i+(1:Int)),I (k+(1:Int)),I ((↑n:Int)+(1:Int)),VV.yld 14,VV.ptr (VA.own 5 0),VV.ptr (VA.own 6 0),VV.ptr (VA.own 7 0)] [ptsA n l,VB.cells [VV.slice (VA.el 0 [] (0:Int) 0) n cap] (26:TypeId),VB.cells [I (-1)] (3:TypeId),VB.cells [VV.nilp] (78:TypeId),VB.cells [VV.sl 15 (xs.length+1)] (29:TypeId),VB.cells [I 0] (3:TypeId),VB.cells [I 0] (30:TypeId),VB.cells [I w.flo,I w.fhi,I (mD w.wlo ((10000:Int) - (l ((0:Int)+i)).slo) (l ((0:Int)+i)).wlo (l ((0:Int)+i)).slo),I (mU w.whi ((10000:Int) - (l ((0:Int)+i)).shi) (l ((0:Int)+i)).whi (l ((0:Int)+i)).shi)] (89:TypeId),VB.cells [VV.ptr (VA.own 12 0)] (87:TypeId),VB.loop true none (sl35 f) 67 [15,16] as35 bd35,VB.vec (xs.length+1) (catG xs.length (fun j=>wtL (xs.getD j w0)) fun j=>List.take (4) (List.drop (j*(4)) [I w.flo,I w.fhi,I (mD w.wlo ((10000:Int) - (l ((0:Int)+i)).slo) (l ((0:Int)+i)).wlo (l ((0:Int)+i)).slo),I (mU w.whi ((10000:Int) - (l ((0:Int)+i)).shi) (l ((0:Int)+i)).whi (l ((0:Int)+i)).shi)])) (4) 25]
 else False
 else False
 else False
 else False
 else False
 else False
 else X VEx.ret [I i,I k,I ((↑n:Int)+(1:Int)),VV.yld 14,VV.ptr (VA.own 5 0),VV.ptr (VA.own 6 0),VV.ptr (VA.own 7 0)] [ptsA n l,VB.cells [VV.slice (VA.el 0 [] (0:Int) 0) n cap] (26:TypeId),VB.cells [I (-1)] (3:TypeId),VB.cells [VV.nilp] (78:TypeId),VB.cells [VV.nils] (29:TypeId),VB.cells [I k] (3:TypeId),VB.cells [I 1] (30:TypeId),VB.cells [I w.flo,I w.fhi,I w.wlo,I w.whi] (89:TypeId),VB.cells [VV.ptr (VA.own 12 0)] (87:TypeId),VB.loop false (some VEx.ret) (sl35 f) 67 [15,16] as35 bd35,VB.vec xs.length (fun j=>wtL (xs.getD j w0)) 4 (25:TypeId)]
 else X VEx.ret [I i,I k,I ((↑n:Int)+(1:Int)),VV.yld 14,VV.ptr (VA.own 5 0),VV.ptr (VA.own 6 0),VV.ptr (VA.own 7 0)] [ptsA n l,VB.cells [VV.slice (VA.el 0 [] (0:Int) 0) n cap] (26:TypeId),VB.cells [I (-1)] (3:TypeId),VB.cells [VV.nilp] (78:TypeId),VB.cells [VV.nils] (29:TypeId),VB.cells [I k] (3:TypeId),VB.cells [I 1] (30:TypeId),VB.cells [I w.flo,I w.fhi,I w.wlo,I w.whi] (89:TypeId),VB.cells [VV.ptr (VA.own 12 0)] (87:TypeId),VB.loop false (some VEx.ret) (sl35 f) 67 [15,16] as35 bd35,VB.vec xs.length (fun j=>wtL (xs.getD j w0)) 4 (25:TypeId)]
 else False
 else bif inK IntKind.i64 (i+(1:Int)) then
 X VEx.normal [I (i+(1:Int)),I k,I ((↑n:Int)+(1:Int)),VV.yld 14,VV.ptr (VA.own 5 0),VV.ptr (VA.own 6 0),VV.ptr (VA.own 7 0)] [ptsA n l,VB.cells [VV.slice (VA.el 0 [] (0:Int) 0) n cap] (26:TypeId),VB.cells [I (-1)] (3:TypeId),VB.cells [VV.nilp] (78:TypeId),VB.cells [VV.sl 15 xs.length] (29:TypeId),VB.cells [I 0] (3:TypeId),VB.cells [I 0] (30:TypeId),VB.cells [I w.flo,I w.fhi,I w.wlo,I w.whi] (89:TypeId),VB.cells [VV.ptr (VA.own 12 0)] (87:TypeId),VB.loop true none (sl35 f) 67 [15,16] as35 bd35,VB.vec xs.length (fun j=>wtL (xs.getD j w0)) 4 (25:TypeId)]
 else False
 else bif decide (i<(↑n:Int)) then
 bif decide ((0:Int)<=i/\i<(↑n:Int)) then
 (([]:List Int)=[]/\(0:Int)<=(0:Int)+i/\(0:Int)+i<(↑n:Int))/\bif decide ((l ((0:Int)+i)).k=(0:Int)) then
 bif spanB (l ((0:Int)+i)).flo (l ((0:Int)+i)).fhi (1:Int) (1073741824:Int) then
 bif !spanB (l ((0:Int)+i)).wlo (l ((0:Int)+i)).whi (0:Int) (100000:Int) then
 X VEx.ret [I i,I k,I ((↑n:Int)+(1:Int)),VV.yld 14,VV.ptr (VA.own 5 0),VV.ptr (VA.own 6 0),VV.ptr (VA.own 7 0)] [ptsA n l,VB.cells [VV.slice (VA.el 0 [] (0:Int) 0) n cap] (26:TypeId),VB.cells [I (-1)] (3:TypeId),VB.cells [VV.nilp] (78:TypeId),VB.cells [VV.nils] (29:TypeId),VB.cells [I k] (3:TypeId),VB.cells [I 1] (30:TypeId),VB.cells [I w.flo,I w.fhi,I w.wlo,I w.whi] (89:TypeId),VB.cells [VV.ptr (VA.own 12 0)] (87:TypeId),VB.loop false (some VEx.ret) (sl35 f) 67 [15,16] as35 bd35,VB.vec xs.length (fun j=>wtL (xs.getD j w0)) 4 (25:TypeId)]
 else bif decide ((l ((0:Int)+i)).wlo<w.wlo) then
 bif decide ((l ((0:Int)+i)).whi<w.whi) then
 meanOk w.wlo w.flo (l ((0:Int)+i)).wlo (l ((0:Int)+i)).fhi/\meanOk w.whi w.fhi (l ((0:Int)+i)).whi (l ((0:Int)+i)).flo/\bif inK IntKind.i64 (w.flo+(l ((0:Int)+i)).flo) then
 bif inK IntKind.i64 (w.fhi+(l ((0:Int)+i)).fhi) then
 bif decide (w.flo+(l ((0:Int)+i)).flo<(1:Int)) then
 X VEx.ret [I i,I k,I ((↑n:Int)+(1:Int)),VV.yld 14,VV.ptr (VA.own 5 0),VV.ptr (VA.own 6 0),VV.ptr (VA.own 7 0)] [ptsA n l,VB.cells [VV.slice (VA.el 0 [] (0:Int) 0) n cap] (26:TypeId),VB.cells [I (-1)] (3:TypeId),VB.cells [VV.nilp] (78:TypeId),VB.cells [VV.nils] (29:TypeId),VB.cells [I k] (3:TypeId),VB.cells [I 10] (30:TypeId),VB.cells [I (w.flo+(l ((0:Int)+i)).flo),I (w.fhi+(l ((0:Int)+i)).fhi),I (mD w.wlo w.flo (l ((0:Int)+i)).wlo (l ((0:Int)+i)).fhi),I (mU w.whi w.fhi (l ((0:Int)+i)).whi (l ((0:Int)+i)).flo)] (89:TypeId),VB.cells [VV.ptr (VA.own 12 0)] (87:TypeId),VB.loop false (some VEx.ret) (sl35 f) 67 [15,16] as35 bd35,VB.vec xs.length (fun j=>wtL (xs.getD j w0)) 4 (25:TypeId)]
 else bif decide (w.fhi+(l ((0:Int)+i)).fhi > (1073741824:Int)) then
 X VEx.ret [I i,I k,I ((↑n:Int)+(1:Int)),VV.yld 14,VV.ptr (VA.own 5 0),VV.ptr (VA.own 6 0),VV.ptr (VA.own 7 0)] [ptsA n l,VB.cells [VV.slice (VA.el 0 [] (0:Int) 0) n cap] (26:TypeId),VB.cells [I (-1)] (3:TypeId),VB.cells [VV.nilp] (78:TypeId),VB.cells [VV.nils] (29:TypeId),VB.cells [I k] (3:TypeId),VB.cells [I 12] (30:TypeId),VB.cells [I (w.flo+(l ((0:Int)+i)).flo),I (w.fhi+(l ((0:Int)+i)).fhi),I (mD w.wlo w.flo (l ((0:Int)+i)).wlo (l ((0:Int)+i)).fhi),I (mU w.whi w.fhi (l ((0:Int)+i)).whi (l ((0:Int)+i)).flo)] (89:TypeId),VB.cells [VV.ptr (VA.own 12 0)] (87:TypeId),VB.loop false (some VEx.ret) (sl35 f) 67 [15,16] as35 bd35,VB.vec xs.length (fun j=>wtL (xs.getD j w0)) 4 (25:TypeId)]
 else bif decide (mU w.whi w.fhi (l ((0:Int)+i)).whi (l ((0:Int)+i)).flo > (100000:Int)) then
 X VEx.ret [I i,I k,I ((↑n:Int)+(1:Int)),VV.yld 14,VV.ptr (VA.own 5 0),VV.ptr (VA.own 6 0),VV.ptr (VA.own 7 0)] [ptsA n l,VB.cells [VV.slice (VA.el 0 [] (0:Int) 0) n cap] (26:TypeId),VB.cells [I (-1)] (3:TypeId),VB.cells [VV.nilp] (78:TypeId),VB.cells [VV.nils] (29:TypeId),VB.cells [I k] (3:TypeId),VB.cells [I 12] (30:TypeId),VB.cells [I (w.flo+(l ((0:Int)+i)).flo),I (w.fhi+(l ((0:Int)+i)).fhi),I (mD w.wlo w.flo (l ((0:Int)+i)).wlo (l ((0:Int)+i)).fhi),I (mU w.whi w.fhi (l ((0:Int)+i)).whi (l ((0:Int)+i)).flo)] (89:TypeId),VB.cells [VV.ptr (VA.own 12 0)] (87:TypeId),VB.loop false (some VEx.ret) (sl35 f) 67 [15,16] as35 bd35,VB.vec xs.length (fun j=>wtL (xs.getD j w0)) 4 (25:TypeId)]
 else bif xs.length.beq xs.length then
 bif roomB (xs.length+1) (32) then
 bif inK IntKind.i64 (k+(1:Int)) then
 bif inK IntKind.i64 (i+(1:Int)) then
 X VEx.normal [I (i+(1:Int)),I (k+(1:Int)),I ((↑n:Int)+(1:Int)),VV.yld 14,VV.ptr (VA.own 5 0),VV.ptr (VA.own 6 0),VV.ptr (VA.own 7 0)] [ptsA n l,VB.cells [VV.slice (VA.el 0 [] (0:Int) 0) n cap] (26:TypeId),VB.cells [I (-1)] (3:TypeId),VB.cells [VV.nilp] (78:TypeId),VB.cells [VV.sl 15 (xs.length+1)] (29:TypeId),VB.cells [I 0] (3:TypeId),VB.cells [I 0] (30:TypeId),VB.cells [I (w.flo+(l ((0:Int)+i)).flo),I (w.fhi+(l ((0:Int)+i)).fhi),I (mD w.wlo w.flo (l ((0:Int)+i)).wlo (l ((0:Int)+i)).fhi),I (mU w.whi w.fhi (l ((0:Int)+i)).whi (l ((0:Int)+i)).flo)] (89:TypeId),VB.cells [VV.ptr (VA.own 12 0)] (87:TypeId),VB.loop true none (sl35 f) 67 [15,16] as35 bd35,VB.vec (xs.length+1) (catG xs.length (fun j=>wtL (xs.getD j w0)) fun j=>List.take (4) (List.drop (j*(4)) [I (w.flo+(l ((0:Int)+i)).flo),I (w.fhi+(l ((0:Int)+i)).fhi),I (mD w.wlo w.flo (l ((0:Int)+i)).wlo (l ((0:Int)+i)).fhi),I (mU w.whi w.fhi (l ((0:Int)+i)).whi (l ((0:Int)+i)).flo)])) (4) 25]
 else False
 else False
 else False
 else False
 else False
 else False
 else meanOk w.wlo w.flo (l ((0:Int)+i)).wlo (l ((0:Int)+i)).fhi/\meanOk w.whi w.flo (l ((0:Int)+i)).whi (l ((0:Int)+i)).fhi/\bif inK IntKind.i64 (w.flo+(l ((0:Int)+i)).flo) then
 bif inK IntKind.i64 (w.fhi+(l ((0:Int)+i)).fhi) then
 bif decide (w.flo+(l ((0:Int)+i)).flo<(1:Int)) then
 X VEx.ret [I i,I k,I ((↑n:Int)+(1:Int)),VV.yld 14,VV.ptr (VA.own 5 0),VV.ptr (VA.own 6 0),VV.ptr (VA.own 7 0)] [ptsA n l,VB.cells [VV.slice (VA.el 0 [] (0:Int) 0) n cap] (26:TypeId),VB.cells [I (-1)] (3:TypeId),VB.cells [VV.nilp] (78:TypeId),VB.cells [VV.nils] (29:TypeId),VB.cells [I k] (3:TypeId),VB.cells [I 10] (30:TypeId),VB.cells [I (w.flo+(l ((0:Int)+i)).flo),I (w.fhi+(l ((0:Int)+i)).fhi),I (mD w.wlo w.flo (l ((0:Int)+i)).wlo (l ((0:Int)+i)).fhi),I (mU w.whi w.flo (l ((0:Int)+i)).whi (l ((0:Int)+i)).fhi)] (89:TypeId),VB.cells [VV.ptr (VA.own 12 0)] (87:TypeId),VB.loop false (some VEx.ret) (sl35 f) 67 [15,16] as35 bd35,VB.vec xs.length (fun j=>wtL (xs.getD j w0)) 4 (25:TypeId)]
 else bif decide (w.fhi+(l ((0:Int)+i)).fhi > (1073741824:Int)) then
 X VEx.ret [I i,I k,I ((↑n:Int)+(1:Int)),VV.yld 14,VV.ptr (VA.own 5 0),VV.ptr (VA.own 6 0),VV.ptr (VA.own 7 0)] [ptsA n l,VB.cells [VV.slice (VA.el 0 [] (0:Int) 0) n cap] (26:TypeId),VB.cells [I (-1)] (3:TypeId),VB.cells [VV.nilp] (78:TypeId),VB.cells [VV.nils] (29:TypeId),VB.cells [I k] (3:TypeId),VB.cells [I 12] (30:TypeId),VB.cells [I (w.flo+(l ((0:Int)+i)).flo),I (w.fhi+(l ((0:Int)+i)).fhi),I (mD w.wlo w.flo (l ((0:Int)+i)).wlo (l ((0:Int)+i)).fhi),I (mU w.whi w.flo (l ((0:Int)+i)).whi (l ((0:Int)+i)).fhi)] (89:TypeId),VB.cells [VV.ptr (VA.own 12 0)] (87:TypeId),VB.loop false (some VEx.ret) (sl35 f) 67 [15,16] as35 bd35,VB.vec xs.length (fun j=>wtL (xs.getD j w0)) 4 (25:TypeId)]
 else bif decide (mU w.whi w.flo (l ((0:Int)+i)).whi (l ((0:Int)+i)).fhi > (100000:Int)) then
 X VEx.ret [I i,I k,I ((↑n:Int)+(1:Int)),VV.yld 14,VV.ptr (VA.own 5 0),VV.ptr (VA.own 6 0),VV.ptr (VA.own 7 0)] [ptsA n l,VB.cells [VV.slice (VA.el 0 [] (0:Int) 0) n cap] (26:TypeId),VB.cells [I (-1)] (3:TypeId),VB.cells [VV.nilp] (78:TypeId),VB.cells [VV.nils] (29:TypeId),VB.cells [I k] (3:TypeId),VB.cells [I 12] (30:TypeId),VB.cells [I (w.flo+(l ((0:Int)+i)).flo),I (w.fhi+(l ((0:Int)+i)).fhi),I (mD w.wlo w.flo (l ((0:Int)+i)).wlo (l ((0:Int)+i)).fhi),I (mU w.whi w.flo (l ((0:Int)+i)).whi (l ((0:Int)+i)).fhi)] (89:TypeId),VB.cells [VV.ptr (VA.own 12 0)] (87:TypeId),VB.loop false (some VEx.ret) (sl35 f) 67 [15,16] as35 bd35,VB.vec xs.length (fun j=>wtL (xs.getD j w0)) 4 (25:TypeId)]
 else bif xs.length.beq xs.length then
 bif roomB (xs.length+1) (32) then
 bif inK IntKind.i64 (k+(1:Int)) then
 bif inK IntKind.i64 (i+(1:Int)) then
 X VEx.normal [I (i+(1:Int)),I (k+(1:Int)),I ((↑n:Int)+(1:Int)),VV.yld 14,VV.ptr (VA.own 5 0),VV.ptr (VA.own 6 0),VV.ptr (VA.own 7 0)] [ptsA n l,VB.cells [VV.slice (VA.el 0 [] (0:Int) 0) n cap] (26:TypeId),VB.cells [I (-1)] (3:TypeId),VB.cells [VV.nilp] (78:TypeId),VB.cells [VV.sl 15 (xs.length+1)] (29:TypeId),VB.cells [I 0] (3:TypeId),VB.cells [I 0] (30:TypeId),VB.cells [I (w.flo+(l ((0:Int)+i)).flo),I (w.fhi+(l ((0:Int)+i)).fhi),I (mD w.wlo w.flo (l ((0:Int)+i)).wlo (l ((0:Int)+i)).fhi),I (mU w.whi w.flo (l ((0:Int)+i)).whi (l ((0:Int)+i)).fhi)] (89:TypeId),VB.cells [VV.ptr (VA.own 12 0)] (87:TypeId),VB.loop true none (sl35 f) 67 [15,16] as35 bd35,VB.vec (xs.length+1) (catG xs.length (fun j=>wtL (xs.getD j w0)) fun j=>List.take (4) (List.drop (j*(4)) [I (w.flo+(l ((0:Int)+i)).flo),I (w.fhi+(l ((0:Int)+i)).fhi),I (mD w.wlo w.flo (l ((0:Int)+i)).wlo (l ((0:Int)+i)).fhi),I (mU w.whi w.flo (l ((0:Int)+i)).whi (l ((0:Int)+i)).fhi)])) (4) 25]
 else False
 else False
 else False
 else False
 else False
 else False
 else bif decide ((l ((0:Int)+i)).whi<w.whi) then
 meanOk w.wlo w.fhi (l ((0:Int)+i)).wlo (l ((0:Int)+i)).flo/\meanOk w.whi w.fhi (l ((0:Int)+i)).whi (l ((0:Int)+i)).flo/\bif inK IntKind.i64 (w.flo+(l ((0:Int)+i)).flo) then
 bif inK IntKind.i64 (w.fhi+(l ((0:Int)+i)).fhi) then
 bif decide (w.flo+(l ((0:Int)+i)).flo<(1:Int)) then
 X VEx.ret [I i,I k,I ((↑n:Int)+(1:Int)),VV.yld 14,VV.ptr (VA.own 5 0),VV.ptr (VA.own 6 0),VV.ptr (VA.own 7 0)] [ptsA n l,VB.cells [VV.slice (VA.el 0 [] (0:Int) 0) n cap] (26:TypeId),VB.cells [I (-1)] (3:TypeId),VB.cells [VV.nilp] (78:TypeId),VB.cells [VV.nils] (29:TypeId),VB.cells [I k] (3:TypeId),VB.cells [I 10] (30:TypeId),VB.cells [I (w.flo+(l ((0:Int)+i)).flo),I (w.fhi+(l ((0:Int)+i)).fhi),I (mD w.wlo w.fhi (l ((0:Int)+i)).wlo (l ((0:Int)+i)).flo),I (mU w.whi w.fhi (l ((0:Int)+i)).whi (l ((0:Int)+i)).flo)] (89:TypeId),VB.cells [VV.ptr (VA.own 12 0)] (87:TypeId),VB.loop false (some VEx.ret) (sl35 f) 67 [15,16] as35 bd35,VB.vec xs.length (fun j=>wtL (xs.getD j w0)) 4 (25:TypeId)]
 else bif decide (w.fhi+(l ((0:Int)+i)).fhi > (1073741824:Int)) then
 X VEx.ret [I i,I k,I ((↑n:Int)+(1:Int)),VV.yld 14,VV.ptr (VA.own 5 0),VV.ptr (VA.own 6 0),VV.ptr (VA.own 7 0)] [ptsA n l,VB.cells [VV.slice (VA.el 0 [] (0:Int) 0) n cap] (26:TypeId),VB.cells [I (-1)] (3:TypeId),VB.cells [VV.nilp] (78:TypeId),VB.cells [VV.nils] (29:TypeId),VB.cells [I k] (3:TypeId),VB.cells [I 12] (30:TypeId),VB.cells [I (w.flo+(l ((0:Int)+i)).flo),I (w.fhi+(l ((0:Int)+i)).fhi),I (mD w.wlo w.fhi (l ((0:Int)+i)).wlo (l ((0:Int)+i)).flo),I (mU w.whi w.fhi (l ((0:Int)+i)).whi (l ((0:Int)+i)).flo)] (89:TypeId),VB.cells [VV.ptr (VA.own 12 0)] (87:TypeId),VB.loop false (some VEx.ret) (sl35 f) 67 [15,16] as35 bd35,VB.vec xs.length (fun j=>wtL (xs.getD j w0)) 4 (25:TypeId)]
 else bif decide (mU w.whi w.fhi (l ((0:Int)+i)).whi (l ((0:Int)+i)).flo > (100000:Int)) then
 X VEx.ret [I i,I k,I ((↑n:Int)+(1:Int)),VV.yld 14,VV.ptr (VA.own 5 0),VV.ptr (VA.own 6 0),VV.ptr (VA.own 7 0)] [ptsA n l,VB.cells [VV.slice (VA.el 0 [] (0:Int) 0) n cap] (26:TypeId),VB.cells [I (-1)] (3:TypeId),VB.cells [VV.nilp] (78:TypeId),VB.cells [VV.nils] (29:TypeId),VB.cells [I k] (3:TypeId),VB.cells [I 12] (30:TypeId),VB.cells [I (w.flo+(l ((0:Int)+i)).flo),I (w.fhi+(l ((0:Int)+i)).fhi),I (mD w.wlo w.fhi (l ((0:Int)+i)).wlo (l ((0:Int)+i)).flo),I (mU w.whi w.fhi (l ((0:Int)+i)).whi (l ((0:Int)+i)).flo)] (89:TypeId),VB.cells [VV.ptr (VA.own 12 0)] (87:TypeId),VB.loop false (some VEx.ret) (sl35 f) 67 [15,16] as35 bd35,VB.vec xs.length (fun j=>wtL (xs.getD j w0)) 4 (25:TypeId)]
 else bif xs.length.beq xs.length then
 bif roomB (xs.length+1) (32) then
 bif inK IntKind.i64 (k+(1:Int)) then
 bif inK IntKind.i64 (i+(1:Int)) then
 X VEx.normal [I (i+(1:Int)),I (k+(1:Int)),I ((↑n:Int)+(1:Int)),VV.yld 14,VV.ptr (VA.own 5 0),VV.ptr (VA.own 6 0),VV.ptr (VA.own 7 0)] [ptsA n l,VB.cells [VV.slice (VA.el 0 [] (0:Int) 0) n cap] (26:TypeId),VB.cells [I (-1)] (3:TypeId),VB.cells [VV.nilp] (78:TypeId),VB.cells [VV.sl 15 (xs.length+1)] (29:TypeId),VB.cells [I 0] (3:TypeId),VB.cells [I 0] (30:TypeId),VB.cells [I (w.flo+(l ((0:Int)+i)).flo),I (w.fhi+(l ((0:Int)+i)).fhi),I (mD w.wlo w.fhi (l ((0:Int)+i)).wlo (l ((0:Int)+i)).flo),I (mU w.whi w.fhi (l ((0:Int)+i)).whi (l ((0:Int)+i)).flo)] (89:TypeId),VB.cells [VV.ptr (VA.own 12 0)] (87:TypeId),VB.loop true none (sl35 f) 67 [15,16] as35 bd35,VB.vec (xs.length+1) (catG xs.length (fun j=>wtL (xs.getD j w0)) fun j=>List.take (4) (List.drop (j*(4)) [I (w.flo+(l ((0:Int)+i)).flo),I (w.fhi+(l ((0:Int)+i)).fhi),I (mD w.wlo w.fhi (l ((0:Int)+i)).wlo (l ((0:Int)+i)).flo),I (mU w.whi w.fhi (l ((0:Int)+i)).whi (l ((0:Int)+i)).flo)])) (4) 25]
 else False
 else False
 else False
 else False
 else False
 else False
 else meanOk w.wlo w.fhi (l ((0:Int)+i)).wlo (l ((0:Int)+i)).flo/\meanOk w.whi w.flo (l ((0:Int)+i)).whi (l ((0:Int)+i)).fhi/\bif inK IntKind.i64 (w.flo+(l ((0:Int)+i)).flo) then
 bif inK IntKind.i64 (w.fhi+(l ((0:Int)+i)).fhi) then
 bif decide (w.flo+(l ((0:Int)+i)).flo<(1:Int)) then
 X VEx.ret [I i,I k,I ((↑n:Int)+(1:Int)),VV.yld 14,VV.ptr (VA.own 5 0),VV.ptr (VA.own 6 0),VV.ptr (VA.own 7 0)] [ptsA n l,VB.cells [VV.slice (VA.el 0 [] (0:Int) 0) n cap] (26:TypeId),VB.cells [I (-1)] (3:TypeId),VB.cells [VV.nilp] (78:TypeId),VB.cells [VV.nils] (29:TypeId),VB.cells [I k] (3:TypeId),VB.cells [I 10] (30:TypeId),VB.cells [I (w.flo+(l ((0:Int)+i)).flo),I (w.fhi+(l ((0:Int)+i)).fhi),I (mD w.wlo w.fhi (l ((0:Int)+i)).wlo (l ((0:Int)+i)).flo),I (mU w.whi w.flo (l ((0:Int)+i)).whi (l ((0:Int)+i)).fhi)] (89:TypeId),VB.cells [VV.ptr (VA.own 12 0)] (87:TypeId),VB.loop false (some VEx.ret) (sl35 f) 67 [15,16] as35 bd35,VB.vec xs.length (fun j=>wtL (xs.getD j w0)) 4 (25:TypeId)]
 else bif decide (w.fhi+(l ((0:Int)+i)).fhi > (1073741824:Int)) then
 X VEx.ret [I i,I k,I ((↑n:Int)+(1:Int)),VV.yld 14,VV.ptr (VA.own 5 0),VV.ptr (VA.own 6 0),VV.ptr (VA.own 7 0)] [ptsA n l,VB.cells [VV.slice (VA.el 0 [] (0:Int) 0) n cap] (26:TypeId),VB.cells [I (-1)] (3:TypeId),VB.cells [VV.nilp] (78:TypeId),VB.cells [VV.nils] (29:TypeId),VB.cells [I k] (3:TypeId),VB.cells [I 12] (30:TypeId),VB.cells [I (w.flo+(l ((0:Int)+i)).flo),I (w.fhi+(l ((0:Int)+i)).fhi),I (mD w.wlo w.fhi (l ((0:Int)+i)).wlo (l ((0:Int)+i)).flo),I (mU w.whi w.flo (l ((0:Int)+i)).whi (l ((0:Int)+i)).fhi)] (89:TypeId),VB.cells [VV.ptr (VA.own 12 0)] (87:TypeId),VB.loop false (some VEx.ret) (sl35 f) 67 [15,16] as35 bd35,VB.vec xs.length (fun j=>wtL (xs.getD j w0)) 4 (25:TypeId)]
 else bif decide (mU w.whi w.flo (l ((0:Int)+i)).whi (l ((0:Int)+i)).fhi > (100000:Int)) then
 X VEx.ret [I i,I k,I ((↑n:Int)+(1:Int)),VV.yld 14,VV.ptr (VA.own 5 0),VV.ptr (VA.own 6 0),VV.ptr (VA.own 7 0)] [ptsA n l,VB.cells [VV.slice (VA.el 0 [] (0:Int) 0) n cap] (26:TypeId),VB.cells [I (-1)] (3:TypeId),VB.cells [VV.nilp] (78:TypeId),VB.cells [VV.nils] (29:TypeId),VB.cells [I k] (3:TypeId),VB.cells [I 12] (30:TypeId),VB.cells [I (w.flo+(l ((0:Int)+i)).flo),I (w.fhi+(l ((0:Int)+i)).fhi),I (mD w.wlo w.fhi (l ((0:Int)+i)).wlo (l ((0:Int)+i)).flo),I (mU w.whi w.flo (l ((0:Int)+i)).whi (l ((0:Int)+i)).fhi)] (89:TypeId),VB.cells [VV.ptr (VA.own 12 0)] (87:TypeId),VB.loop false (some VEx.ret) (sl35 f) 67 [15,16] as35 bd35,VB.vec xs.length (fun j=>wtL (xs.getD j w0)) 4 (25:TypeId)]
 else bif xs.length.beq xs.length then
 bif roomB (xs.length+1) (32) then
 bif inK IntKind.i64 (k+(1:Int)) then
 bif inK IntKind.i64 (i+(1:Int)) then
 X VEx.normal [I (i+(1:Int)),I (k+(1:Int)),I ((↑n:Int)+(1:Int)),VV.yld 14,VV.ptr (VA.own 5 0),VV.ptr (VA.own 6 0),VV.ptr (VA.own 7 0)] [ptsA n l,VB.cells [VV.slice (VA.el 0 [] (0:Int) 0) n cap] (26:TypeId),VB.cells [I (-1)] (3:TypeId),VB.cells [VV.nilp] (78:TypeId),VB.cells [VV.sl 15 (xs.length+1)] (29:TypeId),VB.cells [I 0] (3:TypeId),VB.cells [I 0] (30:TypeId),VB.cells [I (w.flo+(l ((0:Int)+i)).flo),I (w.fhi+(l ((0:Int)+i)).fhi),I (mD w.wlo w.fhi (l ((0:Int)+i)).wlo (l ((0:Int)+i)).flo),I (mU w.whi w.flo (l ((0:Int)+i)).whi (l ((0:Int)+i)).fhi)] (89:TypeId),VB.cells [VV.ptr (VA.own 12 0)] (87:TypeId),VB.loop true none (sl35 f) 67 [15,16] as35 bd35,VB.vec (xs.length+1) (catG xs.length (fun j=>wtL (xs.getD j w0)) fun j=>List.take (4) (List.drop (j*(4)) [I (w.flo+(l ((0:Int)+i)).flo),I (w.fhi+(l ((0:Int)+i)).fhi),I (mD w.wlo w.fhi (l ((0:Int)+i)).wlo (l ((0:Int)+i)).flo),I (mU w.whi w.flo (l ((0:Int)+i)).whi (l ((0:Int)+i)).fhi)])) (4) 25]
 else False
 else False
 else False
 else False
 else False
 else False
 else X VEx.ret [I i,I k,I ((↑n:Int)+(1:Int)),VV.yld 14,VV.ptr (VA.own 5 0),VV.ptr (VA.own 6 0),VV.ptr (VA.own 7 0)] [ptsA n l,VB.cells [VV.slice (VA.el 0 [] (0:Int) 0) n cap] (26:TypeId),VB.cells [I (-1)] (3:TypeId),VB.cells [VV.nilp] (78:TypeId),VB.cells [VV.nils] (29:TypeId),VB.cells [I k] (3:TypeId),VB.cells [I 1] (30:TypeId),VB.cells [I w.flo,I w.fhi,I w.wlo,I w.whi] (89:TypeId),VB.cells [VV.ptr (VA.own 12 0)] (87:TypeId),VB.loop false (some VEx.ret) (sl35 f) 67 [15,16] as35 bd35,VB.vec xs.length (fun j=>wtL (xs.getD j w0)) 4 (25:TypeId)]
 else bif decide ((l ((0:Int)+i)).k=(1:Int)) then
 bif !spanB (l ((0:Int)+i)).flo (l ((0:Int)+i)).fhi (0:Int) (1073741824:Int) then
 X VEx.ret [I i,I k,I ((↑n:Int)+(1:Int)),VV.yld 14,VV.ptr (VA.own 5 0),VV.ptr (VA.own 6 0),VV.ptr (VA.own 7 0)] [ptsA n l,VB.cells [VV.slice (VA.el 0 [] (0:Int) 0) n cap] (26:TypeId),VB.cells [I (-1)] (3:TypeId),VB.cells [VV.nilp] (78:TypeId),VB.cells [VV.nils] (29:TypeId),VB.cells [I k] (3:TypeId),VB.cells [I 1] (30:TypeId),VB.cells [I w.flo,I w.fhi,I w.wlo,I w.whi] (89:TypeId),VB.cells [VV.ptr (VA.own 12 0)] (87:TypeId),VB.loop false (some VEx.ret) (sl35 f) 67 [15,16] as35 bd35,VB.vec xs.length (fun j=>wtL (xs.getD j w0)) 4 (25:TypeId)]
 else bif inK IntKind.i64 (w.flo - (l ((0:Int)+i)).fhi) then
 bif inK IntKind.i64 (w.fhi - (l ((0:Int)+i)).flo) then
 bif decide (w.flo - (l ((0:Int)+i)).fhi<(1:Int)) then
 X VEx.ret [I i,I k,I ((↑n:Int)+(1:Int)),VV.yld 14,VV.ptr (VA.own 5 0),VV.ptr (VA.own 6 0),VV.ptr (VA.own 7 0)] [ptsA n l,VB.cells [VV.slice (VA.el 0 [] (0:Int) 0) n cap] (26:TypeId),VB.cells [I (-1)] (3:TypeId),VB.cells [VV.nilp] (78:TypeId),VB.cells [VV.nils] (29:TypeId),VB.cells [I k] (3:TypeId),VB.cells [I 10] (30:TypeId),VB.cells [I (w.flo - (l ((0:Int)+i)).fhi),I (w.fhi - (l ((0:Int)+i)).flo),I w.wlo,I w.whi] (89:TypeId),VB.cells [VV.ptr (VA.own 12 0)] (87:TypeId),VB.loop false (some VEx.ret) (sl35 f) 67 [15,16] as35 bd35,VB.vec xs.length (fun j=>wtL (xs.getD j w0)) 4 (25:TypeId)]
 else bif decide (w.fhi - (l ((0:Int)+i)).flo > (1073741824:Int)) then
 X VEx.ret [I i,I k,I ((↑n:Int)+(1:Int)),VV.yld 14,VV.ptr (VA.own 5 0),VV.ptr (VA.own 6 0),VV.ptr (VA.own 7 0)] [ptsA n l,VB.cells [VV.slice (VA.el 0 [] (0:Int) 0) n cap] (26:TypeId),VB.cells [I (-1)] (3:TypeId),VB.cells [VV.nilp] (78:TypeId),VB.cells [VV.nils] (29:TypeId),VB.cells [I k] (3:TypeId),VB.cells [I 12] (30:TypeId),VB.cells [I (w.flo - (l ((0:Int)+i)).fhi),I (w.fhi - (l ((0:Int)+i)).flo),I w.wlo,I w.whi] (89:TypeId),VB.cells [VV.ptr (VA.own 12 0)] (87:TypeId),VB.loop false (some VEx.ret) (sl35 f) 67 [15,16] as35 bd35,VB.vec xs.length (fun j=>wtL (xs.getD j w0)) 4 (25:TypeId)]
 else bif decide (w.whi > (100000:Int)) then
 X VEx.ret [I i,I k,I ((↑n:Int)+(1:Int)),VV.yld 14,VV.ptr (VA.own 5 0),VV.ptr (VA.own 6 0),VV.ptr (VA.own 7 0)] [ptsA n l,VB.cells [VV.slice (VA.el 0 [] (0:Int) 0) n cap] (26:TypeId),VB.cells [I (-1)] (3:TypeId),VB.cells [VV.nilp] (78:TypeId),VB.cells [VV.nils] (29:TypeId),VB.cells [I k] (3:TypeId),VB.cells [I 12] (30:TypeId),VB.cells [I (w.flo - (l ((0:Int)+i)).fhi),I (w.fhi - (l ((0:Int)+i)).flo),I w.wlo,I w.whi] (89:TypeId),VB.cells [VV.ptr (VA.own 12 0)] (87:TypeId),VB.loop false (some VEx.ret) (sl35 f) 67 [15,16] as35 bd35,VB.vec xs.length (fun j=>wtL (xs.getD j w0)) 4 (25:TypeId)]
 else bif xs.length.beq xs.length then
 bif roomB (xs.length+1) (32) then
 bif inK IntKind.i64 (k+(1:Int)) then
 bif inK IntKind.i64 (i+(1:Int)) then
 X VEx.normal [I (i+(1:Int)),I (k+(1:Int)),I ((↑n:Int)+(1:Int)),VV.yld 14,VV.ptr (VA.own 5 0),VV.ptr (VA.own 6 0),VV.ptr (VA.own 7 0)] [ptsA n l,VB.cells [VV.slice (VA.el 0 [] (0:Int) 0) n cap] (26:TypeId),VB.cells [I (-1)] (3:TypeId),VB.cells [VV.nilp] (78:TypeId),VB.cells [VV.sl 15 (xs.length+1)] (29:TypeId),VB.cells [I 0] (3:TypeId),VB.cells [I 0] (30:TypeId),VB.cells [I (w.flo - (l ((0:Int)+i)).fhi),I (w.fhi - (l ((0:Int)+i)).flo),I w.wlo,I w.whi] (89:TypeId),VB.cells [VV.ptr (VA.own 12 0)] (87:TypeId),VB.loop true none (sl35 f) 67 [15,16] as35 bd35,VB.vec (xs.length+1) (catG xs.length (fun j=>wtL (xs.getD j w0)) fun j=>List.take (4) (List.drop (j*(4)) [I (w.flo - (l ((0:Int)+i)).fhi),I (w.fhi - (l ((0:Int)+i)).flo),I w.wlo,I w.whi])) (4) 25]
 else False
 else False
 else False
 else False
 else False
 else False
 else bif decide ((l ((0:Int)+i)).k=(2:Int)) then
 bif !spanB (l ((0:Int)+i)).hlo (l ((0:Int)+i)).hhi (0:Int) (1099511627776:Int) then
 X VEx.ret [I i,I k,I ((↑n:Int)+(1:Int)),VV.yld 14,VV.ptr (VA.own 5 0),VV.ptr (VA.own 6 0),VV.ptr (VA.own 7 0)] [ptsA n l,VB.cells [VV.slice (VA.el 0 [] (0:Int) 0) n cap] (26:TypeId),VB.cells [I (-1)] (3:TypeId),VB.cells [VV.nilp] (78:TypeId),VB.cells [VV.nils] (29:TypeId),VB.cells [I k] (3:TypeId),VB.cells [I 1] (30:TypeId),VB.cells [I w.flo,I w.fhi,I w.wlo,I w.whi] (89:TypeId),VB.cells [VV.ptr (VA.own 12 0)] (87:TypeId),VB.loop false (some VEx.ret) (sl35 f) 67 [15,16] as35 bd35,VB.vec xs.length (fun j=>wtL (xs.getD j w0)) 4 (25:TypeId)]
 else bif decide (w.fhi=(0:Int)) then
 False
 else bif inK IntKind.i64 (quoZ (l ((0:Int)+i)).hlo w.fhi) then
 bif inK IntKind.i64 (w.wlo+quoZ (l ((0:Int)+i)).hlo w.fhi) then
 upOk (l ((0:Int)+i)).hhi w.flo/\bif inK IntKind.i64 (w.whi+quoZ ((l ((0:Int)+i)).hhi+w.flo - (1:Int)) w.flo) then
 bif decide (w.flo<(1:Int)) then
 X VEx.ret [I i,I k,I ((↑n:Int)+(1:Int)),VV.yld 14,VV.ptr (VA.own 5 0),VV.ptr (VA.own 6 0),VV.ptr (VA.own 7 0)] [ptsA n l,VB.cells [VV.slice (VA.el 0 [] (0:Int) 0) n cap] (26:TypeId),VB.cells [I (-1)] (3:TypeId),VB.cells [VV.nilp] (78:TypeId),VB.cells [VV.nils] (29:TypeId),VB.cells [I k] (3:TypeId),VB.cells [I 10] (30:TypeId),VB.cells [I w.flo,I w.fhi,I (w.wlo+quoZ (l ((0:Int)+i)).hlo w.fhi),I (w.whi+quoZ ((l ((0:Int)+i)).hhi+w.flo - (1:Int)) w.flo)] (89:TypeId),VB.cells [VV.ptr (VA.own 12 0)] (87:TypeId),VB.loop false (some VEx.ret) (sl35 f) 67 [15,16] as35 bd35,VB.vec xs.length (fun j=>wtL (xs.getD j w0)) 4 (25:TypeId)]
 else bif decide (w.fhi > (1073741824:Int)) then
 X VEx.ret [I i,I k,I ((↑n:Int)+(1:Int)),VV.yld 14,VV.ptr (VA.own 5 0),VV.ptr (VA.own 6 0),VV.ptr (VA.own 7 0)] [ptsA n l,VB.cells [VV.slice (VA.el 0 [] (0:Int) 0) n cap] (26:TypeId),VB.cells [I (-1)] (3:TypeId),VB.cells [VV.nilp] (78:TypeId),VB.cells [VV.nils] (29:TypeId),VB.cells [I k] (3:TypeId),VB.cells [I 12] (30:TypeId),VB.cells [I w.flo,I w.fhi,I (w.wlo+quoZ (l ((0:Int)+i)).hlo w.fhi),I (w.whi+quoZ ((l ((0:Int)+i)).hhi+w.flo - (1:Int)) w.flo)] (89:TypeId),VB.cells [VV.ptr (VA.own 12 0)] (87:TypeId),VB.loop false (some VEx.ret) (sl35 f) 67 [15,16] as35 bd35,VB.vec xs.length (fun j=>wtL (xs.getD j w0)) 4 (25:TypeId)]
 else bif decide (w.whi+quoZ ((l ((0:Int)+i)).hhi+w.flo - (1:Int)) w.flo > (100000:Int)) then
 X VEx.ret [I i,I k,I ((↑n:Int)+(1:Int)),VV.yld 14,VV.ptr (VA.own 5 0),VV.ptr (VA.own 6 0),VV.ptr (VA.own 7 0)] [ptsA n l,VB.cells [VV.slice (VA.el 0 [] (0:Int) 0) n cap] (26:TypeId),VB.cells [I (-1)] (3:TypeId),VB.cells [VV.nilp] (78:TypeId),VB.cells [VV.nils] (29:TypeId),VB.cells [I k] (3:TypeId),VB.cells [I 12] (30:TypeId),VB.cells [I w.flo,I w.fhi,I (w.wlo+quoZ (l ((0:Int)+i)).hlo w.fhi),I (w.whi+quoZ ((l ((0:Int)+i)).hhi+w.flo - (1:Int)) w.flo)] (89:TypeId),VB.cells [VV.ptr (VA.own 12 0)] (87:TypeId),VB.loop false (some VEx.ret) (sl35 f) 67 [15,16] as35 bd35,VB.vec xs.length (fun j=>wtL (xs.getD j w0)) 4 (25:TypeId)]
 else bif xs.length.beq xs.length then
 bif roomB (xs.length+1) (32) then
 bif inK IntKind.i64 (k+(1:Int)) then
 bif inK IntKind.i64 (i+(1:Int)) then
 X VEx.normal [I (i+(1:Int)),I (k+(1:Int)),I ((↑n:Int)+(1:Int)),VV.yld 14,VV.ptr (VA.own 5 0),VV.ptr (VA.own 6 0),VV.ptr (VA.own 7 0)] [ptsA n l,VB.cells [VV.slice (VA.el 0 [] (0:Int) 0) n cap] (26:TypeId),VB.cells [I (-1)] (3:TypeId),VB.cells [VV.nilp] (78:TypeId),VB.cells [VV.sl 15 (xs.length+1)] (29:TypeId),VB.cells [I 0] (3:TypeId),VB.cells [I 0] (30:TypeId),VB.cells [I w.flo,I w.fhi,I (w.wlo+quoZ (l ((0:Int)+i)).hlo w.fhi),I (w.whi+quoZ ((l ((0:Int)+i)).hhi+w.flo - (1:Int)) w.flo)] (89:TypeId),VB.cells [VV.ptr (VA.own 12 0)] (87:TypeId),VB.loop true none (sl35 f) 67 [15,16] as35 bd35,VB.vec (xs.length+1) (catG xs.length (fun j=>wtL (xs.getD j w0)) fun j=>List.take (4) (List.drop (j*(4)) [I w.flo,I w.fhi,I (w.wlo+quoZ (l ((0:Int)+i)).hlo w.fhi),I (w.whi+quoZ ((l ((0:Int)+i)).hhi+w.flo - (1:Int)) w.flo)])) (4) 25]
 else False
 else False
 else False
 else False
 else False
 else False
 else False
 else bif decide ((l ((0:Int)+i)).k=(3:Int)) then
 bif spanB (l ((0:Int)+i)).wlo (l ((0:Int)+i)).whi (0:Int) (100000:Int) then
 bif !spanB (l ((0:Int)+i)).slo (l ((0:Int)+i)).shi (0:Int) (10000:Int) then
 X VEx.ret [I i,I k,I ((↑n:Int)+(1:Int)),VV.yld 14,VV.ptr (VA.own 5 0),VV.ptr (VA.own 6 0),VV.ptr (VA.own 7 0)] [ptsA n l,VB.cells [VV.slice (VA.el 0 [] (0:Int) 0) n cap] (26:TypeId),VB.cells [I (-1)] (3:TypeId),VB.cells [VV.nilp] (78:TypeId),VB.cells [VV.nils] (29:TypeId),VB.cells [I k] (3:TypeId),VB.cells [I 1] (30:TypeId),VB.cells [I w.flo,I w.fhi,I w.wlo,I w.whi] (89:TypeId),VB.cells [VV.ptr (VA.own 12 0)] (87:TypeId),VB.loop false (some VEx.ret) (sl35 f) 67 [15,16] as35 bd35,VB.vec xs.length (fun j=>wtL (xs.getD j w0)) 4 (25:TypeId)]
 else bif decide (w.wlo > (l ((0:Int)+i)).wlo) then
 bif decide (w.whi > (l ((0:Int)+i)).whi) then
 bif inK IntKind.i64 ((10000:Int) - (l ((0:Int)+i)).shi) then
 meanOk w.wlo ((10000:Int) - (l ((0:Int)+i)).shi) (l ((0:Int)+i)).wlo (l ((0:Int)+i)).shi/\bif inK IntKind.i64 ((10000:Int) - (l ((0:Int)+i)).slo) then
 meanOk w.whi ((10000:Int) - (l ((0:Int)+i)).slo) (l ((0:Int)+i)).whi (l ((0:Int)+i)).slo/\bif decide (w.flo<(1:Int)) then
 X VEx.ret [I i,I k,I ((↑n:Int)+(1:Int)),VV.yld 14,VV.ptr (VA.own 5 0),VV.ptr (VA.own 6 0),VV.ptr (VA.own 7 0)] [ptsA n l,VB.cells [VV.slice (VA.el 0 [] (0:Int) 0) n cap] (26:TypeId),VB.cells [I (-1)] (3:TypeId),VB.cells [VV.nilp] (78:TypeId),VB.cells [VV.nils] (29:TypeId),VB.cells [I k] (3:TypeId),VB.cells [I 10] (30:TypeId),VB.cells [I w.flo,I w.fhi,I (mD w.wlo ((10000:Int) - (l ((0:Int)+i)).shi) (l ((0:Int)+i)).wlo (l ((0:Int)+i)).shi),I (mU w.whi ((10000:Int) - (l ((0:Int)+i)).slo) (l ((0:Int)+i)).whi (l ((0:Int)+i)).slo)] (89:TypeId),VB.cells [VV.ptr (VA.own 12 0)] (87:TypeId),VB.loop false (some VEx.ret) (sl35 f) 67 [15,16] as35 bd35,VB.vec xs.length (fun j=>wtL (xs.getD j w0)) 4 (25:TypeId)]
 else bif decide (w.fhi > (1073741824:Int)) then
 X VEx.ret [I i,I k,I ((↑n:Int)+(1:Int)),VV.yld 14,VV.ptr (VA.own 5 0),VV.ptr (VA.own 6 0),VV.ptr (VA.own 7 0)] [ptsA n l,VB.cells [VV.slice (VA.el 0 [] (0:Int) 0) n cap] (26:TypeId),VB.cells [I (-1)] (3:TypeId),VB.cells [VV.nilp] (78:TypeId),VB.cells [VV.nils] (29:TypeId),VB.cells [I k] (3:TypeId),VB.cells [I 12] (30:TypeId),VB.cells [I w.flo,I w.fhi,I (mD w.wlo ((10000:Int) - (l ((0:Int)+i)).shi) (l ((0:Int)+i)).wlo (l ((0:Int)+i)).shi),I (mU w.whi ((10000:Int) - (l ((0:Int)+i)).slo) (l ((0:Int)+i)).whi (l ((0:Int)+i)).slo)] (89:TypeId),VB.cells [VV.ptr (VA.own 12 0)] (87:TypeId),VB.loop false (some VEx.ret) (sl35 f) 67 [15,16] as35 bd35,VB.vec xs.length (fun j=>wtL (xs.getD j w0)) 4 (25:TypeId)]
 else bif decide (mU w.whi ((10000:Int) - (l ((0:Int)+i)).slo) (l ((0:Int)+i)).whi (l ((0:Int)+i)).slo > (100000:Int)) then
 X VEx.ret [I i,I k,I ((↑n:Int)+(1:Int)),VV.yld 14,VV.ptr (VA.own 5 0),VV.ptr (VA.own 6 0),VV.ptr (VA.own 7 0)] [ptsA n l,VB.cells [VV.slice (VA.el 0 [] (0:Int) 0) n cap] (26:TypeId),VB.cells [I (-1)] (3:TypeId),VB.cells [VV.nilp] (78:TypeId),VB.cells [VV.nils] (29:TypeId),VB.cells [I k] (3:TypeId),VB.cells [I 12] (30:TypeId),VB.cells [I w.flo,I w.fhi,I (mD w.wlo ((10000:Int) - (l ((0:Int)+i)).shi) (l ((0:Int)+i)).wlo (l ((0:Int)+i)).shi),I (mU w.whi ((10000:Int) - (l ((0:Int)+i)).slo) (l ((0:Int)+i)).whi (l ((0:Int)+i)).slo)] (89:TypeId),VB.cells [VV.ptr (VA.own 12 0)] (87:TypeId),VB.loop false (some VEx.ret) (sl35 f) 67 [15,16] as35 bd35,VB.vec xs.length (fun j=>wtL (xs.getD j w0)) 4 (25:TypeId)]
 else bif xs.length.beq xs.length then
 bif roomB (xs.length+1) (32) then
 bif inK IntKind.i64 (k+(1:Int)) then
 bif inK IntKind.i64 (i+(1:Int)) then
 X VEx.normal [I (i+(1:Int)),I (k+(1:Int)),I ((↑n:Int)+(1:Int)),VV.yld 14,VV.ptr (VA.own 5 0),VV.ptr (VA.own 6 0),VV.ptr (VA.own 7 0)] [ptsA n l,VB.cells [VV.slice (VA.el 0 [] (0:Int) 0) n cap] (26:TypeId),VB.cells [I (-1)] (3:TypeId),VB.cells [VV.nilp] (78:TypeId),VB.cells [VV.sl 15 (xs.length+1)] (29:TypeId),VB.cells [I 0] (3:TypeId),VB.cells [I 0] (30:TypeId),VB.cells [I w.flo,I w.fhi,I (mD w.wlo ((10000:Int) - (l ((0:Int)+i)).shi) (l ((0:Int)+i)).wlo (l ((0:Int)+i)).shi),I (mU w.whi ((10000:Int) - (l ((0:Int)+i)).slo) (l ((0:Int)+i)).whi (l ((0:Int)+i)).slo)] (89:TypeId),VB.cells [VV.ptr (VA.own 12 0)] (87:TypeId),VB.loop true none (sl35 f) 67 [15,16] as35 bd35,VB.vec (xs.length+1) (catG xs.length (fun j=>wtL (xs.getD j w0)) fun j=>List.take (4) (List.drop (j*(4)) [I w.flo,I w.fhi,I (mD w.wlo ((10000:Int) - (l ((0:Int)+i)).shi) (l ((0:Int)+i)).wlo (l ((0:Int)+i)).shi),I (mU w.whi ((10000:Int) - (l ((0:Int)+i)).slo) (l ((0:Int)+i)).whi (l ((0:Int)+i)).slo)])) (4) 25]
 else False
 else False
 else False
 else False
 else False
 else False
 else bif inK IntKind.i64 ((10000:Int) - (l ((0:Int)+i)).shi) then
 meanOk w.wlo ((10000:Int) - (l ((0:Int)+i)).shi) (l ((0:Int)+i)).wlo (l ((0:Int)+i)).shi/\bif inK IntKind.i64 ((10000:Int) - (l ((0:Int)+i)).shi) then
 meanOk w.whi ((10000:Int) - (l ((0:Int)+i)).shi) (l ((0:Int)+i)).whi (l ((0:Int)+i)).shi/\bif decide (w.flo<(1:Int)) then
 X VEx.ret [I i,I k,I ((↑n:Int)+(1:Int)),VV.yld 14,VV.ptr (VA.own 5 0),VV.ptr (VA.own 6 0),VV.ptr (VA.own 7 0)] [ptsA n l,VB.cells [VV.slice (VA.el 0 [] (0:Int) 0) n cap] (26:TypeId),VB.cells [I (-1)] (3:TypeId),VB.cells [VV.nilp] (78:TypeId),VB.cells [VV.nils] (29:TypeId),VB.cells [I k] (3:TypeId),VB.cells [I 10] (30:TypeId),VB.cells [I w.flo,I w.fhi,I (mD w.wlo ((10000:Int) - (l ((0:Int)+i)).shi) (l ((0:Int)+i)).wlo (l ((0:Int)+i)).shi),I (mU w.whi ((10000:Int) - (l ((0:Int)+i)).shi) (l ((0:Int)+i)).whi (l ((0:Int)+i)).shi)] (89:TypeId),VB.cells [VV.ptr (VA.own 12 0)] (87:TypeId),VB.loop false (some VEx.ret) (sl35 f) 67 [15,16] as35 bd35,VB.vec xs.length (fun j=>wtL (xs.getD j w0)) 4 (25:TypeId)]
 else bif decide (w.fhi > (1073741824:Int)) then
 X VEx.ret [I i,I k,I ((↑n:Int)+(1:Int)),VV.yld 14,VV.ptr (VA.own 5 0),VV.ptr (VA.own 6 0),VV.ptr (VA.own 7 0)] [ptsA n l,VB.cells [VV.slice (VA.el 0 [] (0:Int) 0) n cap] (26:TypeId),VB.cells [I (-1)] (3:TypeId),VB.cells [VV.nilp] (78:TypeId),VB.cells [VV.nils] (29:TypeId),VB.cells [I k] (3:TypeId),VB.cells [I 12] (30:TypeId),VB.cells [I w.flo,I w.fhi,I (mD w.wlo ((10000:Int) - (l ((0:Int)+i)).shi) (l ((0:Int)+i)).wlo (l ((0:Int)+i)).shi),I (mU w.whi ((10000:Int) - (l ((0:Int)+i)).shi) (l ((0:Int)+i)).whi (l ((0:Int)+i)).shi)] (89:TypeId),VB.cells [VV.ptr (VA.own 12 0)] (87:TypeId),VB.loop false (some VEx.ret) (sl35 f) 67 [15,16] as35 bd35,VB.vec xs.length (fun j=>wtL (xs.getD j w0)) 4 (25:TypeId)]
 else bif decide (mU w.whi ((10000:Int) - (l ((0:Int)+i)).shi) (l ((0:Int)+i)).whi (l ((0:Int)+i)).shi > (100000:Int)) then
 X VEx.ret [I i,I k,I ((↑n:Int)+(1:Int)),VV.yld 14,VV.ptr (VA.own 5 0),VV.ptr (VA.own 6 0),VV.ptr (VA.own 7 0)] [ptsA n l,VB.cells [VV.slice (VA.el 0 [] (0:Int) 0) n cap] (26:TypeId),VB.cells [I (-1)] (3:TypeId),VB.cells [VV.nilp] (78:TypeId),VB.cells [VV.nils] (29:TypeId),VB.cells [I k] (3:TypeId),VB.cells [I 12] (30:TypeId),VB.cells [I w.flo,I w.fhi,I (mD w.wlo ((10000:Int) - (l ((0:Int)+i)).shi) (l ((0:Int)+i)).wlo (l ((0:Int)+i)).shi),I (mU w.whi ((10000:Int) - (l ((0:Int)+i)).shi) (l ((0:Int)+i)).whi (l ((0:Int)+i)).shi)] (89:TypeId),VB.cells [VV.ptr (VA.own 12 0)] (87:TypeId),VB.loop false (some VEx.ret) (sl35 f) 67 [15,16] as35 bd35,VB.vec xs.length (fun j=>wtL (xs.getD j w0)) 4 (25:TypeId)]
 else bif xs.length.beq xs.length then
 bif roomB (xs.length+1) (32) then
 bif inK IntKind.i64 (k+(1:Int)) then
 bif inK IntKind.i64 (i+(1:Int)) then
 X VEx.normal [I (i+(1:Int)),I (k+(1:Int)),I ((↑n:Int)+(1:Int)),VV.yld 14,VV.ptr (VA.own 5 0),VV.ptr (VA.own 6 0),VV.ptr (VA.own 7 0)] [ptsA n l,VB.cells [VV.slice (VA.el 0 [] (0:Int) 0) n cap] (26:TypeId),VB.cells [I (-1)] (3:TypeId),VB.cells [VV.nilp] (78:TypeId),VB.cells [VV.sl 15 (xs.length+1)] (29:TypeId),VB.cells [I 0] (3:TypeId),VB.cells [I 0] (30:TypeId),VB.cells [I w.flo,I w.fhi,I (mD w.wlo ((10000:Int) - (l ((0:Int)+i)).shi) (l ((0:Int)+i)).wlo (l ((0:Int)+i)).shi),I (mU w.whi ((10000:Int) - (l ((0:Int)+i)).shi) (l ((0:Int)+i)).whi (l ((0:Int)+i)).shi)] (89:TypeId),VB.cells [VV.ptr (VA.own 12 0)] (87:TypeId),VB.loop true none (sl35 f) 67 [15,16] as35 bd35,VB.vec (xs.length+1) (catG xs.length (fun j=>wtL (xs.getD j w0)) fun j=>List.take (4) (List.drop (j*(4)) [I w.flo,I w.fhi,I (mD w.wlo ((10000:Int) - (l ((0:Int)+i)).shi) (l ((0:Int)+i)).wlo (l ((0:Int)+i)).shi),I (mU w.whi ((10000:Int) - (l ((0:Int)+i)).shi) (l ((0:Int)+i)).whi (l ((0:Int)+i)).shi)])) (4) 25]
 else False
 else False
 else False
 else False
 else False
 else False
 else bif decide (w.whi > (l ((0:Int)+i)).whi) then
 bif inK IntKind.i64 ((10000:Int) - (l ((0:Int)+i)).slo) then
 meanOk w.wlo ((10000:Int) - (l ((0:Int)+i)).slo) (l ((0:Int)+i)).wlo (l ((0:Int)+i)).slo/\bif inK IntKind.i64 ((10000:Int) - (l ((0:Int)+i)).slo) then
 meanOk w.whi ((10000:Int) - (l ((0:Int)+i)).slo) (l ((0:Int)+i)).whi (l ((0:Int)+i)).slo/\bif decide (w.flo<(1:Int)) then
 X VEx.ret [I i,I k,I ((↑n:Int)+(1:Int)),VV.yld 14,VV.ptr (VA.own 5 0),VV.ptr (VA.own 6 0),VV.ptr (VA.own 7 0)] [ptsA n l,VB.cells [VV.slice (VA.el 0 [] (0:Int) 0) n cap] (26:TypeId),VB.cells [I (-1)] (3:TypeId),VB.cells [VV.nilp] (78:TypeId),VB.cells [VV.nils] (29:TypeId),VB.cells [I k] (3:TypeId),VB.cells [I 10] (30:TypeId),VB.cells [I w.flo,I w.fhi,I (mD w.wlo ((10000:Int) - (l ((0:Int)+i)).slo) (l ((0:Int)+i)).wlo (l ((0:Int)+i)).slo),I (mU w.whi ((10000:Int) - (l ((0:Int)+i)).slo) (l ((0:Int)+i)).whi (l ((0:Int)+i)).slo)] (89:TypeId),VB.cells [VV.ptr (VA.own 12 0)] (87:TypeId),VB.loop false (some VEx.ret) (sl35 f) 67 [15,16] as35 bd35,VB.vec xs.length (fun j=>wtL (xs.getD j w0)) 4 (25:TypeId)]
 else bif decide (w.fhi > (1073741824:Int)) then
 X VEx.ret [I i,I k,I ((↑n:Int)+(1:Int)),VV.yld 14,VV.ptr (VA.own 5 0),VV.ptr (VA.own 6 0),VV.ptr (VA.own 7 0)] [ptsA n l,VB.cells [VV.slice (VA.el 0 [] (0:Int) 0) n cap] (26:TypeId),VB.cells [I (-1)] (3:TypeId),VB.cells [VV.nilp] (78:TypeId),VB.cells [VV.nils] (29:TypeId),VB.cells [I k] (3:TypeId),VB.cells [I 12] (30:TypeId),VB.cells [I w.flo,I w.fhi,I (mD w.wlo ((10000:Int) - (l ((0:Int)+i)).slo) (l ((0:Int)+i)).wlo (l ((0:Int)+i)).slo),I (mU w.whi ((10000:Int) - (l ((0:Int)+i)).slo) (l ((0:Int)+i)).whi (l ((0:Int)+i)).slo)] (89:TypeId),VB.cells [VV.ptr (VA.own 12 0)] (87:TypeId),VB.loop false (some VEx.ret) (sl35 f) 67 [15,16] as35 bd35,VB.vec xs.length (fun j=>wtL (xs.getD j w0)) 4 (25:TypeId)]
 else bif decide (mU w.whi ((10000:Int) - (l ((0:Int)+i)).slo) (l ((0:Int)+i)).whi (l ((0:Int)+i)).slo > (100000:Int)) then
 X VEx.ret [I i,I k,I ((↑n:Int)+(1:Int)),VV.yld 14,VV.ptr (VA.own 5 0),VV.ptr (VA.own 6 0),VV.ptr (VA.own 7 0)] [ptsA n l,VB.cells [VV.slice (VA.el 0 [] (0:Int) 0) n cap] (26:TypeId),VB.cells [I (-1)] (3:TypeId),VB.cells [VV.nilp] (78:TypeId),VB.cells [VV.nils] (29:TypeId),VB.cells [I k] (3:TypeId),VB.cells [I 12] (30:TypeId),VB.cells [I w.flo,I w.fhi,I (mD w.wlo ((10000:Int) - (l ((0:Int)+i)).slo) (l ((0:Int)+i)).wlo (l ((0:Int)+i)).slo),I (mU w.whi ((10000:Int) - (l ((0:Int)+i)).slo) (l ((0:Int)+i)).whi (l ((0:Int)+i)).slo)] (89:TypeId),VB.cells [VV.ptr (VA.own 12 0)] (87:TypeId),VB.loop false (some VEx.ret) (sl35 f) 67 [15,16] as35 bd35,VB.vec xs.length (fun j=>wtL (xs.getD j w0)) 4 (25:TypeId)]
 else bif xs.length.beq xs.length then
 bif roomB (xs.length+1) (32) then
 bif inK IntKind.i64 (k+(1:Int)) then
 bif inK IntKind.i64 (i+(1:Int)) then
 X VEx.normal [I (i+(1:Int)),I (k+(1:Int)),I ((↑n:Int)+(1:Int)),VV.yld 14,VV.ptr (VA.own 5 0),VV.ptr (VA.own 6 0),VV.ptr (VA.own 7 0)] [ptsA n l,VB.cells [VV.slice (VA.el 0 [] (0:Int) 0) n cap] (26:TypeId),VB.cells [I (-1)] (3:TypeId),VB.cells [VV.nilp] (78:TypeId),VB.cells [VV.sl 15 (xs.length+1)] (29:TypeId),VB.cells [I 0] (3:TypeId),VB.cells [I 0] (30:TypeId),VB.cells [I w.flo,I w.fhi,I (mD w.wlo ((10000:Int) - (l ((0:Int)+i)).slo) (l ((0:Int)+i)).wlo (l ((0:Int)+i)).slo),I (mU w.whi ((10000:Int) - (l ((0:Int)+i)).slo) (l ((0:Int)+i)).whi (l ((0:Int)+i)).slo)] (89:TypeId),VB.cells [VV.ptr (VA.own 12 0)] (87:TypeId),VB.loop true none (sl35 f) 67 [15,16] as35 bd35,VB.vec (xs.length+1) (catG xs.length (fun j=>wtL (xs.getD j w0)) fun j=>List.take (4) (List.drop (j*(4)) [I w.flo,I w.fhi,I (mD w.wlo ((10000:Int) - (l ((0:Int)+i)).slo) (l ((0:Int)+i)).wlo (l ((0:Int)+i)).slo),I (mU w.whi ((10000:Int) - (l ((0:Int)+i)).slo) (l ((0:Int)+i)).whi (l ((0:Int)+i)).slo)])) (4) 25]
 else False
 else False
 else False
 else False
 else False
 else False
 else bif inK IntKind.i64 ((10000:Int) - (l ((0:Int)+i)).slo) then
 meanOk w.wlo ((10000:Int) - (l ((0:Int)+i)).slo) (l ((0:Int)+i)).wlo (l ((0:Int)+i)).slo/\bif inK IntKind.i64 ((10000:Int) - (l ((0:Int)+i)).shi) then
 meanOk w.whi ((10000:Int) - (l ((0:Int)+i)).shi) (l ((0:Int)+i)).whi (l ((0:Int)+i)).shi/\bif decide (w.flo<(1:Int)) then
 X VEx.ret [I i,I k,I ((↑n:Int)+(1:Int)),VV.yld 14,VV.ptr (VA.own 5 0),VV.ptr (VA.own 6 0),VV.ptr (VA.own 7 0)] [ptsA n l,VB.cells [VV.slice (VA.el 0 [] (0:Int) 0) n cap] (26:TypeId),VB.cells [I (-1)] (3:TypeId),VB.cells [VV.nilp] (78:TypeId),VB.cells [VV.nils] (29:TypeId),VB.cells [I k] (3:TypeId),VB.cells [I 10] (30:TypeId),VB.cells [I w.flo,I w.fhi,I (mD w.wlo ((10000:Int) - (l ((0:Int)+i)).slo) (l ((0:Int)+i)).wlo (l ((0:Int)+i)).slo),I (mU w.whi ((10000:Int) - (l ((0:Int)+i)).shi) (l ((0:Int)+i)).whi (l ((0:Int)+i)).shi)] (89:TypeId),VB.cells [VV.ptr (VA.own 12 0)] (87:TypeId),VB.loop false (some VEx.ret) (sl35 f) 67 [15,16] as35 bd35,VB.vec xs.length (fun j=>wtL (xs.getD j w0)) 4 (25:TypeId)]
 else bif decide (w.fhi > (1073741824:Int)) then
 X VEx.ret [I i,I k,I ((↑n:Int)+(1:Int)),VV.yld 14,VV.ptr (VA.own 5 0),VV.ptr (VA.own 6 0),VV.ptr (VA.own 7 0)] [ptsA n l,VB.cells [VV.slice (VA.el 0 [] (0:Int) 0) n cap] (26:TypeId),VB.cells [I (-1)] (3:TypeId),VB.cells [VV.nilp] (78:TypeId),VB.cells [VV.nils] (29:TypeId),VB.cells [I k] (3:TypeId),VB.cells [I 12] (30:TypeId),VB.cells [I w.flo,I w.fhi,I (mD w.wlo ((10000:Int) - (l ((0:Int)+i)).slo) (l ((0:Int)+i)).wlo (l ((0:Int)+i)).slo),I (mU w.whi ((10000:Int) - (l ((0:Int)+i)).shi) (l ((0:Int)+i)).whi (l ((0:Int)+i)).shi)] (89:TypeId),VB.cells [VV.ptr (VA.own 12 0)] (87:TypeId),VB.loop false (some VEx.ret) (sl35 f) 67 [15,16] as35 bd35,VB.vec xs.length (fun j=>wtL (xs.getD j w0)) 4 (25:TypeId)]
 else bif decide (mU w.whi ((10000:Int) - (l ((0:Int)+i)).shi) (l ((0:Int)+i)).whi (l ((0:Int)+i)).shi > (100000:Int)) then
 X VEx.ret [I i,I k,I ((↑n:Int)+(1:Int)),VV.yld 14,VV.ptr (VA.own 5 0),VV.ptr (VA.own 6 0),VV.ptr (VA.own 7 0)] [ptsA n l,VB.cells [VV.slice (VA.el 0 [] (0:Int) 0) n cap] (26:TypeId),VB.cells [I (-1)] (3:TypeId),VB.cells [VV.nilp] (78:TypeId),VB.cells [VV.nils] (29:TypeId),VB.cells [I k] (3:TypeId),VB.cells [I 12] (30:TypeId),VB.cells [I w.flo,I w.fhi,I (mD w.wlo ((10000:Int) - (l ((0:Int)+i)).slo) (l ((0:Int)+i)).wlo (l ((0:Int)+i)).slo),I (mU w.whi ((10000:Int) - (l ((0:Int)+i)).shi) (l ((0:Int)+i)).whi (l ((0:Int)+i)).shi)] (89:TypeId),VB.cells [VV.ptr (VA.own 12 0)] (87:TypeId),VB.loop false (some VEx.ret) (sl35 f) 67 [15,16] as35 bd35,VB.vec xs.length (fun j=>wtL (xs.getD j w0)) 4 (25:TypeId)]
 else bif xs.length.beq xs.length then
 bif roomB (xs.length+1) (32) then
 bif inK IntKind.i64 (k+(1:Int)) then
 bif inK IntKind.i64 (i+(1:Int)) then
 X VEx.normal [I (i+(1:Int)),I (k+(1:Int)),I ((↑n:Int)+(1:Int)),VV.yld 14,VV.ptr (VA.own 5 0),VV.ptr (VA.own 6 0),VV.ptr (VA.own 7 0)] [ptsA n l,VB.cells [VV.slice (VA.el 0 [] (0:Int) 0) n cap] (26:TypeId),VB.cells [I (-1)] (3:TypeId),VB.cells [VV.nilp] (78:TypeId),VB.cells [VV.sl 15 (xs.length+1)] (29:TypeId),VB.cells [I 0] (3:TypeId),VB.cells [I 0] (30:TypeId),VB.cells [I w.flo,I w.fhi,I (mD w.wlo ((10000:Int) - (l ((0:Int)+i)).slo) (l ((0:Int)+i)).wlo (l ((0:Int)+i)).slo),I (mU w.whi ((10000:Int) - (l ((0:Int)+i)).shi) (l ((0:Int)+i)).whi (l ((0:Int)+i)).shi)] (89:TypeId),VB.cells [VV.ptr (VA.own 12 0)] (87:TypeId),VB.loop true none (sl35 f) 67 [15,16] as35 bd35,VB.vec (xs.length+1) (catG xs.length (fun j=>wtL (xs.getD j w0)) fun j=>List.take (4) (List.drop (j*(4)) [I w.flo,I w.fhi,I (mD w.wlo ((10000:Int) - (l ((0:Int)+i)).slo) (l ((0:Int)+i)).wlo (l ((0:Int)+i)).slo),I (mU w.whi ((10000:Int) - (l ((0:Int)+i)).shi) (l ((0:Int)+i)).whi (l ((0:Int)+i)).shi)])) (4) 25]
 else False
 else False
 else False
 else False
 else False
 else False
 else X VEx.ret [I i,I k,I ((↑n:Int)+(1:Int)),VV.yld 14,VV.ptr (VA.own 5 0),VV.ptr (VA.own 6 0),VV.ptr (VA.own 7 0)] [ptsA n l,VB.cells [VV.slice (VA.el 0 [] (0:Int) 0) n cap] (26:TypeId),VB.cells [I (-1)] (3:TypeId),VB.cells [VV.nilp] (78:TypeId),VB.cells [VV.nils] (29:TypeId),VB.cells [I k] (3:TypeId),VB.cells [I 1] (30:TypeId),VB.cells [I w.flo,I w.fhi,I w.wlo,I w.whi] (89:TypeId),VB.cells [VV.ptr (VA.own 12 0)] (87:TypeId),VB.loop false (some VEx.ret) (sl35 f) 67 [15,16] as35 bd35,VB.vec xs.length (fun j=>wtL (xs.getD j w0)) 4 (25:TypeId)]
 else X VEx.ret [I i,I k,I ((↑n:Int)+(1:Int)),VV.yld 14,VV.ptr (VA.own 5 0),VV.ptr (VA.own 6 0),VV.ptr (VA.own 7 0)] [ptsA n l,VB.cells [VV.slice (VA.el 0 [] (0:Int) 0) n cap] (26:TypeId),VB.cells [I (-1)] (3:TypeId),VB.cells [VV.nilp] (78:TypeId),VB.cells [VV.nils] (29:TypeId),VB.cells [I k] (3:TypeId),VB.cells [I 1] (30:TypeId),VB.cells [I w.flo,I w.fhi,I w.wlo,I w.whi] (89:TypeId),VB.cells [VV.ptr (VA.own 12 0)] (87:TypeId),VB.loop false (some VEx.ret) (sl35 f) 67 [15,16] as35 bd35,VB.vec xs.length (fun j=>wtL (xs.getD j w0)) 4 (25:TypeId)]
 else False
 else bif inK IntKind.i64 (i+(1:Int)) then
 X VEx.normal [I (i+(1:Int)),I k,I ((↑n:Int)+(1:Int)),VV.yld 14,VV.ptr (VA.own 5 0),VV.ptr (VA.own 6 0),VV.ptr (VA.own 7 0)] [ptsA n l,VB.cells [VV.slice (VA.el 0 [] (0:Int) 0) n cap] (26:TypeId),VB.cells [I (-1)] (3:TypeId),VB.cells [VV.nilp] (78:TypeId),VB.cells [VV.sl 15 xs.length] (29:TypeId),VB.cells [I 0] (3:TypeId),VB.cells [I 0] (30:TypeId),VB.cells [I w.flo,I w.fhi,I w.wlo,I w.whi] (89:TypeId),VB.cells [VV.ptr (VA.own 12 0)] (87:TypeId),VB.loop true none (sl35 f) 67 [15,16] as35 bd35,VB.vec xs.length (fun j=>wtL (xs.getD j w0)) 4 (25:TypeId)]
 else False
 else X (VEx.exit 0) [I i,I k,I ((↑n:Int)+(1:Int)),VV.yld 14,VV.ptr (VA.own 5 0),VV.ptr (VA.own 6 0),VV.ptr (VA.own 7 0)] [ptsA n l,VB.cells [VV.slice (VA.el 0 [] (0:Int) 0) n cap] (26:TypeId),VB.cells [I (-1)] (3:TypeId),VB.cells [VV.nilp] (78:TypeId),VB.cells [VV.sl 15 xs.length] (29:TypeId),VB.cells [I 0] (3:TypeId),VB.cells [I 0] (30:TypeId),VB.cells [I w.flo,I w.fhi,I w.wlo,I w.whi] (89:TypeId),VB.cells [VV.ptr (VA.own 12 0)] (87:TypeId),VB.loop true none (sl35 f) 67 [15,16] as35 bd35,VB.vec xs.length (fun j=>wtL (xs.getD j w0)) 4 (25:TypeId)]):=by kernel_rfl
end Go.Sx.Str
namespace Go.Sx.Str
open Go Go.Sx Go.Proofs
set_option maxRecDepth 1000000
theorem room32 {n:Nat} (h:n<=1048576):roomB n 32=true:=by
 simp only [roomB,Bool.and_eq_true]
 exact ⟨Nat.ble_eq_true_of_le (by omega),Nat.ble_eq_true_of_le (by omega)⟩
theorem fit_snocW (xs:List Wt) (w:Wt):(vecW (xs ++ [w])).fit (.vec (xs.length+1) (catG xs.length (fun j=>wtL (xs.getD j w0)) fun j=>List.take 4 (List.drop (j*4) (wtL w))) 4 25):=by
 refine ⟨by simp,rfl,rfl,fun j hj=>?_⟩
 simp only [List.length_append,List.length_singleton] at hj
 simp only [catG]
 by_cases h:j<xs.length
 ·rw [blt_t h]
  simp [List.getD_eq_getElem?_getD,List.getElem?_append_left h]
 ·rw [blt_f (by omega)]
  have:j=xs.length:=by omega
  subst this
  simp [wtL]
section
variable {n cap:Nat} {l:Int->Pt} {f w:Wt} {xs:List Wt}
noncomputable def BFr (n cap:Nat) (l:Int->Pt) (f:Wt) (w:Wt) (xs:List Wt) (k e:Int):List VB:=[ptsA n l,.cells [.slice (.el 0 [] 0 0) n cap] 26,.cells [I (-1)] 3,.cells [.nilp] 78,.cells [.nils] 29,.cells [I k] 3,.cells [I e] 30,.cells (wtL w) 89,.cells [.ptr (.own 12 0)] 87,rec35r f,vecW xs]
theorem mD_less {t u f g F G:Int} (ht:0<=t) (hu:0<=u) (hf:0<=f) (hg:0<=g) (hF:0<=F) (hG:0<=G) (h:0<f+g) (hle:(t - u)*(F*g - f*G) ≥ 0):mD t f u g*(F+G)<=t*F+u*G:=by
 obtain ⟨_,h2⟩:=mD_le ht hu hf hg h
 have h3:mD t f u g*(F+G)*(f+g)<=(t*F+u*G)*(f+g):=by
  have e1:mD t f u g*(F+G)*(f+g)=mD t f u g*(f+g)*(F+G):=by ac_rfl
  have a1:mD t f u g*(f+g)*(F+G)<=(t*f+u*g)*(F+G):=Int.mul_le_mul_of_nonneg_right h2 (by omega)
  have e2:(t*F+u*G)*(f+g) - (t*f+u*g)*(F+G)=(t - u)*(F*g - f*G):=by
   simp only [Int.add_mul,Int.mul_add,Int.sub_mul,Int.mul_sub]
   have:t*F*f=t*f*F:=by ac_rfl
   have:u*G*g=u*g*G:=by ac_rfl
   have:t*(F*g)=t*F*g:=by ac_rfl
   have:t*(f*G)=t*f*G:=by ac_rfl
   have:u*(F*g)=u*g*F:=by ac_rfl
   have:u*(f*G)=u*G*f:=by ac_rfl
   omega
  rw [e1]
  omega
 exact Int.le_of_mul_le_mul_right h3 h
theorem mU_more {t u f g F G:Int} (ht:0<=t) (hu:0<=u) (hf:0<=f) (hg:0<=g) (hF:0<=F) (hG:0<=G) (h:0<f+g) (hle:(t - u)*(F*g - f*G)<=0):t*F+u*G<=mU t f u g*(F+G):=by
 obtain ⟨_,h2⟩:=mU_ge ht hu hf hg h
 have h3:(t*F+u*G)*(f+g)<=mU t f u g*(F+G)*(f+g):=by
  have e1:mU t f u g*(F+G)*(f+g)=mU t f u g*(f+g)*(F+G):=by ac_rfl
  have a1:(t*f+u*g)*(F+G)<=mU t f u g*(f+g)*(F+G):=Int.mul_le_mul_of_nonneg_right h2 (by omega)
  have e2:(t*F+u*G)*(f+g) - (t*f+u*g)*(F+G)=(t - u)*(F*g - f*G):=by
   simp only [Int.add_mul,Int.mul_add,Int.sub_mul,Int.mul_sub]
   have:t*F*f=t*f*F:=by ac_rfl
   have:u*G*g=u*g*G:=by ac_rfl
   have:t*(F*g)=t*F*g:=by ac_rfl
   have:t*(f*G)=t*f*G:=by ac_rfl
   have:u*(F*g)=u*g*F:=by ac_rfl
   have:u*(f*G)=u*G*f:=by ac_rfl
   omega
  rw [e1]
  omega
 exact Int.le_of_mul_le_mul_right h3 h
end
end Go.Sx.Str
namespace Go.Sx.Str
open Go Go.Sx Go.Proofs
set_option maxRecDepth 1000000
inductive PtOk (p:Pt):Prop where
 | join (k:p.k=0) (f:1<=p.flo/\p.flo<=p.fhi/\p.fhi<=1073741824) (w:0<=p.wlo/\p.wlo<=p.whi/\p.whi<=100000)
 | draw (k:p.k=1) (f:0<=p.flo/\p.flo<=p.fhi/\p.fhi<=1073741824)
 | add (k:p.k=2) (h:0<=p.hlo/\p.hlo<=p.hhi/\p.hhi<=1099511627776)
 | air (k:p.k=3) (w:0<=p.wlo/\p.wlo<=p.whi/\p.whi<=100000) (s:0<=p.slo/\p.slo<=p.shi/\p.shi<=10000)
theorem ptB_iff {p:Pt}:ptB p=true ↔ PtOk p:=by
 unfold ptB
 constructor
 ·intro h
  by_cases k0:p.k=0
  ·rw [decide_eq_true k0] at h
   simp only [cond_true,Bool.and_eq_true,spanB_iff] at h
   exact .join k0 h.1 h.2
  ·rw [decide_eq_false k0] at h
   by_cases k1:p.k=1
   ·rw [decide_eq_true k1] at h
    simp only [cond_false,cond_true,spanB_iff] at h
    exact .draw k1 h
   ·rw [decide_eq_false k1] at h
    by_cases k2:p.k=2
    ·rw [decide_eq_true k2] at h
     simp only [cond_false,cond_true,spanB_iff] at h
     exact .add k2 h
    ·rw [decide_eq_false k2] at h
     by_cases k3:p.k=3
     ·rw [decide_eq_true k3] at h
      simp only [cond_false,cond_true,Bool.and_eq_true,spanB_iff] at h
      exact .air k3 h.1 h.2
     ·rw [decide_eq_false k3] at h; cases h
 ·rintro (⟨k,h1,h2⟩ | ⟨k,h1⟩ | ⟨k,h1⟩ | ⟨k,h1,h2⟩)
  ·rw [decide_eq_true k]; simp only [cond_true,Bool.and_eq_true,spanB_iff]; exact ⟨h1,h2⟩
  ·rw [decide_eq_false (by omega),decide_eq_true k]; simp only [cond_false,cond_true,spanB_iff]; exact h1
  ·rw [decide_eq_false (by omega),decide_eq_false (by omega),decide_eq_true k]; simp only [cond_false,cond_true,spanB_iff]; exact h1
  ·rw [decide_eq_false (by omega),decide_eq_false (by omega),decide_eq_false (by omega),decide_eq_true k]; simp only [cond_false,cond_true,Bool.and_eq_true,spanB_iff]; exact ⟨h1,h2⟩
theorem step0 {w:Wt} {p:Pt} (k:p.k=0):stepW w p=joinW w p:=by unfold stepW; rw [decide_eq_true k]; rfl
theorem step1 {w:Wt} {p:Pt} (k:p.k=1):stepW w p=drawW w p:=by unfold stepW; rw [decide_eq_false (by omega),decide_eq_true k]; rfl
theorem step2 {w:Wt} {p:Pt} (k:p.k=2):stepW w p=addW w p:=by unfold stepW; rw [decide_eq_false (by omega),decide_eq_false (by omega),decide_eq_true k]; rfl
theorem step3 {w:Wt} {p:Pt} (k:p.k=3):stepW w p=airW w p:=by unfold stepW; rw [decide_eq_false (by omega),decide_eq_false (by omega),decide_eq_false (by omega)]; rfl
section
variable {w:Wt} {p:Pt} {F G S:Int}
theorem nn_mul {a b c d:Int} (h1:a<=b) (h2:c<=d) (ha:0<=a) (hc:0<=c):a*c<=b*d:=
 Int.le_trans (Int.mul_le_mul_of_nonneg_right h1 hc) (Int.mul_le_mul_of_nonneg_left h2 (by omega))
theorem join_lo (hw:WOk w) (f:1<=p.flo/\p.flo<=p.fhi) (hp:0<=p.wlo) (hF:w.flo<=F/\F<=w.fhi) (hG:p.flo<=G/\G<=p.fhi):(joinW w p).wlo*(F+G)<=w.wlo*F+p.wlo*G:=by
 have h1:=hw.f
 have h2:=hw.w
 unfold joinW
 dsimp only
 by_cases c:p.wlo<w.wlo
 ·rw [if_pos c]
  refine mD_less h2.1 hp (by omega) (by omega) (by omega) (by omega) (by omega) ?_
  have:=nn_mul hF.1 hG.2 (by omega) (by omega)
  have e:w.flo*G<=F*p.fhi:=this
  exact Int.mul_nonneg (by omega) (by omega)
 ·rw [if_neg c]
  refine mD_less h2.1 hp (by omega) (by omega) (by omega) (by omega) (by omega) ?_
  have e:F*p.flo<=w.fhi*G:=nn_mul hF.2 hG.1 (by omega) (by omega)
  exact Int.mul_nonneg_of_nonpos_of_nonpos (by omega) (by omega)
theorem join_hi (hw:WOk w) (f:1<=p.flo/\p.flo<=p.fhi) (hp:0<=p.whi) (hF:w.flo<=F/\F<=w.fhi) (hG:p.flo<=G/\G<=p.fhi):w.whi*F+p.whi*G<=(joinW w p).whi*(F+G):=by
 have h1:=hw.f
 have h2:=hw.w
 unfold joinW
 dsimp only
 by_cases c:p.whi<w.whi
 ·rw [if_pos c]
  refine mU_more (by omega) hp (by omega) (by omega) (by omega) (by omega) (by omega) ?_
  have e:F*p.flo<=w.fhi*G:=nn_mul hF.2 hG.1 (by omega) (by omega)
  exact Int.mul_nonpos_of_nonneg_of_nonpos (by omega) (by omega)
 ·rw [if_neg c]
  refine mU_more (by omega) hp (by omega) (by omega) (by omega) (by omega) (by omega) ?_
  have e:w.flo*G<=F*p.fhi:=nn_mul hF.1 hG.2 (by omega) (by omega)
  exact Int.mul_nonpos_of_nonpos_of_nonneg (by omega) (by omega)
theorem sh_eq {s S:Int}:(10000 - S)*s - (10000 - s)*S=10000*(s - S):=by
 simp only [Int.sub_mul,Int.mul_sub]
 have:S*s=s*S:=Int.mul_comm _ _
 omega
theorem air_lo (hw:WOk w) (hp:0<=p.wlo) (s:0<=p.slo/\p.slo<=p.shi/\p.shi<=10000) (hS:p.slo<=S/\S<=p.shi):(airW w p).wlo*10000<=w.wlo*(10000 - S)+p.wlo*S:=by
 have h2:=hw.w
 have e0:(10000 - S)+S=(10000:Int):=by omega
 unfold airW
 dsimp only
 by_cases c:w.wlo > p.wlo
 ·rw [if_pos c]
  have:=mD_less (t:=w.wlo) (u:=p.wlo) (f:=10000 - p.shi) (g:=p.shi) (F:=10000 - S) (G:=S) h2.1 hp (by omega) (by omega) (by omega) (by omega) (by omega) (by rw [sh_eq]; exact Int.mul_nonneg (by omega) (by omega))
  rw [e0] at this; exact this
 ·rw [if_neg c]
  have:=mD_less (t:=w.wlo) (u:=p.wlo) (f:=10000 - p.slo) (g:=p.slo) (F:=10000 - S) (G:=S) h2.1 hp (by omega) (by omega) (by omega) (by omega) (by omega) (by rw [sh_eq]; exact Int.mul_nonneg_of_nonpos_of_nonpos (by omega) (by omega))
  rw [e0] at this; exact this
theorem air_hi (hw:WOk w) (hp:0<=p.whi) (s:0<=p.slo/\p.slo<=p.shi/\p.shi<=10000) (hS:p.slo<=S/\S<=p.shi):w.whi*(10000 - S)+p.whi*S<=(airW w p).whi*10000:=by
 have h2:=hw.w
 have e0:(10000 - S)+S=(10000:Int):=by omega
 unfold airW
 dsimp only
 by_cases c:w.whi > p.whi
 ·rw [if_pos c]
  have:=mU_more (t:=w.whi) (u:=p.whi) (f:=10000 - p.slo) (g:=p.slo) (F:=10000 - S) (G:=S) (by omega) hp (by omega) (by omega) (by omega) (by omega) (by omega) (by rw [sh_eq]; exact Int.mul_nonpos_of_nonneg_of_nonpos (by omega) (by omega))
  rw [e0] at this; exact this
 ·rw [if_neg c]
  have:=mU_more (t:=w.whi) (u:=p.whi) (f:=10000 - p.shi) (g:=p.shi) (F:=10000 - S) (G:=S) (by omega) hp (by omega) (by omega) (by omega) (by omega) (by omega) (by rw [sh_eq]; exact Int.mul_nonpos_of_nonpos_of_nonneg (by omega) (by omega))
  rw [e0] at this; exact this
theorem errW_iff {w:Wt}:errW w=0 ↔ 1<=w.flo/\w.fhi<=1073741824/\w.whi<=100000:=by
 unfold errW
 by_cases h1:w.flo<1
 ·rw [decide_eq_true h1]; simp; omega
 ·rw [decide_eq_false h1]
  by_cases h2:w.fhi > 1073741824
  ·rw [decide_eq_true h2]; simp; omega
  ·rw [decide_eq_false h2]
   by_cases h3:w.whi > 100000
   ·rw [decide_eq_true h3]; simp; omega
   ·rw [decide_eq_false h3]; simp; omega
theorem step_ok (hw:WOk w) (hp:PtOk p) (he:errW (stepW w p)=0):WOk (stepW w p):=by
 obtain ⟨e1,e2,e3⟩:=errW_iff.1 he
 have h1:=hw.f
 have h2:=hw.w
 rcases hp with ⟨k,f,v⟩ | ⟨k,f⟩ | ⟨k,h⟩ | ⟨k,v,s⟩
 ·rw [step0 k] at *
  have a1:=join_lo (p:=p) hw ⟨f.1,f.2.1⟩ v.1 (F:=w.flo) (G:=p.flo) (by omega) (by omega)
  have a2:=join_hi (p:=p) hw ⟨f.1,f.2.1⟩ (by omega) (F:=w.flo) (G:=p.flo) (by omega) (by omega)
  have a3:w.wlo*w.flo<=w.whi*w.flo:=Int.mul_le_mul_of_nonneg_right h2.2.1 (by omega)
  have a4:p.wlo*p.flo<=p.whi*p.flo:=Int.mul_le_mul_of_nonneg_right v.2.1 (by omega)
  have a5:(joinW w p).wlo<=(joinW w p).whi:=Int.le_of_mul_le_mul_right (show (joinW w p).wlo*(w.flo+p.flo)<=(joinW w p).whi*(w.flo+p.flo) by omega) (by omega)
  have a6:0<=(joinW w p).wlo:=by
   unfold joinW
   dsimp only
   split
   ·exact (mD_le h2.1 v.1 (by omega) (by omega) (by omega)).1
   ·exact (mD_le h2.1 v.1 (by omega) (by omega) (by omega)).1
  exact ⟨⟨e1,by show w.flo+p.flo<=w.fhi+p.fhi; omega,e2⟩,a6,a5,e3⟩
 ·rw [step1 k] at *
  exact ⟨⟨e1,by show w.flo - p.fhi<=w.fhi - p.flo; omega,e2⟩,h2.1,h2.2.1,e3⟩
 ·rw [step2 k] at *
  have q1:0<=quoZ p.hlo w.fhi:=(quo_in h.1 (by omega)).1
  have q2:quoZ p.hlo w.fhi<=quoZ (p.hhi+w.flo - 1) w.flo:=by
   rw [quoZ_nn h.1,quoZ_nn (by omega)]
   refine Int.le_trans (Int.ediv_le_ediv (by omega) (show p.hlo<=p.hhi+w.flo - 1 by omega)) ?_
   refine (Int.le_ediv_iff_mul_le (by omega)).2 ?_
   have a1:(p.hhi+w.flo - 1) / w.fhi*w.fhi<=p.hhi+w.flo - 1:=Int.ediv_mul_le _ (by omega)
   have a2:(p.hhi+w.flo - 1) / w.fhi*w.flo<=(p.hhi+w.flo - 1) / w.fhi*w.fhi:=Int.mul_le_mul_of_nonneg_left h1.2.1 (Int.ediv_nonneg (by omega) (by omega))
   omega
  exact ⟨⟨e1,by show w.flo<=w.fhi; omega,e2⟩,by show 0<=w.wlo+_; omega,by show w.wlo+quoZ p.hlo w.fhi<=w.whi+quoZ (p.hhi+w.flo - 1) w.flo; omega,e3⟩
 ·rw [step3 k] at *
  have a1:=air_lo (p:=p) hw v.1 s (S:=p.slo) (by omega)
  have a2:=air_hi (p:=p) hw (by omega) s (S:=p.slo) (by omega)
  have a3:w.wlo*(10000 - p.slo)<=w.whi*(10000 - p.slo):=Int.mul_le_mul_of_nonneg_right h2.2.1 (by omega)
  have a4:p.wlo*p.slo<=p.whi*p.slo:=Int.mul_le_mul_of_nonneg_right v.2.1 (by omega)
  have a6:0<=(airW w p).wlo:=by
   unfold airW
   dsimp only
   split
   ·exact (mD_le h2.1 v.1 (by omega) (by omega) (by omega)).1
   ·exact (mD_le h2.1 v.1 (by omega) (by omega) (by omega)).1
  exact ⟨⟨e1,by show w.flo<=w.fhi; omega,e2⟩,a6,by omega,e3⟩
end
end Go.Sx.Str
namespace Go.Sx.Str
open Go Go.Sx Go.Proofs
set_option maxRecDepth 1000000
def tailT (R:Int->Wt->Prop) (N:Wt->Prop) (w:Wt):Prop:=
 bif decide (w.flo<1) then R 10 w else bif decide (w.fhi > 1073741824) then R 12 w else bif decide (w.whi > 100000) then R 12 w else N w
def deedT (w:Wt) (p:Pt) (R:Int->Wt->Prop) (N:Wt->Prop):Prop:=
 bif decide (p.k=0) then
 bif spanB p.flo p.fhi 1 (1073741824:Int) then
 bif !spanB p.wlo p.whi 0 (100000:Int) then
 R 1 w
 else bif decide (p.wlo<w.wlo) then
 bif decide (p.whi<w.whi) then
 meanOk w.wlo w.flo p.wlo p.fhi/\meanOk w.whi w.fhi p.whi p.flo/\bif inK IntKind.i64 (w.flo+p.flo) then
 bif inK IntKind.i64 (w.fhi+p.fhi) then
 tailT R N ⟨(w.flo+p.flo),(w.fhi+p.fhi),(mD w.wlo w.flo p.wlo p.fhi),(mU w.whi w.fhi p.whi p.flo)⟩
 else False
 else False
 else meanOk w.wlo w.flo p.wlo p.fhi/\meanOk w.whi w.flo p.whi p.fhi/\bif inK IntKind.i64 (w.flo+p.flo) then
 bif inK IntKind.i64 (w.fhi+p.fhi) then
 tailT R N ⟨(w.flo+p.flo),(w.fhi+p.fhi),(mD w.wlo w.flo p.wlo p.fhi),(mU w.whi w.flo p.whi p.fhi)⟩
 else False
 else False
 else bif decide (p.whi<w.whi) then
 meanOk w.wlo w.fhi p.wlo p.flo/\meanOk w.whi w.fhi p.whi p.flo/\bif inK IntKind.i64 (w.flo+p.flo) then
 bif inK IntKind.i64 (w.fhi+p.fhi) then
 tailT R N ⟨(w.flo+p.flo),(w.fhi+p.fhi),(mD w.wlo w.fhi p.wlo p.flo),(mU w.whi w.fhi p.whi p.flo)⟩
 else False
 else False
 else meanOk w.wlo w.fhi p.wlo p.flo/\meanOk w.whi w.flo p.whi p.fhi/\bif inK IntKind.i64 (w.flo+p.flo) then
 bif inK IntKind.i64 (w.fhi+p.fhi) then
 tailT R N ⟨(w.flo+p.flo),(w.fhi+p.fhi),(mD w.wlo w.fhi p.wlo p.flo),(mU w.whi w.flo p.whi p.fhi)⟩
 else False
 else False
 else R 1 w
 else bif decide (p.k=1) then
 bif !spanB p.flo p.fhi 0 (1073741824:Int) then
 R 1 w
 else bif inK IntKind.i64 (w.flo - p.fhi) then
 bif inK IntKind.i64 (w.fhi - p.flo) then
 tailT R N ⟨(w.flo - p.fhi),(w.fhi - p.flo),w.wlo,w.whi⟩
 else False
 else False
 else bif decide (p.k=(2:Int)) then
 bif !spanB p.hlo p.hhi 0 (1099511627776:Int) then
 R 1 w
 else bif decide (w.fhi=0) then
 False
 else bif inK IntKind.i64 (quoZ p.hlo w.fhi) then
 bif inK IntKind.i64 (w.wlo+quoZ p.hlo w.fhi) then
 upOk p.hhi w.flo/\bif inK IntKind.i64 (w.whi+quoZ (p.hhi+w.flo - 1) w.flo) then
 tailT R N ⟨w.flo,w.fhi,(w.wlo+quoZ p.hlo w.fhi),(w.whi+quoZ (p.hhi+w.flo - 1) w.flo)⟩
 else False
 else False
 else False
 else bif decide (p.k=(3:Int)) then
 bif spanB p.wlo p.whi 0 (100000:Int) then
 bif !spanB p.slo p.shi 0 (10000:Int) then
 R 1 w
 else bif decide (w.wlo > p.wlo) then
 bif decide (w.whi > p.whi) then
 bif inK IntKind.i64 ((10000:Int) - p.shi) then
 meanOk w.wlo ((10000:Int) - p.shi) p.wlo p.shi/\bif inK IntKind.i64 ((10000:Int) - p.slo) then
 meanOk w.whi ((10000:Int) - p.slo) p.whi p.slo/\tailT R N ⟨w.flo,w.fhi,(mD w.wlo ((10000:Int) - p.shi) p.wlo p.shi),(mU w.whi ((10000:Int) - p.slo) p.whi p.slo)⟩
 else False
 else False
 else bif inK IntKind.i64 ((10000:Int) - p.shi) then
 meanOk w.wlo ((10000:Int) - p.shi) p.wlo p.shi/\bif inK IntKind.i64 ((10000:Int) - p.shi) then
 meanOk w.whi ((10000:Int) - p.shi) p.whi p.shi/\tailT R N ⟨w.flo,w.fhi,(mD w.wlo ((10000:Int) - p.shi) p.wlo p.shi),(mU w.whi ((10000:Int) - p.shi) p.whi p.shi)⟩
 else False
 else False
 else bif decide (w.whi > p.whi) then
 bif inK IntKind.i64 ((10000:Int) - p.slo) then
 meanOk w.wlo ((10000:Int) - p.slo) p.wlo p.slo/\bif inK IntKind.i64 ((10000:Int) - p.slo) then
 meanOk w.whi ((10000:Int) - p.slo) p.whi p.slo/\tailT R N ⟨w.flo,w.fhi,(mD w.wlo ((10000:Int) - p.slo) p.wlo p.slo),(mU w.whi ((10000:Int) - p.slo) p.whi p.slo)⟩
 else False
 else False
 else bif inK IntKind.i64 ((10000:Int) - p.slo) then
 meanOk w.wlo ((10000:Int) - p.slo) p.wlo p.slo/\bif inK IntKind.i64 ((10000:Int) - p.shi) then
 meanOk w.whi ((10000:Int) - p.shi) p.whi p.shi/\tailT R N ⟨w.flo,w.fhi,(mD w.wlo ((10000:Int) - p.slo) p.wlo p.slo),(mU w.whi ((10000:Int) - p.shi) p.whi p.shi)⟩
 else False
 else False
 else R 1 w
 else R 1 w
section
variable {w:Wt} {p:Pt} {R:Int->Wt->Prop} {N:Wt->Prop}
theorem tailT_of (h1:errW w ≠ 0->R (errW w) w) (h2:errW w=0->N w):tailT R N w:=by
 unfold tailT
 unfold errW at h1 h2
 by_cases a:w.flo<1
 ·rw [decide_eq_true a] at h1 h2 ⊢; exact h1 (show (10:Int) ≠ 0 by decide)
 ·rw [decide_eq_false a] at h1 h2 ⊢
  by_cases b:w.fhi > 1073741824
  ·rw [decide_eq_true b] at h1 h2 ⊢; exact h1 (show (12:Int) ≠ 0 by decide)
  ·rw [decide_eq_false b] at h1 h2 ⊢
   by_cases c:w.whi > 100000
   ·rw [decide_eq_true c] at h1 h2 ⊢; rw [Bool.or_true] at h1; exact h1 (show (12:Int) ≠ 0 by decide)
   ·rw [decide_eq_false c] at h1 h2 ⊢; exact h2 rfl
theorem cond_t {b:Bool} {p q:Prop} (h:b=true) (h2:p):(bif b then p else q):=by rw [h]; exact h2
theorem cond_f {b:Bool} {p q:Prop} (h:b=false) (h2:q):(bif b then p else q):=by rw [h]; exact h2
theorem deedT_of (hw:WOk w) (h1:ptB p=false->R 1 w) (h2:ptB p=true->errW (stepW w p) ≠ 0->R (errW (stepW w p)) (stepW w p)) (h3:ptB p=true->errW (stepW w p)=0->N (stepW w p)):deedT w p R N:=by
 obtain ⟨f1,f2,f3⟩:=hw.f
 obtain ⟨v1,v2,v3⟩:=hw.w
 have ht:∀ w',PtOk p->stepW w p=w'->tailT R N w':=fun w' hp e=>by
  subst e
  exact tailT_of (h2 (ptB_iff.2 hp)) (h3 (ptB_iff.2 hp))
 have hb:(PtOk p->False)->R 1 w:=fun h=>h1 (Bool.eq_false_iff.2 fun hp=>h (ptB_iff.1 hp))
 unfold deedT
 refine cond_d (fun k=>?_) (fun k0=>cond_d (fun k=>?_) (fun k1=>cond_d (fun k=>?_) (fun k2=>cond_d (fun k=>?_) (fun k3=>?_))))
 ·refine cond_b (fun a=>?_) (fun a=>?_)
  ·refine cond_b (fun b=>?_) (fun b=>?_)
   ·exact hb fun hp=>by
     rcases hp with ⟨k',f,v⟩ | ⟨k',f⟩ | ⟨k',f⟩ | ⟨k',f,v⟩ <;> try omega
     rw [spanB_iff.2 v] at b; cases b
   ·have b':spanB p.wlo p.whi 0 100000=true:=by simpa using b
    have f:=spanB_iff.1 a
    have v:=spanB_iff.1 b'
    have hp:PtOk p:=.join k f v
    refine cond_d (fun c=>cond_d (fun d=>?_) (fun d=>?_)) (fun c=>cond_d (fun d=>?_) (fun d=>?_))
    all_goals
     refine ⟨⟨by omega,by omega,by omega,by omega,by omega⟩,⟨by omega,by omega,by omega,by omega,by omega⟩,cond_r (by omega) (cond_r (by omega) (ht _ hp ?_))⟩
     rw [step0 k]
     unfold joinW
     simp only [c,d,if_true,if_false]
  ·exact hb fun hp=>by
    rcases hp with ⟨k',f,v⟩ | ⟨k',f⟩ | ⟨k',f⟩ | ⟨k',f,v⟩ <;> try omega
    rw [spanB_iff.2 f] at a; cases a
 ·refine cond_b (fun b=>?_) (fun b=>?_)
  ·exact hb fun hp=>by
    rcases hp with ⟨k',f,v⟩ | ⟨k',f⟩ | ⟨k',f⟩ | ⟨k',f,v⟩ <;> try omega
    rw [spanB_iff.2 f] at b; cases b
  ·have b':spanB p.flo p.fhi 0 1073741824=true:=by simpa using b
   have f:=spanB_iff.1 b'
   exact cond_r (by omega) (cond_r (by omega) (ht _ (.draw k f) (step1 k)))
 ·refine cond_b (fun b=>?_) (fun b=>?_)
  ·exact hb fun hp=>by
    rcases hp with ⟨k',f,v⟩ | ⟨k',f⟩ | ⟨k',f⟩ | ⟨k',f,v⟩ <;> try omega
    rw [spanB_iff.2 f] at b; cases b
  ·have b':spanB p.hlo p.hhi 0 1099511627776=true:=by simpa using b
   have f:=spanB_iff.1 b'
   have q1:=quo_in (a:=p.hlo) (b:=w.fhi) f.1 (by omega)
   have q2:=quo_in (a:=p.hhi+w.flo - 1) (b:=w.flo) (by omega) (by omega)
   exact cond_d (fun h=>by omega) (fun _=>cond_r (by omega) (cond_r (by omega) ⟨⟨by omega,by omega⟩,cond_r (by omega) (ht _ (.add k f) (step2 k))⟩))
 ·refine cond_b (fun a=>?_) (fun a=>?_)
  ·refine cond_b (fun b=>?_) (fun b=>?_)
   ·exact hb fun hp=>by
     rcases hp with ⟨k',f,v⟩ | ⟨k',f⟩ | ⟨k',f⟩ | ⟨k',f,v⟩ <;> try omega
     rw [spanB_iff.2 v] at b; cases b
   ·have b':spanB p.slo p.shi 0 10000=true:=by simpa using b
    have f:=spanB_iff.1 a
    have v:=spanB_iff.1 b'
    have hp:PtOk p:=.air k f v
    refine cond_d (fun c=>cond_d (fun d=>?_) (fun d=>?_)) (fun c=>cond_d (fun d=>?_) (fun d=>?_))
    all_goals
     refine cond_r (by omega) ⟨⟨by omega,by omega,by omega,by omega,by omega⟩,cond_r (by omega) ⟨⟨by omega,by omega,by omega,by omega,by omega⟩,ht _ hp ?_⟩⟩
     rw [step3 k]
     unfold airW
     simp only [c,d,if_true,if_false]
  ·exact hb fun hp=>by
    rcases hp with ⟨k',f,v⟩ | ⟨k',f⟩ | ⟨k',f⟩ | ⟨k',f,v⟩ <;> try omega
    rw [spanB_iff.2 f] at a; cases a
 ·exact hb fun hp=>by
   rcases hp with ⟨k',f,v⟩ | ⟨k',f⟩ | ⟨k',f⟩ | ⟨k',f,v⟩ <;> omega
end
end Go.Sx.Str
namespace Go.Sx.Str
open Go Go.Sx Go.Proofs
set_option maxRecDepth 1000000
theorem tSt_ok:∀ p ∈ tSt,SpOk Try.prog p.1 p.2:=by
 intro p hp
 simp only [tSt,List.mem_cons,List.not_mem_nil,or_false] at hp
 rcases hp with rfl | rfl | rfl
 ·exact spanT_ok isSpan_v
 ·exact meanT_ok
 ·exact upT_ok fun a b h=>up_v h
theorem runE_pos {l:Int->Pt} {m:Nat} {i:Int} {w:Wt} (h:ptB (l i)=true) (he:errW (stepW w (l i))=0):runE l (m+1) i w=runE l m (i+1) (stepW w (l i)):=by
 simp only [runE,h,he,Bool.not_true,cond_false,decide_true,cond_true]
theorem runE_bad {l:Int->Pt} {m:Nat} {i:Int} {w:Wt} (h:ptB (l i)=false):runE l (m+1) i w=1:=by
 simp only [runE,h,Bool.not_false,cond_true]
theorem runE_err {l:Int->Pt} {m:Nat} {i:Int} {w:Wt} (h:ptB (l i)=true) (he:errW (stepW w (l i)) ≠ 0):runE l (m+1) i w=errW (stepW w (l i)):=by
 simp only [runE,h,Bool.not_true,cond_false,decide_eq_false he]
theorem runI_pos {l:Int->Pt} {m:Nat} {i:Int} {w:Wt} (h:ptB (l i)=true) (he:errW (stepW w (l i))=0):runI l (m+1) i w=runI l m (i+1) (stepW w (l i)):=by
 simp only [runI,h,he,Bool.true_and,decide_true,cond_true]
theorem runI_bad {l:Int->Pt} {m:Nat} {i:Int} {w:Wt} (h:ptB (l i)=false):runI l (m+1) i w=i:=by
 simp only [runI,h,Bool.false_and,cond_false]
theorem runI_err {l:Int->Pt} {m:Nat} {i:Int} {w:Wt} (h:ptB (l i)=true) (he:errW (stepW w (l i)) ≠ 0):runI l (m+1) i w=i:=by
 simp only [runI,h,Bool.true_and,decide_eq_false he,cond_false]
structure SF where
 i:Int
 k:Int
 w:Wt
 xs:List Wt
structure IF (n:Nat) (s:SF):Prop where
 i:(0<=s.i/\s.i<=n/\s.k=s.i) ∨ (s.i=n+1/\s.k=n)
 x:(s.xs.length:Int)=s.k
 w:WOk s.w
 n:n<=100000
def OF (n cap:Nat) (l:Int->Pt) (f:Wt) (s:SF) (e:VEx) (vs:List VV) (bs:List VB):Prop:=
 (e=.exit 0/\runE l (n - s.k).toNat s.k s.w=0/\∃ w',vs=VF n (n+1) n/\bs=BFl n cap l f w' (s.xs ++ runL l (n - s.k).toNat s.k s.w)) ∨
 (e=.ret/\runE l (n - s.k).toNat s.k s.w ≠ 0/\∃ i w' xs',vs=VF n i (runI l (n - s.k).toNat s.k s.w)/\bs=BFr n cap l f w' xs' (runI l (n - s.k).toNat s.k s.w) (runE l (n - s.k).toNat s.k s.w))
section
variable {n cap:Nat} {l:Int->Pt} {f:Wt}
theorem w0_round (i k:Int) (w:Wt) (xs:List Wt) (hi:IF n ⟨i,k,w,xs⟩):codeE Try.prog (callN Try.prog (tabS tSt) noL 10 20) (fun _=>none) true 10 44 0 (loopB 0 (bodyOf Try.prog 51)) (dsF.zip (VF n i k)) ⟨16,nsF.zip (BFl n cap l f w xs)⟩ (obs 16 dsF nsF (RoundQ (fun s=>VF n s.i s.k) (fun s=>BFl n cap l f s.w s.xs) (IF n) (fun s=>(n+1 - s.i).toNat) (OF n cap l f) ⟨i,k,w,xs⟩)):=by
 obtain ⟨h1,h2,h3,h4⟩:=hi
 dsimp only at h1 h2 h3
 rw [w0_ev]
 by_cases hlt:i<(n:Int)+1
 ·refine cond_dk hlt ?_
  refine cond_d (fun h=>by omega) (fun _=>?_)
  by_cases hn:i<(n:Int)
  ·refine cond_dk hn (cond_dk ⟨by omega,hn⟩ ⟨⟨rfl,by omega,by omega⟩,?_⟩)
   have hk:k=i:=by omega
   subst hk
   have hm:((n:Int) - k).toNat=((n:Int) - (k+1)).toNat+1:=by omega
   have key:=deedT_of (w:=w) (p:=l (0+k))
    (R:=fun e w'=>RoundQ (fun s=>VF n s.i s.k) (fun s=>BFl n cap l f s.w s.xs) (IF n) (fun s=>(n+1 - s.i).toNat) (OF n cap l f) ⟨k,k,w,xs⟩ .ret (VF n k k) (BFr n cap l f w' xs k e))
    (N:=fun w'=>bif xs.length.beq xs.length then
      bif roomB (xs.length+1) (32) then
      bif inK IntKind.i64 (k+(1:Int)) then
      bif inK IntKind.i64 (k+(1:Int)) then
      RoundQ (fun s=>VF n s.i s.k) (fun s=>BFl n cap l f s.w s.xs) (IF n) (fun s=>(n+1 - s.i).toNat) (OF n cap l f) ⟨k,k,w,xs⟩ .normal (VF n (k+1) (k+1)) [ptsA n l,.cells [.slice (.el 0 [] 0 0) n cap] 26,.cells [I (-1)] 3,.cells [.nilp] 78,.cells [.sl 15 (xs.length+1)] 29,.cells [I 0] 3,.cells [I 0] 30,.cells (wtL w') 89,.cells [.ptr (.own 12 0)] 87,rec35 f,.vec (xs.length+1) (catG xs.length (fun j=>wtL (xs.getD j w0)) fun j=>List.take 4 (List.drop (j*4) (wtL w'))) 4 25]
      else False else False else False else False)
    h3
    (fun hb=>.inr ⟨rfl,by
      rw [Int.zero_add] at hb
      show runE l ((n:Int) - k).toNat k w ≠ 0
      rw [hm,runE_bad hb]; decide,k,w,xs,by
      rw [Int.zero_add] at hb
      show VF n k k=VF n k (runI l ((n:Int) - k).toNat k w)
      rw [hm,runI_bad hb],by
      rw [Int.zero_add] at hb
      show BFr n cap l f w xs k 1=BFr n cap l f w xs (runI l ((n:Int) - k).toNat k w) (runE l ((n:Int) - k).toNat k w)
      rw [hm,runI_bad hb,runE_bad hb]⟩)
    (fun hb he=>.inr ⟨rfl,by
      rw [Int.zero_add] at hb he
      show runE l ((n:Int) - k).toNat k w ≠ 0
      rw [hm,runE_err hb he]; exact he,k,stepW w (l k),xs,by
      rw [Int.zero_add] at hb he
      show VF n k k=VF n k (runI l ((n:Int) - k).toNat k w)
      rw [hm,runI_err hb he],by
      rw [Int.zero_add] at hb he ⊢
      show BFr n cap l f (stepW w (l k)) xs k (errW (stepW w (l k)))=BFr n cap l f (stepW w (l k)) xs (runI l ((n:Int) - k).toNat k w) (runE l ((n:Int) - k).toNat k w)
      rw [hm,runI_err hb he,runE_err hb he]⟩)
    (fun hb he=>by
      rw [Int.zero_add] at hb he ⊢
      have hx:xs.length.beq xs.length=true:=Nat.beq_refl _
      refine cond_t hx (cond_t (room32 (by omega)) (cond_r (by omega) (cond_r (by omega) ?_)))
      refine ⟨⟨k+1,k+1,stepW w (l k),xs ++ [stepW w (l k)]⟩,⟨by dsimp only; omega,by simp; omega,step_ok h3 (ptB_iff.1 hb) he,h4⟩,by dsimp only; omega,rfl,?_,?_⟩
      ·refine ⟨VB.fit_refl _,VB.fit_refl _,VB.fit_refl _,VB.fit_refl _,?_,VB.fit_refl _,VB.fit_refl _,VB.fit_refl _,VB.fit_refl _,VB.fit_refl _,fit_snocW xs _,trivial⟩
       dsimp only
       rw [List.length_append]
       exact VB.fit_refl _
      ·intro e vs bs
       simp only [OF]
       rw [hm,runE_pos hb he,runI_pos hb he,runL]
       rw [List.append_assoc]
       exact id)
   exact key
  ·refine cond_d (fun h=>absurd h hn) (fun _=>cond_r (by omega) ?_)
   have hk:i=(n:Int):=by omega
   subst hk
   have hk':k=(n:Int):=by omega
   subst hk'
   refine ⟨⟨n+1,n,w,xs⟩,⟨.inr ⟨rfl,rfl⟩,h2,h3,h4⟩,by dsimp only; omega,rfl,fitBs_refl _,fun e vs bs=>id⟩
 ·refine cond_d (fun h=>absurd h hlt) (fun _=>?_)
  have hi:i=(n:Int)+1:=by omega
  have hk:k=(n:Int):=by omega
  subst hi hk
  have hz:((n:Int) - n).toNat=0:=by omega
  refine .inl ⟨rfl,?_,w,rfl,?_⟩
  ·show runE l ((n:Int) - n).toNat n w=0
   rw [hz]; rfl
  ·show BFl n cap l f w xs=BFl n cap l f w (xs ++ runL l ((n:Int) - n).toNat n w)
   rw [hz]; simp [runL]
def LFls (n cap:Nat) (l:Int->Pt) (f:Wt):LT:=fun lock t h K=>
 FitP lock h t ⟨16,nsF.zip (BFl n cap l f f [])⟩ (dsF.zip (VF n 0 0))/\(WOk f/\n<=100000) /\
  (runE l n 0 f=0->∀ w',K .normal (dsF.zip (VF n (n+1) n)) ⟨16,nsF.zip (BFl n cap l f w' (runL l n 0 f))⟩) /\
  (runE l n 0 f ≠ 0->∀ i w' xs',K .ret (dsF.zip (VF n i (runI l n 0 f))) ⟨16,nsF.zip (BFr n cap l f w' xs' (runI l n 0 f) (runE l n 0 f))⟩)
theorem LFls_ok:LSound Try.prog true (.block 0 (.loop (loopB 0 (bodyOf Try.prog 51)))) 44 (LFls n cap l f):=by
 refine loop_row hmix (tab_good hmix tSt_ok 20) (un:=10) (ds:=dsF) (ns:=nsF) (nx:=16) (fun s:SF=>VF n s.i s.k) (fun s=>BFl n cap l f s.w s.xs) (IF n) (fun s=>(n+1 - s.i).toNat) (OF n cap l f) noL_ok (fun s hi=>w0_round s.i s.k s.w s.xs hi) ?_
 rintro lock t h K ⟨hf,⟨hw,hn⟩,h1,h2⟩
 have hz:((n:Int) - 0).toNat=n:=by omega
 refine ⟨⟨0,0,f,[]⟩,hf,⟨.inl ⟨Int.le_refl 0,Int.natCast_nonneg n,rfl⟩,rfl,hw,hn⟩,?_⟩
 rintro e vs bs (⟨rfl,he,w',rfl,rfl⟩ | ⟨rfl,he,i,w',xs',rfl,rfl⟩)
 ·dsimp only at he
  rw [hz] at he
  have:=h1 he w'
  dsimp only
  rw [hz]
  exact this
 ·dsimp only at he
  rw [hz] at he
  have:=h2 he i w' xs'
  dsimp only
  rw [hz]
  exact this
def nsFn:List Nat:=[0,5,6,7,9,10,11,12,13,14]
noncomputable def BFn (n cap:Nat) (l:Int->Pt) (f:Wt):List VB:=[ptsA n l,.cells [.slice (.el 0 [] 0 0) n cap] 26,.cells [I (-1)] 3,.cells [.nilp] 78,.cells [.nils] 29,.cells [I 0] 3,.cells [I 0] 30,.cells (wtL f) 89,.cells [.ptr (.own 12 0)] 87,rec35 f]
def LFl (n cap:Nat) (l:Int->Pt) (f:Wt):LT:=fun lock t h K=>
 FitP lock h t ⟨15,nsFn.zip (BFn n cap l f)⟩ (dsF.zip (VF n 0 0))/\(WOk f/\n<=100000) /\
  (runE l n 0 f=0->∀ w',K .normal (dsF.zip (VF n (n+1) n)) ⟨16,nsF.zip (BFl n cap l f w' (runL l n 0 f))⟩) /\
  (runE l n 0 f ≠ 0->∀ i w' xs',K .ret (dsF.zip (VF n i (runI l n 0 f))) ⟨16,nsF.zip (BFr n cap l f w' xs' (runI l n 0 f) (runE l n 0 f))⟩)
theorem LFl_ok:LSound Try.prog true (.block 0 (.loop (loopB 0 (bodyOf Try.prog 51)))) 44 (LFl n cap l f):=
 ghost_cells_row (m:=9) (nx:=15) (cs:=[.nils]) (cs':=[.sl 15 0]) (ty:=29) (bs:=nsFn.zip (BFn n cap l f)) (t0:=dsF.zip (VF n 0 0))
  (fun j=>wtL (([]:List Wt).getD j w0)) 4 25 LFls_ok rfl (fun R xs hv hx=>by
   obtain ⟨a0,_,k0,k1,rfl⟩:=hx
   exact ⟨_,_,nil_ghost hv k0,k1,rfl⟩) (by
   rintro lock t h K ⟨hf,hc,h1,h2⟩
   exact ⟨hf,⟨⟨rfl,rfl,VB.fit_refl _,VB.fit_refl _,VB.fit_refl _,VB.fit_refl _,VB.fit_refl _,VB.fit_refl _,VB.fit_refl _,VB.fit_refl _,VB.fit_refl _,VB.fit_refl _,VB.fit_refl _,trivial⟩,rfl,rfl,rfl,rfl,rfl,rfl,rfl,trivial⟩,hc,h1,h2⟩)
end
end Go.Sx.Str
namespace Go.Sx.Str
open Go Go.Sx Go.Proofs
set_option maxRecDepth 1000000
def flR (Q:VRes->List VB->Prop):VRes->VH->Prop:=fun r h=>Q r [h.at 0,h.at 15]
theorem f13_ev (n cap:Nat) (l:Int->Pt) (f:Wt) (Q:VRes->List VB->Prop):callN Try.prog noSpec (atF 51 [(0,LFl n cap l f)]) 10 20 0 (.fn 13) [.agg (wtL f),.slice (.el 0 [] 0 0) n cap] ⟨1,[(0,ptsA n l)]⟩ (flR Q) =
 (bif decide (f.flo ≥ (1:Int)) then
 bif decide (f.flo<=f.fhi) then
 bif decide (f.fhi<=(1073741824:Int)) then
 bif decide (f.wlo ≥ (0:Int)) then
 bif decide (f.wlo<=f.whi) then
 bif !decide (f.whi<=(100000:Int)) then
 Q (VRes.ret (VV.tup [VV.nils,I 0,I 1])) [ptsA n l,VB.free]
 else bif decide ((↑n:Int) > (64:Int)) then
 Q (VRes.ret (VV.tup [VV.nils,I 0,I 3])) [ptsA n l,VB.free]
 else bif inK IntKind.i64 ((↑n:Int)+(1:Int)) then
 FitP 0 (VH.mk (15) (nsFn.zip (BFn n cap l f))) (dsF.zip (VF n (0:Int) (0:Int))) (VH.mk (15) (nsFn.zip (BFn n cap l f))) (dsF.zip (VF n (0:Int) (0:Int)))/\(WOk f/\n<=100000)/\(runE l n (0:Int) f=(0:Int)->∀ (w':Wt),Q (VRes.ret (VV.tup [VV.sl 15 (runL l n (0:Int) f).length,I (↑(runL l n (0:Int) f).length:Int),I 0])) [ptsA n l,VB.vec (runL l n (0:Int) f).length (fun j=>wtL ((runL l n (0:Int) f).getD j w0)) 4 (25:TypeId)])/\(runE l n (0:Int) f ≠ (0:Int)->∀ (i:Int) (w':Wt) (xs':List Wt),Q (VRes.ret (VV.tup [VV.nils,I (runI l n (0:Int) f),I (runE l n (0:Int) f)])) [ptsA n l,VB.vec xs'.length (fun j=>wtL (xs'.getD j w0)) 4 (25:TypeId)])
 else False
 else Q (VRes.ret (VV.tup [VV.nils,I 0,I 1])) [ptsA n l,VB.free]
 else Q (VRes.ret (VV.tup [VV.nils,I 0,I 1])) [ptsA n l,VB.free]
 else Q (VRes.ret (VV.tup [VV.nils,I 0,I 1])) [ptsA n l,VB.free]
 else Q (VRes.ret (VV.tup [VV.nils,I 0,I 1])) [ptsA n l,VB.free]
 else Q (VRes.ret (VV.tup [VV.nils,I 0,I 1])) [ptsA n l,VB.free]):=by kernel_rfl
end Go.Sx.Str
