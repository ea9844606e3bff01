/- stream: Ka4 Ka5 Ka6 Ka7 Ka8 Ka9 Kb1 Kb2 Kb3 Kb4 Kb5 Kb6 Kb7 Kc1 Kc2 Kc3 Kc4 Kc5, in one text. -/
import Derived.Test.YtjpjicnfpikdlaaWW1
import Derived.Test.YtjpjicnfpikdlaaSxZ
namespace Go.Sx.Str
open Go Go.Sx Go.Proofs
set_option maxRecDepth 1000000
def rfOf:Code->Option (Code × Code)
 | .rangeFunc _ _ ac bd=>some (ac,bd)
 | .seq a b=>match rfOf a with
  | some r=>some r
  | none=>rfOf b
 | .block _ b=>rfOf b
 | _=>none
def rfAs (P:Program) (f:FuncId):Code:=match rfOf (bodyOf P f) with
 | some (ac,_)=>ac
 | none=>.skip
def rfBd (P:Program) (f:FuncId):Code:=match rfOf (bodyOf P f) with
 | some (_,bd)=>bd
 | none=>.skip
noncomputable def as35:Code:=rfAs Try.prog 35
noncomputable def bd35:Code:=rfBd Try.prog 35
abbrev fF:VV:=.func 51 [] [.ptr (.own 5 0),.ptr (.own 6 0),.ptr (.own 7 0)]
def sl35 (w:Wt):Slots:=[(14,fF),(7,.ptr (.own 13 0)),(13,.ptr (.own 12 0)),(12,.agg (wtL w)),(11,.agg (wtL w)),(6,.ptr (.own 11 0)),(5,.ptr (.own 10 0)),(4,.ptr (.own 9 0)),(2,.ptr (.own 8 0)),(0,.agg (wtL w)),(1,fF)]
noncomputable def rec35 (w:Wt):VB:=.loop true none (sl35 w) 67 [15,16] as35 bd35
noncomputable def rec35r (w:Wt):VB:=.loop false (some .ret) (sl35 w) 67 [15,16] as35 bd35
def dsF:List Nat:=[10,5,9,0,1,2,3]
def VF (n:Nat) (i k:Int):List VV:=[I i,I k,I (n+1),.yld 14,.ptr (.own 5 0),.ptr (.own 6 0),.ptr (.own 7 0)]
def nsF:List Nat:=[0,5,6,7,9,10,11,12,13,14,15]
noncomputable def BFl (n cap:Nat) (l:Int->Pt) (f:Wt) (w:Wt) (xs:List Wt):List VB:=[ptsA n l,.cells [.slice (.el 0 [] 0 0) n cap] 26,.cells [I (-1)] 3,.cells [.nilp] 78,.cells [.sl 15 xs.length] 29,.cells [I 0] 3,.cells [I 0] 30,.cells (wtL w) 89,.cells [.ptr (.own 12 0)] 87,rec35 f,vecW xs]
def tSt:List (FuncId × Spec1):=[spanT 49,meanT,upT 80]
theorem w0_ev (n cap:Nat) (l:Int->Pt) (f w:Wt) (xs:List Wt) (i k:Int) (X:VEx->List VV->List VB->Prop):codeE Try.prog (callN Try.prog (tabS tSt) noL 10 20) (fun _=>none) true 10 44 0 (loopB 0 (bodyOf Try.prog 51)) (dsF.zip (VF n i k)) ⟨16,nsF.zip (BFl n cap l f w xs)⟩ (obs 16 dsF nsF X) =
 (bif decide (i<(↑n:Int)+(1:Int)) then
 bif decide (i=(-1:Int)) then
 bif decide (i<(↑n:Int)) then
 bif decide ((0:Int)<=i/\i<(↑n:Int)) then
 (([]:List Int)=[]/\(0:Int)<=(0:Int)+i/\(0:Int)+i<(↑n:Int))/\bif decide ((l ((0:Int)+i)).k=(0:Int)) then
 bif spanB (l ((0:Int)+i)).flo (l ((0:Int)+i)).fhi (1:Int) (1073741824:Int) then
 bif !spanB (l ((0:Int)+i)).wlo (l ((0:Int)+i)).whi (0:Int) (100000:Int) then
 X VEx.ret [I i,I k,I ((↑n:Int)+(1:Int)),VV.yld 14,VV.ptr (VA.own 5 0),VV.ptr (VA.own 6 0),VV.ptr (VA.own 7 0)] [ptsA n l,VB.cells [VV.slice (VA.el 0 [] (0:Int) 0) n cap] (26:TypeId),VB.cells [I (-1)] (3:TypeId),VB.cells [VV.nilp] (78:TypeId),VB.cells [VV.nils] (29:TypeId),VB.cells [I k] (3:TypeId),VB.cells [I 1] (30:TypeId),VB.cells [I w.flo,I w.fhi,I w.wlo,I w.whi] (89:TypeId),VB.cells [VV.ptr (VA.own 12 0)] (87:TypeId),VB.loop false (some VEx.ret) (sl35 f) 67 [15,16] as35 bd35,VB.vec xs.length (fun j=>wtL (xs.getD j w0)) 4 (25:TypeId)]
 else bif decide ((l ((0:Int)+i)).wlo<w.wlo) then
 bif decide ((l ((0:Int)+i)).whi<w.whi) then
 meanOk w.wlo w.flo (l ((0:Int)+i)).wlo (l ((0:Int)+i)).fhi/\meanOk w.whi w.fhi (l ((0:Int)+i)).whi (l ((0:Int)+i)).flo/\bif inK IntKind.i64 (w.flo+(l ((0:Int)+i)).flo) then
 bif inK IntKind.i64 (w.fhi+(l ((0:Int)+i)).fhi) then
 bif decide (w.flo+(l ((0:Int)+i)).flo<(1:Int)) then
 X VEx.ret [I i,I k,I ((↑n:Int)+(1:Int)),VV.yld 14,VV.ptr (VA.own 5 0),VV.ptr (VA.own 6 0),VV.ptr (VA.own 7 0)] [ptsA n l,VB.cells [VV.slice (VA.el 0 [] (0:Int) 0) n cap] (26:TypeId),VB.cells [I (-1)] (3:TypeId),VB.cells [VV.nilp] (78:TypeId),VB.cells [VV.nils] (29:TypeId),VB.cells [I k] (3:TypeId),VB.cells [I 10] (30:TypeId),VB.cells [I (w.flo+(l ((0:Int)+i)).flo),I (w.fhi+(l ((0:Int)+i)).fhi),I (mD w.wlo w.flo (l ((0:Int)+i)).wlo (l ((0:Int)+i)).fhi),I (mU w.whi w.fhi (l ((0:Int)+i)).whi (l ((0:Int)+i)).flo)] (89:TypeId),VB.cells [VV.ptr (VA.own 12 0)] (87:TypeId),VB.loop false (some VEx.ret) (sl35 f) 67 [15,16] as35 bd35,VB.vec xs.length (fun j=>wtL (xs.getD j w0)) 4 (25:TypeId)]
 else bif decide (w.fhi+(l ((0:Int)+i)).fhi > (1073741824:Int)) then
 X VEx.ret [I i,I k,I ((↑n:Int)+(1:Int)),VV.yld 14,VV.ptr (VA.own 5 0),VV.ptr (VA.own 6 0),VV.ptr (VA.own 7 0)] [ptsA n l,VB.cells [VV.slice (VA.el 0 [] (0:Int) 0) n cap] (26:TypeId),VB.cells [I (-1)] (3:TypeId),VB.cells [VV.nilp] (78:TypeId),VB.cells [VV.nils] (29:TypeId),VB.cells [I k] (3:TypeId),VB.cells [I 12] (30:TypeId),VB.cells [I (w.flo+(l ((0:Int)+i)).flo),I (w.fhi+(l ((0:Int)+i)).fhi),I (mD w.wlo w.flo (l ((0:Int)+i)).wlo (l ((0:Int)+i)).fhi),I (mU w.whi w.fhi (l ((0:Int)+i)).whi (l ((0:Int)+i)).flo)] (89:TypeId),VB.cells [VV.ptr (VA.own 12 0)] (87:TypeId),VB.loop false (some VEx.ret) (sl35 f) 67 [15,16] as35 bd35,VB.vec xs.length (fun j=>wtL (xs.getD j w0)) 4 (25:TypeId)]
 else bif decide (mU w.whi w.fhi (l ((0:Int)+i)).whi (l ((0:Int)+i)).flo > (100000:Int)) then
 X VEx.ret [I i,I k,I ((↑n:Int)+(1:Int)),VV.yld 14,VV.ptr (VA.own 5 0),VV.ptr (VA.own 6 0),VV.ptr (VA.own 7 0)] [ptsA n l,VB.cells [VV.slice (VA.el 0 [] (0:Int) 0) n cap] (26:TypeId),VB.cells [I (-1)] (3:TypeId),VB.cells [VV.nilp] (78:TypeId),VB.cells [VV.nils] (29:TypeId),VB.cells [I k] (3:TypeId),VB.cells [I 12] (30:TypeId),VB.cells [I (w.flo+(l ((0:Int)+i)).flo),I (w.fhi+(l ((0:Int)+i)).fhi),I (mD w.wlo w.flo (l ((0:Int)+i)).wlo (l ((0:Int)+i)).fhi),I (mU w.whi w.fhi (l ((0:Int)+i)).whi (l ((0:Int)+i)).flo)] (89:TypeId),VB.cells [VV.ptr (VA.own 12 0)] (87:TypeId),VB.loop false (some VEx.ret) (sl35 f) 67 [15,16] as35 bd35,VB.vec xs.length (fun j=>wtL (xs.getD j w0)) 4 (25:TypeId)]
 else bif xs.length.beq xs.length then
 bif roomB (xs.length+1) (32) then
 bif inK IntKind.i64 (k+(1:Int)) then
 bif inK IntKind.i64 (i+(1:Int)) then
 X VEx.normal [I (i+(1:Int)),I (k+(1:Int)),I ((↑n:Int)+(1:Int)),VV.yld 14,VV.ptr (VA.own 5 0),VV.ptr (VA.own 6 0),VV.ptr (VA.own 7 0)] [ptsA n l,VB.cells [VV.slice (VA.el 0 [] (0:Int) 0) n cap] (26:TypeId),VB.cells [I (-1)] (3:TypeId),VB.cells [VV.nilp] (78:TypeId),VB.cells [VV.sl 15 (xs.length+1)] (29:TypeId),VB.cells [I 0] (3:TypeId),VB.cells [I 0] (30:TypeId),VB.cells [I (w.flo+(l ((0:Int)+i)).flo),I (w.fhi+(l ((0:Int)+i)).fhi),I (mD w.wlo w.flo (l ((0:Int)+i)).wlo (l ((0:Int)+i)).fhi),I (mU w.whi w.fhi (l ((0:Int)+i)).whi (l ((0:Int)+i)).flo)] (89:TypeId),VB.cells [VV.ptr (VA.own 12 0)] (87:TypeId),VB.loop true none (sl35 f) 67 [15,16] as35 bd35,VB.vec (xs.length+1) (catG xs.length (fun j=>wtL (xs.getD j w0)) fun j=>List.take (4) (List.drop (j*(4)) [I (w.flo+(l ((0:Int)+i)).flo),I (w.fhi+(l ((0:Int)+i)).fhi),I (mD w.wlo w.flo (l ((0:Int)+i)).wlo (l ((0:Int)+i)).fhi),I (mU w.whi w.fhi (l ((0:Int)+i)).whi (l ((0:Int)+i)).flo)])) (4) 25]
 else False
 else False
 else False
 else False
 else False
 else False
 else meanOk w.wlo w.flo (l ((0:Int)+i)).wlo (l ((0:Int)+i)).fhi/\meanOk w.whi w.flo (l ((0:Int)+i)).whi (l ((0:Int)+i)).fhi/\bif inK IntKind.i64 (w.flo+(l ((0:Int)+i)).flo) then
 bif inK IntKind.i64 (w.fhi+(l ((0:Int)+i)).fhi) then
 bif decide (w.flo+(l ((0:Int)+i)).flo<(1:Int)) then
 X VEx.ret [I i,I k,I ((↑n:Int)+(1:Int)),VV.yld 14,VV.ptr (VA.own 5 0),VV.ptr (VA.own 6 0),VV.ptr (VA.own 7 0)] [ptsA n l,VB.cells [VV.slice (VA.el 0 [] (0:Int) 0) n cap] (26:TypeId),VB.cells [I (-1)] (3:TypeId),VB.cells [VV.nilp] (78:TypeId),VB.cells [VV.nils] (29:TypeId),VB.cells [I k] (3:TypeId),VB.cells [I 10] (30:TypeId),VB.cells [I (w.flo+(l ((0:Int)+i)).flo),I (w.fhi+(l ((0:Int)+i)).fhi),I (mD w.wlo w.flo (l ((0:Int)+i)).wlo (l ((0:Int)+i)).fhi),I (mU w.whi w.flo (l ((0:Int)+i)).whi (l ((0:Int)+i)).fhi)] (89:TypeId),VB.cells [VV.ptr (VA.own 12 0)] (87:TypeId),VB.loop false (some VEx.ret) (sl35 f) 67 [15,16] as35 bd35,VB.vec xs.length (fun j=>wtL (xs.getD j w0)) 4 (25:TypeId)]
 else bif decide (w.fhi+(l ((0:Int)+i)).fhi > (1073741824:Int)) then
 X VEx.ret [I i,I k,I ((↑n:Int)+(1:Int)),VV.yld 14,VV.ptr (VA.own 5 0),VV.ptr (VA.own 6 0),VV.ptr (VA.own 7 0)] [ptsA n l,VB.cells [VV.slice (VA.el 0 [] (0:Int) 0) n cap] (26:TypeId),VB.cells [I (-1)] (3:TypeId),VB.cells [VV.nilp] (78:TypeId),VB.cells [VV.nils] (29:TypeId),VB.cells [I k] (3:TypeId),VB.cells [I 12] (30:TypeId),VB.cells [I (w.flo+(l ((0:Int)+i)).flo),I (w.fhi+(l ((0:Int)+i)).fhi),I (mD w.wlo w.flo (l ((0:Int)+i)).wlo (l ((0:Int)+i)).fhi),I (mU w.whi w.flo (l ((0:Int)+i)).whi (l ((0:Int)+i)).fhi)] (89:TypeId),VB.cells [VV.ptr (VA.own 12 0)] (87:TypeId),VB.loop false (some VEx.ret) (sl35 f) 67 [15,16] as35 bd35,VB.vec xs.length (fun j=>wtL (xs.getD j w0)) 4 (25:TypeId)]
 else bif decide (mU w.whi w.flo (l ((0:Int)+i)).whi (l ((0:Int)+i)).fhi > (100000:Int)) then
 X VEx.ret [I i,I k,I ((↑n:Int)+(1:Int)),VV.yld 14,VV.ptr (VA.own 5 0),VV.ptr (VA.own 6 0),VV.ptr (VA.own 7 0)] [ptsA n l,VB.cells [VV.slice (VA.el 0 [] (0:Int) 0) n cap] (26:TypeId),VB.cells [I (-1)] (3:TypeId),VB.cells [VV.nilp] (78:TypeId),VB.cells [VV.nils] (29:TypeId),VB.cells [I k] (3:TypeId),VB.cells [I 12] (30:TypeId),VB.cells [I (w.flo+(l ((0:Int)+i)).flo),I (w.fhi+(l ((0:Int)+i)).fhi),I (mD w.wlo w.flo (l ((0:Int)+i)).wlo (l ((0:Int)+i)).fhi),I (mU w.whi w.flo (l ((0:Int)+i)).whi (l ((0:Int)+i)).fhi)] (89:TypeId),VB.cells [VV.ptr (VA.own 12 0)] (87:TypeId),VB.loop false (some VEx.ret) (sl35 f) 67 [15,16] as35 bd35,VB.vec xs.length (fun j=>wtL (xs.getD j w0)) 4 (25:TypeId)]
 else bif xs.length.beq xs.length then
 bif roomB (xs.length+1) (32) then
 bif inK IntKind.i64 (k+(1:Int)) then
 bif inK IntKind.i64 (i+(1:Int)) then
 X VEx.normal [I (i+(1:Int)),I (k+(1:Int)),I ((↑n:Int)+(1:Int)),VV.yld 14,VV.ptr (VA.own 5 0),VV.ptr (VA.own 6 0),VV.ptr (VA.own 7 0)] [ptsA n l,VB.cells [VV.slice (VA.el 0 [] (0:Int) 0) n cap] (26:TypeId),VB.cells [I (-1)] (3:TypeId),VB.cells [VV.nilp] (78:TypeId),VB.cells [VV.sl 15 (xs.length+1)] (29:TypeId),VB.cells [I 0] (3:TypeId),VB.cells [I 0] (30:TypeId),VB.cells [I (w.flo+(l ((0:Int)+i)).flo),I (w.fhi+(l ((0:Int)+i)).fhi),I (mD w.wlo w.flo (l ((0:Int)+i)).wlo (l ((0:Int)+i)).fhi),I (mU w.whi w.flo (l ((0:Int)+i)).whi (l ((0:Int)+i)).fhi)] (89:TypeId),VB.cells [VV.ptr (VA.own 12 0)] (87:TypeId),VB.loop true none (sl35 f) 67 [15,16] as35 bd35,VB.vec (xs.length+1) (catG xs.length (fun j=>wtL (xs.getD j w0)) fun j=>List.take (4) (List.drop (j*(4)) [I (w.flo+(l ((0:Int)+i)).flo),I (w.fhi+(l ((0:Int)+i)).fhi),I (mD w.wlo w.flo (l ((0:Int)+i)).wlo (l ((0:Int)+i)).fhi),I (mU w.whi w.flo (l ((0:Int)+i)).whi (l ((0:Int)+i)).fhi)])) (4) 25]
 else False
 else False
 else False
 else False
 else False
 else False
 else bif decide ((l ((0:Int)+i)).whi<w.whi) then
 meanOk w.wlo w.fhi (l ((0:Int)+i)).wlo (l ((0:Int)+i)).flo/\meanOk w.whi w.fhi (l ((0:Int)+i)).whi (l ((0:Int)+i)).flo/\bif inK IntKind.i64 (w.flo+(l ((0:Int)+i)).flo) then
 bif inK IntKind.i64 (w.fhi+(l ((0:Int)+i)).fhi) then
 bif decide (w.flo+(l ((0:Int)+i)).flo<(1:Int)) then
 X VEx.ret [I i,I k,I ((↑n:Int)+(1:Int)),VV.yld 14,VV.ptr (VA.own 5 0),VV.ptr (VA.own 6 0),VV.ptr (VA.own 7 0)] [ptsA n l,VB.cells [VV.slice (VA.el 0 [] (0:Int) 0) n cap] (26:TypeId),VB.cells [I (-1)] (3:TypeId),VB.cells [VV.nilp] (78:TypeId),VB.cells [VV.nils] (29:TypeId),VB.cells [I k] (3:TypeId),VB.cells [I 10] (30:TypeId),VB.cells [I (w.flo+(l ((0:Int)+i)).flo),I (w.fhi+(l ((0:Int)+i)).fhi),I (mD w.wlo w.fhi (l ((0:Int)+i)).wlo (l ((0:Int)+i)).flo),I (mU w.whi w.fhi (l ((0:Int)+i)).whi (l ((0:Int)+i)).flo)] (89:TypeId),VB.cells [VV.ptr (VA.own 12 0)] (87:TypeId),VB.loop false (some VEx.ret) (sl35 f) 67 [15,16] as35 bd35,VB.vec xs.length (fun j=>wtL (xs.getD j w0)) 4 (25:TypeId)]
 else bif decide (w.fhi+(l ((0:Int)+i)).fhi > (1073741824:Int)) then
 X VEx.ret [I i,I k,I ((↑n:Int)+(1:Int)),VV.yld 14,VV.ptr (VA.own 5 0),VV.ptr (VA.own 6 0),VV.ptr (VA.own 7 0)] [ptsA n l,VB.cells [VV.slice (VA.el 0 [] (0:Int) 0) n cap] (26:TypeId),VB.cells [I (-1)] (3:TypeId),VB.cells [VV.nilp] (78:TypeId),VB.cells [VV.nils] (29:TypeId),VB.cells [I k] (3:TypeId),VB.cells [I 12] (30:TypeId),VB.cells [I (w.flo+(l ((0:Int)+i)).flo),I (w.fhi+(l ((0:Int)+i)).fhi),I (mD w.wlo w.fhi (l ((0:Int)+i)).wlo (l ((0:Int)+i)).flo),I (mU w.whi w.fhi (l ((0:Int)+i)).whi (l ((0:Int)+i)).flo)] (89:TypeId),VB.cells [VV.ptr (VA.own 12 0)] (87:TypeId),VB.loop false (some VEx.ret) (sl35 f) 67 [15,16] as35 bd35,VB.vec xs.length (fun j=>wtL (xs.getD j w0)) 4 (25:TypeId)]
 else bif decide (mU w.whi w.fhi (l ((0:Int)+i)).whi (l ((0:Int)+i)).flo > (100000:Int)) then
 X VEx.ret [I i,I k,I ((↑n:Int)+(1:Int)),VV.yld 14,VV.ptr (VA.own 5 0),VV.ptr (VA.own 6 0),VV.ptr (VA.own 7 0)] [ptsA n l,VB.cells [VV.slice (VA.el 0 [] (0:Int) 0) n cap] (26:TypeId),VB.cells [I (-1)] (3:TypeId),VB.cells [VV.nilp] (78:TypeId),VB.cells [VV.nils] (29:TypeId),VB.cells [I k] (3:TypeId),VB.cells [I 12] (30:TypeId),VB.cells [I (w.flo+(l ((0:Int)+i)).flo),I (w.fhi+(l ((0:Int)+i)).fhi),I (mD w.wlo w.fhi (l ((0:Int)+i)).wlo (l ((0:Int)+i)).flo),I (mU w.whi w.fhi (l ((0:Int)+i)).whi (l ((0:Int)+i)).flo)] (89:TypeId),VB.cells [VV.ptr (VA.own 12 0)] (87:TypeId),VB.loop false (some VEx.ret) (sl35 f) 67 [15,16] as35 bd35,VB.vec xs.length (fun j=>wtL (xs.getD j w0)) 4 (25:TypeId)]
 else bif xs.length.beq xs.length then
 bif roomB (xs.length+1) (32) then
 bif inK IntKind.i64 (k+(1:Int)) then
 bif inK IntKind.i64 (i+(1:Int)) then
 X VEx.normal [I (i+(1:Int)),I (k+(1:Int)),I ((↑n:Int)+(1:Int)),VV.yld 14,VV.ptr (VA.own 5 0),VV.ptr (VA.own 6 0),VV.ptr (VA.own 7 0)] [ptsA n l,VB.cells [VV.slice (VA.el 0 [] (0:Int) 0) n cap] (26:TypeId),VB.cells [I (-1)] (3:TypeId),VB.cells [VV.nilp] (78:TypeId),VB.cells [VV.sl 15 (xs.length+1)] (29:TypeId),VB.cells [I 0] (3:TypeId),VB.cells [I 0] (30:TypeId),VB.cells [I (w.flo+(l ((0:Int)+i)).flo),I (w.fhi+(l ((0:Int)+i)).fhi),I (mD w.wlo w.fhi (l ((0:Int)+i)).wlo (l ((0:Int)+i)).flo),I (mU w.whi w.fhi (l ((0:Int)+i)).whi (l ((0:Int)+i)).flo)] (89:TypeId),VB.cells [VV.ptr (VA.own 12 0)] (87:TypeId),VB.loop true none (sl35 f) 67 [15,16] as35 bd35,VB.vec (xs.length+1) (catG xs.length (fun j=>wtL (xs.getD j w0)) fun j=>List.take (4) (List.drop (j*(4)) [I (w.flo+(l ((0:Int)+i)).flo),I (w.fhi+(l ((0:Int)+i)).fhi),I (mD w.wlo w.fhi (l ((0:Int)+i)).wlo (l ((0:Int)+i)).flo),I (mU w.whi w.fhi (l ((0:Int)+i)).whi (l ((0:Int)+i)).flo)])) (4) 25]
 else False
 else False
 else False
 else False
 else False
 else False
 else meanOk w.wlo w.fhi (l ((0:Int)+i)).wlo (l ((0:Int)+i)).flo/\meanOk w.whi w.flo (l ((0:Int)+i)).whi (l ((0:Int)+i)).fhi/\bif inK IntKind.i64 (w.flo+(l ((0:Int)+i)).flo) then
 bif inK IntKind.i64 (w.fhi+(l ((0:Int)+i)).fhi) then
 bif decide (w.flo+(l ((0:Int)+i)).flo<(1:Int)) then
 X VEx.ret [I i,I k,I ((↑n:Int)+(1:Int)),VV.yld 14,VV.ptr (VA.own 5 0),VV.ptr (VA.own 6 0),VV.ptr (VA.own 7 0)] [ptsA n l,VB.cells [VV.slice (VA.el 0 [] (0:Int) 0) n cap] (26:TypeId),VB.cells [I (-1)] (3:TypeId),VB.cells [VV.nilp] (78:TypeId),VB.cells [VV.nils] (29:TypeId),VB.cells [I k] (3:TypeId),VB.cells [I 10] (30:TypeId),VB.cells [I (w.flo+(l ((0:Int)+i)).flo),I (w.fhi+(l ((0:Int)+i)).fhi),I (mD w.wlo w.fhi (l ((0:Int)+i)).wlo (l ((0:Int)+i)).flo),I (mU w.whi w.flo (l ((0:Int)+i)).whi (l ((0:Int)+i)).fhi)] (89:TypeId),VB.cells [VV.ptr (VA.own 12 0)] (87:TypeId),VB.loop false (some VEx.ret) (sl35 f) 67 [15,16] as35 bd35,VB.vec xs.length (fun j=>wtL (xs.getD j w0)) 4 (25:TypeId)]
 else bif decide (w.fhi+(l ((0:Int)+i)).fhi > (1073741824:Int)) then
 X VEx.ret [I i,I k,I ((↑n:Int)+(1:Int)),VV.yld 14,VV.ptr (VA.own 5 0),VV.ptr (VA.own 6 0),VV.ptr (VA.own 7 0)] [ptsA n l,VB.cells [VV.slice (VA.el 0 [] (0:Int) 0) n cap] (26:TypeId),VB.cells [I (-1)] (3:TypeId),VB.cells [VV.nilp] (78:TypeId),VB.cells [VV.nils] (29:TypeId),VB.cells [I k] (3:TypeId),VB.cells [I 12] (30:TypeId),VB.cells [I (w.flo+(l ((0:Int)+i)).flo),I (w.fhi+(l ((0:Int)+i)).fhi),I (mD w.wlo w.fhi (l ((0:Int)+i)).wlo (l ((0:Int)+i)).flo),I (mU w.whi w.flo (l ((0:Int)+i)).whi (l ((0:Int)+i)).fhi)] (89:TypeId),VB.cells [VV.ptr (VA.own 12 0)] (87:TypeId),VB.loop false (some VEx.ret) (sl35 f) 67 [15,16] as35 bd35,VB.vec xs.length (fun j=>wtL (xs.getD j w0)) 4 (25:TypeId)]
 else bif decide (mU w.whi w.flo (l ((0:Int)+i)).whi (l ((0:Int)+i)).fhi > (100000:Int)) then
 X VEx.ret [I i,I k,I ((↑n:Int)+(1:Int)),VV.yld 14,VV.ptr (VA.own 5 0),VV.ptr (VA.own 6 0),VV.ptr (VA.own 7 0)] [ptsA n l,VB.cells [VV.slice (VA.el 0 [] (0:Int) 0) n cap] (26:TypeId),VB.cells [I (-1)] (3:TypeId),VB.cells [VV.nilp] (78:TypeId),VB.cells [VV.nils] (29:TypeId),VB.cells [I k] (3:TypeId),VB.cells [I 12] (30:TypeId),VB.cells [I (w.flo+(l ((0:Int)+i)).flo),I (w.fhi+(l ((0:Int)+i)).fhi),I (mD w.wlo w.fhi (l ((0:Int)+i)).wlo (l ((0:Int)+i)).flo),I (mU w.whi w.flo (l ((0:Int)+i)).whi (l ((0:Int)+i)).fhi)] (89:TypeId),VB.cells [VV.ptr (VA.own 12 0)] (87:TypeId),VB.loop false (some VEx.ret) (sl35 f) 67 [15,16] as35 bd35,VB.vec xs.length (fun j=>wtL (xs.getD j w0)) 4 (25:TypeId)]
 else bif xs.length.beq xs.length then
 bif roomB (xs.length+1) (32) then
 bif inK IntKind.i64 (k+(1:Int)) then
 bif inK IntKind.i64 (i+(1:Int)) then
 X VEx.normal [I (i+(1:Int)),I (k+(1:Int)),I ((↑n:Int)+(1:Int)),VV.yld 14,VV.ptr (VA.own 5 0),VV.ptr (VA.own 6 0),VV.ptr (VA.own 7 0)] [ptsA n l,VB.cells [VV.slice (VA.el 0 [] (0:Int) 0) n cap] (26:TypeId),VB.cells [I (-1)] (3:TypeId),VB.cells [VV.nilp] (78:TypeId),VB.cells [VV.sl 15 (xs.length+1)] (29:TypeId),VB.cells [I 0] (3:TypeId),VB.cells [I 0] (30:TypeId),VB.cells [I (w.flo+(l ((0:Int)+i)).flo),I (w.fhi+(l ((0:Int)+i)).fhi),I (mD w.wlo w.fhi (l ((0:Int)+i)).wlo (l ((0:Int)+i)).flo),I (mU w.whi w.flo (l ((0:Int)+i)).whi (l ((0:Int)+i)).fhi)] (89:TypeId),VB.cells [VV.ptr (VA.own 12 0)] (87:TypeId),VB.loop true none (sl35 f) 67 [15,16] as35 bd35,VB.vec (xs.length+1) (catG xs.length (fun j=>wtL (xs.getD j w0)) fun j=>List.take (4) (List.drop (j*(4)) [I (w.flo+(l ((0:Int)+i)).flo),I (w.fhi+(l ((0:Int)+i)).fhi),I (mD w.wlo w.fhi (l ((0:Int)+i)).wlo (l ((0:Int)+i)).flo),I (mU w.whi w.flo (l ((0:Int)+i)).whi (l ((0:Int)+i)).fhi)])) (4) 25]
 else False
 else False
 else False
 else False
 else False
 else False
 else X VEx.ret [I i,I k,I ((↑n:Int)+(1:Int)),VV.yld 14,VV.ptr (VA.own 5 0),VV.ptr (VA.own 6 0),VV.ptr (VA.own 7 0)] [ptsA n l,VB.cells [VV.slice (VA.el 0 [] (0:Int) 0) n cap] (26:TypeId),VB.cells [I (-1)] (3:TypeId),VB.cells [VV.nilp] (78:TypeId),VB.cells [VV.nils] (29:TypeId),VB.cells [I k] (3:TypeId),VB.cells [I 1] (30:TypeId),VB.cells [I w.flo,I w.fhi,I w.wlo,I w.whi] (89:TypeId),VB.cells [VV.ptr (VA.own 12 0)] (87:TypeId),VB.loop false (some VEx.ret) (sl35 f) 67 [15,16] as35 bd35,VB.vec xs.length (fun j=>wtL (xs.getD j w0)) 4 (25:TypeId)]
 else bif decide ((l ((0:Int)+i)).k=(1:Int)) then
 bif !spanB (l ((0:Int)+i)).flo (l ((0:Int)+i)).fhi (0:Int) (1073741824:Int) then
 X VEx.ret [I i,I k,I ((↑n:Int)+(1:Int)),VV.yld 14,VV.ptr (VA.own 5 0),VV.ptr (VA.own 6 0),VV.ptr (VA.own 7 0)] [ptsA n l,VB.cells [VV.slice (VA.el 0 [] (0:Int) 0) n cap] (26:TypeId),VB.cells [I (-1)] (3:TypeId),VB.cells [VV.nilp] (78:TypeId),VB.cells [VV.nils] (29:TypeId),VB.cells [I k] (3:TypeId),VB.cells [I 1] (30:TypeId),VB.cells [I w.flo,I w.fhi,I w.wlo,I w.whi] (89:TypeId),VB.cells [VV.ptr (VA.own 12 0)] (87:TypeId),VB.loop false (some VEx.ret) (sl35 f) 67 [15,16] as35 bd35,VB.vec xs.length (fun j=>wtL (xs.getD j w0)) 4 (25:TypeId)]
 else bif inK IntKind.i64 (w.flo - (l ((0:Int)+i)).fhi) then
 bif inK IntKind.i64 (w.fhi - (l ((0:Int)+i)).flo) then
 bif decide (w.flo - (l ((0:Int)+i)).fhi<(1:Int)) then
 X VEx.ret [I i,I k,I ((↑n:Int)+(1:Int)),VV.yld 14,VV.ptr (VA.own 5 0),VV.ptr (VA.own 6 0),VV.ptr (VA.own 7 0)] [ptsA n l,VB.cells [VV.slice (VA.el 0 [] (0:Int) 0) n cap] (26:TypeId),VB.cells [I (-1)] (3:TypeId),VB.cells [VV.nilp] (78:TypeId),VB.cells [VV.nils] (29:TypeId),VB.cells [I k] (3:TypeId),VB.cells [I 10] (30:TypeId),VB.cells [I (w.flo - (l ((0:Int)+i)).fhi),I (w.fhi - (l ((0:Int)+i)).flo),I w.wlo,I w.whi] (89:TypeId),VB.cells [VV.ptr (VA.own 12 0)] (87:TypeId),VB.loop false (some VEx.ret) (sl35 f) 67 [15,16] as35 bd35,VB.vec xs.length (fun j=>wtL (xs.getD j w0)) 4 (25:TypeId)]
 else bif decide (w.fhi - (l ((0:Int)+i)).flo > (1073741824:Int)) then
 X VEx.ret [I i,I k,I ((↑n:Int)+(1:Int)),VV.yld 14,VV.ptr (VA.own 5 0),VV.ptr (VA.own 6 0),VV.ptr (VA.own 7 0)] [ptsA n l,VB.cells [VV.slice (VA.el 0 [] (0:Int) 0) n cap] (26:TypeId),VB.cells [I (-1)] (3:TypeId),VB.cells [VV.nilp] (78:TypeId),VB.cells [VV.nils] (29:TypeId),VB.cells [I k] (3:TypeId),VB.cells [I 12] (30:TypeId),VB.cells [I (w.flo - (l ((0:Int)+i)).fhi),I (w.fhi - (l ((0:Int)+i)).flo),I w.wlo,I w.whi] (89:TypeId),VB.cells [VV.ptr (VA.own 12 0)] (87:TypeId),VB.loop false (some VEx.ret) (sl35 f) 67 [15,16] as35 bd35,VB.vec xs.length (fun j=>wtL (xs.getD j w0)) 4 (25:TypeId)]
 else bif decide (w.whi > (100000:Int)) then
 X VEx.ret [I i,I k,I ((↑n:Int)+(1:Int)),VV.yld 14,VV.ptr (VA.own 5 0),VV.ptr (VA.own 6 0),VV.ptr (VA.own 7 0)] [ptsA n l,VB.cells [VV.slice (VA.el 0 [] (0:Int) 0) n cap] (26:TypeId),VB.cells [I (-1)] (3:TypeId),VB.cells [VV.nilp] (78:TypeId),VB.cells [VV.nils] (29:TypeId),VB.cells [I k] (3:TypeId),VB.cells [I 12] (30:TypeId),VB.cells [I (w.flo - (l ((0:Int)+i)).fhi),I (w.fhi - (l ((0:Int)+i)).flo),I w.wlo,I w.whi] (89:TypeId),VB.cells [VV.ptr (VA.own 12 0)] (87:TypeId),VB.loop false (some VEx.ret) (sl35 f) 67 [15,16] as35 bd35,VB.vec xs.length (fun j=>wtL (xs.getD j w0)) 4 (25:TypeId)]
 else bif xs.length.beq xs.length then
 bif roomB (xs.length+1) (32) then
 bif inK IntKind.i64 (k+(1:Int)) then
 bif inK IntKind.i64 (i+(1:Int)) then
 X VEx.normal [I (i+(1:Int)),I (k+(1:Int)),I ((↑n:Int)+(1:Int)),VV.yld 14,VV.ptr (VA.own 5 0),VV.ptr (VA.own 6 0),VV.ptr (VA.own 7 0)] [ptsA n l,VB.cells [VV.slice (VA.el 0 [] (0:Int) 0) n cap] (26:TypeId),VB.cells [I (-1)] (3:TypeId),VB.cells [VV.nilp] (78:TypeId),VB.cells [VV.sl 15 (xs.length+1)] (29:TypeId),VB.cells [I 0] (3:TypeId),VB.cells [I 0] (30:TypeId),VB.cells [I (w.flo - (l ((0:Int)+i)).fhi),I (w.fhi - (l ((0:Int)+i)).flo),I w.wlo,I w.whi] (89:TypeId),VB.cells [VV.ptr (VA.own 12 0)] (87:TypeId),VB.loop true none (sl35 f) 67 [15,16] as35 bd35,VB.vec (xs.length+1) (catG xs.length (fun j=>wtL (xs.getD j w0)) fun j=>List.take (4) (List.drop (j*(4)) [I (w.flo - (l ((0:Int)+i)).fhi),I (w.fhi - (l ((0:Int)+i)).flo),I w.wlo,I w.whi])) (4) 25]
 else False
 else False
 else False
 else False
 else False
 else False
 else bif decide ((l ((0:Int)+i)).k=(2:Int)) then
 bif !spanB (l ((0:Int)+i)).hlo (l ((0:Int)+i)).hhi (0:Int) (1099511627776:Int) then
 X VEx.ret [I i,I k,I ((↑n:Int)+(1:Int)),VV.yld 14,VV.ptr (VA.own 5 0),VV.ptr (VA.own 6 0),VV.ptr (VA.own 7 0)] [ptsA n l,VB.cells [VV.slice (VA.el 0 [] (0:Int) 0) n cap] (26:TypeId),VB.cells [I (-1)] (3:TypeId),VB.cells [VV.nilp] (78:TypeId),VB.cells [VV.nils] (29:TypeId),VB.cells [I k] (3:TypeId),VB.cells [I 1] (30:TypeId),VB.cells [I w.flo,I w.fhi,I w.wlo,I w.whi] (89:TypeId),VB.cells [VV.ptr (VA.own 12 0)] (87:TypeId),VB.loop false (some VEx.ret) (sl35 f) 67 [15,16] as35 bd35,VB.vec xs.length (fun j=>wtL (xs.getD j w0)) 4 (25:TypeId)]
 else bif decide (w.fhi=(0:Int)) then
 False
 else bif inK IntKind.i64 (quoZ (l ((0:Int)+i)).hlo w.fhi) then
 bif inK IntKind.i64 (w.wlo+quoZ (l ((0:Int)+i)).hlo w.fhi) then
 upOk (l ((0:Int)+i)).hhi w.flo/\bif inK IntKind.i64 (w.whi+quoZ ((l ((0:Int)+i)).hhi+w.flo - (1:Int)) w.flo) then
 bif decide (w.flo<(1:Int)) then
 X VEx.ret [I i,I k,I ((↑n:Int)+(1:Int)),VV.yld 14,VV.ptr (VA.own 5 0),VV.ptr (VA.own 6 0),VV.ptr (VA.own 7 0)] [ptsA n l,VB.cells [VV.slice (VA.el 0 [] (0:Int) 0) n cap] (26:TypeId),VB.cells [I (-1)] (3:TypeId),VB.cells [VV.nilp] (78:TypeId),VB.cells [VV.nils] (29:TypeId),VB.cells [I k] (3:TypeId),VB.cells [I 10] (30:TypeId),VB.cells [I w.flo,I w.fhi,I (w.wlo+quoZ (l ((0:Int)+i)).hlo w.fhi),I (w.whi+quoZ ((l ((0:Int)+i)).hhi+w.flo - (1:Int)) w.flo)] (89:TypeId),VB.cells [VV.ptr (VA.own 12 0)] (87:TypeId),VB.loop false (some VEx.ret) (sl35 f) 67 [15,16] as35 bd35,VB.vec xs.length (fun j=>wtL (xs.getD j w0)) 4 (25:TypeId)]
 else bif decide (w.fhi > (1073741824:Int)) then
 X VEx.ret [I i,I k,I ((↑n:Int)+(1:Int)),VV.yld 14,VV.ptr (VA.own 5 0),VV.ptr (VA.own 6 0),VV.ptr (VA.own 7 0)] [ptsA n l,VB.cells [VV.slice (VA.el 0 [] (0:Int) 0) n cap] (26:TypeId),VB.cells [I (-1)] (3:TypeId),VB.cells [VV.nilp] (78:TypeId),VB.cells [VV.nils] (29:TypeId),VB.cells [I k] (3:TypeId),VB.cells [I 12] (30:TypeId),VB.cells [I w.flo,I w.fhi,I (w.wlo+quoZ (l ((0:Int)+i)).hlo w.fhi),I (w.whi+quoZ ((l ((0:Int)+i)).hhi+w.flo - (1:Int)) w.flo)] (89:TypeId),VB.cells [VV.ptr (VA.own 12 0)] (87:TypeId),VB.loop false (some VEx.ret) (sl35 f) 67 [15,16] as35 bd35,VB.vec xs.length (fun j=>wtL (xs.getD j w0)) 4 (25:TypeId)]
 else bif decide (w.whi+quoZ ((l ((0:Int)+i)).hhi+w.flo - (1:Int)) w.flo > (100000:Int)) then
 X VEx.ret [I i,I k,I ((↑n:Int)+(1:Int)),VV.yld 14,VV.ptr (VA.own 5 0),VV.ptr (VA.own 6 0),VV.ptr (VA.own 7 0)] [ptsA n l,VB.cells [VV.slice (VA.el 0 [] (0:Int) 0) n cap] (26:TypeId),VB.cells [I (-1)] (3:TypeId),VB.cells [VV.nilp] (78:TypeId),VB.cells [VV.nils] (29:TypeId),VB.cells [I k] (3:TypeId),VB.cells [I 12] (30:TypeId),VB.cells [I w.flo,I w.fhi,I (w.wlo+quoZ (l ((0:Int)+i)).hlo w.fhi),I (w.whi+quoZ ((l ((0:Int)+i)).hhi+w.flo - (1:Int)) w.flo)] (89:TypeId),VB.cells [VV.ptr (VA.own 12 0)] (87:TypeId),VB.loop false (some VEx.ret) (sl35 f) 67 [15,16] as35 bd35,VB.vec xs.length (fun j=>wtL (xs.getD j w0)) 4 (25:TypeId)]
 else bif xs.length.beq xs.length then
 bif roomB (xs.length+1) (32) then
 bif inK IntKind.i64 (k+(1:Int)) then
 bif inK IntKind.i64 (i+(1:Int)) then
 X VEx.normal [I (i+(1:Int)),I (k+(1:Int)),I ((↑n:Int)+(1:Int)),VV.yld 14,VV.ptr (VA.own 5 0),VV.ptr (VA.own 6 0),VV.ptr (VA.own 7 0)] [ptsA n l,VB.cells [VV.slice (VA.el 0 [] (0:Int) 0) n cap] (26:TypeId),VB.cells [I (-1)] (3:TypeId),VB.cells [VV.nilp] (78:TypeId),VB.cells [VV.sl 15 (xs.length+1)] (29:TypeId),VB.cells [I 0] (3:TypeId),VB.cells [I 0] (30:TypeId),VB.cells [I w.flo,I w.fhi,I (w.wlo+quoZ (l ((0:Int)+i)).hlo w.fhi),I (w.whi+quoZ ((l ((0:Int)+i)).hhi+w.flo - (1:Int)) w.flo)] (89:TypeId),VB.cells [VV.ptr (VA.own 12 0)] (87:TypeId),VB.loop true none (sl35 f) 67 [15,16] as35 bd35,VB.vec (xs.length+1) (catG xs.length (fun j=>wtL (xs.getD j w0)) fun j=>List.take (4) (List.drop (j*(4)) [I w.flo,I w.fhi,I (w.wlo+quoZ (l ((0:Int)+i)).hlo w.fhi),I (w.whi+quoZ ((l ((0:Int)+i)).hhi+w.flo - (1:Int)) w.flo)])) (4) 25]
 else False
 else False
 else False
 else False
 else False
 else False
 else False
 else bif decide ((l ((0:Int)+i)).k=(3:Int)) then
 bif spanB (l ((0:Int)+i)).wlo (l ((0:Int)+i)).whi (0:Int) (100000:Int) then
 bif !spanB (l ((0:Int)+i)).slo (l ((0:Int)+i)).shi (0:Int) (10000:Int) then
 X VEx.ret [I i,I k,I ((↑n:Int)+(1:Int)),VV.yld 14,VV.ptr (VA.own 5 0),VV.ptr (VA.own 6 0),VV.ptr (VA.own 7 0)] [ptsA n l,VB.cells [VV.slice (VA.el 0 [] (0:Int) 0) n cap] (26:TypeId),VB.cells [I (-1)] (3:TypeId),VB.cells [VV.nilp] (78:TypeId),VB.cells [VV.nils] (29:TypeId),VB.cells [I k] (3:TypeId),VB.cells [I 1] (30:TypeId),VB.cells [I w.flo,I w.fhi,I w.wlo,I w.whi] (89:TypeId),VB.cells [VV.ptr (VA.own 12 0)] (87:TypeId),VB.loop false (some VEx.ret) (sl35 f) 67 [15,16] as35 bd35,VB.vec xs.length (fun j=>wtL (xs.getD j w0)) 4 (25:TypeId)]
 else bif decide (w.wlo > (l ((0:Int)+i)).wlo) then
 bif decide (w.whi > (l ((0:Int)+i)).whi) then
 bif inK IntKind.i64 ((10000:Int) - (l ((0:Int)+i)).shi) then
 meanOk w.wlo ((10000:Int) - (l ((0:Int)+i)).shi) (l ((0:Int)+i)).wlo (l ((0:Int)+i)).shi/\bif inK IntKind.i64 ((10000:Int) - (l ((0:Int)+i)).slo) then
 meanOk w.whi ((10000:Int) - (l ((0:Int)+i)).slo) (l ((0:Int)+i)).whi (l ((0:Int)+i)).slo/\bif decide (w.flo<(1:Int)) then
 X VEx.ret [I i,I k,I ((↑n:Int)+(1:Int)),VV.yld 14,VV.ptr (VA.own 5 0),VV.ptr (VA.own 6 0),VV.ptr (VA.own 7 0)] [ptsA n l,VB.cells [VV.slice (VA.el 0 [] (0:Int) 0) n cap] (26:TypeId),VB.cells [I (-1)] (3:TypeId),VB.cells [VV.nilp] (78:TypeId),VB.cells [VV.nils] (29:TypeId),VB.cells [I k] (3:TypeId),VB.cells [I 10] (30:TypeId),VB.cells [I w.flo,I w.fhi,I (mD w.wlo ((10000:Int) - (l ((0:Int)+i)).shi) (l ((0:Int)+i)).wlo (l ((0:Int)+i)).shi),I (mU w.whi ((10000:Int) - (l ((0:Int)+i)).slo) (l ((0:Int)+i)).whi (l ((0:Int)+i)).slo)] (89:TypeId),VB.cells [VV.ptr (VA.own 12 0)] (87:TypeId),VB.loop false (some VEx.ret) (sl35 f) 67 [15,16] as35 bd35,VB.vec xs.length (fun j=>wtL (xs.getD j w0)) 4 (25:TypeId)]
 else bif decide (w.fhi > (1073741824:Int)) then
 X VEx.ret [I i,I k,I ((↑n:Int)+(1:Int)),VV.yld 14,VV.ptr (VA.own 5 0),VV.ptr (VA.own 6 0),VV.ptr (VA.own 7 0)] [ptsA n l,VB.cells [VV.slice (VA.el 0 [] (0:Int) 0) n cap] (26:TypeId),VB.cells [I (-1)] (3:TypeId),VB.cells [VV.nilp] (78:TypeId),VB.cells [VV.nils] (29:TypeId),VB.cells [I k] (3:TypeId),VB.cells [I 12] (30:TypeId),VB.cells [I w.flo,I w.fhi,I (mD w.wlo ((10000:Int) - (l ((0:Int)+i)).shi) (l ((0:Int)+i)).wlo (l ((0:Int)+i)).shi),I (mU w.whi ((10000:Int) - (l ((0:Int)+i)).slo) (l ((0:Int)+i)).whi (l ((0:Int)+i)).slo)] (89:TypeId),VB.cells [VV.ptr (VA.own 12 0)] (87:TypeId),VB.loop false (some VEx.ret) (sl35 f) 67 [15,16] as35 bd35,VB.vec xs.length (fun j=>wtL (xs.getD j w0)) 4 (25:TypeId)]
 else bif decide (mU w.whi ((10000:Int) - (l ((0:Int)+i)).slo) (l ((0:Int)+i)).whi (l ((0:Int)+i)).slo > (100000:Int)) then
 X VEx.ret [I i,I k,I ((↑n:Int)+(1:Int)),VV.yld 14,VV.ptr (VA.own 5 0),VV.ptr (VA.own 6 0),VV.ptr (VA.own 7 0)] [ptsA n l,VB.cells [VV.slice (VA.el 0 [] (0:Int) 0) n cap] (26:TypeId),VB.cells [I (-1)] (3:TypeId),VB.cells [VV.nilp] (78:TypeId),VB.cells [VV.nils] (29:TypeId),VB.cells [I k] (3:TypeId),VB.cells [I 12] (30:TypeId),VB.cells [I w.flo,I w.fhi,I (mD w.wlo ((10000:Int) - (l ((0:Int)+i)).shi) (l ((0:Int)+i)).wlo (l ((0:Int)+i)).shi),I (mU w.whi ((10000:Int) - (l ((0:Int)+i)).slo) (l ((0:Int)+i)).whi (l ((0:Int)+i)).slo)] (89:TypeId),VB.cells [VV.ptr (VA.own 12 0)] (87:TypeId),VB.loop false (some VEx.ret) (sl35 f) 67 [15,16] as35 bd35,VB.vec xs.length (fun j=>wtL (xs.getD j w0)) 4 (25:TypeId)]
 else bif xs.length.beq xs.length then
 bif roomB (xs.length+1) (32) then
 bif inK IntKind.i64 (k+(1:Int)) then
 bif inK IntKind.i64 (i+(1:Int)) then
 X VEx.normal [I (i+(1:Int)),I (k+(1:Int)),I ((↑n:Int)+(1:Int)),VV.yld 14,VV.ptr (VA.own 5 0),VV.ptr (VA.own 6 0),VV.ptr (VA.own 7 0)] [ptsA n l,VB.cells [VV.slice (VA.el 0 [] (0:Int) 0) n cap] (26:TypeId),VB.cells [I (-1)] (3:TypeId),VB.cells [VV.nilp] (78:TypeId),VB.cells [VV.sl 15 (xs.length+1)] (29:TypeId),VB.cells [I 0] (3:TypeId),VB.cells [I 0] (30:TypeId),VB.cells [I w.flo,I w.fhi,I (mD w.wlo ((10000:Int) - (l ((0:Int)+i)).shi) (l ((0:Int)+i)).wlo (l ((0:Int)+i)).shi),I (mU w.whi ((10000:Int) - (l ((0:Int)+i)).slo) (l ((0:Int)+i)).whi (l ((0:Int)+i)).slo)] (89:TypeId),VB.cells [VV.ptr (VA.own 12 0)] (87:TypeId),VB.loop true none (sl35 f) 67 [15,16] as35 bd35,VB.vec (xs.length+1) (catG xs.length (fun j=>wtL (xs.getD j w0)) fun j=>List.take (4) (List.drop (j*(4)) [I w.flo,I w.fhi,I (mD w.wlo ((10000:Int) - (l ((0:Int)+i)).shi) (l ((0:Int)+i)).wlo (l ((0:Int)+i)).shi),I (mU w.whi ((10000:Int) - (l ((0:Int)+i)).slo) (l ((0:Int)+i)).whi (l ((0:Int)+i)).slo)])) (4) 25]
 else False
 else False
 else False
 else False
 else False
 else False
 else bif inK IntKind.i64 ((10000:Int) - (l ((0:Int)+i)).shi) then
 meanOk w.wlo ((10000:Int) - (l ((0:Int)+i)).shi) (l ((0:Int)+i)).wlo (l ((0:Int)+i)).shi/\bif inK IntKind.i64 ((10000:Int) - (l ((0:Int)+i)).shi) then
 meanOk w.whi ((10000:Int) - (l ((0:Int)+i)).shi) (l ((0:Int)+i)).whi (l ((0:Int)+i)).shi/\bif decide (w.flo<(1:Int)) then
 X VEx.ret [I i,I k,I ((↑n:Int)+(1:Int)),VV.yld 14,VV.ptr (VA.own 5 0),VV.ptr (VA.own 6 0),VV.ptr (VA.own 7 0)] [ptsA n l,VB.cells [VV.slice (VA.el 0 [] (0:Int) 0) n cap] (26:TypeId),VB.cells [I (-1)] (3:TypeId),VB.cells [VV.nilp] (78:TypeId),VB.cells [VV.nils] (29:TypeId),VB.cells [I k] (3:TypeId),VB.cells [I 10] (30:TypeId),VB.cells [I w.flo,I w.fhi,I (mD w.wlo ((10000:Int) - (l ((0:Int)+i)).shi) (l ((0:Int)+i)).wlo (l ((0:Int)+i)).shi),I (mU w.whi ((10000:Int) - (l ((0:Int)+i)).shi) (l ((0:Int)+i)).whi (l ((0:Int)+i)).shi)] (89:TypeId),VB.cells [VV.ptr (VA.own 12 0)] (87:TypeId),VB.loop false (some VEx.ret) (sl35 f) 67 [15,16] as35 bd35,VB.vec xs.length (fun j=>wtL (xs.getD j w0)) 4 (25:TypeId)]
 else bif decide (w.fhi > (1073741824:Int)) then
 X VEx.ret [I i,I k,I ((↑n:Int)+(1:Int)),VV.yld 14,VV.ptr (VA.own 5 0),VV.ptr (VA.own 6 0),VV.ptr (VA.own 7 0)] [ptsA n l,VB.cells [VV.slice (VA.el 0 [] (0:Int) 0) n cap] (26:TypeId),VB.cells [I (-1)] (3:TypeId),VB.cells [VV.nilp] (78:TypeId),VB.cells [VV.nils] (29:TypeId),VB.cells [I k] (3:TypeId),VB.cells [I 12] (30:TypeId),VB.cells [I w.flo,I w.fhi,I (mD w.wlo ((10000:Int) - (l ((0:Int)+i)).shi) (l ((0:Int)+i)).wlo (l ((0:Int)+i)).shi),I (mU w.whi ((10000:Int) - (l ((0:Int)+i)).shi) (l ((0:Int)+i)).whi (l ((0:Int)+i)).shi)] (89:TypeId),VB.cells [VV.ptr (VA.own 12 0)] (87:TypeId),VB.loop false (some VEx.ret) (sl35 f) 67 [15,16] as35 bd35,VB.vec xs.length (fun j=>wtL (xs.getD j w0)) 4 (25:TypeId)]
 else bif decide (mU w.whi ((10000:Int) - (l ((0:Int)+i)).shi) (l ((0:Int)+i)).whi (l ((0:Int)+i)).shi > (100000:Int)) then
 X VEx.ret [I i,I k,I ((↑n:Int)+(1:Int)),VV.yld 14,VV.ptr (VA.own 5 0),VV.ptr (VA.own 6 0),VV.ptr (VA.own 7 0)] [ptsA n l,VB.cells [VV.slice (VA.el 0 [] (0:Int) 0) n cap] (26:TypeId),VB.cells [I (-1)] (3:TypeId),VB.cells [VV.nilp] (78:TypeId),VB.cells [VV.nils] (29:TypeId),VB.cells [I k] (3:TypeId),VB.cells [I 12] (30:TypeId),VB.cells [I w.flo,I w.fhi,I (mD w.wlo ((10000:Int) - (l ((0:Int)+i)).shi) (l ((0:Int)+i)).wlo (l ((0:Int)+i)).shi),I (mU w.whi ((10000:Int) - (l ((0:Int)+i)).shi) (l ((0:Int)+i)).whi (l ((0:Int)+i)).shi)] (89:TypeId),VB.cells [VV.ptr (VA.own 12 0)] (87:TypeId),VB.loop false (some VEx.ret) (sl35 f) 67 [15,16] as35 bd35,VB.vec xs.length (fun j=>wtL (xs.getD j w0)) 4 (25:TypeId)]
 else bif xs.length.beq xs.length then
 bif roomB (xs.length+1) (32) then
 bif inK IntKind.i64 (k+(1:Int)) then
 bif inK IntKind.i64 (i+(1:Int)) then
 X VEx.normal [I (i+(1:Int)),I (k+(1:Int)),I ((↑n:Int)+(1:Int)),VV.yld 14,VV.ptr (VA.own 5 0),VV.ptr (VA.own 6 0),VV.ptr (VA.own 7 0)] [ptsA n l,VB.cells [VV.slice (VA.el 0 [] (0:Int) 0) n cap] (26:TypeId),VB.cells [I (-1)] (3:TypeId),VB.cells [VV.nilp] (78:TypeId),VB.cells [VV.sl 15 (xs.length+1)] (29:TypeId),VB.cells [I 0] (3:TypeId),VB.cells [I 0] (30:TypeId),VB.cells [I w.flo,I w.fhi,I (mD w.wlo ((10000:Int) - (l ((0:Int)+i)).shi) (l ((0:Int)+i)).wlo (l ((0:Int)+i)).shi),I (mU w.whi ((10000:Int) - (l ((0:Int)+i)).shi) (l ((0:Int)+i)).whi (l ((0:Int)+i)).shi)] (89:TypeId),VB.cells [VV.ptr (VA.own 12 0)] (87:TypeId),VB.loop true none (sl35 f) 67 [15,16] as35 bd35,VB.vec (xs.length+1) (catG xs.length (fun j=>wtL (xs.getD j w0)) fun j=>List.take (4) (List.drop (j*(4)) [I w.flo,I w.fhi,I (mD w.wlo ((10000:Int) - (l ((0:Int)+i)).shi) (l ((0:Int)+i)).wlo (l ((0:Int)+i)).shi),I (mU w.whi ((10000:Int) - (l ((0:Int)+i)).shi) (l ((0:Int)+i)).whi (l ((0:Int)+i)).shi)])) (4) 25]
 else False
 else False
 else False
 else False
 else False
 else False
 else bif decide (w.whi > (l ((0:Int)+i)).whi) then
 bif inK IntKind.i64 ((10000:Int) - (l ((0:Int)+i)).slo) then
 meanOk w.wlo ((10000:Int) - (l ((0:Int)+i)).slo) (l ((0:Int)+i)).wlo (l ((0:Int)+i)).slo/\bif inK IntKind.i64 ((10000:Int) - (l ((0:Int)+i)).slo) then
 meanOk w.whi ((10000:Int) - (l ((0:Int)+i)).slo) (l ((0:Int)+i)).whi (l ((0:Int)+i)).slo/\bif decide (w.flo<(1:Int)) then
 X VEx.ret [I i,I k,I ((↑n:Int)+(1:Int)),VV.yld 14,VV.ptr (VA.own 5 0),VV.ptr (VA.own 6 0),VV.ptr (VA.own 7 0)] [ptsA n l,VB.cells [VV.slice (VA.el 0 [] (0:Int) 0) n cap] (26:TypeId),VB.cells [I (-1)] (3:TypeId),VB.cells [VV.nilp] (78:TypeId),VB.cells [VV.nils] (29:TypeId),VB.cells [I k] (3:TypeId),VB.cells [I 10] (30:TypeId),VB.cells [I w.flo,I w.fhi,I (mD w.wlo ((10000:Int) - (l ((0:Int)+i)).slo) (l ((0:Int)+i)).wlo (l ((0:Int)+i)).slo),I (mU w.whi ((10000:Int) - (l ((0:Int)+i)).slo) (l ((0:Int)+i)).whi (l ((0:Int)+i)).slo)] (89:TypeId),VB.cells [VV.ptr (VA.own 12 0)] (87:TypeId),VB.loop false (some VEx.ret) (sl35 f) 67 [15,16] as35 bd35,VB.vec xs.length (fun j=>wtL (xs.getD j w0)) 4 (25:TypeId)]
 else bif decide (w.fhi > (1073741824:Int)) then
 X VEx.ret [I i,I k,I ((↑n:Int)+(1:Int)),VV.yld 14,VV.ptr (VA.own 5 0),VV.ptr (VA.own 6 0),VV.ptr (VA.own 7 0)] [ptsA n l,VB.cells [VV.slice (VA.el 0 [] (0:Int) 0) n cap] (26:TypeId),VB.cells [I (-1)] (3:TypeId),VB.cells [VV.nilp] (78:TypeId),VB.cells [VV.nils] (29:TypeId),VB.cells [I k] (3:TypeId),VB.cells [I 12] (30:TypeId),VB.cells [I w.flo,I w.fhi,I (mD w.wlo ((10000:Int) - (l ((0:Int)+i)).slo) (l ((0:Int)+i)).wlo (l ((0:Int)+i)).slo),I (mU w.whi ((10000:Int) - (l ((0:Int)+i)).slo) (l ((0:Int)+i)).whi (l ((0:Int)+i)).slo)] (89:TypeId),VB.cells [VV.ptr (VA.own 12 0)] (87:TypeId),VB.loop false (some VEx.ret) (sl35 f) 67 [15,16] as35 bd35,VB.vec xs.length (fun j=>wtL (xs.getD j w0)) 4 (25:TypeId)]
 else bif decide (mU w.whi ((10000:Int) - (l ((0:Int)+i)).slo) (l ((0:Int)+i)).whi (l ((0:Int)+i)).slo > (100000:Int)) then
 X VEx.ret [I i,I k,I ((↑n:Int)+(1:Int)),VV.yld 14,VV.ptr (VA.own 5 0),VV.ptr (VA.own 6 0),VV.ptr (VA.own 7 0)] [ptsA n l,VB.cells [VV.slice (VA.el 0 [] (0:Int) 0) n cap] (26:TypeId),VB.cells [I (-1)] (3:TypeId),VB.cells [VV.nilp] (78:TypeId),VB.cells [VV.nils] (29:TypeId),VB.cells [I k] (3:TypeId),VB.cells [I 12] (30:TypeId),VB.cells [I w.flo,I w.fhi,I (mD w.wlo ((10000:Int) - (l ((0:Int)+i)).slo) (l ((0:Int)+i)).wlo (l ((0:Int)+i)).slo),I (mU w.whi ((10000:Int) - (l ((0:Int)+i)).slo) (l ((0:Int)+i)).whi (l ((0:Int)+i)).slo)] (89:TypeId),VB.cells [VV.ptr (VA.own 12 0)] (87:TypeId),VB.loop false (some VEx.ret) (sl35 f) 67 [15,16] as35 bd35,VB.vec xs.length (fun j=>wtL (xs.getD j w0)) 4 (25:TypeId)]
 else bif xs.length.beq xs.length then
 bif roomB (xs.length+1) (32) then
 bif inK IntKind.i64 (k+(1:Int)) then
 bif inK IntKind.i64 (i+(1:Int)) then
 X VEx.normal [I (i+(1:Int)),I (k+(1:Int)),I ((↑n:Int)+(1:Int)),VV.yld 14,VV.ptr (VA.own 5 0),VV.ptr (VA.own 6 0),VV.ptr (VA.own 7 0)] [ptsA n l,VB.cells [VV.slice (VA.el 0 [] (0:Int) 0) n cap] (26:TypeId),VB.cells [I (-1)] (3:TypeId),VB.cells [VV.nilp] (78:TypeId),VB.cells [VV.sl 15 (xs.length+1)] (29:TypeId),VB.cells [I 0] (3:TypeId),VB.cells [I 0] (30:TypeId),VB.cells [I w.flo,I w.fhi,I (mD w.wlo ((10000:Int) - (l ((0:Int)+i)).slo) (l ((0:Int)+i)).wlo (l ((0:Int)+i)).slo),I (mU w.whi ((10000:Int) - (l ((0:Int)+i)).slo) (l ((0:Int)+i)).whi (l ((0:Int)+i)).slo)] (89:TypeId),VB.cells [VV.ptr (VA.own 12 0)] (87:TypeId),VB.loop true none (sl35 f) 67 [15,16] as35 bd35,VB.vec (xs.length+1) (catG xs.length (fun j=>wtL (xs.getD j w0)) fun j=>List.take (4) (List.drop (j*(4)) [I w.flo,I w.fhi,I (mD w.wlo ((10000:Int) - (l ((0:Int)+i)).slo) (l ((0:Int)+i)).wlo (l ((0:Int)+i)).slo),I (mU w.whi ((10000:Int) - (l ((0:Int)+i)).slo) (l ((0:Int)+i)).whi (l ((0:Int)+i)).slo)])) (4) 25]
 else False
 else False
 else False
 else False
 else False
 else False
 else bif inK IntKind.i64 ((10000:Int) - (l ((0:Int)+i)).slo) then
 meanOk w.wlo ((10000:Int) - (l ((0:Int)+i)).slo) (l ((0:Int)+i)).wlo (l ((0:Int)+i)).slo/\bif inK IntKind.i64 ((10000:Int) - (l ((0:Int)+i)).shi) then
 meanOk w.whi ((10000:Int) - (l ((0:Int)+i)).shi) (l ((0:Int)+i)).whi (l ((0:Int)+i)).shi/\bif decide (w.flo<(1:Int)) then
 X VEx.ret [I i,I k,I ((↑n:Int)+(1:Int)),VV.yld 14,VV.ptr (VA.own 5 0),VV.ptr (VA.own 6 0),VV.ptr (VA.own 7 0)] [ptsA n l,VB.cells [VV.slice (VA.el 0 [] (0:Int) 0) n cap] (26:TypeId),VB.cells [I (-1)] (3:TypeId),VB.cells [VV.nilp] (78:TypeId),VB.cells [VV.nils] (29:TypeId),VB.cells [I k] (3:TypeId),VB.cells [I 10] (30:TypeId),VB.cells [I w.flo,I w.fhi,I (mD w.wlo ((10000:Int) - (l ((0:Int)+i)).slo) (l ((0:Int)+i)).wlo (l ((0:Int)+i)).slo),I (mU w.whi ((10000:Int) - (l ((0:Int)+i)).shi) (l ((0:Int)+i)).whi (l ((0:Int)+i)).shi)] (89:TypeId),VB.cells [VV.ptr (VA.own 12 0)] (87:TypeId),VB.loop false (some VEx.ret) (sl35 f) 67 [15,16] as35 bd35,VB.vec xs.length (fun j=>wtL (xs.getD j w0)) 4 (25:TypeId)]
 else bif decide (w.fhi > (1073741824:Int)) then
 X VEx.ret [I i,I k,I ((↑n:Int)+(1:Int)),VV.yld 14,VV.ptr (VA.own 5 0),VV.ptr (VA.own 6 0),VV.ptr (VA.own 7 0)] [ptsA n l,VB.cells [VV.slice (VA.el 0 [] (0:Int) 0) n cap] (26:TypeId),VB.cells [I (-1)] (3:TypeId),VB.cells [VV.nilp] (78:TypeId),VB.cells [VV.nils] (29:TypeId),VB.cells [I k] (3:TypeId),VB.cells [I 12] (30:TypeId),VB.cells [I w.flo,I w.fhi,I (mD w.wlo ((10000:Int) - (l ((0:Int)+i)).slo) (l ((0:Int)+i)).wlo (l ((0:Int)+i)).slo),I (mU w.whi ((10000:Int) - (l ((0:Int)+i)).shi) (l ((0:Int)+i)).whi (l ((0:Int)+i)).shi)] (89:TypeId),VB.cells [VV.ptr (VA.own 12 0)] (87:TypeId),VB.loop false (some VEx.ret) (sl35 f) 67 [15,16] as35 bd35,VB.vec xs.length (fun j=>wtL (xs.getD j w0)) 4 (25:TypeId)]
 else bif decide (mU w.whi ((10000:Int) - (l ((0:Int)+i)).shi) (l ((0:Int)+i)).whi (l ((0:Int)+i)).shi > (100000:Int)) then
 X VEx.ret [I i,I k,I ((↑n:Int)+(1:Int)),VV.yld 14,VV.ptr (VA.own 5 0),VV.ptr (VA.own 6 0),VV.ptr (VA.own 7 0)] [ptsA n l,VB.cells [VV.slice (VA.el 0 [] (0:Int) 0) n cap] (26:TypeId),VB.cells [I (-1)] (3:TypeId),VB.cells [VV.nilp] (78:TypeId),VB.cells [VV.nils] (29:TypeId),VB.cells [I k] (3:TypeId),VB.cells [I 12] (30:TypeId),VB.cells [I w.flo,I w.fhi,I (mD w.wlo ((10000:Int) - (l ((0:Int)+i)).slo) (l ((0:Int)+i)).wlo (l ((0:Int)+i)).slo),I (mU w.whi ((10000:Int) - (l ((0:Int)+i)).shi) (l ((0:Int)+i)).whi (l ((0:Int)+i)).shi)] (89:TypeId),VB.cells [VV.ptr (VA.own 12 0)] (87:TypeId),VB.loop false (some VEx.ret) (sl35 f) 67 [15,16] as35 bd35,VB.vec xs.length (fun j=>wtL (xs.getD j w0)) 4 (25:TypeId)]
 else bif xs.length.beq xs.length then
 bif roomB (xs.length+1) (32) then
 bif inK IntKind.i64 (k+(1:Int)) then
 bif inK IntKind.i64 (i+(1:Int)) then
 X VEx.normal [I (i+(1:Int)),I (k+(1:Int)),I ((↑n:Int)+(1:Int)),VV.yld 14,VV.ptr (VA.own 5 0),VV.ptr (VA.own 6 0),VV.ptr (VA.own 7 0)] [ptsA n l,VB.cells [VV.slice (VA.el 0 [] (0:Int) 0) n cap] (26:TypeId),VB.cells [I (-1)] (3:TypeId),VB.cells [VV.nilp] (78:TypeId),VB.cells [VV.sl 15 (xs.length+1)] (29:TypeId),VB.cells [I 0] (3:TypeId),VB.cells [I 0] (30:TypeId),VB.cells [I w.flo,I w.fhi,I (mD w.wlo ((10000:Int) - (l ((0:Int)+i)).slo) (l ((0:Int)+i)).wlo (l ((0:Int)+i)).slo),I (mU w.whi ((10000:Int) - (l ((0:Int)+i)).shi) (l ((0:Int)+i)).whi (l ((0:Int)+i)).shi)] (89:TypeId),VB.cells [VV.ptr (VA.own 12 0)] (87:TypeId),VB.loop true none (sl35 f) 67 [15,16] as35 bd35,VB.vec (xs.length+1) (catG xs.length (fun j=>wtL (xs.getD j w0)) fun j=>List.take (4) (List.drop (j*(4)) [I w.flo,I w.fhi,I (mD w.wlo ((10000:Int) - (l ((0:Int)+i)).slo) (l ((0:Int)+i)).wlo (l ((0:Int)+i)).slo),I (mU w.whi ((10000:Int) - (l ((0:Int)+i)).shi) (l ((0:Int)+i)).whi (l ((0:Int)+i)).shi)])) (4) 25]
 else False
 else False
 else False
 else False
 else False
 else False
 else X VEx.ret [I i,I k,I ((↑n:Int)+(1:Int)),VV.yld 14,VV.ptr (VA.own 5 0),VV.ptr (VA.own 6 0),VV.ptr (VA.own 7 0)] [ptsA n l,VB.cells [VV.slice (VA.el 0 [] (0:Int) 0) n cap] (26:TypeId),VB.cells [I (-1)] (3:TypeId),VB.cells [VV.nilp] (78:TypeId),VB.cells [VV.nils] (29:TypeId),VB.cells [I k] (3:TypeId),VB.cells [I 1] (30:TypeId),VB.cells [I w.flo,I w.fhi,I w.wlo,I w.whi] (89:TypeId),VB.cells [VV.ptr (VA.own 12 0)] (87:TypeId),VB.loop false (some VEx.ret) (sl35 f) 67 [15,16] as35 bd35,VB.vec xs.length (fun j=>wtL (xs.getD j w0)) 4 (25:TypeId)]
 else X VEx.ret [I i,I k,I ((↑n:Int)+(1:Int)),VV.yld 14,VV.ptr (VA.own 5 0),VV.ptr (VA.own 6 0),VV.ptr (VA.own 7 0)] [ptsA n l,VB.cells [VV.slice (VA.el 0 [] (0:Int) 0) n cap] (26:TypeId),VB.cells [I (-1)] (3:TypeId),VB.cells [VV.nilp] (78:TypeId),VB.cells [VV.nils] (29:TypeId),VB.cells [I k] (3:TypeId),VB.cells [I 1] (30:TypeId),VB.cells [I w.flo,I w.fhi,I w.wlo,I w.whi] (89:TypeId),VB.cells [VV.ptr (VA.own 12 0)] (87:TypeId),VB.loop false (some VEx.ret) (sl35 f) 67 [15,16] as35 bd35,VB.vec xs.length (fun j=>wtL (xs.getD j w0)) 4 (25:TypeId)]
 else False
 else bif inK IntKind.i64 (i+(1:Int)) then
 X VEx.normal [I (i+(1:Int)),I k,I ((↑n:Int)+(1:Int)),VV.yld 14,VV.ptr (VA.own 5 0),VV.ptr (VA.own 6 0),VV.ptr (VA.own 7 0)] [ptsA n l,VB.cells [VV.slice (VA.el 0 [] (0:Int) 0) n cap] (26:TypeId),VB.cells [I (-1)] (3:TypeId),VB.cells [VV.nilp] (78:TypeId),VB.cells [VV.sl 15 xs.length] (29:TypeId),VB.cells [I 0] (3:TypeId),VB.cells [I 0] (30:TypeId),VB.cells [I w.flo,I w.fhi,I w.wlo,I w.whi] (89:TypeId),VB.cells [VV.ptr (VA.own 12 0)] (87:TypeId),VB.loop true none (sl35 f) 67 [15,16] as35 bd35,VB.vec xs.length (fun j=>wtL (xs.getD j w0)) 4 (25:TypeId)]
 else False
 else bif decide (i<(↑n:Int)) then
 bif decide ((0:Int)<=i/\i<(↑n:Int)) then
 (([]:List Int)=[]/\(0:Int)<=(0:Int)+i/\(0:Int)+i<(↑n:Int))/\bif decide ((l ((0:Int)+i)).k=(0:Int)) then
 bif spanB (l ((0:Int)+i)).flo (l ((0:Int)+i)).fhi (1:Int) (1073741824:Int) then
 bif !spanB (l ((0:Int)+i)).wlo (l ((0:Int)+i)).whi (0:Int) (100000:Int) then
 X VEx.ret [I i,I k,I ((↑n:Int)+(1:Int)),VV.yld 14,VV.ptr (VA.own 5 0),VV.ptr (VA.own 6 0),VV.ptr (VA.own 7 0)] [ptsA n l,VB.cells [VV.slice (VA.el 0 [] (0:Int) 0) n cap] (26:TypeId),VB.cells [I (-1)] (3:TypeId),VB.cells [VV.nilp] (78:TypeId),VB.cells [VV.nils] (29:TypeId),VB.cells [I k] (3:TypeId),VB.cells [I 1] (30:TypeId),VB.cells [I w.flo,I w.fhi,I w.wlo,I w.whi] (89:TypeId),VB.cells [VV.ptr (VA.own 12 0)] (87:TypeId),VB.loop false (some VEx.ret) (sl35 f) 67 [15,16] as35 bd35,VB.vec xs.length (fun j=>wtL (xs.getD j w0)) 4 (25:TypeId)]
 else bif decide ((l ((0:Int)+i)).wlo<w.wlo) then
 bif decide ((l ((0:Int)+i)).whi<w.whi) then
 meanOk w.wlo w.flo (l ((0:Int)+i)).wlo (l ((0:Int)+i)).fhi/\meanOk w.whi w.fhi (l ((0:Int)+i)).whi (l ((0:Int)+i)).flo/\bif inK IntKind.i64 (w.flo+(l ((0:Int)+i)).flo) then
 bif inK IntKind.i64 (w.fhi+(l ((0:Int)+i)).fhi) then
 bif decide (w.flo+(l ((0:Int)+i)).flo<(1:Int)) then
 X VEx.ret [I i,I k,I ((↑n:Int)+(1:Int)),VV.yld 14,VV.ptr (VA.own 5 0),VV.ptr (VA.own 6 0),VV.ptr (VA.own 7 0)] [ptsA n l,VB.cells [VV.slice (VA.el 0 [] (0:Int) 0) n cap] (26:TypeId),VB.cells [I (-1)] (3:TypeId),VB.cells [VV.nilp] (78:TypeId),VB.cells [VV.nils] (29:TypeId),VB.cells [I k] (3:TypeId),VB.cells [I 10] (30:TypeId),VB.cells [I (w.flo+(l ((0:Int)+i)).flo),I (w.fhi+(l ((0:Int)+i)).fhi),I (mD w.wlo w.flo (l ((0:Int)+i)).wlo (l ((0:Int)+i)).fhi),I (mU w.whi w.fhi (l ((0:Int)+i)).whi (l ((0:Int)+i)).flo)] (89:TypeId),VB.cells [VV.ptr (VA.own 12 0)] (87:TypeId),VB.loop false (some VEx.ret) (sl35 f) 67 [15,16] as35 bd35,VB.vec xs.length (fun j=>wtL (xs.getD j w0)) 4 (25:TypeId)]
 else bif decide (w.fhi+(l ((0:Int)+i)).fhi > (1073741824:Int)) then
 X VEx.ret [I i,I k,I ((↑n:Int)+(1:Int)),VV.yld 14,VV.ptr (VA.own 5 0),VV.ptr (VA.own 6 0),VV.ptr (VA.own 7 0)] [ptsA n l,VB.cells [VV.slice (VA.el 0 [] (0:Int) 0) n cap] (26:TypeId),VB.cells [I (-1)] (3:TypeId),VB.cells [VV.nilp] (78:TypeId),VB.cells [VV.nils] (29:TypeId),VB.cells [I k] (3:TypeId),VB.cells [I 12] (30:TypeId),VB.cells [I (w.flo+(l ((0:Int)+i)).flo),I (w.fhi+(l ((0:Int)+i)).fhi),I (mD w.wlo w.flo (l ((0:Int)+i)).wlo (l ((0:Int)+i)).fhi),I (mU w.whi w.fhi (l ((0:Int)+i)).whi (l ((0:Int)+i)).flo)] (89:TypeId),VB.cells [VV.ptr (VA.own 12 0)] (87:TypeId),VB.loop false (some VEx.ret) (sl35 f) 67 [15,16] as35 bd35,VB.vec xs.length (fun j=>wtL (xs.getD j w0)) 4 (25:TypeId)]
 else bif decide (mU w.whi w.fhi (l ((0:Int)+i)).whi (l ((0:Int)+i)).flo > (100000:Int)) then
 X VEx.ret [I i,I k,I ((↑n:Int)+(1:Int)),VV.yld 14,VV.ptr (VA.own 5 0),VV.ptr (VA.own 6 0),VV.ptr (VA.own 7 0)] [ptsA n l,VB.cells [VV.slice (VA.el 0 [] (0:Int) 0) n cap] (26:TypeId),VB.cells [I (-1)] (3:TypeId),VB.cells [VV.nilp] (78:TypeId),VB.cells [VV.nils] (29:TypeId),VB.cells [I k] (3:TypeId),VB.cells [I 12] (30:TypeId),VB.cells [I (w.flo+(l ((0:Int)+i)).flo),I (w.fhi+(l ((0:Int)+i)).fhi),I (mD w.wlo w.flo (l ((0:Int)+i)).wlo (l ((0:Int)+i)).fhi),I (mU w.whi w.fhi (l ((0:Int)+i)).whi (l ((0:Int)+i)).flo)] (89:TypeId),VB.cells [VV.ptr (VA.own 12 0)] (87:TypeId),VB.loop false (some VEx.ret) (sl35 f) 67 [15,16] as35 bd35,VB.vec xs.length (fun j=>wtL (xs.getD j w0)) 4 (25:TypeId)]
 else bif xs.length.beq xs.length then
 bif roomB (xs.length+1) (32) then
 bif inK IntKind.i64 (k+(1:Int)) then
 bif inK IntKind.i64 (i+(1:Int)) then
 X VEx.normal [I (i+(1:Int)),I (k+(1:Int)),I ((↑n:Int)+(1:Int)),VV.yld 14,VV.ptr (VA.own 5 0),VV.ptr (VA.own 6 0),VV.ptr (VA.own 7 0)] [ptsA n l,VB.cells [VV.slice (VA.el 0 [] (0:Int) 0) n cap] (26:TypeId),VB.cells [I (-1)] (3:TypeId),VB.cells [VV.nilp] (78:TypeId),VB.cells [VV.sl 15 (xs.length+1)] (29:TypeId),VB.cells [I 0] (3:TypeId),VB.cells [I 0] (30:TypeId),VB.cells [I (w.flo+(l ((0:Int)+i)).flo),I (w.fhi+(l ((0:Int)+i)).fhi),I (mD w.wlo w.flo (l ((0:Int)+i)).wlo (l ((0:Int)+i)).fhi),I (mU w.whi w.fhi (l ((0:Int)+i)).whi (l ((0:Int)+i)).flo)] (89:TypeId),VB.cells [VV.ptr (VA.own 12 0)] (87:TypeId),VB.loop true none (sl35 f) 67 [15,16] as35 bd35,VB.vec (xs.length+1) (catG xs.length (fun j=>wtL (xs.getD j w0)) fun j=>List.take (4) (List.drop (j*(4)) [I (w.flo+(l ((0:Int)+i)).flo),I (w.fhi+(l ((0:Int)+i)).fhi),I (mD w.wlo w.flo (l ((0:Int)+i)).wlo (l ((0:Int)+i)).fhi),I (mU w.whi w.fhi (l ((0:Int)+i)).whi (l ((0:Int)+i)).flo)])) (4) 25]
 else False
 else False
 else False
 else False
 else False
 else False
 else meanOk w.wlo w.flo (l ((0:Int)+i)).wlo (l ((0:Int)+i)).fhi/\meanOk w.whi w.flo (l ((0:Int)+i)).whi (l ((0:Int)+i)).fhi/\bif inK IntKind.i64 (w.flo+(l ((0:Int)+i)).flo) then
 bif inK IntKind.i64 (w.fhi+(l ((0:Int)+i)).fhi) then
 bif decide (w.flo+(l ((0:Int)+i)).flo<(1:Int)) then
 X VEx.ret [I i,I k,I ((↑n:Int)+(1:Int)),VV.yld 14,VV.ptr (VA.own 5 0),VV.ptr (VA.own 6 0),VV.ptr (VA.own 7 0)] [ptsA n l,VB.cells [VV.slice (VA.el 0 [] (0:Int) 0) n cap] (26:TypeId),VB.cells [I (-1)] (3:TypeId),VB.cells [VV.nilp] (78:TypeId),VB.cells [VV.nils] (29:TypeId),VB.cells [I k] (3:TypeId),VB.cells [I 10] (30:TypeId),VB.cells [I (w.flo+(l ((0:Int)+i)).flo),I (w.fhi+(l ((0:Int)+i)).fhi),I (mD w.wlo w.flo (l ((0:Int)+i)).wlo (l ((0:Int)+i)).fhi),I (mU w.whi w.flo (l ((0:Int)+i)).whi (l ((0:Int)+i)).fhi)] (89:TypeId),VB.cells [VV.ptr (VA.own 12 0)] (87:TypeId),VB.loop false (some VEx.ret) (sl35 f) 67 [15,16] as35 bd35,VB.vec xs.length (fun j=>wtL (xs.getD j w0)) 4 (25:TypeId)]
 else bif decide (w.fhi+(l ((0:Int)+i)).fhi > (1073741824:Int)) then
 X VEx.ret [I i,I k,I ((↑n:Int)+(1:Int)),VV.yld 14,VV.ptr (VA.own 5 0),VV.ptr (VA.own 6 0),VV.ptr (VA.own 7 0)] [ptsA n l,VB.cells [VV.slice (VA.el 0 [] (0:Int) 0) n cap] (26:TypeId),VB.cells [I (-1)] (3:TypeId),VB.cells [VV.nilp] (78:TypeId),VB.cells [VV.nils] (29:TypeId),VB.cells [I k] (3:TypeId),VB.cells [I 12] (30:TypeId),VB.cells [I (w.flo+(l ((0:Int)+i)).flo),I (w.fhi+(l ((0:Int)+i)).fhi),I (mD w.wlo w.flo (l ((0:Int)+i)).wlo (l ((0:Int)+i)).fhi),I (mU w.whi w.flo (l ((0:Int)+i)).whi (l ((0:Int)+i)).fhi)] (89:TypeId),VB.cells [VV.ptr (VA.own 12 0)] (87:TypeId),VB.loop false (some VEx.ret) (sl35 f) 67 [15,16] as35 bd35,VB.vec xs.length (fun j=>wtL (xs.getD j w0)) 4 (25:TypeId)]
 else bif decide (mU w.whi w.flo (l ((0:Int)+i)).whi (l ((0:Int)+i)).fhi > (100000:Int)) then
 X VEx.ret [I i,I k,I ((↑n:Int)+(1:Int)),VV.yld 14,VV.ptr (VA.own 5 0),VV.ptr (VA.own 6 0),VV.ptr (VA.own 7 0)] [ptsA n l,VB.cells [VV.slice (VA.el 0 [] (0:Int) 0) n cap] (26:TypeId),VB.cells [I (-1)] (3:TypeId),VB.cells [VV.nilp] (78:TypeId),VB.cells [VV.nils] (29:TypeId),VB.cells [I k] (3:TypeId),VB.cells [I 12] (30:TypeId),VB.cells [I (w.flo+(l ((0:Int)+i)).flo),I (w.fhi+(l ((0:Int)+i)).fhi),I (mD w.wlo w.flo (l ((0:Int)+i)).wlo (l ((0:Int)+i)).fhi),I (mU w.whi w.flo (l ((0:Int)+i)).whi (l ((0:Int)+i)).fhi)] (89:TypeId),VB.cells [VV.ptr (VA.own 12 0)] (87:TypeId),VB.loop false (some VEx.ret) (sl35 f) 67 [15,16] as35 bd35,VB.vec xs.length (fun j=>wtL (xs.getD j w0)) 4 (25:TypeId)]
 else bif xs.length.beq xs.length then
 bif roomB (xs.length+1) (32) then
 bif inK IntKind.i64 (k+(1:Int)) then
 bif inK IntKind.i64 (i+(1:Int)) then
 X VEx.normal [I (i+(1:Int)),I (k+(1:Int)),I ((↑n:Int)+(1:Int)),VV.yld 14,VV.ptr (VA.own 5 0),VV.ptr (VA.own 6 0),VV.ptr (VA.own 7 0)] [ptsA n l,VB.cells [VV.slice (VA.el 0 [] (0:Int) 0) n cap] (26:TypeId),VB.cells [I (-1)] (3:TypeId),VB.cells [VV.nilp] (78:TypeId),VB.cells [VV.sl 15 (xs.length+1)] (29:TypeId),VB.cells [I 0] (3:TypeId),VB.cells [I 0] (30:TypeId),VB.cells [I (w.flo+(l ((0:Int)+i)).flo),I (w.fhi+(l ((0:Int)+i)).fhi),I (mD w.wlo w.flo (l ((0:Int)+i)).wlo (l ((0:Int)+i)).fhi),I (mU w.whi w.flo (l ((0:Int)+i)).whi (l ((0:Int)+i)).fhi)] (89:TypeId),VB.cells [VV.ptr (VA.own 12 0)] (87:TypeId),VB.loop true none (sl35 f) 67 [15,16] as35 bd35,VB.vec (xs.length+1) (catG xs.length (fun j=>wtL (xs.getD j w0)) fun j=>List.take (4) (List.drop (j*(4)) [I (w.flo+(l ((0:Int)+i)).flo),I (w.fhi+(l ((0:Int)+i)).fhi),I (mD w.wlo w.flo (l ((0:Int)+i)).wlo (l ((0:Int)+i)).fhi),I (mU w.whi w.flo (l ((0:Int)+i)).whi (l ((0:Int)+i)).fhi)])) (4) 25]
 else False
 else False
 else False
 else False
 else False
 else False
 else bif decide ((l ((0:Int)+i)).whi<w.whi) then
 meanOk w.wlo w.fhi (l ((0:Int)+i)).wlo (l ((0:Int)+i)).flo/\meanOk w.whi w.fhi (l ((0:Int)+i)).whi (l ((0:Int)+i)).flo/\bif inK IntKind.i64 (w.flo+(l ((0:Int)+i)).flo) then
 bif inK IntKind.i64 (w.fhi+(l ((0:Int)+i)).fhi) then
 bif decide (w.flo+(l ((0:Int)+i)).flo<(1:Int)) then
 X VEx.ret [I i,I k,I ((↑n:Int)+(1:Int)),VV.yld 14,VV.ptr (VA.own 5 0),VV.ptr (VA.own 6 0),VV.ptr (VA.own 7 0)] [ptsA n l,VB.cells [VV.slice (VA.el 0 [] (0:Int) 0) n cap] (26:TypeId),VB.cells [I (-1)] (3:TypeId),VB.cells [VV.nilp] (78:TypeId),VB.cells [VV.nils] (29:TypeId),VB.cells [I k] (3:TypeId),VB.cells [I 10] (30:TypeId),VB.cells [I (w.flo+(l ((0:Int)+i)).flo),I (w.fhi+(l ((0:Int)+i)).fhi),I (mD w.wlo w.fhi (l ((0:Int)+i)).wlo (l ((0:Int)+i)).flo),I (mU w.whi w.fhi (l ((0:Int)+i)).whi (l ((0:Int)+i)).flo)] (89:TypeId),VB.cells [VV.ptr (VA.own 12 0)] (87:TypeId),VB.loop false (some VEx.ret) (sl35 f) 67 [15,16] as35 bd35,VB.vec xs.length (fun j=>wtL (xs.getD j w0)) 4 (25:TypeId)]
 else bif decide (w.fhi+(l ((0:Int)+i)).fhi > (1073741824:Int)) then
 X VEx.ret [I i,I k,I ((↑n:Int)+(1:Int)),VV.yld 14,VV.ptr (VA.own 5 0),VV.ptr (VA.own 6 0),VV.ptr (VA.own 7 0)] [ptsA n l,VB.cells [VV.slice (VA.el 0 [] (0:Int) 0) n cap] (26:TypeId),VB.cells [I (-1)] (3:TypeId),VB.cells [VV.nilp] (78:TypeId),VB.cells [VV.nils] (29:TypeId),VB.cells [I k] (3:TypeId),VB.cells [I 12] (30:TypeId),VB.cells [I (w.flo+(l ((0:Int)+i)).flo),I (w.fhi+(l ((0:Int)+i)).fhi),I (mD w.wlo w.fhi (l ((0:Int)+i)).wlo (l ((0:Int)+i)).flo),I (mU w.whi w.fhi (l ((0:Int)+i)).whi (l ((0:Int)+i)).flo)] (89:TypeId),VB.cells [VV.ptr (VA.own 12 0)] (87:TypeId),VB.loop false (some VEx.ret) (sl35 f) 67 [15,16] as35 bd35,VB.vec xs.length (fun j=>wtL (xs.getD j w0)) 4 (25:TypeId)]
 else bif decide (mU w.whi w.fhi (l ((0:Int)+i)).whi (l ((0:Int)+i)).flo > (100000:Int)) then
 X VEx.ret [I i,I k,I ((↑n:Int)+(1:Int)),VV.yld 14,VV.ptr (VA.own 5 0),VV.ptr (VA.own 6 0),VV.ptr (VA.own 7 0)] [ptsA n l,VB.cells [VV.slice (VA.el 0 [] (0:Int) 0) n cap] (26:TypeId),VB.cells [I (-1)] (3:TypeId),VB.cells [VV.nilp] (78:TypeId),VB.cells [VV.nils] (29:TypeId),VB.cells [I k] (3:TypeId),VB.cells [I 12] (30:TypeId),VB.cells [I (w.flo+(l ((0:Int)+i)).flo),I (w.fhi+(l ((0:Int)+i)).fhi),I (mD w.wlo w.fhi (l ((0:Int)+i)).wlo (l ((0:Int)+i)).flo),I (mU w.whi w.fhi (l ((0:Int)+i)).whi (l ((0:Int)+i)).flo)] (89:TypeId),VB.cells [VV.ptr (VA.own 12 0)] (87:TypeId),VB.loop false (some VEx.ret) (sl35 f) 67 [15,16] as35 bd35,VB.vec xs.length (fun j=>wtL (xs.getD j w0)) 4 (25:TypeId)]
 else bif xs.length.beq xs.length then
 bif roomB (xs.length+1) (32) then
 bif inK IntKind.i64 (k+(1:Int)) then
 bif inK IntKind.i64 (i+(1:Int)) then
 X VEx.normal [I (i+(1:Int)),I (k+(1:Int)),I ((↑n:Int)+(1:Int)),VV.yld 14,VV.ptr (VA.own 5 0),VV.ptr (VA.own 6 0),VV.ptr (VA.own 7 0)] [ptsA n l,VB.cells [VV.slice (VA.el 0 [] (0:Int) 0) n cap] (26:TypeId),VB.cells [I (-1)] (3:TypeId),VB.cells [VV.nilp] (78:TypeId),VB.cells [VV.sl 15 (xs.length+1)] (29:TypeId),VB.cells [I 0] (3:TypeId),VB.cells [I 0] (30:TypeId),VB.cells [I (w.flo+(l ((0:Int)+i)).flo),I (w.fhi+(l ((0:Int)+i)).fhi),I (mD w.wlo w.fhi (l ((0:Int)+i)).wlo (l ((0:Int)+i)).flo),I (mU w.whi w.fhi (l ((0:Int)+i)).whi (l ((0:Int)+i)).flo)] (89:TypeId),VB.cells [VV.ptr (VA.own 12 0)] (87:TypeId),VB.loop true none (sl35 f) 67 [15,16] as35 bd35,VB.vec (xs.length+1) (catG xs.length (fun j=>wtL (xs.getD j w0)) fun j=>List.take (4) (List.drop (j*(4)) [I (w.flo+(l ((0:Int)+i)).flo),I (w.fhi+(l ((0:Int)+i)).fhi),I (mD w.wlo w.fhi (l ((0:Int)+i)).wlo (l ((0:Int)+i)).flo),I (mU w.whi w.fhi (l ((0:Int)+i)).whi (l ((0:Int)+i)).flo)])) (4) 25]
 else False
 else False
 else False
 else False
 else False
 else False
 else meanOk w.wlo w.fhi (l ((0:Int)+i)).wlo (l ((0:Int)+i)).flo/\meanOk w.whi w.flo (l ((0:Int)+i)).whi (l ((0:Int)+i)).fhi/\bif inK IntKind.i64 (w.flo+(l ((0:Int)+i)).flo) then
 bif inK IntKind.i64 (w.fhi+(l ((0:Int)+i)).fhi) then
 bif decide (w.flo+(l ((0:Int)+i)).flo<(1:Int)) then
 X VEx.ret [I i,I k,I ((↑n:Int)+(1:Int)),VV.yld 14,VV.ptr (VA.own 5 0),VV.ptr (VA.own 6 0),VV.ptr (VA.own 7 0)] [ptsA n l,VB.cells [VV.slice (VA.el 0 [] (0:Int) 0) n cap] (26:TypeId),VB.cells [I (-1)] (3:TypeId),VB.cells [VV.nilp] (78:TypeId),VB.cells [VV.nils] (29:TypeId),VB.cells [I k] (3:TypeId),VB.cells [I 10] (30:TypeId),VB.cells [I (w.flo+(l ((0:Int)+i)).flo),I (w.fhi+(l ((0:Int)+i)).fhi),I (mD w.wlo w.fhi (l ((0:Int)+i)).wlo (l ((0:Int)+i)).flo),I (mU w.whi w.flo (l ((0:Int)+i)).whi (l ((0:Int)+i)).fhi)] (89:TypeId),VB.cells [VV.ptr (VA.own 12 0)] (87:TypeId),VB.loop false (some VEx.ret) (sl35 f) 67 [15,16] as35 bd35,VB.vec xs.length (fun j=>wtL (xs.getD j w0)) 4 (25:TypeId)]
 else bif decide (w.fhi+(l ((0:Int)+i)).fhi > (1073741824:Int)) then
 X VEx.ret [I i,I k,I ((↑n:Int)+(1:Int)),VV.yld 14,VV.ptr (VA.own 5 0),VV.ptr (VA.own 6 0),VV.ptr (VA.own 7 0)] [ptsA n l,VB.cells [VV.slice (VA.el 0 [] (0:Int) 0) n cap] (26:TypeId),VB.cells [I (-1)] (3:TypeId),VB.cells [VV.nilp] (78:TypeId),VB.cells [VV.nils] (29:TypeId),VB.cells [I k] (3:TypeId),VB.cells [I 12] (30:TypeId),VB.cells [I (w.flo+(l ((0:Int)+i)).flo),I (w.fhi+(l ((0:Int)+i)).fhi),I (mD w.wlo w.fhi (l ((0:Int)+i)).wlo (l ((0:Int)+i)).flo),I (mU w.whi w.flo (l ((0:Int)+i)).whi (l ((0:Int)+i)).fhi)] (89:TypeId),VB.cells [VV.ptr (VA.own 12 0)] (87:TypeId),VB.loop false (some VEx.ret) (sl35 f) 67 [15,16] as35 bd35,VB.vec xs.length (fun j=>wtL (xs.getD j w0)) 4 (25:TypeId)]
 else bif decide (mU w.whi w.flo (l ((0:Int)+i)).whi (l ((0:Int)+i)).fhi > (100000:Int)) then
 X VEx.ret [I i,I k,I ((↑n:Int)+(1:Int)),VV.yld 14,VV.ptr (VA.own 5 0),VV.ptr (VA.own 6 0),VV.ptr (VA.own 7 0)] [ptsA n l,VB.cells [VV.slice (VA.el 0 [] (0:Int) 0) n cap] (26:TypeId),VB.cells [I (-1)] (3:TypeId),VB.cells [VV.nilp] (78:TypeId),VB.cells [VV.nils] (29:TypeId),VB.cells [I k] (3:TypeId),VB.cells [I 12] (30:TypeId),VB.cells [I (w.flo+(l ((0:Int)+i)).flo),I (w.fhi+(l ((0:Int)+i)).fhi),I (mD w.wlo w.fhi (l ((0:Int)+i)).wlo (l ((0:Int)+i)).flo),I (mU w.whi w.flo (l ((0:Int)+i)).whi (l ((0:Int)+i)).fhi)] (89:TypeId),VB.cells [VV.ptr (VA.own 12 0)] (87:TypeId),VB.loop false (some VEx.ret) (sl35 f) 67 [15,16] as35 bd35,VB.vec xs.length (fun j=>wtL (xs.getD j w0)) 4 (25:TypeId)]
 else bif xs.length.beq xs.length then
 bif roomB (xs.length+1) (32) then
 bif inK IntKind.i64 (k+(1:Int)) then
 bif inK IntKind.i64 (i+(1:Int)) then
 X VEx.normal [I (i+(1:Int)),I (k+(1:Int)),I ((↑n:Int)+(1:Int)),VV.yld 14,VV.ptr (VA.own 5 0),VV.ptr (VA.own 6 0),VV.ptr (VA.own 7 0)] [ptsA n l,VB.cells [VV.slice (VA.el 0 [] (0:Int) 0) n cap] (26:TypeId),VB.cells [I (-1)] (3:TypeId),VB.cells [VV.nilp] (78:TypeId),VB.cells [VV.sl 15 (xs.length+1)] (29:TypeId),VB.cells [I 0] (3:TypeId),VB.cells [I 0] (30:TypeId),VB.cells [I (w.flo+(l ((0:Int)+i)).flo),I (w.fhi+(l ((0:Int)+i)).fhi),I (mD w.wlo w.fhi (l ((0:Int)+i)).wlo (l ((0:Int)+i)).flo),I (mU w.whi w.flo (l ((0:Int)+i)).whi (l ((0:Int)+i)).fhi)] (89:TypeId),VB.cells [VV.ptr (VA.own 12 0)] (87:TypeId),VB.loop true none (sl35 f) 67 [15,16] as35 bd35,VB.vec (xs.length+1) (catG xs.length (fun j=>wtL (xs.getD j w0)) fun j=>List.take (4) (List.drop (j*(4)) [I (w.flo+(l ((0:Int)+i)).flo),I (w.fhi+(l ((0:Int)+i)).fhi),I (mD w.wlo w.fhi (l ((0:Int)+i)).wlo (l ((0:Int)+i)).flo),I (mU w.whi w.flo (l ((0:Int)+i)).whi (l ((0:Int)+i)).fhi)])) (4) 25]
 else False
 else False
 else False
 else False
 else False
 else False
 else X VEx.ret [I i,I k,I ((↑n:Int)+(1:Int)),VV.yld 14,VV.ptr (VA.own 5 0),VV.ptr (VA.own 6 0),VV.ptr (VA.own 7 0)] [ptsA n l,VB.cells [VV.slice (VA.el 0 [] (0:Int) 0) n cap] (26:TypeId),VB.cells [I (-1)] (3:TypeId),VB.cells [VV.nilp] (78:TypeId),VB.cells [VV.nils] (29:TypeId),VB.cells [I k] (3:TypeId),VB.cells [I 1] (30:TypeId),VB.cells [I w.flo,I w.fhi,I w.wlo,I w.whi] (89:TypeId),VB.cells [VV.ptr (VA.own 12 0)] (87:TypeId),VB.loop false (some VEx.ret) (sl35 f) 67 [15,16] as35 bd35,VB.vec xs.length (fun j=>wtL (xs.getD j w0)) 4 (25:TypeId)]
 else bif decide ((l ((0:Int)+i)).k=(1:Int)) then
 bif !spanB (l ((0:Int)+i)).flo (l ((0:Int)+i)).fhi (0:Int) (1073741824:Int) then
 X VEx.ret [I i,I k,I ((↑n:Int)+(1:Int)),VV.yld 14,VV.ptr (VA.own 5 0),VV.ptr (VA.own 6 0),VV.ptr (VA.own 7 0)] [ptsA n l,VB.cells [VV.slice (VA.el 0 [] (0:Int) 0) n cap] (26:TypeId),VB.cells [I (-1)] (3:TypeId),VB.cells [VV.nilp] (78:TypeId),VB.cells [VV.nils] (29:TypeId),VB.cells [I k] (3:TypeId),VB.cells [I 1] (30:TypeId),VB.cells [I w.flo,I w.fhi,I w.wlo,I w.whi] (89:TypeId),VB.cells [VV.ptr (VA.own 12 0)] (87:TypeId),VB.loop false (some VEx.ret) (sl35 f) 67 [15,16] as35 bd35,VB.vec xs.length (fun j=>wtL (xs.getD j w0)) 4 (25:TypeId)]
 else bif inK IntKind.i64 (w.flo - (l ((0:Int)+i)).fhi) then
 bif inK IntKind.i64 (w.fhi - (l ((0:Int)+i)).flo) then
 bif decide (w.flo - (l ((0:Int)+i)).fhi<(1:Int)) then
 X VEx.ret [I i,I k,I ((↑n:Int)+(1:Int)),VV.yld 14,VV.ptr (VA.own 5 0),VV.ptr (VA.own 6 0),VV.ptr (VA.own 7 0)] [ptsA n l,VB.cells [VV.slice (VA.el 0 [] (0:Int) 0) n cap] (26:TypeId),VB.cells [I (-1)] (3:TypeId),VB.cells [VV.nilp] (78:TypeId),VB.cells [VV.nils] (29:TypeId),VB.cells [I k] (3:TypeId),VB.cells [I 10] (30:TypeId),VB.cells [I (w.flo - (l ((0:Int)+i)).fhi),I (w.fhi - (l ((0:Int)+i)).flo),I w.wlo,I w.whi] (89:TypeId),VB.cells [VV.ptr (VA.own 12 0)] (87:TypeId),VB.loop false (some VEx.ret) (sl35 f) 67 [15,16] as35 bd35,VB.vec xs.length (fun j=>wtL (xs.getD j w0)) 4 (25:TypeId)]
 else bif decide (w.fhi - (l ((0:Int)+i)).flo > (1073741824:Int)) then
 X VEx.ret [I i,I k,I ((↑n:Int)+(1:Int)),VV.yld 14,VV.ptr (VA.own 5 0),VV.ptr (VA.own 6 0),VV.ptr (VA.own 7 0)] [ptsA n l,VB.cells [VV.slice (VA.el 0 [] (0:Int) 0) n cap] (26:TypeId),VB.cells [I (-1)] (3:TypeId),VB.cells [VV.nilp] (78:TypeId),VB.cells [VV.nils] (29:TypeId),VB.cells [I k] (3:TypeId),VB.cells [I 12] (30:TypeId),VB.cells [I (w.flo - (l ((0:Int)+i)).fhi),I (w.fhi - (l ((0:Int)+i)).flo),I w.wlo,I w.whi] (89:TypeId),VB.cells [VV.ptr (VA.own 12 0)] (87:TypeId),VB.loop false (some VEx.ret) (sl35 f) 67 [15,16] as35 bd35,VB.vec xs.length (fun j=>wtL (xs.getD j w0)) 4 (25:TypeId)]
 else bif decide (w.whi > (100000:Int)) then
 X VEx.ret [I i,I k,I ((↑n:Int)+(1:Int)),VV.yld 14,VV.ptr (VA.own 5 0),VV.ptr (VA.own 6 0),VV.ptr (VA.own 7 0)] [ptsA n l,VB.cells [VV.slice (VA.el 0 [] (0:Int) 0) n cap] (26:TypeId),VB.cells [I (-1)] (3:TypeId),VB.cells [VV.nilp] (78:TypeId),VB.cells [VV.nils] (29:TypeId),VB.cells [I k] (3:TypeId),VB.cells [I 12] (30:TypeId),VB.cells [I (w.flo - (l ((0:Int)+i)).fhi),I (w.fhi - (l ((0:Int)+i)).flo),I w.wlo,I w.whi] (89:TypeId),VB.cells [VV.ptr (VA.own 12 0)] (87:TypeId),VB.loop false (some VEx.ret) (sl35 f) 67 [15,16] as35 bd35,VB.vec xs.length (fun j=>wtL (xs.getD j w0)) 4 (25:TypeId)]
 else bif xs.length.beq xs.length then
 bif roomB (xs.length+1) (32) then
 bif inK IntKind.i64 (k+(1:Int)) then
 bif inK IntKind.i64 (i+(1:Int)) then
 X VEx.normal [I (i+(1:Int)),I (k+(1:Int)),I ((↑n:Int)+(1:Int)),VV.yld 14,VV.ptr (VA.own 5 0),VV.ptr (VA.own 6 0),VV.ptr (VA.own 7 0)] [ptsA n l,VB.cells [VV.slice (VA.el 0 [] (0:Int) 0) n cap] (26:TypeId),VB.cells [I (-1)] (3:TypeId),VB.cells [VV.nilp] (78:TypeId),VB.cells [VV.sl 15 (xs.length+1)] (29:TypeId),VB.cells [I 0] (3:TypeId),VB.cells [I 0] (30:TypeId),VB.cells [I (w.flo - (l ((0:Int)+i)).fhi),I (w.fhi - (l ((0:Int)+i)).flo),I w.wlo,I w.whi] (89:TypeId),VB.cells [VV.ptr (VA.own 12 0)] (87:TypeId),VB.loop true none (sl35 f) 67 [15,16] as35 bd35,VB.vec (xs.length+1) (catG xs.length (fun j=>wtL (xs.getD j w0)) fun j=>List.take (4) (List.drop (j*(4)) [I (w.flo - (l ((0:Int)+i)).fhi),I (w.fhi - (l ((0:Int)+i)).flo),I w.wlo,I w.whi])) (4) 25]
 else False
 else False
 else False
 else False
 else False
 else False
 else bif decide ((l ((0:Int)+i)).k=(2:Int)) then
 bif !spanB (l ((0:Int)+i)).hlo (l ((0:Int)+i)).hhi (0:Int) (1099511627776:Int) then
 X VEx.ret [I i,I k,I ((↑n:Int)+(1:Int)),VV.yld 14,VV.ptr (VA.own 5 0),VV.ptr (VA.own 6 0),VV.ptr (VA.own 7 0)] [ptsA n l,VB.cells [VV.slice (VA.el 0 [] (0:Int) 0) n cap] (26:TypeId),VB.cells [I (-1)] (3:TypeId),VB.cells [VV.nilp] (78:TypeId),VB.cells [VV.nils] (29:TypeId),VB.cells [I k] (3:TypeId),VB.cells [I 1] (30:TypeId),VB.cells [I w.flo,I w.fhi,I w.wlo,I w.whi] (89:TypeId),VB.cells [VV.ptr (VA.own 12 0)] (87:TypeId),VB.loop false (some VEx.ret) (sl35 f) 67 [15,16] as35 bd35,VB.vec xs.length (fun j=>wtL (xs.getD j w0)) 4 (25:TypeId)]
 else bif decide (w.fhi=(0:Int)) then
 False
 else bif inK IntKind.i64 (quoZ (l ((0:Int)+i)).hlo w.fhi) then
 bif inK IntKind.i64 (w.wlo+quoZ (l ((0:Int)+i)).hlo w.fhi) then
 upOk (l ((0:Int)+i)).hhi w.flo/\bif inK IntKind.i64 (w.whi+quoZ ((l ((0:Int)+i)).hhi+w.flo - (1:Int)) w.flo) then
 bif decide (w.flo<(1:Int)) then
 X VEx.ret [I i,I k,I ((↑n:Int)+(1:Int)),VV.yld 14,VV.ptr (VA.own 5 0),VV.ptr (VA.own 6 0),VV.ptr (VA.own 7 0)] [ptsA n l,VB.cells [VV.slice (VA.el 0 [] (0:Int) 0) n cap] (26:TypeId),VB.cells [I (-1)] (3:TypeId),VB.cells [VV.nilp] (78:TypeId),VB.cells [VV.nils] (29:TypeId),VB.cells [I k] (3:TypeId),VB.cells [I 10] (30:TypeId),VB.cells [I w.flo,I w.fhi,I (w.wlo+quoZ (l ((0:Int)+i)).hlo w.fhi),I (w.whi+quoZ ((l ((0:Int)+i)).hhi+w.flo - (1:Int)) w.flo)] (89:TypeId),VB.cells [VV.ptr (VA.own 12 0)] (87:TypeId),VB.loop false (some VEx.ret) (sl35 f) 67 [15,16] as35 bd35,VB.vec xs.length (fun j=>wtL (xs.getD j w0)) 4 (25:TypeId)]
 else bif decide (w.fhi > (1073741824:Int)) then
 X VEx.ret [I i,I k,I ((↑n:Int)+(1:Int)),VV.yld 14,VV.ptr (VA.own 5 0),VV.ptr (VA.own 6 0),VV.ptr (VA.own 7 0)] [ptsA n l,VB.cells [VV.slice (VA.el 0 [] (0:Int) 0) n cap] (26:TypeId),VB.cells [I (-1)] (3:TypeId),VB.cells [VV.nilp] (78:TypeId),VB.cells [VV.nils] (29:TypeId),VB.cells [I k] (3:TypeId),VB.cells [I 12] (30:TypeId),VB.cells [I w.flo,I w.fhi,I (w.wlo+quoZ (l ((0:Int)+i)).hlo w.fhi),I (w.whi+quoZ ((l ((0:Int)+i)).hhi+w.flo - (1:Int)) w.flo)] (89:TypeId),VB.cells [VV.ptr (VA.own 12 0)] (87:TypeId),VB.loop false (some VEx.ret) (sl35 f) 67 [15,16] as35 bd35,VB.vec xs.length (fun j=>wtL (xs.getD j w0)) 4 (25:TypeId)]
 else bif decide (w.whi+quoZ ((l ((0:Int)+i)).hhi+w.flo - (1:Int)) w.flo > (100000:Int)) then
 X VEx.ret [I i,I k,I ((↑n:Int)+(1:Int)),VV.yld 14,VV.ptr (VA.own 5 0),VV.ptr (VA.own 6 0),VV.ptr (VA.own 7 0)] [ptsA n l,VB.cells [VV.slice (VA.el 0 [] (0:Int) 0) n cap] (26:TypeId),VB.cells [I (-1)] (3:TypeId),VB.cells [VV.nilp] (78:TypeId),VB.cells [VV.nils] (29:TypeId),VB.cells [I k] (3:TypeId),VB.cells [I 12] (30:TypeId),VB.cells [I w.flo,I w.fhi,I (w.wlo+quoZ (l ((0:Int)+i)).hlo w.fhi),I (w.whi+quoZ ((l ((0:Int)+i)).hhi+w.flo - (1:Int)) w.flo)] (89:TypeId),VB.cells [VV.ptr (VA.own 12 0)] (87:TypeId),VB.loop false (some VEx.ret) (sl35 f) 67 [15,16] as35 bd35,VB.vec xs.length (fun j=>wtL (xs.getD j w0)) 4 (25:TypeId)]
 else bif xs.length.beq xs.length then
 bif roomB (xs.length+1) (32) then
 bif inK IntKind.i64 (k+(1:Int)) then
 bif inK IntKind.i64 (i+(1:Int)) then
 X VEx.normal [I (i+(1:Int)),I (k+(1:Int)),I ((↑n:Int)+(1:Int)),VV.yld 14,VV.ptr (VA.own 5 0),VV.ptr (VA.own 6 0),VV.ptr (VA.own 7 0)] [ptsA n l,VB.cells [VV.slice (VA.el 0 [] (0:Int) 0) n cap] (26:TypeId),VB.cells [I (-1)] (3:TypeId),VB.cells [VV.nilp] (78:TypeId),VB.cells [VV.sl 15 (xs.length+1)] (29:TypeId),VB.cells [I 0] (3:TypeId),VB.cells [I 0] (30:TypeId),VB.cells [I w.flo,I w.fhi,I (w.wlo+quoZ (l ((0:Int)+i)).hlo w.fhi),I (w.whi+quoZ ((l ((0:Int)+i)).hhi+w.flo - (1:Int)) w.flo)] (89:TypeId),VB.cells [VV.ptr (VA.own 12 0)] (87:TypeId),VB.loop true none (sl35 f) 67 [15,16] as35 bd35,VB.vec (xs.length+1) (catG xs.length (fun j=>wtL (xs.getD j w0)) fun j=>List.take (4) (List.drop (j*(4)) [I w.flo,I w.fhi,I (w.wlo+quoZ (l ((0:Int)+i)).hlo w.fhi),I (w.whi+quoZ ((l ((0:Int)+i)).hhi+w.flo - (1:Int)) w.flo)])) (4) 25]
 else False
 else False
 else False
 else False
 else False
 else False
 else False
 else bif decide ((l ((0:Int)+i)).k=(3:Int)) then
 bif spanB (l ((0:Int)+i)).wlo (l ((0:Int)+i)).whi (0:Int) (100000:Int) then
 bif !spanB (l ((0:Int)+i)).slo (l ((0:Int)+i)).shi (0:Int) (10000:Int) then
 X VEx.ret [I i,I k,I ((↑n:Int)+(1:Int)),VV.yld 14,VV.ptr (VA.own 5 0),VV.ptr (VA.own 6 0),VV.ptr (VA.own 7 0)] [ptsA n l,VB.cells [VV.slice (VA.el 0 [] (0:Int) 0) n cap] (26:TypeId),VB.cells [I (-1)] (3:TypeId),VB.cells [VV.nilp] (78:TypeId),VB.cells [VV.nils] (29:TypeId),VB.cells [I k] (3:TypeId),VB.cells [I 1] (30:TypeId),VB.cells [I w.flo,I w.fhi,I w.wlo,I w.whi] (89:TypeId),VB.cells [VV.ptr (VA.own 12 0)] (87:TypeId),VB.loop false (some VEx.ret) (sl35 f) 67 [15,16] as35 bd35,VB.vec xs.length (fun j=>wtL (xs.getD j w0)) 4 (25:TypeId)]
 else bif decide (w.wlo > (l ((0:Int)+i)).wlo) then
 bif decide (w.whi > (l ((0:Int)+i)).whi) then
 bif inK IntKind.i64 ((10000:Int) - (l ((0:Int)+i)).shi) then
 meanOk w.wlo ((10000:Int) - (l ((0:Int)+i)).shi) (l ((0:Int)+i)).wlo (l ((0:Int)+i)).shi/\bif inK IntKind.i64 ((10000:Int) - (l ((0:Int)+i)).slo) then
 meanOk w.whi ((10000:Int) - (l ((0:Int)+i)).slo) (l ((0:Int)+i)).whi (l ((0:Int)+i)).slo/\bif decide (w.flo<(1:Int)) then
 X VEx.ret [I i,I k,I ((↑n:Int)+(1:Int)),VV.yld 14,VV.ptr (VA.own 5 0),VV.ptr (VA.own 6 0),VV.ptr (VA.own 7 0)] [ptsA n l,VB.cells [VV.slice (VA.el 0 [] (0:Int) 0) n cap] (26:TypeId),VB.cells [I (-1)] (3:TypeId),VB.cells [VV.nilp] (78:TypeId),VB.cells [VV.nils] (29:TypeId),VB.cells [I k] (3:TypeId),VB.cells [I 10] (30:TypeId),VB.cells [I w.flo,I w.fhi,I (mD w.wlo ((10000:Int) - (l ((0:Int)+i)).shi) (l ((0:Int)+i)).wlo (l ((0:Int)+i)).shi),I (mU w.whi ((10000:Int) - (l ((0:Int)+i)).slo) (l ((0:Int)+i)).whi (l ((0:Int)+i)).slo)] (89:TypeId),VB.cells [VV.ptr (VA.own 12 0)] (87:TypeId),VB.loop false (some VEx.ret) (sl35 f) 67 [15,16] as35 bd35,VB.vec xs.length (fun j=>wtL (xs.getD j w0)) 4 (25:TypeId)]
 else bif decide (w.fhi > (1073741824:Int)) then
 X VEx.ret [I i,I k,I ((↑n:Int)+(1:Int)),VV.yld 14,VV.ptr (VA.own 5 0),VV.ptr (VA.own 6 0),VV.ptr (VA.own 7 0)] [ptsA n l,VB.cells [VV.slice (VA.el 0 [] (0:Int) 0) n cap] (26:TypeId),VB.cells [I (-1)] (3:TypeId),VB.cells [VV.nilp] (78:TypeId),VB.cells [VV.nils] (29:TypeId),VB.cells [I k] (3:TypeId),VB.cells [I 12] (30:TypeId),VB.cells [I w.flo,I w.fhi,I (mD w.wlo ((10000:Int) - (l ((0:Int)+i)).shi) (l ((0:Int)+i)).wlo (l ((0:Int)+i)).shi),I (mU w.whi ((10000:Int) - (l ((0:Int)+i)).slo) (l ((0:Int)+i)).whi (l ((0:Int)+i)).slo)] (89:TypeId),VB.cells [VV.ptr (VA.own 12 0)] (87:TypeId),VB.loop false (some VEx.ret) (sl35 f) 67 [15,16] as35 bd35,VB.vec xs.length (fun j=>wtL (xs.getD j w0)) 4 (25:TypeId)]
 else bif decide (mU w.whi ((10000:Int) - (l ((0:Int)+i)).slo) (l ((0:Int)+i)).whi (l ((0:Int)+i)).slo > (100000:Int)) then
 X VEx.ret [I i,I k,I ((↑n:Int)+(1:Int)),VV.yld 14,VV.ptr (VA.own 5 0),VV.ptr (VA.own 6 0),VV.ptr (VA.own 7 0)] [ptsA n l,VB.cells [VV.slice (VA.el 0 [] (0:Int) 0) n cap] (26:TypeId),VB.cells [I (-1)] (3:TypeId),VB.cells [VV.nilp] (78:TypeId),VB.cells [VV.nils] (29:TypeId),VB.cells [I k] (3:TypeId),VB.cells [I 12] (30:TypeId),VB.cells [I w.flo,I w.fhi,I (mD w.wlo ((10000:Int) - (l ((0:Int)+i)).shi) (l ((0:Int)+i)).wlo (l ((0:Int)+i)).shi),I (mU w.whi ((10000:Int) - (l ((0:Int)+i)).slo) (l ((0:Int)+i)).whi (l ((0:Int)+i)).slo)] (89:TypeId),VB.cells [VV.ptr (VA.own 12 0)] (87:TypeId),VB.loop false (some VEx.ret) (sl35 f) 67 [15,16] as35 bd35,VB.vec xs.length (fun j=>wtL (xs.getD j w0)) 4 (25:TypeId)]
 else bif xs.length.beq xs.length then
 bif roomB (xs.length+1) (32) then
 bif inK IntKind.i64 (k+(1:Int)) then
 bif inK IntKind.i64 (i+(1:Int)) then
 X VEx.normal [I (i+(1:Int)),I (k+(1:Int)),I ((↑n:Int)+(1:Int)),VV.yld 14,VV.ptr (VA.own 5 0),VV.ptr (VA.own 6 0),VV.ptr (VA.own 7 0)] [ptsA n l,VB.cells [VV.slice (VA.el 0 [] (0:Int) 0) n cap] (26:TypeId),VB.cells [I (-1)] (3:TypeId),VB.cells [VV.nilp] (78:TypeId),VB.cells [VV.sl 15 (xs.length+1)] (29:TypeId),VB.cells [I 0] (3:TypeId),VB.cells [I 0] (30:TypeId),VB.cells [I w.flo,I w.fhi,I (mD w.wlo ((10000:Int) - (l ((0:Int)+i)).shi) (l ((0:Int)+i)).wlo (l ((0:Int)+i)).shi),I (mU w.whi ((10000:Int) - (l ((0:Int)+i)).slo) (l ((0:Int)+i)).whi (l ((0:Int)+i)).slo)] (89:TypeId),VB.cells [VV.ptr (VA.own 12 0)] (87:TypeId),VB.loop true none (sl35 f) 67 [15,16] as35 bd35,VB.vec (xs.length+1) (catG xs.length (fun j=>wtL (xs.getD j w0)) fun j=>List.take (4) (List.drop (j*(4)) [I w.flo,I w.fhi,I (mD w.wlo ((10000:Int) - (l ((0:Int)+i)).shi) (l ((0:Int)+i)).wlo (l ((0:Int)+i)).shi),I (mU w.whi ((10000:Int) - (l ((0:Int)+i)).slo) (l ((0:Int)+i)).whi (l ((0:Int)+i)).slo)])) (4) 25]
 else False
 else False
 else False
 else False
 else False
 else False
 else bif inK IntKind.i64 ((10000:Int) - (l ((0:Int)+i)).shi) then
 meanOk w.wlo ((10000:Int) - (l ((0:Int)+i)).shi) (l ((0:Int)+i)).wlo (l ((0:Int)+i)).shi/\bif inK IntKind.i64 ((10000:Int) - (l ((0:Int)+i)).shi) then
 meanOk w.whi ((10000:Int) - (l ((0:Int)+i)).shi) (l ((0:Int)+i)).whi (l ((0:Int)+i)).shi/\bif decide (w.flo<(1:Int)) then
 X VEx.ret [I i,I k,I ((↑n:Int)+(1:Int)),VV.yld 14,VV.ptr (VA.own 5 0),VV.ptr (VA.own 6 0),VV.ptr (VA.own 7 0)] [ptsA n l,VB.cells [VV.slice (VA.el 0 [] (0:Int) 0) n cap] (26:TypeId),VB.cells [I (-1)] (3:TypeId),VB.cells [VV.nilp] (78:TypeId),VB.cells [VV.nils] (29:TypeId),VB.cells [I k] (3:TypeId),VB.cells [I 10] (30:TypeId),VB.cells [I w.flo,I w.fhi,I (mD w.wlo ((10000:Int) - (l ((0:Int)+i)).shi) (l ((0:Int)+i)).wlo (l ((0:Int)+i)).shi),I (mU w.whi ((10000:Int) - (l ((0:Int)+i)).shi) (l ((0:Int)+i)).whi (l ((0:Int)+i)).shi)] (89:TypeId),VB.cells [VV.ptr (VA.own 12 0)] (87:TypeId),VB.loop false (some VEx.ret) (sl35 f) 67 [15,16] as35 bd35,VB.vec xs.length (fun j=>wtL (xs.getD j w0)) 4 (25:TypeId)]
 else bif decide (w.fhi > (1073741824:Int)) then
 X VEx.ret [I i,I k,I ((↑n:Int)+(1:Int)),VV.yld 14,VV.ptr (VA.own 5 0),VV.ptr (VA.own 6 0),VV.ptr (VA.own 7 0)] [ptsA n l,VB.cells [VV.slice (VA.el 0 [] (0:Int) 0) n cap] (26:TypeId),VB.cells [I (-1)] (3:TypeId),VB.cells [VV.nilp] (78:TypeId),VB.cells [VV.nils] (29:TypeId),VB.cells [I k] (3:TypeId),VB.cells [I 12] (30:TypeId),VB.cells [I w.flo,I w.fhi,I (mD w.wlo ((10000:Int) - (l ((0:Int)+i)).shi) (l ((0:Int)+i)).wlo (l ((0:Int)+i)).shi),I (mU w.whi ((10000:Int) - (l ((0:Int)+i)).shi) (l ((0:Int)+i)).whi (l ((0:Int)+i)).shi)] (89:TypeId),VB.cells [VV.ptr (VA.own 12 0)] (87:TypeId),VB.loop false (some VEx.ret) (sl35 f) 67 [15,16] as35 bd35,VB.vec xs.length (fun j=>wtL (xs.getD j w0)) 4 (25:TypeId)]
 else bif decide (mU w.whi ((10000:Int) - (l ((0:Int)+i)).shi) (l ((0:Int)+i)).whi (l ((0:Int)+i)).shi > (100000:Int)) then
 X VEx.ret [I i,I k,I ((↑n:Int)+(1:Int)),VV.yld 14,VV.ptr (VA.own 5 0),VV.ptr (VA.own 6 0),VV.ptr (VA.own 7 0)] [ptsA n l,VB.cells [VV.slice (VA.el 0 [] (0:Int) 0) n cap] (26:TypeId),VB.cells [I (-1)] (3:TypeId),VB.cells [VV.nilp] (78:TypeId),VB.cells [VV.nils] (29:TypeId),VB.cells [I k] (3:TypeId),VB.cells [I 12] (30:TypeId),VB.cells [I w.flo,I w.fhi,I (mD w.wlo ((10000:Int) - (l ((0:Int)+i)).shi) (l ((0:Int)+i)).wlo (l ((0:Int)+i)).shi),I (mU w.whi ((10000:Int) - (l ((0:Int)+i)).shi) (l ((0:Int)+i)).whi (l ((0:Int)+i)).shi)] (89:TypeId),VB.cells [VV.ptr (VA.own 12 0)] (87:TypeId),VB.loop false (some VEx.ret) (sl35 f) 67 [15,16] as35 bd35,VB.vec xs.length (fun j=>wtL (xs.getD j w0)) 4 (25:TypeId)]
 else bif xs.length.beq xs.length then
 bif roomB (xs.length+1) (32) then
 bif inK IntKind.i64 (k+(1:Int)) then
 bif inK IntKind.i64 (i+(1:Int)) then
 X VEx.normal [I (i+(1:Int)),I (k+(1:Int)),I ((↑n:Int)+(1:Int)),VV.yld 14,VV.ptr (VA.own 5 0),VV.ptr (VA.own 6 0),VV.ptr (VA.own 7 0)] [ptsA n l,VB.cells [VV.slice (VA.el 0 [] (0:Int) 0) n cap] (26:TypeId),VB.cells [I (-1)] (3:TypeId),VB.cells [VV.nilp] (78:TypeId),VB.cells [VV.sl 15 (xs.length+1)] (29:TypeId),VB.cells [I 0] (3:TypeId),VB.cells [I 0] (30:TypeId),VB.cells [I w.flo,I w.fhi,I (mD w.wlo ((10000:Int) - (l ((0:Int)+i)).shi) (l ((0:Int)+i)).wlo (l ((0:Int)+i)).shi),I (mU w.whi ((10000:Int) - (l ((0:Int)+i)).shi) (l ((0:Int)+i)).whi (l ((0:Int)+i)).shi)] (89:TypeId),VB.cells [VV.ptr (VA.own 12 0)] (87:TypeId),VB.loop true none (sl35 f) 67 [15,16] as35 bd35,VB.vec (xs.length+1) (catG xs.length (fun j=>wtL (xs.getD j w0)) fun j=>List.take (4) (List.drop (j*(4)) [I w.flo,I w.fhi,I (mD w.wlo ((10000:Int) - (l ((0:Int)+i)).shi) (l ((0:Int)+i)).wlo (l ((0:Int)+i)).shi),I (mU w.whi ((10000:Int) - (l ((0:Int)+i)).shi) (l ((0:Int)+i)).whi (l ((0:Int)+i)).shi)])) (4) 25]
 else False
 else False
 else False
 else False
 else False
 else False
 else bif decide (w.whi > (l ((0:Int)+i)).whi) then
 bif inK IntKind.i64 ((10000:Int) - (l ((0:Int)+i)).slo) then
 meanOk w.wlo ((10000:Int) - (l ((0:Int)+i)).slo) (l ((0:Int)+i)).wlo (l ((0:Int)+i)).slo/\bif inK IntKind.i64 ((10000:Int) - (l ((0:Int)+i)).slo) then
 meanOk w.whi ((10000:Int) - (l ((0:Int)+i)).slo) (l ((0:Int)+i)).whi (l ((0:Int)+i)).slo/\bif decide (w.flo<(1:Int)) then
 X VEx.ret [I i,I k,I ((↑n:Int)+(1:Int)),VV.yld 14,VV.ptr (VA.own 5 0),VV.ptr (VA.own 6 0),VV.ptr (VA.own 7 0)] [ptsA n l,VB.cells [VV.slice (VA.el 0 [] (0:Int) 0) n cap] (26:TypeId),VB.cells [I (-1)] (3:TypeId),VB.cells [VV.nilp] (78:TypeId),VB.cells [VV.nils] (29:TypeId),VB.cells [I k] (3:TypeId),VB.cells [I 10] (30:TypeId),VB.cells [I w.flo,I w.fhi,I (mD w.wlo ((10000:Int) - (l ((0:Int)+i)).slo) (l ((0:Int)+i)).wlo (l ((0:Int)+i)).slo),I (mU w.whi ((10000:Int) - (l ((0:Int)+i)).slo) (l ((0:Int)+i)).whi (l ((0:Int)+i)).slo)] (89:TypeId),VB.cells [VV.ptr (VA.own 12 0)] (87:TypeId),VB.loop false (some VEx.ret) (sl35 f) 67 [15,16] as35 bd35,VB.vec xs.length (fun j=>wtL (xs.getD j w0)) 4 (25:TypeId)]
 else bif decide (w.fhi > (1073741824:Int)) then
 X VEx.ret [I i,I k,I ((↑n:Int)+(1:Int)),VV.yld 14,VV.ptr (VA.own 5 0),VV.ptr (VA.own 6 0),VV.ptr (VA.own 7 0)] [ptsA n l,VB.cells [VV.slice (VA.el 0 [] (0:Int) 0) n cap] (26:TypeId),VB.cells [I (-1)] (3:TypeId),VB.cells [VV.nilp] (78:TypeId),VB.cells [VV.nils] (29:TypeId),VB.cells [I k] (3:TypeId),VB.cells [I 12] (30:TypeId),VB.cells [I w.flo,I w.fhi,I (mD w.wlo ((10000:Int) - (l ((0:Int)+i)).slo) (l ((0:Int)+i)).wlo (l ((0:Int)+i)).slo),I (mU w.whi ((10000:Int) - (l ((0:Int)+i)).slo) (l ((0:Int)+i)).whi (l ((0:Int)+i)).slo)] (89:TypeId),VB.cells [VV.ptr (VA.own 12 0)] (87:TypeId),VB.loop false (some VEx.ret) (sl35 f) 67 [15,16] as35 bd35,VB.vec xs.length (fun j=>wtL (xs.getD j w0)) 4 (25:TypeId)]
 else bif decide (mU w.whi ((10000:Int) - (l ((0:Int)+i)).slo) (l ((0:Int)+i)).whi (l ((0:Int)+i)).slo > (100000:Int)) then
 X VEx.ret [I i,I k,I ((↑n:Int)+(1:Int)),VV.yld 14,VV.ptr (VA.own 5 0),VV.ptr (VA.own 6 0),VV.ptr (VA.own 7 0)] [ptsA n l,VB.cells [VV.slice (VA.el 0 [] (0:Int) 0) n cap] (26:TypeId),VB.cells [I (-1)] (3:TypeId),VB.cells [VV.nilp] (78:TypeId),VB.cells [VV.nils] (29:TypeId),VB.cells [I k] (3:TypeId),VB.cells [I 12] (30:TypeId),VB.cells [I w.flo,I w.fhi,I (mD w.wlo ((10000:Int) - (l ((0:Int)+i)).slo) (l ((0:Int)+i)).wlo (l ((0:Int)+i)).slo),I (mU w.whi ((10000:Int) - (l ((0:Int)+i)).slo) (l ((0:Int)+i)).whi (l ((0:Int)+i)).slo)] (89:TypeId),VB.cells [VV.ptr (VA.own 12 0)] (87:TypeId),VB.loop false (some VEx.ret) (sl35 f) 67 [15,16] as35 bd35,VB.vec xs.length (fun j=>wtL (xs.getD j w0)) 4 (25:TypeId)]
 else bif xs.length.beq xs.length then
 bif roomB (xs.length+1) (32) then
 bif inK IntKind.i64 (k+(1:Int)) then
 bif inK IntKind.i64 (i+(1:Int)) then
 X VEx.normal [I (i+(1:Int)),I (k+(1:Int)),I ((↑n:Int)+(1:Int)),VV.yld 14,VV.ptr (VA.own 5 0),VV.ptr (VA.own 6 0),VV.ptr (VA.own 7 0)] [ptsA n l,VB.cells [VV.slice (VA.el 0 [] (0:Int) 0) n cap] (26:TypeId),VB.cells [I (-1)] (3:TypeId),VB.cells [VV.nilp] (78:TypeId),VB.cells [VV.sl 15 (xs.length+1)] (29:TypeId),VB.cells [I 0] (3:TypeId),VB.cells [I 0] (30:TypeId),VB.cells [I w.flo,I w.fhi,I (mD w.wlo ((10000:Int) - (l ((0:Int)+i)).slo) (l ((0:Int)+i)).wlo (l ((0:Int)+i)).slo),I (mU w.whi ((10000:Int) - (l ((0:Int)+i)).slo) (l ((0:Int)+i)).whi (l ((0:Int)+i)).slo)] (89:TypeId),VB.cells [VV.ptr (VA.own 12 0)] (87:TypeId),VB.loop true none (sl35 f) 67 [15,16] as35 bd35,VB.vec (xs.length+1) (catG xs.length (fun j=>wtL (xs.getD j w0)) fun j=>List.take (4) (List.drop (j*(4)) [I w.flo,I w.fhi,I (mD w.wlo ((10000:Int) - (l ((0:Int)+i)).slo) (l ((0:Int)+i)).wlo (l ((0:Int)+i)).slo),I (mU w.whi ((10000:Int) - (l ((0:Int)+i)).slo) (l ((0:Int)+i)).whi (l ((0:Int)+i)).slo)])) (4) 25]
 else False
 else False
 else False
 else False
 else False
 else False
 else bif inK IntKind.i64 ((10000:Int) - (l ((0:Int)+i)).slo) then
 meanOk w.wlo ((10000:Int) - (l ((0:Int)+i)).slo) (l ((0:Int)+i)).wlo (l ((0:Int)+i)).slo/\bif inK IntKind.i64 ((10000:Int) - (l ((0:Int)+i)).shi) then
 meanOk w.whi ((10000:Int) - (l ((0:Int)+i)).shi) (l ((0:Int)+i)).whi (l ((0:Int)+i)).shi/\bif decide (w.flo<(1:Int)) then
 X VEx.ret [I i,I k,I ((↑n:Int)+(1:Int)),VV.yld 14,VV.ptr (VA.own 5 0),VV.ptr (VA.own 6 0),VV.ptr (VA.own 7 0)] [ptsA n l,VB.cells [VV.slice (VA.el 0 [] (0:Int) 0) n cap] (26:TypeId),VB.cells [I (-1)] (3:TypeId),VB.cells [VV.nilp] (78:TypeId),VB.cells [VV.nils] (29:TypeId),VB.cells [I k] (3:TypeId),VB.cells [I 10] (30:TypeId),VB.cells [I w.flo,I w.fhi,I (mD w.wlo ((10000:Int) - (l ((0:Int)+i)).slo) (l ((0:Int)+i)).wlo (l ((0:Int)+i)).slo),I (mU w.whi ((10000:Int) - (l ((0:Int)+i)).shi) (l ((0:Int)+i)).whi (l ((0:Int)+i)).shi)] (89:TypeId),VB.cells [VV.ptr (VA.own 12 0)] (87:TypeId),VB.loop false (some VEx.ret) (sl35 f) 67 [15,16] as35 bd35,VB.vec xs.length (fun j=>wtL (xs.getD j w0)) 4 (25:TypeId)]
 else bif decide (w.fhi > (1073741824:Int)) then
 X VEx.ret [I i,I k,I ((↑n:Int)+(1:Int)),VV.yld 14,VV.ptr (VA.own 5 0),VV.ptr (VA.own 6 0),VV.ptr (VA.own 7 0)] [ptsA n l,VB.cells [VV.slice (VA.el 0 [] (0:Int) 0) n cap] (26:TypeId),VB.cells [I (-1)] (3:TypeId),VB.cells [VV.nilp] (78:TypeId),VB.cells [VV.nils] (29:TypeId),VB.cells [I k] (3:TypeId),VB.cells [I 12] (30:TypeId),VB.cells [I w.flo,I w.fhi,I (mD w.wlo ((10000:Int) - (l ((0:Int)+i)).slo) (l ((0:Int)+i)).wlo (l ((0:Int)+i)).slo),I (mU w.whi ((10000:Int) - (l ((0:Int)+i)).shi) (l ((0:Int)+i)).whi (l ((0:Int)+i)).shi)] (89:TypeId),VB.cells [VV.ptr (VA.own 12 0)] (87:TypeId),VB.loop false (some VEx.ret) (sl35 f) 67 [15,16] as35 bd35,VB.vec xs.length (fun j=>wtL (xs.getD j w0)) 4 (25:TypeId)]
 else bif decide (mU w.whi ((10000:Int) - (l ((0:Int)+i)).shi) (l ((0:Int)+i)).whi (l ((0:Int)+i)).shi > (100000:Int)) then
 X VEx.ret [I i,I k,I ((↑n:Int)+(1:Int)),VV.yld 14,VV.ptr (VA.own 5 0),VV.ptr (VA.own 6 0),VV.ptr (VA.own 7 0)] [ptsA n l,VB.cells [VV.slice (VA.el 0 [] (0:Int) 0) n cap] (26:TypeId),VB.cells [I (-1)] (3:TypeId),VB.cells [VV.nilp] (78:TypeId),VB.cells [VV.nils] (29:TypeId),VB.cells [I k] (3:TypeId),VB.cells [I 12] (30:TypeId),VB.cells [I w.flo,I w.fhi,I (mD w.wlo ((10000:Int) - (l ((0:Int)+i)).slo) (l ((0:Int)+i)).wlo (l ((0:Int)+i)).slo),I (mU w.whi ((10000:Int) - (l ((0:Int)+i)).shi) (l ((0:Int)+i)).whi (l ((0:Int)+i)).shi)] (89:TypeId),VB.cells [VV.ptr (VA.own 12 0)] (87:TypeId),VB.loop false (some VEx.ret) (sl35 f) 67 [15,16] as35 bd35,VB.vec xs.length (fun j=>wtL (xs.getD j w0)) 4 (25:TypeId)]
 else bif xs.length.beq xs.length then
 bif roomB (xs.length+1) (32) then
 bif inK IntKind.i64 (k+(1:Int)) then
 bif inK IntKind.i64 (i+(1:Int)) then
 X VEx.normal [I (i+(1:Int)),I (k+(1:Int)),I ((↑n:Int)+(1:Int)),VV.yld 14,VV.ptr (VA.own 5 0),VV.ptr (VA.own 6 0),VV.ptr (VA.own 7 0)] [ptsA n l,VB.cells [VV.slice (VA.el 0 [] (0:Int) 0) n cap] (26:TypeId),VB.cells [I (-1)] (3:TypeId),VB.cells [VV.nilp] (78:TypeId),VB.cells [VV.sl 15 (xs.length+1)] (29:TypeId),VB.cells [I 0] (3:TypeId),VB.cells [I 0] (30:TypeId),VB.cells [I w.flo,I w.fhi,I (mD w.wlo ((10000:Int) - (l ((0:Int)+i)).slo) (l ((0:Int)+i)).wlo (l ((0:Int)+i)).slo),I (mU w.whi ((10000:Int) - (l ((0:Int)+i)).shi) (l ((0:Int)+i)).whi (l ((0:Int)+i)).shi)] (89:TypeId),VB.cells [VV.ptr (VA.own 12 0)] (87:TypeId),VB.loop true none (sl35 f) 67 [15,16] as35 bd35,VB.vec (xs.length+1) (catG xs.length (fun j=>wtL (xs.getD j w0)) fun j=>List.take (4) (List.drop (j*(4)) [I w.flo,I w.fhi,I (mD w.wlo ((10000:Int) - (l ((0:Int)+i)).slo) (l ((0:Int)+i)).wlo (l ((0:Int)+i)).slo),I (mU w.whi ((10000:Int) - (l ((0:Int)+i)).shi) (l ((0:Int)+i)).whi (l ((0:Int)+i)).shi)])) (4) 25]
 else False
 else False
 else False
 else False
 else False
 else False
 else X VEx.ret [I i,I k,I ((↑n:Int)+(1:Int)),VV.yld 14,VV.ptr (VA.own 5 0),VV.ptr (VA.own 6 0),VV.ptr (VA.own 7 0)] [ptsA n l,VB.cells [VV.slice (VA.el 0 [] (0:Int) 0) n cap] (26:TypeId),VB.cells [I (-1)] (3:TypeId),VB.cells [VV.nilp] (78:TypeId),VB.cells [VV.nils] (29:TypeId),VB.cells [I k] (3:TypeId),VB.cells [I 1] (30:TypeId),VB.cells [I w.flo,I w.fhi,I w.wlo,I w.whi] (89:TypeId),VB.cells [VV.ptr (VA.own 12 0)] (87:TypeId),VB.loop false (some VEx.ret) (sl35 f) 67 [15,16] as35 bd35,VB.vec xs.length (fun j=>wtL (xs.getD j w0)) 4 (25:TypeId)]
 else X VEx.ret [I i,I k,I ((↑n:Int)+(1:Int)),VV.yld 14,VV.ptr (VA.own 5 0),VV.ptr (VA.own 6 0),VV.ptr (VA.own 7 0)] [ptsA n l,VB.cells [VV.slice (VA.el 0 [] (0:Int) 0) n cap] (26:TypeId),VB.cells [I (-1)] (3:TypeId),VB.cells [VV.nilp] (78:TypeId),VB.cells [VV.nils] (29:TypeId),VB.cells [I k] (3:TypeId),VB.cells [I 1] (30:TypeId),VB.cells [I w.flo,I w.fhi,I w.wlo,I w.whi] (89:TypeId),VB.cells [VV.ptr (VA.own 12 0)] (87:TypeId),VB.loop false (some VEx.ret) (sl35 f) 67 [15,16] as35 bd35,VB.vec xs.length (fun j=>wtL (xs.getD j w0)) 4 (25:TypeId)]
 else False
 else bif inK IntKind.i64 (i+(1:Int)) then
 X VEx.normal [I (i+(1:Int)),I k,I ((↑n:Int)+(1:Int)),VV.yld 14,VV.ptr (VA.own 5 0),VV.ptr (VA.own 6 0),VV.ptr (VA.own 7 0)] [ptsA n l,VB.cells [VV.slice (VA.el 0 [] (0:Int) 0) n cap] (26:TypeId),VB.cells [I (-1)] (3:TypeId),VB.cells [VV.nilp] (78:TypeId),VB.cells [VV.sl 15 xs.length] (29:TypeId),VB.cells [I 0] (3:TypeId),VB.cells [I 0] (30:TypeId),VB.cells [I w.flo,I w.fhi,I w.wlo,I w.whi] (89:TypeId),VB.cells [VV.ptr (VA.own 12 0)] (87:TypeId),VB.loop true none (sl35 f) 67 [15,16] as35 bd35,VB.vec xs.length (fun j=>wtL (xs.getD j w0)) 4 (25:TypeId)]
 else False
 else X (VEx.exit 0) [I i,I k,I ((↑n:Int)+(1:Int)),VV.yld 14,VV.ptr (VA.own 5 0),VV.ptr (VA.own 6 0),VV.ptr (VA.own 7 0)] [ptsA n l,VB.cells [VV.slice (VA.el 0 [] (0:Int) 0) n cap] (26:TypeId),VB.cells [I (-1)] (3:TypeId),VB.cells [VV.nilp] (78:TypeId),VB.cells [VV.sl 15 xs.length] (29:TypeId),VB.cells [I 0] (3:TypeId),VB.cells [I 0] (30:TypeId),VB.cells [I w.flo,I w.fhi,I w.wlo,I w.whi] (89:TypeId),VB.cells [VV.ptr (VA.own 12 0)] (87:TypeId),VB.loop true none (sl35 f) 67 [15,16] as35 bd35,VB.vec xs.length (fun j=>wtL (xs.getD j w0)) 4 (25:TypeId)]):=by kernel_rfl
end Go.Sx.Str
namespace Go.Sx.Str
open Go Go.Sx Go.Proofs
set_option maxRecDepth 1000000
theorem room32 {n:Nat} (h:n<=1048576):roomB n 32=true:=by
 simp only [roomB,Bool.and_eq_true]
 exact ⟨Nat.ble_eq_true_of_le (by omega),Nat.ble_eq_true_of_le (by omega)⟩
theorem fit_snocW (xs:List Wt) (w:Wt):(vecW (xs ++ [w])).fit (.vec (xs.length+1) (catG xs.length (fun j=>wtL (xs.getD j w0)) fun j=>List.take 4 (List.drop (j*4) (wtL w))) 4 25):=by
 refine ⟨by simp,rfl,rfl,fun j hj=>?_⟩
 simp only [List.length_append,List.length_singleton] at hj
 simp only [catG]
 by_cases h:j<xs.length
 ·rw [blt_t h]
  simp [List.getD_eq_getElem?_getD,List.getElem?_append_left h]
 ·rw [blt_f (by omega)]
  have:j=xs.length:=by omega
  subst this
  simp [wtL]
section
variable {n cap:Nat} {l:Int->Pt} {f w:Wt} {xs:List Wt}
noncomputable def BFr (n cap:Nat) (l:Int->Pt) (f:Wt) (w:Wt) (xs:List Wt) (k e:Int):List VB:=[ptsA n l,.cells [.slice (.el 0 [] 0 0) n cap] 26,.cells [I (-1)] 3,.cells [.nilp] 78,.cells [.nils] 29,.cells [I k] 3,.cells [I e] 30,.cells (wtL w) 89,.cells [.ptr (.own 12 0)] 87,rec35r f,vecW xs]
theorem mD_less {t u f g F G:Int} (ht:0<=t) (hu:0<=u) (hf:0<=f) (hg:0<=g) (hF:0<=F) (hG:0<=G) (h:0<f+g) (hle:(t - u)*(F*g - f*G) ≥ 0):mD t f u g*(F+G)<=t*F+u*G:=by
 obtain ⟨_,h2⟩:=mD_le ht hu hf hg h
 have h3:mD t f u g*(F+G)*(f+g)<=(t*F+u*G)*(f+g):=by
  have e1:mD t f u g*(F+G)*(f+g)=mD t f u g*(f+g)*(F+G):=by ac_rfl
  have a1:mD t f u g*(f+g)*(F+G)<=(t*f+u*g)*(F+G):=Int.mul_le_mul_of_nonneg_right h2 (by omega)
  have e2:(t*F+u*G)*(f+g) - (t*f+u*g)*(F+G)=(t - u)*(F*g - f*G):=by
   simp only [Int.add_mul,Int.mul_add,Int.sub_mul,Int.mul_sub]
   have:t*F*f=t*f*F:=by ac_rfl
   have:u*G*g=u*g*G:=by ac_rfl
   have:t*(F*g)=t*F*g:=by ac_rfl
   have:t*(f*G)=t*f*G:=by ac_rfl
   have:u*(F*g)=u*g*F:=by ac_rfl
   have:u*(f*G)=u*G*f:=by ac_rfl
   omega
  rw [e1]
  omega
 exact Int.le_of_mul_le_mul_right h3 h
theorem mU_more {t u f g F G:Int} (ht:0<=t) (hu:0<=u) (hf:0<=f) (hg:0<=g) (hF:0<=F) (hG:0<=G) (h:0<f+g) (hle:(t - u)*(F*g - f*G)<=0):t*F+u*G<=mU t f u g*(F+G):=by
 obtain ⟨_,h2⟩:=mU_ge ht hu hf hg h
 have h3:(t*F+u*G)*(f+g)<=mU t f u g*(F+G)*(f+g):=by
  have e1:mU t f u g*(F+G)*(f+g)=mU t f u g*(f+g)*(F+G):=by ac_rfl
  have a1:(t*f+u*g)*(F+G)<=mU t f u g*(f+g)*(F+G):=Int.mul_le_mul_of_nonneg_right h2 (by omega)
  have e2:(t*F+u*G)*(f+g) - (t*f+u*g)*(F+G)=(t - u)*(F*g - f*G):=by
   simp only [Int.add_mul,Int.mul_add,Int.sub_mul,Int.mul_sub]
   have:t*F*f=t*f*F:=by ac_rfl
   have:u*G*g=u*g*G:=by ac_rfl
   have:t*(F*g)=t*F*g:=by ac_rfl
   have:t*(f*G)=t*f*G:=by ac_rfl
   have:u*(F*g)=u*g*F:=by ac_rfl
   have:u*(f*G)=u*G*f:=by ac_rfl
   omega
  rw [e1]
  omega
 exact Int.le_of_mul_le_mul_right h3 h
end
end Go.Sx.Str
namespace Go.Sx.Str
open Go Go.Sx Go.Proofs
set_option maxRecDepth 1000000
inductive PtOk (p:Pt):Prop where
 | join (k:p.k=0) (f:1<=p.flo/\p.flo<=p.fhi/\p.fhi<=1073741824) (w:0<=p.wlo/\p.wlo<=p.whi/\p.whi<=100000)
 | draw (k:p.k=1) (f:0<=p.flo/\p.flo<=p.fhi/\p.fhi<=1073741824)
 | add (k:p.k=2) (h:0<=p.hlo/\p.hlo<=p.hhi/\p.hhi<=1099511627776)
 | air (k:p.k=3) (w:0<=p.wlo/\p.wlo<=p.whi/\p.whi<=100000) (s:0<=p.slo/\p.slo<=p.shi/\p.shi<=10000)
theorem ptB_iff {p:Pt}:ptB p=true ↔ PtOk p:=by
 unfold ptB
 constructor
 ·intro h
  by_cases k0:p.k=0
  ·rw [decide_eq_true k0] at h
   simp only [cond_true,Bool.and_eq_true,spanB_iff] at h
   exact .join k0 h.1 h.2
  ·rw [decide_eq_false k0] at h
   by_cases k1:p.k=1
   ·rw [decide_eq_true k1] at h
    simp only [cond_false,cond_true,spanB_iff] at h
    exact .draw k1 h
   ·rw [decide_eq_false k1] at h
    by_cases k2:p.k=2
    ·rw [decide_eq_true k2] at h
     simp only [cond_false,cond_true,spanB_iff] at h
     exact .add k2 h
    ·rw [decide_eq_false k2] at h
     by_cases k3:p.k=3
     ·rw [decide_eq_true k3] at h
      simp only [cond_false,cond_true,Bool.and_eq_true,spanB_iff] at h
      exact .air k3 h.1 h.2
     ·rw [decide_eq_false k3] at h; cases h
 ·rintro (⟨k,h1,h2⟩ | ⟨k,h1⟩ | ⟨k,h1⟩ | ⟨k,h1,h2⟩)
  ·rw [decide_eq_true k]; simp only [cond_true,Bool.and_eq_true,spanB_iff]; exact ⟨h1,h2⟩
  ·rw [decide_eq_false (by omega),decide_eq_true k]; simp only [cond_false,cond_true,spanB_iff]; exact h1
  ·rw [decide_eq_false (by omega),decide_eq_false (by omega),decide_eq_true k]; simp only [cond_false,cond_true,spanB_iff]; exact h1
  ·rw [decide_eq_false (by omega),decide_eq_false (by omega),decide_eq_false (by omega),decide_eq_true k]; simp only [cond_false,cond_true,Bool.and_eq_true,spanB_iff]; exact ⟨h1,h2⟩
theorem step0 {w:Wt} {p:Pt} (k:p.k=0):stepW w p=joinW w p:=by unfold stepW; rw [decide_eq_true k]; rfl
theorem step1 {w:Wt} {p:Pt} (k:p.k=1):stepW w p=drawW w p:=by unfold stepW; rw [decide_eq_false (by omega),decide_eq_true k]; rfl
theorem step2 {w:Wt} {p:Pt} (k:p.k=2):stepW w p=addW w p:=by unfold stepW; rw [decide_eq_false (by omega),decide_eq_false (by omega),decide_eq_true k]; rfl
theorem step3 {w:Wt} {p:Pt} (k:p.k=3):stepW w p=airW w p:=by unfold stepW; rw [decide_eq_false (by omega),decide_eq_false (by omega),decide_eq_false (by omega)]; rfl
section
variable {w:Wt} {p:Pt} {F G S:Int}
theorem nn_mul {a b c d:Int} (h1:a<=b) (h2:c<=d) (ha:0<=a) (hc:0<=c):a*c<=b*d:=
 Int.le_trans (Int.mul_le_mul_of_nonneg_right h1 hc) (Int.mul_le_mul_of_nonneg_left h2 (by omega))
theorem join_lo (hw:WOk w) (f:1<=p.flo/\p.flo<=p.fhi) (hp:0<=p.wlo) (hF:w.flo<=F/\F<=w.fhi) (hG:p.flo<=G/\G<=p.fhi):(joinW w p).wlo*(F+G)<=w.wlo*F+p.wlo*G:=by
 have h1:=hw.f
 have h2:=hw.w
 unfold joinW
 dsimp only
 by_cases c:p.wlo<w.wlo
 ·rw [if_pos c]
  refine mD_less h2.1 hp (by omega) (by omega) (by omega) (by omega) (by omega) ?_
  have:=nn_mul hF.1 hG.2 (by omega) (by omega)
  have e:w.flo*G<=F*p.fhi:=this
  exact Int.mul_nonneg (by omega) (by omega)
 ·rw [if_neg c]
  refine mD_less h2.1 hp (by omega) (by omega) (by omega) (by omega) (by omega) ?_
  have e:F*p.flo<=w.fhi*G:=nn_mul hF.2 hG.1 (by omega) (by omega)
  exact Int.mul_nonneg_of_nonpos_of_nonpos (by omega) (by omega)
theorem join_hi (hw:WOk w) (f:1<=p.flo/\p.flo<=p.fhi) (hp:0<=p.whi) (hF:w.flo<=F/\F<=w.fhi) (hG:p.flo<=G/\G<=p.fhi):w.whi*F+p.whi*G<=(joinW w p).whi*(F+G):=by
 have h1:=hw.f
 have h2:=hw.w
 unfold joinW
 dsimp only
 by_cases c:p.whi<w.whi
 ·rw [if_pos c]
  refine mU_more (by omega) hp (by omega) (by omega) (by omega) (by omega) (by omega) ?_
  have e:F*p.flo<=w.fhi*G:=nn_mul hF.2 hG.1 (by omega) (by omega)
  exact Int.mul_nonpos_of_nonneg_of_nonpos (by omega) (by omega)
 ·rw [if_neg c]
  refine mU_more (by omega) hp (by omega) (by omega) (by omega) (by omega) (by omega) ?_
  have e:w.flo*G<=F*p.fhi:=nn_mul hF.1 hG.2 (by omega) (by omega)
  exact Int.mul_nonpos_of_nonpos_of_nonneg (by omega) (by omega)
theorem sh_eq {s S:Int}:(10000 - S)*s - (10000 - s)*S=10000*(s - S):=by
 simp only [Int.sub_mul,Int.mul_sub]
 have:S*s=s*S:=Int.mul_comm _ _
 omega
theorem air_lo (hw:WOk w) (hp:0<=p.wlo) (s:0<=p.slo/\p.slo<=p.shi/\p.shi<=10000) (hS:p.slo<=S/\S<=p.shi):(airW w p).wlo*10000<=w.wlo*(10000 - S)+p.wlo*S:=by
 have h2:=hw.w
 have e0:(10000 - S)+S=(10000:Int):=by omega
 unfold airW
 dsimp only
 by_cases c:w.wlo > p.wlo
 ·rw [if_pos c]
  have:=mD_less (t:=w.wlo) (u:=p.wlo) (f:=10000 - p.shi) (g:=p.shi) (F:=10000 - S) (G:=S) h2.1 hp (by omega) (by omega) (by omega) (by omega) (by omega) (by rw [sh_eq]; exact Int.mul_nonneg (by omega) (by omega))
  rw [e0] at this; exact this
 ·rw [if_neg c]
  have:=mD_less (t:=w.wlo) (u:=p.wlo) (f:=10000 - p.slo) (g:=p.slo) (F:=10000 - S) (G:=S) h2.1 hp (by omega) (by omega) (by omega) (by omega) (by omega) (by rw [sh_eq]; exact Int.mul_nonneg_of_nonpos_of_nonpos (by omega) (by omega))
  rw [e0] at this; exact this
theorem air_hi (hw:WOk w) (hp:0<=p.whi) (s:0<=p.slo/\p.slo<=p.shi/\p.shi<=10000) (hS:p.slo<=S/\S<=p.shi):w.whi*(10000 - S)+p.whi*S<=(airW w p).whi*10000:=by
 have h2:=hw.w
 have e0:(10000 - S)+S=(10000:Int):=by omega
 unfold airW
 dsimp only
 by_cases c:w.whi > p.whi
 ·rw [if_pos c]
  have:=mU_more (t:=w.whi) (u:=p.whi) (f:=10000 - p.slo) (g:=p.slo) (F:=10000 - S) (G:=S) (by omega) hp (by omega) (by omega) (by omega) (by omega) (by omega) (by rw [sh_eq]; exact Int.mul_nonpos_of_nonneg_of_nonpos (by omega) (by omega))
  rw [e0] at this; exact this
 ·rw [if_neg c]
  have:=mU_more (t:=w.whi) (u:=p.whi) (f:=10000 - p.shi) (g:=p.shi) (F:=10000 - S) (G:=S) (by omega) hp (by omega) (by omega) (by omega) (by omega) (by omega) (by rw [sh_eq]; exact Int.mul_nonpos_of_nonpos_of_nonneg (by omega) (by omega))
  rw [e0] at this; exact this
theorem errW_iff {w:Wt}:errW w=0 ↔ 1<=w.flo/\w.fhi<=1073741824/\w.whi<=100000:=by
 unfold errW
 by_cases h1:w.flo<1
 ·rw [decide_eq_true h1]; simp; omega
 ·rw [decide_eq_false h1]
  by_cases h2:w.fhi > 1073741824
  ·rw [decide_eq_true h2]; simp; omega
  ·rw [decide_eq_false h2]
   by_cases h3:w.whi > 100000
   ·rw [decide_eq_true h3]; simp; omega
   ·rw [decide_eq_false h3]; simp; omega
theorem step_ok (hw:WOk w) (hp:PtOk p) (he:errW (stepW w p)=0):WOk (stepW w p):=by
 obtain ⟨e1,e2,e3⟩:=errW_iff.1 he
 have h1:=hw.f
 have h2:=hw.w
 rcases hp with ⟨k,f,v⟩ | ⟨k,f⟩ | ⟨k,h⟩ | ⟨k,v,s⟩
 ·rw [step0 k] at *
  have a1:=join_lo (p:=p) hw ⟨f.1,f.2.1⟩ v.1 (F:=w.flo) (G:=p.flo) (by omega) (by omega)
  have a2:=join_hi (p:=p) hw ⟨f.1,f.2.1⟩ (by omega) (F:=w.flo) (G:=p.flo) (by omega) (by omega)
  have a3:w.wlo*w.flo<=w.whi*w.flo:=Int.mul_le_mul_of_nonneg_right h2.2.1 (by omega)
  have a4:p.wlo*p.flo<=p.whi*p.flo:=Int.mul_le_mul_of_nonneg_right v.2.1 (by omega)
  have a5:(joinW w p).wlo<=(joinW w p).whi:=Int.le_of_mul_le_mul_right (show (joinW w p).wlo*(w.flo+p.flo)<=(joinW w p).whi*(w.flo+p.flo) by omega) (by omega)
  have a6:0<=(joinW w p).wlo:=by
   unfold joinW
   dsimp only
   split
   ·exact (mD_le h2.1 v.1 (by omega) (by omega) (by omega)).1
   ·exact (mD_le h2.1 v.1 (by omega) (by omega) (by omega)).1
  exact ⟨⟨e1,by show w.flo+p.flo<=w.fhi+p.fhi; omega,e2⟩,a6,a5,e3⟩
 ·rw [step1 k] at *
  exact ⟨⟨e1,by show w.flo - p.fhi<=w.fhi - p.flo; omega,e2⟩,h2.1,h2.2.1,e3⟩
 ·rw [step2 k] at *
  have q1:0<=quoZ p.hlo w.fhi:=(quo_in h.1 (by omega)).1
  have q2:quoZ p.hlo w.fhi<=quoZ (p.hhi+w.flo - 1) w.flo:=by
   rw [quoZ_nn h.1,quoZ_nn (by omega)]
   refine Int.le_trans (Int.ediv_le_ediv (by omega) (show p.hlo<=p.hhi+w.flo - 1 by omega)) ?_
   refine (Int.le_ediv_iff_mul_le (by omega)).2 ?_
   have a1:(p.hhi+w.flo - 1) / w.fhi*w.fhi<=p.hhi+w.flo - 1:=Int.ediv_mul_le _ (by omega)
   have a2:(p.hhi+w.flo - 1) / w.fhi*w.flo<=(p.hhi+w.flo - 1) / w.fhi*w.fhi:=Int.mul_le_mul_of_nonneg_left h1.2.1 (Int.ediv_nonneg (by omega) (by omega))
   omega
  exact ⟨⟨e1,by show w.flo<=w.fhi; omega,e2⟩,by show 0<=w.wlo+_; omega,by show w.wlo+quoZ p.hlo w.fhi<=w.whi+quoZ (p.hhi+w.flo - 1) w.flo; omega,e3⟩
 ·rw [step3 k] at *
  have a1:=air_lo (p:=p) hw v.1 s (S:=p.slo) (by omega)
  have a2:=air_hi (p:=p) hw (by omega) s (S:=p.slo) (by omega)
  have a3:w.wlo*(10000 - p.slo)<=w.whi*(10000 - p.slo):=Int.mul_le_mul_of_nonneg_right h2.2.1 (by omega)
  have a4:p.wlo*p.slo<=p.whi*p.slo:=Int.mul_le_mul_of_nonneg_right v.2.1 (by omega)
  have a6:0<=(airW w p).wlo:=by
   unfold airW
   dsimp only
   split
   ·exact (mD_le h2.1 v.1 (by omega) (by omega) (by omega)).1
   ·exact (mD_le h2.1 v.1 (by omega) (by omega) (by omega)).1
  exact ⟨⟨e1,by show w.flo<=w.fhi; omega,e2⟩,a6,by omega,e3⟩
end
end Go.Sx.Str
namespace Go.Sx.Str
open Go Go.Sx Go.Proofs
set_option maxRecDepth 1000000
def tailT (R:Int->Wt->Prop) (N:Wt->Prop) (w:Wt):Prop:=
 bif decide (w.flo<1) then R 10 w else bif decide (w.fhi > 1073741824) then R 12 w else bif decide (w.whi > 100000) then R 12 w else N w
def deedT (w:Wt) (p:Pt) (R:Int->Wt->Prop) (N:Wt->Prop):Prop:=
 bif decide (p.k=0) then
 bif spanB p.flo p.fhi 1 (1073741824:Int) then
 bif !spanB p.wlo p.whi 0 (100000:Int) then
 R 1 w
 else bif decide (p.wlo<w.wlo) then
 bif decide (p.whi<w.whi) then
 meanOk w.wlo w.flo p.wlo p.fhi/\meanOk w.whi w.fhi p.whi p.flo/\bif inK IntKind.i64 (w.flo+p.flo) then
 bif inK IntKind.i64 (w.fhi+p.fhi) then
 tailT R N ⟨(w.flo+p.flo),(w.fhi+p.fhi),(mD w.wlo w.flo p.wlo p.fhi),(mU w.whi w.fhi p.whi p.flo)⟩
 else False
 else False
 else meanOk w.wlo w.flo p.wlo p.fhi/\meanOk w.whi w.flo p.whi p.fhi/\bif inK IntKind.i64 (w.flo+p.flo) then
 bif inK IntKind.i64 (w.fhi+p.fhi) then
 tailT R N ⟨(w.flo+p.flo),(w.fhi+p.fhi),(mD w.wlo w.flo p.wlo p.fhi),(mU w.whi w.flo p.whi p.fhi)⟩
 else False
 else False
 else bif decide (p.whi<w.whi) then
 meanOk w.wlo w.fhi p.wlo p.flo/\meanOk w.whi w.fhi p.whi p.flo/\bif inK IntKind.i64 (w.flo+p.flo) then
 bif inK IntKind.i64 (w.fhi+p.fhi) then
 tailT R N ⟨(w.flo+p.flo),(w.fhi+p.fhi),(mD w.wlo w.fhi p.wlo p.flo),(mU w.whi w.fhi p.whi p.flo)⟩
 else False
 else False
 else meanOk w.wlo w.fhi p.wlo p.flo/\meanOk w.whi w.flo p.whi p.fhi/\bif inK IntKind.i64 (w.flo+p.flo) then
 bif inK IntKind.i64 (w.fhi+p.fhi) then
 tailT R N ⟨(w.flo+p.flo),(w.fhi+p.fhi),(mD w.wlo w.fhi p.wlo p.flo),(mU w.whi w.flo p.whi p.fhi)⟩
 else False
 else False
 else R 1 w
 else bif decide (p.k=1) then
 bif !spanB p.flo p.fhi 0 (1073741824:Int) then
 R 1 w
 else bif inK IntKind.i64 (w.flo - p.fhi) then
 bif inK IntKind.i64 (w.fhi - p.flo) then
 tailT R N ⟨(w.flo - p.fhi),(w.fhi - p.flo),w.wlo,w.whi⟩
 else False
 else False
 else bif decide (p.k=(2:Int)) then
 bif !spanB p.hlo p.hhi 0 (1099511627776:Int) then
 R 1 w
 else bif decide (w.fhi=0) then
 False
 else bif inK IntKind.i64 (quoZ p.hlo w.fhi) then
 bif inK IntKind.i64 (w.wlo+quoZ p.hlo w.fhi) then
 upOk p.hhi w.flo/\bif inK IntKind.i64 (w.whi+quoZ (p.hhi+w.flo - 1) w.flo) then
 tailT R N ⟨w.flo,w.fhi,(w.wlo+quoZ p.hlo w.fhi),(w.whi+quoZ (p.hhi+w.flo - 1) w.flo)⟩
 else False
 else False
 else False
 else bif decide (p.k=(3:Int)) then
 bif spanB p.wlo p.whi 0 (100000:Int) then
 bif !spanB p.slo p.shi 0 (10000:Int) then
 R 1 w
 else bif decide (w.wlo > p.wlo) then
 bif decide (w.whi > p.whi) then
 bif inK IntKind.i64 ((10000:Int) - p.shi) then
 meanOk w.wlo ((10000:Int) - p.shi) p.wlo p.shi/\bif inK IntKind.i64 ((10000:Int) - p.slo) then
 meanOk w.whi ((10000:Int) - p.slo) p.whi p.slo/\tailT R N ⟨w.flo,w.fhi,(mD w.wlo ((10000:Int) - p.shi) p.wlo p.shi),(mU w.whi ((10000:Int) - p.slo) p.whi p.slo)⟩
 else False
 else False
 else bif inK IntKind.i64 ((10000:Int) - p.shi) then
 meanOk w.wlo ((10000:Int) - p.shi) p.wlo p.shi/\bif inK IntKind.i64 ((10000:Int) - p.shi) then
 meanOk w.whi ((10000:Int) - p.shi) p.whi p.shi/\tailT R N ⟨w.flo,w.fhi,(mD w.wlo ((10000:Int) - p.shi) p.wlo p.shi),(mU w.whi ((10000:Int) - p.shi) p.whi p.shi)⟩
 else False
 else False
 else bif decide (w.whi > p.whi) then
 bif inK IntKind.i64 ((10000:Int) - p.slo) then
 meanOk w.wlo ((10000:Int) - p.slo) p.wlo p.slo/\bif inK IntKind.i64 ((10000:Int) - p.slo) then
 meanOk w.whi ((10000:Int) - p.slo) p.whi p.slo/\tailT R N ⟨w.flo,w.fhi,(mD w.wlo ((10000:Int) - p.slo) p.wlo p.slo),(mU w.whi ((10000:Int) - p.slo) p.whi p.slo)⟩
 else False
 else False
 else bif inK IntKind.i64 ((10000:Int) - p.slo) then
 meanOk w.wlo ((10000:Int) - p.slo) p.wlo p.slo/\bif inK IntKind.i64 ((10000:Int) - p.shi) then
 meanOk w.whi ((10000:Int) - p.shi) p.whi p.shi/\tailT R N ⟨w.flo,w.fhi,(mD w.wlo ((10000:Int) - p.slo) p.wlo p.slo),(mU w.whi ((10000:Int) - p.shi) p.whi p.shi)⟩
 else False
 else False
 else R 1 w
 else R 1 w
section
variable {w:Wt} {p:Pt} {R:Int->Wt->Prop} {N:Wt->Prop}
theorem tailT_of (h1:errW w ≠ 0->R (errW w) w) (h2:errW w=0->N w):tailT R N w:=by
 unfold tailT
 unfold errW at h1 h2
 by_cases a:w.flo<1
 ·rw [decide_eq_true a] at h1 h2 ⊢; exact h1 (show (10:Int) ≠ 0 by decide)
 ·rw [decide_eq_false a] at h1 h2 ⊢
  by_cases b:w.fhi > 1073741824
  ·rw [decide_eq_true b] at h1 h2 ⊢; exact h1 (show (12:Int) ≠ 0 by decide)
  ·rw [decide_eq_false b] at h1 h2 ⊢
   by_cases c:w.whi > 100000
   ·rw [decide_eq_true c] at h1 h2 ⊢; rw [Bool.or_true] at h1; exact h1 (show (12:Int) ≠ 0 by decide)
   ·rw [decide_eq_false c] at h1 h2 ⊢; exact h2 rfl
theorem cond_t {b:Bool} {p q:Prop} (h:b=true) (h2:p):(bif b then p else q):=by rw [h]; exact h2
theorem cond_f {b:Bool} {p q:Prop} (h:b=false) (h2:q):(bif b then p else q):=by rw [h]; exact h2
theorem deedT_of (hw:WOk w) (h1:ptB p=false->R 1 w) (h2:ptB p=true->errW (stepW w p) ≠ 0->R (errW (stepW w p)) (stepW w p)) (h3:ptB p=true->errW (stepW w p)=0->N (stepW w p)):deedT w p R N:=by
 obtain ⟨f1,f2,f3⟩:=hw.f
 obtain ⟨v1,v2,v3⟩:=hw.w
 have ht:∀ w',PtOk p->stepW w p=w'->tailT R N w':=fun w' hp e=>by
  subst e
  exact tailT_of (h2 (ptB_iff.2 hp)) (h3 (ptB_iff.2 hp))
 have hb:(PtOk p->False)->R 1 w:=fun h=>h1 (Bool.eq_false_iff.2 fun hp=>h (ptB_iff.1 hp))
 unfold deedT
 refine cond_d (fun k=>?_) (fun k0=>cond_d (fun k=>?_) (fun k1=>cond_d (fun k=>?_) (fun k2=>cond_d (fun k=>?_) (fun k3=>?_))))
 ·refine cond_b (fun a=>?_) (fun a=>?_)
  ·refine cond_b (fun b=>?_) (fun b=>?_)
   ·exact hb fun hp=>by
     rcases hp with ⟨k',f,v⟩ | ⟨k',f⟩ | ⟨k',f⟩ | ⟨k',f,v⟩ <;> try omega
     rw [spanB_iff.2 v] at b; cases b
   ·have b':spanB p.wlo p.whi 0 100000=true:=by simpa using b
    have f:=spanB_iff.1 a
    have v:=spanB_iff.1 b'
    have hp:PtOk p:=.join k f v
    refine cond_d (fun c=>cond_d (fun d=>?_) (fun d=>?_)) (fun c=>cond_d (fun d=>?_) (fun d=>?_))
    all_goals
     refine ⟨⟨by omega,by omega,by omega,by omega,by omega⟩,⟨by omega,by omega,by omega,by omega,by omega⟩,cond_r (by omega) (cond_r (by omega) (ht _ hp ?_))⟩
     rw [step0 k]
     unfold joinW
     simp only [c,d,if_true,if_false]
  ·exact hb fun hp=>by
    rcases hp with ⟨k',f,v⟩ | ⟨k',f⟩ | ⟨k',f⟩ | ⟨k',f,v⟩ <;> try omega
    rw [spanB_iff.2 f] at a; cases a
 ·refine cond_b (fun b=>?_) (fun b=>?_)
  ·exact hb fun hp=>by
    rcases hp with ⟨k',f,v⟩ | ⟨k',f⟩ | ⟨k',f⟩ | ⟨k',f,v⟩ <;> try omega
    rw [spanB_iff.2 f] at b; cases b
  ·have b':spanB p.flo p.fhi 0 1073741824=true:=by simpa using b
   have f:=spanB_iff.1 b'
   exact cond_r (by omega) (cond_r (by omega) (ht _ (.draw k f) (step1 k)))
 ·refine cond_b (fun b=>?_) (fun b=>?_)
  ·exact hb fun hp=>by
    rcases hp with ⟨k',f,v⟩ | ⟨k',f⟩ | ⟨k',f⟩ | ⟨k',f,v⟩ <;> try omega
    rw [spanB_iff.2 f] at b; cases b
  ·have b':spanB p.hlo p.hhi 0 1099511627776=true:=by simpa using b
   have f:=spanB_iff.1 b'
   have q1:=quo_in (a:=p.hlo) (b:=w.fhi) f.1 (by omega)
   have q2:=quo_in (a:=p.hhi+w.flo - 1) (b:=w.flo) (by omega) (by omega)
   exact cond_d (fun h=>by omega) (fun _=>cond_r (by omega) (cond_r (by omega) ⟨⟨by omega,by omega⟩,cond_r (by omega) (ht _ (.add k f) (step2 k))⟩))
 ·refine cond_b (fun a=>?_) (fun a=>?_)
  ·refine cond_b (fun b=>?_) (fun b=>?_)
   ·exact hb fun hp=>by
     rcases hp with ⟨k',f,v⟩ | ⟨k',f⟩ | ⟨k',f⟩ | ⟨k',f,v⟩ <;> try omega
     rw [spanB_iff.2 v] at b; cases b
   ·have b':spanB p.slo p.shi 0 10000=true:=by simpa using b
    have f:=spanB_iff.1 a
    have v:=spanB_iff.1 b'
    have hp:PtOk p:=.air k f v
    refine cond_d (fun c=>cond_d (fun d=>?_) (fun d=>?_)) (fun c=>cond_d (fun d=>?_) (fun d=>?_))
    all_goals
     refine cond_r (by omega) ⟨⟨by omega,by omega,by omega,by omega,by omega⟩,cond_r (by omega) ⟨⟨by omega,by omega,by omega,by omega,by omega⟩,ht _ hp ?_⟩⟩
     rw [step3 k]
     unfold airW
     simp only [c,d,if_true,if_false]
  ·exact hb fun hp=>by
    rcases hp with ⟨k',f,v⟩ | ⟨k',f⟩ | ⟨k',f⟩ | ⟨k',f,v⟩ <;> try omega
    rw [spanB_iff.2 f] at a; cases a
 ·exact hb fun hp=>by
   rcases hp with ⟨k',f,v⟩ | ⟨k',f⟩ | ⟨k',f⟩ | ⟨k',f,v⟩ <;> omega
end
end Go.Sx.Str
namespace Go.Sx.Str
open Go Go.Sx Go.Proofs
set_option maxRecDepth 1000000
theorem tSt_ok:∀ p ∈ tSt,SpOk Try.prog p.1 p.2:=by
 intro p hp
 simp only [tSt,List.mem_cons,List.not_mem_nil,or_false] at hp
 rcases hp with rfl | rfl | rfl
 ·exact spanT_ok isSpan_v
 ·exact meanT_ok
 ·exact upT_ok fun a b h=>up_v h
theorem runE_pos {l:Int->Pt} {m:Nat} {i:Int} {w:Wt} (h:ptB (l i)=true) (he:errW (stepW w (l i))=0):runE l (m+1) i w=runE l m (i+1) (stepW w (l i)):=by
 simp only [runE,h,he,Bool.not_true,cond_false,decide_true,cond_true]
theorem runE_bad {l:Int->Pt} {m:Nat} {i:Int} {w:Wt} (h:ptB (l i)=false):runE l (m+1) i w=1:=by
 simp only [runE,h,Bool.not_false,cond_true]
theorem runE_err {l:Int->Pt} {m:Nat} {i:Int} {w:Wt} (h:ptB (l i)=true) (he:errW (stepW w (l i)) ≠ 0):runE l (m+1) i w=errW (stepW w (l i)):=by
 simp only [runE,h,Bool.not_true,cond_false,decide_eq_false he]
theorem runI_pos {l:Int->Pt} {m:Nat} {i:Int} {w:Wt} (h:ptB (l i)=true) (he:errW (stepW w (l i))=0):runI l (m+1) i w=runI l m (i+1) (stepW w (l i)):=by
 simp only [runI,h,he,Bool.true_and,decide_true,cond_true]
theorem runI_bad {l:Int->Pt} {m:Nat} {i:Int} {w:Wt} (h:ptB (l i)=false):runI l (m+1) i w=i:=by
 simp only [runI,h,Bool.false_and,cond_false]
theorem runI_err {l:Int->Pt} {m:Nat} {i:Int} {w:Wt} (h:ptB (l i)=true) (he:errW (stepW w (l i)) ≠ 0):runI l (m+1) i w=i:=by
 simp only [runI,h,Bool.true_and,decide_eq_false he,cond_false]
structure SF where
 i:Int
 k:Int
 w:Wt
 xs:List Wt
structure IF (n:Nat) (s:SF):Prop where
 i:(0<=s.i/\s.i<=n/\s.k=s.i) ∨ (s.i=n+1/\s.k=n)
 x:(s.xs.length:Int)=s.k
 w:WOk s.w
 n:n<=100000
def OF (n cap:Nat) (l:Int->Pt) (f:Wt) (s:SF) (e:VEx) (vs:List VV) (bs:List VB):Prop:=
 (e=.exit 0/\runE l (n - s.k).toNat s.k s.w=0/\∃ w',vs=VF n (n+1) n/\bs=BFl n cap l f w' (s.xs ++ runL l (n - s.k).toNat s.k s.w)) ∨
 (e=.ret/\runE l (n - s.k).toNat s.k s.w ≠ 0/\∃ i w' xs',vs=VF n i (runI l (n - s.k).toNat s.k s.w)/\bs=BFr n cap l f w' xs' (runI l (n - s.k).toNat s.k s.w) (runE l (n - s.k).toNat s.k s.w))
section
variable {n cap:Nat} {l:Int->Pt} {f:Wt}
theorem w0_round (i k:Int) (w:Wt) (xs:List Wt) (hi:IF n ⟨i,k,w,xs⟩):codeE Try.prog (callN Try.prog (tabS tSt) noL 10 20) (fun _=>none) true 10 44 0 (loopB 0 (bodyOf Try.prog 51)) (dsF.zip (VF n i k)) ⟨16,nsF.zip (BFl n cap l f w xs)⟩ (obs 16 dsF nsF (RoundQ (fun s=>VF n s.i s.k) (fun s=>BFl n cap l f s.w s.xs) (IF n) (fun s=>(n+1 - s.i).toNat) (OF n cap l f) ⟨i,k,w,xs⟩)):=by
 obtain ⟨h1,h2,h3,h4⟩:=hi
 dsimp only at h1 h2 h3
 rw [w0_ev]
 by_cases hlt:i<(n:Int)+1
 ·refine cond_dk hlt ?_
  refine cond_d (fun h=>by omega) (fun _=>?_)
  by_cases hn:i<(n:Int)
  ·refine cond_dk hn (cond_dk ⟨by omega,hn⟩ ⟨⟨rfl,by omega,by omega⟩,?_⟩)
   have hk:k=i:=by omega
   subst hk
   have hm:((n:Int) - k).toNat=((n:Int) - (k+1)).toNat+1:=by omega
   have key:=deedT_of (w:=w) (p:=l (0+k))
    (R:=fun e w'=>RoundQ (fun s=>VF n s.i s.k) (fun s=>BFl n cap l f s.w s.xs) (IF n) (fun s=>(n+1 - s.i).toNat) (OF n cap l f) ⟨k,k,w,xs⟩ .ret (VF n k k) (BFr n cap l f w' xs k e))
    (N:=fun w'=>bif xs.length.beq xs.length then
      bif roomB (xs.length+1) (32) then
      bif inK IntKind.i64 (k+(1:Int)) then
      bif inK IntKind.i64 (k+(1:Int)) then
      RoundQ (fun s=>VF n s.i s.k) (fun s=>BFl n cap l f s.w s.xs) (IF n) (fun s=>(n+1 - s.i).toNat) (OF n cap l f) ⟨k,k,w,xs⟩ .normal (VF n (k+1) (k+1)) [ptsA n l,.cells [.slice (.el 0 [] 0 0) n cap] 26,.cells [I (-1)] 3,.cells [.nilp] 78,.cells [.sl 15 (xs.length+1)] 29,.cells [I 0] 3,.cells [I 0] 30,.cells (wtL w') 89,.cells [.ptr (.own 12 0)] 87,rec35 f,.vec (xs.length+1) (catG xs.length (fun j=>wtL (xs.getD j w0)) fun j=>List.take 4 (List.drop (j*4) (wtL w'))) 4 25]
      else False else False else False else False)
    h3
    (fun hb=>.inr ⟨rfl,by
      rw [Int.zero_add] at hb
      show runE l ((n:Int) - k).toNat k w ≠ 0
      rw [hm,runE_bad hb]; decide,k,w,xs,by
      rw [Int.zero_add] at hb
      show VF n k k=VF n k (runI l ((n:Int) - k).toNat k w)
      rw [hm,runI_bad hb],by
      rw [Int.zero_add] at hb
      show BFr n cap l f w xs k 1=BFr n cap l f w xs (runI l ((n:Int) - k).toNat k w) (runE l ((n:Int) - k).toNat k w)
      rw [hm,runI_bad hb,runE_bad hb]⟩)
    (fun hb he=>.inr ⟨rfl,by
      rw [Int.zero_add] at hb he
      show runE l ((n:Int) - k).toNat k w ≠ 0
      rw [hm,runE_err hb he]; exact he,k,stepW w (l k),xs,by
      rw [Int.zero_add] at hb he
      show VF n k k=VF n k (runI l ((n:Int) - k).toNat k w)
      rw [hm,runI_err hb he],by
      rw [Int.zero_add] at hb he ⊢
      show BFr n cap l f (stepW w (l k)) xs k (errW (stepW w (l k)))=BFr n cap l f (stepW w (l k)) xs (runI l ((n:Int) - k).toNat k w) (runE l ((n:Int) - k).toNat k w)
      rw [hm,runI_err hb he,runE_err hb he]⟩)
    (fun hb he=>by
      rw [Int.zero_add] at hb he ⊢
      have hx:xs.length.beq xs.length=true:=Nat.beq_refl _
      refine cond_t hx (cond_t (room32 (by omega)) (cond_r (by omega) (cond_r (by omega) ?_)))
      refine ⟨⟨k+1,k+1,stepW w (l k),xs ++ [stepW w (l k)]⟩,⟨by dsimp only; omega,by simp; omega,step_ok h3 (ptB_iff.1 hb) he,h4⟩,by dsimp only; omega,rfl,?_,?_⟩
      ·refine ⟨VB.fit_refl _,VB.fit_refl _,VB.fit_refl _,VB.fit_refl _,?_,VB.fit_refl _,VB.fit_refl _,VB.fit_refl _,VB.fit_refl _,VB.fit_refl _,fit_snocW xs _,trivial⟩
       dsimp only
       rw [List.length_append]
       exact VB.fit_refl _
      ·intro e vs bs
       simp only [OF]
       rw [hm,runE_pos hb he,runI_pos hb he,runL]
       rw [List.append_assoc]
       exact id)
   exact key
  ·refine cond_d (fun h=>absurd h hn) (fun _=>cond_r (by omega) ?_)
   have hk:i=(n:Int):=by omega
   subst hk
   have hk':k=(n:Int):=by omega
   subst hk'
   refine ⟨⟨n+1,n,w,xs⟩,⟨.inr ⟨rfl,rfl⟩,h2,h3,h4⟩,by dsimp only; omega,rfl,fitBs_refl _,fun e vs bs=>id⟩
 ·refine cond_d (fun h=>absurd h hlt) (fun _=>?_)
  have hi:i=(n:Int)+1:=by omega
  have hk:k=(n:Int):=by omega
  subst hi hk
  have hz:((n:Int) - n).toNat=0:=by omega
  refine .inl ⟨rfl,?_,w,rfl,?_⟩
  ·show runE l ((n:Int) - n).toNat n w=0
   rw [hz]; rfl
  ·show BFl n cap l f w xs=BFl n cap l f w (xs ++ runL l ((n:Int) - n).toNat n w)
   rw [hz]; simp [runL]
def LFls (n cap:Nat) (l:Int->Pt) (f:Wt):LT:=fun lock t h K=>
 FitP lock h t ⟨16,nsF.zip (BFl n cap l f f [])⟩ (dsF.zip (VF n 0 0))/\(WOk f/\n<=100000) /\
  (runE l n 0 f=0->∀ w',K .normal (dsF.zip (VF n (n+1) n)) ⟨16,nsF.zip (BFl n cap l f w' (runL l n 0 f))⟩) /\
  (runE l n 0 f ≠ 0->∀ i w' xs',K .ret (dsF.zip (VF n i (runI l n 0 f))) ⟨16,nsF.zip (BFr n cap l f w' xs' (runI l n 0 f) (runE l n 0 f))⟩)
theorem LFls_ok:LSound Try.prog true (.block 0 (.loop (loopB 0 (bodyOf Try.prog 51)))) 44 (LFls n cap l f):=by
 refine loop_row hmix (tab_good hmix tSt_ok 20) (un:=10) (ds:=dsF) (ns:=nsF) (nx:=16) (fun s:SF=>VF n s.i s.k) (fun s=>BFl n cap l f s.w s.xs) (IF n) (fun s=>(n+1 - s.i).toNat) (OF n cap l f) noL_ok (fun s hi=>w0_round s.i s.k s.w s.xs hi) ?_
 rintro lock t h K ⟨hf,⟨hw,hn⟩,h1,h2⟩
 have hz:((n:Int) - 0).toNat=n:=by omega
 refine ⟨⟨0,0,f,[]⟩,hf,⟨.inl ⟨Int.le_refl 0,Int.natCast_nonneg n,rfl⟩,rfl,hw,hn⟩,?_⟩
 rintro e vs bs (⟨rfl,he,w',rfl,rfl⟩ | ⟨rfl,he,i,w',xs',rfl,rfl⟩)
 ·dsimp only at he
  rw [hz] at he
  have:=h1 he w'
  dsimp only
  rw [hz]
  exact this
 ·dsimp only at he
  rw [hz] at he
  have:=h2 he i w' xs'
  dsimp only
  rw [hz]
  exact this
def nsFn:List Nat:=[0,5,6,7,9,10,11,12,13,14]
noncomputable def BFn (n cap:Nat) (l:Int->Pt) (f:Wt):List VB:=[ptsA n l,.cells [.slice (.el 0 [] 0 0) n cap] 26,.cells [I (-1)] 3,.cells [.nilp] 78,.cells [.nils] 29,.cells [I 0] 3,.cells [I 0] 30,.cells (wtL f) 89,.cells [.ptr (.own 12 0)] 87,rec35 f]
def LFl (n cap:Nat) (l:Int->Pt) (f:Wt):LT:=fun lock t h K=>
 FitP lock h t ⟨15,nsFn.zip (BFn n cap l f)⟩ (dsF.zip (VF n 0 0))/\(WOk f/\n<=100000) /\
  (runE l n 0 f=0->∀ w',K .normal (dsF.zip (VF n (n+1) n)) ⟨16,nsF.zip (BFl n cap l f w' (runL l n 0 f))⟩) /\
  (runE l n 0 f ≠ 0->∀ i w' xs',K .ret (dsF.zip (VF n i (runI l n 0 f))) ⟨16,nsF.zip (BFr n cap l f w' xs' (runI l n 0 f) (runE l n 0 f))⟩)
theorem LFl_ok:LSound Try.prog true (.block 0 (.loop (loopB 0 (bodyOf Try.prog 51)))) 44 (LFl n cap l f):=
 ghost_cells_row (m:=9) (nx:=15) (cs:=[.nils]) (cs':=[.sl 15 0]) (ty:=29) (bs:=nsFn.zip (BFn n cap l f)) (t0:=dsF.zip (VF n 0 0))
  (fun j=>wtL (([]:List Wt).getD j w0)) 4 25 LFls_ok rfl (fun R xs hv hx=>by
   obtain ⟨a0,_,k0,k1,rfl⟩:=hx
   exact ⟨_,_,nil_ghost hv k0,k1,rfl⟩) (by
   rintro lock t h K ⟨hf,hc,h1,h2⟩
   exact ⟨hf,⟨⟨rfl,rfl,VB.fit_refl _,VB.fit_refl _,VB.fit_refl _,VB.fit_refl _,VB.fit_refl _,VB.fit_refl _,VB.fit_refl _,VB.fit_refl _,VB.fit_refl _,VB.fit_refl _,VB.fit_refl _,trivial⟩,rfl,rfl,rfl,rfl,rfl,rfl,rfl,trivial⟩,hc,h1,h2⟩)
end
end Go.Sx.Str
namespace Go.Sx.Str
open Go Go.Sx Go.Proofs
set_option maxRecDepth 1000000
def flR (Q:VRes->List VB->Prop):VRes->VH->Prop:=fun r h=>Q r [h.at 0,h.at 15]
theorem f13_ev (n cap:Nat) (l:Int->Pt) (f:Wt) (Q:VRes->List VB->Prop):callN Try.prog noSpec (atF 51 [(0,LFl n cap l f)]) 10 20 0 (.fn 13) [.agg (wtL f),.slice (.el 0 [] 0 0) n cap] ⟨1,[(0,ptsA n l)]⟩ (flR Q) =
 (bif decide (f.flo ≥ (1:Int)) then
 bif decide (f.flo<=f.fhi) then
 bif decide (f.fhi<=(1073741824:Int)) then
 bif decide (f.wlo ≥ (0:Int)) then
 bif decide (f.wlo<=f.whi) then
 bif !decide (f.whi<=(100000:Int)) then
 Q (VRes.ret (VV.tup [VV.nils,I 0,I 1])) [ptsA n l,VB.free]
 else bif decide ((↑n:Int) > (64:Int)) then
 Q (VRes.ret (VV.tup [VV.nils,I 0,I 3])) [ptsA n l,VB.free]
 else bif inK IntKind.i64 ((↑n:Int)+(1:Int)) then
 FitP 0 (VH.mk (15) (nsFn.zip (BFn n cap l f))) (dsF.zip (VF n (0:Int) (0:Int))) (VH.mk (15) (nsFn.zip (BFn n cap l f))) (dsF.zip (VF n (0:Int) (0:Int)))/\(WOk f/\n<=100000)/\(runE l n (0:Int) f=(0:Int)->∀ (w':Wt),Q (VRes.ret (VV.tup [VV.sl 15 (runL l n (0:Int) f).length,I (↑(runL l n (0:Int) f).length:Int),I 0])) [ptsA n l,VB.vec (runL l n (0:Int) f).length (fun j=>wtL ((runL l n (0:Int) f).getD j w0)) 4 (25:TypeId)])/\(runE l n (0:Int) f ≠ (0:Int)->∀ (i:Int) (w':Wt) (xs':List Wt),Q (VRes.ret (VV.tup [VV.nils,I (runI l n (0:Int) f),I (runE l n (0:Int) f)])) [ptsA n l,VB.vec xs'.length (fun j=>wtL (xs'.getD j w0)) 4 (25:TypeId)])
 else False
 else Q (VRes.ret (VV.tup [VV.nils,I 0,I 1])) [ptsA n l,VB.free]
 else Q (VRes.ret (VV.tup [VV.nils,I 0,I 1])) [ptsA n l,VB.free]
 else Q (VRes.ret (VV.tup [VV.nils,I 0,I 1])) [ptsA n l,VB.free]
 else Q (VRes.ret (VV.tup [VV.nils,I 0,I 1])) [ptsA n l,VB.free]
 else Q (VRes.ret (VV.tup [VV.nils,I 0,I 1])) [ptsA n l,VB.free]):=by kernel_rfl
end Go.Sx.Str
namespace Go.Sx.Str
open Go Go.Sx Go.Proofs
set_option maxRecDepth 1000000
def p0:Pt:=⟨0,0,0,0,0,0,0,0,0⟩
def pG (P:List Pt):Nat->List VV:=fun j=>ptL (P.getD j p0)
def pF (P:List Pt):Int->Pt:=fun i=>P.getD i.toNat p0
def rL:Wt->List Pt->List Wt
 | _,[]=>[]
 | w,p::r=>stepW w p::rL (stepW w p) r
def rE:Wt->List Pt->Int
 | _,[]=>0
 | w,p::r=>bif !ptB p then 1 else bif decide (errW (stepW w p)=0) then rE (stepW w p) r else errW (stepW w p)
def rI:Int->Wt->List Pt->Int
 | i,_,[]=>i
 | i,w,p::r=>bif ptB p && decide (errW (stepW w p)=0) then rI (i+1) (stepW w p) r else i
theorem pF_app (A:List Pt) (p:Pt) (r:List Pt):pF (A ++ p::r) (A.length:Int)=p:=by
 simp [pF,List.getD_eq_getElem?_getD]
theorem runL_list:∀ (B A:List Pt) (w:Wt),runL (pF (A ++ B)) B.length A.length w=rL w B
 | [],_,_=>rfl
 | p::r,A,w=>by
  have h:=runL_list r (A ++ [p]) (stepW w p)
  simp only [List.length_cons,runL,rL,pF_app]
  rw [List.append_assoc,List.length_append] at h
  simp only [List.length_singleton,List.singleton_append,Int.natCast_add,Int.natCast_one] at h
  rw [h]
theorem runE_list:∀ (B A:List Pt) (w:Wt),runE (pF (A ++ B)) B.length A.length w=rE w B
 | [],_,_=>rfl
 | p::r,A,w=>by
  have h:=runE_list r (A ++ [p]) (stepW w p)
  simp only [List.length_cons,runE,rE,pF_app]
  rw [List.append_assoc,List.length_append] at h
  simp only [List.length_singleton,List.singleton_append,Int.natCast_add,Int.natCast_one] at h
  rw [h]
theorem runI_list:∀ (B A:List Pt) (w:Wt),runI (pF (A ++ B)) B.length A.length w=rI A.length w B
 | [],_,_=>rfl
 | p::r,A,w=>by
  have h:=runI_list r (A ++ [p]) (stepW w p)
  simp only [List.length_cons,runI,rI,pF_app]
  rw [List.append_assoc,List.length_append] at h
  simp only [List.length_singleton,List.singleton_append,Int.natCast_add,Int.natCast_one] at h
  rw [h]
def flE (f:Wt) (P:List Pt):Int:=bif !watB f then 1 else bif decide ((P.length:Int) > 64) then 3 else rE f P
def flI (f:Wt) (P:List Pt):Int:=bif !watB f then 0 else bif decide ((P.length:Int) > 64) then 0 else rI 0 f P
def flL (f:Wt) (P:List Pt):List Wt:=bif decide (flE f P=0) then rL f P else []
abbrev flV (o:Nat) (f:Wt) (P:List Pt):VV:=.tup [.sl o (flL f P).length,I (flI f P),I (flE f P)]
theorem wat_no {f:Wt} (h:f.flo ≥ 1->f.flo<=f.fhi->f.fhi<=1073741824->f.wlo ≥ 0->f.wlo<=f.whi->f.whi<=100000->False):watB f=false:=by
 cases hw:watB f
 ·rfl
 ·obtain ⟨⟨a1,a2,a3⟩,b1,b2,b3⟩:=watB_iff.1 hw
  exact (h a1 a2 a3 b1 b2 b3).elim
theorem fl_ghost {f:FuncId} {args:List VV} {h:VH} {nx:Nat} {bs:List (Nat × VB)} {i e:Int} (hc:CallsV Try.prog f args h (.ret (.tup [.nils,I i,I e])) ⟨nx,bs⟩):CallsV Try.prog f args h (.ret (.tup [.sl nx 0,I i,I e])) ((VH.mk nx bs).new (vecW [])):=
 calls_ghost (v2:=.tup [.sl nx 0,I i,I e]) (fun j=>wtL (([]:List Wt).getD j w0)) 4 25 hc (fun R x hv hx=>by
  obtain ⟨xs,⟨y,ys,g1,⟨y2,ys2,g2,⟨y3,ys3,g3,g4,rfl⟩,rfl⟩,rfl⟩,hx⟩:=hx
  exact ⟨_,⟨y,_,nil_ghost hv g1,⟨y2,_,g2,⟨y3,_,g3,g4,rfl⟩,rfl⟩,rfl⟩,hx⟩)
theorem flE_w {f:Wt} {P:List Pt} (h:watB f=false):flE f P=1/\flI f P=0/\flL f P=[]:=by
 unfold flL flI flE
 rw [h]
 exact ⟨rfl,rfl,rfl⟩
theorem flE_l {f:Wt} {P:List Pt} (h:watB f=true) (hl:(P.length:Int) > 64):flE f P=3/\flI f P=0/\flL f P=[]:=by
 unfold flL flI flE
 rw [h,decide_eq_true hl]
 exact ⟨rfl,rfl,rfl⟩
theorem flE_o {f:Wt} {P:List Pt} (h:watB f=true) (hl:¬ (P.length:Int) > 64):flE f P=rE f P/\flI f P=rI 0 f P/\flL f P=bif decide (rE f P=0) then rL f P else []:=by
 unfold flL flI flE
 rw [h,decide_eq_false hl]
 exact ⟨rfl,rfl,rfl⟩
theorem rL_len:∀ (P:List Pt) (w:Wt),(rL w P).length=P.length
 | [],_=>rfl
 | p::r,w=>by simp only [rL,List.length_cons,rL_len r]
theorem rI_end:∀ (P:List Pt) (i:Int) (w:Wt),rE w P=0->rI i w P=i+P.length
 | [],i,w,_=>by simp [rI]
 | p::r,i,w,h=>by
  simp only [rE] at h
  simp only [rI]
  cases hp:ptB p
  ·rw [hp] at h; cases h
  ·rw [hp] at h
   by_cases he:errW (stepW w p)=0
   ·rw [decide_eq_true he] at h ⊢
    have:=rI_end r (i+1) (stepW w p) h
    show rI (i+1) (stepW w p) r=_
    rw [this,List.length_cons]
    omega
   ·rw [decide_eq_false he] at h
    exact (he h).elim
theorem flow13 (f:Wt) (P:List Pt) (cap:Nat):CallsV Try.prog 13 [.agg (wtL f),.slice (.el 0 [] 0 0) P.length cap] ⟨1,[(0,ptsA P.length (pF P))]⟩ (.ret (flV 15 f P)) ⟨16,[(0,ptsA P.length (pF P)),(15,vecW (flL f P))]⟩:=by
 have e1:runE (pF P) P.length 0 f=rE f P:=runE_list P [] f
 have e2:runI (pF P) P.length 0 f=rI 0 f P:=runI_list P [] f
 have e3:runL (pF P) P.length 0 f=rL f P:=runL_list P [] f
 obtain ⟨r,h',hQ,hc⟩:=of_callN (callL_good (sp:=noSpec) hmix (fun _ _ h=>absurd h (by simp [noSpec])) (lo_one (by kernel_rfl) (LFl_ok (n:=P.length) (cap:=cap) (l:=pF P) (f:=f))) (un:=10) 20) (f:=13) (args:=[.agg (wtL f),.slice (.el 0 [] 0 0) P.length cap]) (h:=⟨1,[(0,ptsA P.length (pF P))]⟩)
  (K:=flR fun r bs=>(r=.ret (.tup [.nils,I (flI f P),I (flE f P)])/\flL f P=[]/\∃ x,bs=[ptsA P.length (pF P),x]) ∨ (r=.ret (flV 15 f P)/\bs=[ptsA P.length (pF P),vecW (flL f P)]))
  (by
   rw [f13_ev]
   have bad:watB f=false->(VRes.ret (.tup [.nils,I 0,I 1])=.ret (.tup [.nils,I (flI f P),I (flE f P)]))/\flL f P=[]/\∃ x,[ptsA P.length (pF P),VB.free]=[ptsA P.length (pF P),x]:=fun h=>by
    obtain ⟨h1,h2,h3⟩:=flE_w (P:=P) h
    rw [h1,h2,h3]
    exact ⟨rfl,rfl,_,rfl⟩
   refine cond_d (fun a1=>cond_d (fun a2=>cond_d (fun a3=>cond_d (fun b1=>cond_d (fun b2=>cond_nd (fun b3=>?_) (fun b3=>?_)) (fun b2=>?_)) (fun b1=>?_)) (fun a3=>?_)) (fun a2=>?_)) (fun a1=>?_)
   all_goals first
    | exact .inl (bad (wat_no fun _ _ _ _ _ _=>by omega))
    | skip
   have hw:watB f=true:=watB_iff.2 ⟨⟨a1,a2,a3⟩,b1,b2,b3⟩
   refine cond_d (fun hn=>.inl ?_) (fun hn=>cond_r (by omega) ⟨fitP_self rfl,⟨watB_iff.1 hw,by omega⟩,fun h0 w'=>.inr ?_,fun h0 i w' xs'=>.inl ?_⟩)
   ·obtain ⟨h1,h2,h3⟩:=flE_l (P:=P) hw hn
    rw [h1,h2,h3]
    exact ⟨rfl,rfl,_,rfl⟩
   ·obtain ⟨h1,h2,h3⟩:=flE_o (P:=P) hw hn
    rw [e3]
    rw [e1] at h0
    rw [h0] at h1 h3
    have hi:=rI_end P 0 f h0
    rw [hi,Int.zero_add] at h2
    have h3:flL f P=rL f P:=h3
    unfold flV
    rw [h1,h2,h3,rL_len]
    exact ⟨rfl,by unfold vecW; rw [rL_len]⟩
   ·obtain ⟨h1,h2,h3⟩:=flE_o (P:=P) hw hn
    rw [e1] at h0 ⊢
    rw [e2]
    rw [decide_eq_false h0] at h3
    rw [h1,h2,h3]
    exact ⟨rfl,rfl,_,rfl⟩)
 rcases hQ with ⟨rfl,hl,x,hb⟩ | ⟨rfl,hb⟩
 ·injection hb with g0 _
  have h2:=calls_weak hc (k:=15) (bs:=[(0,ptsA P.length (pF P))]) (show 1<=15 by decide) ⟨by rw [g0]; exact VB.fit_refl _,trivial⟩ rfl rfl
  unfold flV
  rw [hl]
  exact calls_weak (fl_ghost h2) (show 1<=16 by decide) ⟨VB.fit_refl _,VB.fit_refl _,trivial⟩ rfl rfl
 ·injection hb with g0 g1
  injection g1 with g1 _
  exact calls_weak hc (show 1<=16 by decide) ⟨by rw [g0]; exact VB.fit_refl _,by rw [g1]; exact VB.fit_refl _,trivial⟩ rfl rfl
def flT (f:FuncId):FuncId × Spec1:=(f,fun _ args h K=>match args with
 | [.agg [.int .i64 a,.int .i64 b,.int .i64 c,.int .i64 d],v]=>∃ P:List Pt,isList h v P.length 9 (pG P)/\match h with
  | ⟨nx,bs⟩=>K (.ret (flV nx ⟨a,b,c,d⟩ P)) ⟨nx+1,(nx,vecW (flL ⟨a,b,c,d⟩ P))::bs⟩
 | _=>False)
theorem at_one {A B:VB} {o:Nat} (ho:0<o) (i:Nat):(VH.mk (o+1) [(0,A),(o,B)]).at (o+i)=(([B]:List VB)[i]?).getD .free:=by
 match i with
 | 0=>
  rw [at_lt (by show o<o+1; omega)]
  simp only [lookB,Nat.add_zero,beq_f (show ¬ 0=o by omega),beq_t rfl,cond_false,cond_true]
  rfl
 | i+1=>
  rw [at_ge (by show ¬ o+(i+1)<o+1; omega)]
  rfl
theorem flT_ok {f:FuncId} {o:Nat} (ho:0<o) (hf:∀ (w:Wt) (P:List Pt) (cap:Nat),CallsV Try.prog f [.agg (wtL w),.slice (.el 0 [] 0 0) P.length cap] ⟨1,[(0,ptsA P.length (pF P))]⟩ (.ret (flV o w P)) ⟨o+1,[(0,ptsA P.length (pF P)),(o,vecW (flL w P))]⟩):SpOk Try.prog (flT f).1 (flT f).2:=by
 intro lock args h K hK
 simp only [flT] at hK
 split at hK
 ·rename_i a b c d v
  obtain ⟨P,hl,hK⟩:=hK
  have h2:=calls_lists (P:=Try.prog) (f:=f) (ags:=[.v (.agg (wtL ⟨a,b,c,d⟩)),.l P.length 9 (pG P)]) (args':=[.agg (wtL ⟨a,b,c,d⟩),v]) (h:=h) (r:=.ret (flV o ⟨a,b,c,d⟩ P)) (bl:=[vecW (flL ⟨a,b,c,d⟩ P)]) o
   (fun cs=>by
    cases cs with
    | nil=>exact ⟨_,hf _ _ _,at_one ho⟩
    | cons c cs=>exact ⟨_,hf _ _ _,at_one ho⟩)
   (by simp [VRes.flat,VV.flat,flatL])
   (fun c hc=>by
    simp only [List.mem_singleton] at hc
    subst hc
    exact fun _ _=>rfl)
   ⟨_,rfl,rfl,_,_,rfl,hl,fun _ _=>rfl,rfl⟩
  have e2:(VRes.ret (flV o ⟨a,b,c,d⟩ P)).sh o h.nx=.ret (flV h.nx ⟨a,b,c,d⟩ P):=by
   simp [VRes.sh,VV.sh,shL,shN]
  rw [e2] at h2
  exact ⟨_,_,(by cases h; exact hK),lockP_push _ _,h2⟩
 ·exact hK.elim
theorem fl13_ok:SpOk Try.prog (flT 13).1 (flT 13).2:=flT_ok (o:=15) (by decide) flow13
end Go.Sx.Str
namespace Go.Sx.Str
open Go Go.Sx Go.Proofs
set_option maxRecDepth 1000000
end Go.Sx.Str
namespace Go.Sx.Str
open Go Go.Sx Go.Proofs
set_option maxRecDepth 1000000
def waT (f:FuncId):FuncId × Spec1:=(f,fun _ args h K=>match args with
 | [.agg [.int .i64 x,.int .i64 y,.int .i64 z,.int .i64 u]]=>K (.ret (.bool (watB ⟨x,y,z,u⟩))) h
 | _=>False)
end Go.Sx.Str
namespace Go.Sx.Str
open Go Go.Sx Go.Proofs
set_option maxRecDepth 1000000
def tWa (f:FuncId):List (FuncId × Spec1):=[spanT f]
theorem wa34_ev (w:Wt) (Q:VRes->VH->Prop):callN Try.prog (tabS (tWa 49)) noL 10 20 0 (.fn 34) [.agg (wtL w)] ⟨0,[]⟩ Q =
 (bif spanB w.flo w.fhi (1:Int) (1073741824:Int) then
 Q (VRes.ret (VV.bool (spanB w.wlo w.whi (0:Int) (100000:Int)))) (VH.mk (0+1) ([(0,VB.cells (wtL w) 25)]))
 else Q (VRes.ret (VV.bool false)) (VH.mk (0+1) ([(0,VB.cells (wtL w) 25)]))):=by kernel_rfl
end Go.Sx.Str
namespace Go.Sx.Str
open Go Go.Sx Go.Proofs
set_option maxRecDepth 1000000
theorem wa34_v (w:Wt):∃ h',CallsV Try.prog 34 [.agg (wtL w)] ⟨0,[]⟩ (.ret (.bool (watB w))) h':=by
 obtain ⟨r,h',hQ,hc⟩:=of_callN (tab_good hmix (l:=tWa 49) (fun x hx=>by
   simp only [tWa,List.mem_singleton] at hx
   subst hx
   exact spanT_ok isSpan_v) 20) (un:=10) (f:=34) (args:=[.agg (wtL w)]) (h:=⟨0,[]⟩) (K:=fun r _=>r=.ret (.bool (watB w)))
  (by
   rw [wa34_ev]
   unfold watB
   refine cond_b (fun a=>?_) (fun a=>?_) <;> rw [a] <;> rfl)
 subst hQ
 exact ⟨h',hc⟩
theorem waT_ok {f:FuncId} (hf:∀ w,∃ h',CallsV Try.prog f [.agg (wtL w)] ⟨0,[]⟩ (.ret (.bool (watB w))) h'):SpOk Try.prog (waT f).1 (waT f).2:=by
 intro lock args h K hK
 simp only [waT] at hK
 split at hK
 ·obtain ⟨h',hc⟩:=hf ⟨_,_,_,_⟩
  exact ⟨_,h,hK,lockP_refl _ _,lift0 hc rfl rfl⟩
 ·exact hK.elim
section
variable {n cap:Nat} {l:Int->Pt}
end
end Go.Sx.Str
namespace Go.Sx.Str
open Go Go.Sx Go.Proofs
set_option maxRecDepth 1000000
end Go.Sx.Str
namespace Go.Sx.Str
open Go Go.Sx Go.Proofs
set_option maxRecDepth 1000000
theorem isList_arr {h:VH} {P:List Pt} {cap:Nat} (hm:h.at 0=ptsA P.length (pF P)):isList h (.slice (.el 0 [] 0 0) P.length cap) P.length 9 (pG P):=
 ⟨rfl,Int.le_refl 0,_,_,hm,fun j hj=>⟨⟨rfl,by omega,by omega⟩,by
  show ptL (pF P (0+(j:Int)))=pG P j
  rw [Int.zero_add]
  unfold pF pG
  rw [Int.toNat_natCast]⟩⟩
end Go.Sx.Str
namespace Go.Sx.Str
open Go Go.Sx Go.Proofs
set_option maxRecDepth 1000000
def vecI (xs:List Int):VB:=.vec xs.length (fun i=>[I (xs.getD i 0)]) 1 3
def dsW:List Nat:=[6,7,8,28,29,30,2]
def VW (L S T:Nat) (e i lim:Int):List VV:=[.sl 3 S,.sl 4 T,I e,.sl 2 L,I L,I i,I lim]
def nsW:List Nat:=[2,3,4]
def BW (xs:List Wt) (S T:List Int):List VB:=[vecW xs,vecI S,vecI T]
theorem wm_ev (xs:List Wt) (S T:List Int) (e i lim:Int) (X:VEx->List VV->List VB->Prop):codeE Try.prog (callN Try.prog noSpec noL 10 20) (fun _=>none) true 10 57 0 (loopB 1 (bodyOf Try.prog 15)) (dsW.zip (VW xs.length S.length T.length e i lim)) ⟨5,nsW.zip (BW xs S T)⟩ (obs 5 dsW nsW X) =
 (bif decide (i<(↑xs.length:Int)) then
 bif decide ((0:Int)<=i/\i<(↑xs.length:Int)) then
 bif xs.length.beq xs.length && true then
 bif xs.length.beq xs.length then
 bif decide ((xs.getD i.toNat w0).wlo > lim) then
 bif S.length.beq S.length then
 bif roomB (S.length+1) (8) then
 bif decide ((xs.getD i.toNat w0).whi > lim) then
 bif T.length.beq T.length then
 bif roomB (T.length+1) (8) then
 bif inK IntKind.i64 (i+(1:Int)) then
 X VEx.normal [VV.sl 3 (S.length+1),VV.sl 4 (T.length+1),I e,VV.sl 2 xs.length,I (↑xs.length:Int),I (i+(1:Int)),I lim] [vecW xs,VB.vec (S.length+1) (catG S.length (fun i=>[I (S.getD i (0:Int))]) fun j=>List.take (1) (List.drop (j*(1)) [I i])) (1) 3,VB.vec (T.length+1) (catG T.length (fun i=>[I (T.getD i (0:Int))]) fun j=>List.take (1) (List.drop (j*(1)) [I i])) (1) 3]
 else False
 else False
 else False
 else bif inK IntKind.i64 (i+(1:Int)) then
 X VEx.normal [VV.sl 3 (S.length+1),VV.sl 4 T.length,I e,VV.sl 2 xs.length,I (↑xs.length:Int),I (i+(1:Int)),I lim] [vecW xs,VB.vec (S.length+1) (catG S.length (fun i=>[I (S.getD i (0:Int))]) fun j=>List.take (1) (List.drop (j*(1)) [I i])) (1) 3,vecI T]
 else False
 else False
 else False
 else bif decide ((xs.getD i.toNat w0).whi > lim) then
 bif T.length.beq T.length then
 bif roomB (T.length+1) (8) then
 bif inK IntKind.i64 (i+(1:Int)) then
 X VEx.normal [VV.sl 3 S.length,VV.sl 4 (T.length+1),I e,VV.sl 2 xs.length,I (↑xs.length:Int),I (i+(1:Int)),I lim] [vecW xs,vecI S,VB.vec (T.length+1) (catG T.length (fun i=>[I (T.getD i (0:Int))]) fun j=>List.take (1) (List.drop (j*(1)) [I i])) (1) 3]
 else False
 else False
 else False
 else bif inK IntKind.i64 (i+(1:Int)) then
 X VEx.normal [VV.sl 3 S.length,VV.sl 4 T.length,I e,VV.sl 2 xs.length,I (↑xs.length:Int),I (i+(1:Int)),I lim] [vecW xs,vecI S,vecI T]
 else False
 else False
 else False
 else False
 else X (VEx.exit 1) [VV.sl 3 S.length,VV.sl 4 T.length,I e,VV.sl 2 xs.length,I (↑xs.length:Int),I i,I lim] [vecW xs,vecI S,vecI T]):=by kernel_rfl
end Go.Sx.Str
namespace Go.Sx.Str
open Go Go.Sx Go.Proofs
set_option maxRecDepth 1000000
def ixs (p:Wt->Bool):Int->List Wt->List Int
 | _,[]=>[]
 | i,w::r=>bif p w then i::ixs p (i+1) r else ixs p (i+1) r
def loF (lim:Int):Wt->Bool:=fun w=>decide (w.wlo > lim)
def hiF (lim:Int):Wt->Bool:=fun w=>decide (w.whi > lim)
theorem drop_getD {xs:List Wt} {i:Int} (h0:0<=i) (h:i<xs.length):xs.drop i.toNat=xs.getD i.toNat w0::xs.drop (i+1).toNat:=by
 have hi:i.toNat<xs.length:=by omega
 rw [List.drop_eq_getElem_cons hi,show (i+1).toNat=i.toNat+1 by omega]
 simp [List.getD_eq_getElem?_getD,hi]
theorem ixs_yes {p:Wt->Bool} {xs:List Wt} {i:Int} (h0:0<=i) (h:i<xs.length) (hp:p (xs.getD i.toNat w0)=true):ixs p i (xs.drop i.toNat)=i::ixs p (i+1) (xs.drop (i+1).toNat):=by
 rw [drop_getD h0 h]
 simp only [ixs,hp,cond_true]
theorem ixs_no {p:Wt->Bool} {xs:List Wt} {i:Int} (h0:0<=i) (h:i<xs.length) (hp:p (xs.getD i.toNat w0)=false):ixs p i (xs.drop i.toNat)=ixs p (i+1) (xs.drop (i+1).toNat):=by
 rw [drop_getD h0 h]
 simp only [ixs,hp,cond_false]
theorem ixs_end {p:Wt->Bool} {xs:List Wt} {i:Int} (h:(xs.length:Int)<=i):ixs p i (xs.drop i.toNat)=[]:=by
 rw [List.drop_eq_nil_of_le (by omega)]; rfl
theorem room8 {n:Nat} (h:n<=1048576):roomB n 8=true:=by
 simp only [roomB,Bool.and_eq_true]
 exact ⟨Nat.ble_eq_true_of_le (by omega),Nat.ble_eq_true_of_le (by omega)⟩
theorem fit_snocI (xs:List Int) (v:Int):(vecI (xs ++ [v])).fit (.vec (xs.length+1) (catG xs.length (fun j=>[I (xs.getD j 0)]) fun j=>List.take 1 (List.drop (j*1) [I v])) 1 3):=by
 refine ⟨by simp,rfl,rfl,fun j hj=>?_⟩
 simp only [List.length_append,List.length_singleton] at hj
 simp only [catG]
 by_cases h:j<xs.length
 ·rw [blt_t h]
  simp [List.getD_eq_getElem?_getD,List.getElem?_append_left h]
 ·rw [blt_f (by omega)]
  have:j=xs.length:=by omega
  subst this
  simp
structure SW where
 i:Int
 S:List Int
 T:List Int
structure IW (xs:List Wt) (s:SW):Prop where
 i:0<=s.i/\s.i<=xs.length
 S:(s.S.length:Int)<=s.i
 T:(s.T.length:Int)<=s.i
 n:xs.length<=100000
theorem cond_kk {b:Bool} {p q:Prop} (h:b=true) (h2:p):(bif b then p else q):=by rw [h]; exact h2
section
variable {xs:List Wt} {e lim:Int}
def OW (xs:List Wt) (e lim:Int) (s:SW) (x:VEx) (vs:List VV) (bs:List VB):Prop:=
 x=.exit 1/\vs=VW xs.length (s.S ++ ixs (loF lim) s.i (xs.drop s.i.toNat)).length (s.T ++ ixs (hiF lim) s.i (xs.drop s.i.toNat)).length e xs.length lim/\bs=BW xs (s.S ++ ixs (loF lim) s.i (xs.drop s.i.toNat)) (s.T ++ ixs (hiF lim) s.i (xs.drop s.i.toNat))
theorem ow_step {i:Int} {S T:List Int} (h0:0<=i) (h:i<xs.length) {a b:List Int} (ha:a=bif loF lim (xs.getD i.toNat w0) then [i] else []) (hb:b=bif hiF lim (xs.getD i.toNat w0) then [i] else []) :
  (S ++ a) ++ ixs (loF lim) (i+1) (xs.drop (i+1).toNat)=S ++ ixs (loF lim) i (xs.drop i.toNat)/\(T ++ b) ++ ixs (hiF lim) (i+1) (xs.drop (i+1).toNat)=T ++ ixs (hiF lim) i (xs.drop i.toNat):=by
 subst ha hb
 constructor
 ·cases hp:loF lim (xs.getD i.toNat w0)
  ·rw [ixs_no h0 h hp]; simp
  ·rw [ixs_yes h0 h hp]; simp
 ·cases hp:hiF lim (xs.getD i.toNat w0)
  ·rw [ixs_no h0 h hp]; simp
  ·rw [ixs_yes h0 h hp]; simp
theorem wm_round (i:Int) (S T:List Int) (hi:IW xs ⟨i,S,T⟩):codeE Try.prog (callN Try.prog noSpec noL 10 20) (fun _=>none) true 10 57 0 (loopB 1 (bodyOf Try.prog 15)) (dsW.zip (VW xs.length S.length T.length e i lim)) ⟨5,nsW.zip (BW xs S T)⟩
  (obs 5 dsW nsW (RoundQ (fun s:SW=>VW xs.length s.S.length s.T.length e s.i lim) (fun s=>BW xs s.S s.T) (IW xs) (fun s=>(xs.length - s.i).toNat) (OW xs e lim) ⟨i,S,T⟩)):=by
 obtain ⟨h1,h2,h3,h4⟩:=hi
 dsimp only at h1 h2 h3
 rw [wm_ev]
 by_cases hlt:i<(xs.length:Int)
 ·have next:∀ (a b:List Int) (ba bb:VB),(a=bif loF lim (xs.getD i.toNat w0) then [i] else [])->(b=bif hiF lim (xs.getD i.toNat w0) then [i] else [])->(vecI (S ++ a)).fit ba->(vecI (T ++ b)).fit bb ->
    RoundQ (fun s:SW=>VW xs.length s.S.length s.T.length e s.i lim) (fun s=>BW xs s.S s.T) (IW xs) (fun s=>(xs.length - s.i).toNat) (OW xs e lim) ⟨i,S,T⟩ .normal (VW xs.length (S ++ a).length (T ++ b).length e (i+1) lim) [vecW xs,ba,bb]:=fun a b ba bb ha hb fa fb=>by
   have la:a.length<=1:=by rw [ha]; cases loF lim (xs.getD i.toNat w0) <;> simp
   have lb:b.length<=1:=by rw [hb]; cases hiF lim (xs.getD i.toNat w0) <;> simp
   refine ⟨⟨i+1,S ++ a,T ++ b⟩,⟨by dsimp only; omega,by simp; omega,by simp; omega,h4⟩,by dsimp only; omega,rfl,⟨VB.fit_refl _,fa,fb,trivial⟩,?_⟩
   intro x vs bs
   obtain ⟨g1,g2⟩:=ow_step (S:=S) (T:=T) h1.1 hlt ha hb
   simp only [OW]
   rw [g1,g2]
   exact id
  have hx:xs.length.beq xs.length=true:=Nat.beq_refl _
  have hx2:(xs.length.beq xs.length && true)=true:=by rw [hx]; rfl
  refine cond_dk hlt (cond_dk ⟨h1.1,hlt⟩ (cond_kk hx2 (cond_kk hx ?_)))
  have go:∀ (a b:List Int),S.length+a.length=(S ++ a).length/\T.length+b.length=(T ++ b).length:=fun a b=>⟨by simp,by simp⟩
  refine cond_d (fun hs=>cond_kk (Nat.beq_refl _) (cond_kk (room8 (by omega)) ?_)) (fun hs=>?_)
  ·have hs':loF lim (xs.getD i.toNat w0)=true:=decide_eq_true hs
   refine cond_d (fun ht=>cond_kk (Nat.beq_refl _) (cond_kk (room8 (by omega)) (cond_r (by omega) ?_))) (fun ht=>cond_r (by omega) ?_)
   ·have ht':hiF lim (xs.getD i.toNat w0)=true:=decide_eq_true ht
    have:=next [i] [i] _ _ (by rw [hs']; rfl) (by rw [ht']; rfl) (fit_snocI S i) (fit_snocI T i)
    rw [<- (go [i] [i]).1,<- (go [i] [i]).2] at this
    exact this
   ·have ht':hiF lim (xs.getD i.toNat w0)=false:=decide_eq_false ht
    have:=next [i] [] _ _ (by rw [hs']; rfl) (by rw [ht']; rfl) (fit_snocI S i) (VB.fit_refl _)
    rw [<- (go [i] []).1,List.append_nil] at this
    exact this
  ·have hs':loF lim (xs.getD i.toNat w0)=false:=decide_eq_false hs
   refine cond_d (fun ht=>cond_kk (Nat.beq_refl _) (cond_kk (room8 (by omega)) (cond_r (by omega) ?_))) (fun ht=>cond_r (by omega) ?_)
   ·have ht':hiF lim (xs.getD i.toNat w0)=true:=decide_eq_true ht
    have:=next [] [i] _ _ (by rw [hs']; rfl) (by rw [ht']; rfl) (VB.fit_refl _) (fit_snocI T i)
    rw [<- (go [] [i]).2,List.append_nil] at this
    exact this
   ·have ht':hiF lim (xs.getD i.toNat w0)=false:=decide_eq_false ht
    have:=next [] [] _ _ (by rw [hs']; rfl) (by rw [ht']; rfl) (VB.fit_refl _) (VB.fit_refl _)
    rw [List.append_nil,List.append_nil] at this
    exact this
 ·refine cond_d (fun h=>absurd h hlt) (fun _=>?_)
  have hk:i=(xs.length:Int):=by omega
  subst hk
  refine ⟨rfl,?_,?_⟩ <;> simp only [ixs_end (Int.le_refl _),List.append_nil] <;> rfl
def LWs (xs:List Wt) (e lim:Int):LT:=fun lock t h K=>
 FitP lock h t ⟨5,nsW.zip (BW xs [] [])⟩ (dsW.zip (VW xs.length 0 0 e 0 lim))/\xs.length<=100000 /\
  K .normal (dsW.zip (VW xs.length (ixs (loF lim) 0 xs).length (ixs (hiF lim) 0 xs).length e xs.length lim)) ⟨5,nsW.zip (BW xs (ixs (loF lim) 0 xs) (ixs (hiF lim) 0 xs))⟩
theorem LWs_ok:LSound Try.prog true (.block 1 (.loop (loopB 1 (bodyOf Try.prog 15)))) 57 (LWs xs e lim):=by
 refine loop_row hmix good0 (un:=10) (ds:=dsW) (ns:=nsW) (nx:=5) (fun s:SW=>VW xs.length s.S.length s.T.length e s.i lim) (fun s=>BW xs s.S s.T) (IW xs) (fun s=>(xs.length - s.i).toNat) (OW xs e lim) noL_ok (fun s hi=>wm_round s.i s.S s.T hi) ?_
 rintro lock t h K ⟨hf,hn,hK⟩
 refine ⟨⟨0,[],[]⟩,hf,⟨⟨Int.le_refl 0,Int.natCast_nonneg _⟩,Int.le_refl 0,Int.le_refl 0,hn⟩,?_⟩
 rintro x vs bs ⟨rfl,rfl,rfl⟩
 exact hK
def tW (xs:List Wt) (e lim:Int):Slots:=[(8,I e),(28,.sl 2 xs.length),(29,I xs.length),(30,I 0),(2,I lim)]
def LW1 (xs:List Wt) (e lim:Int):LT:=fun lock t h K=>
 FitP lock h t ⟨3,[(2,vecW xs)]⟩ ((6,.nils)::(7,.nils)::tW xs e lim)/\xs.length<=100000 /\
  K .normal (dsW.zip (VW xs.length (ixs (loF lim) 0 xs).length (ixs (hiF lim) 0 xs).length e xs.length lim)) ⟨5,nsW.zip (BW xs (ixs (loF lim) 0 xs) (ixs (hiF lim) 0 xs))⟩
def LW1m (xs:List Wt) (e lim:Int):LT:=fun lock t h K=>
 FitP lock h t ⟨4,[(3,vecI []),(2,vecW xs)]⟩ ((7,.nils)::(6,.sl 3 0)::tW xs e lim)/\xs.length<=100000 /\
  K .normal (dsW.zip (VW xs.length (ixs (loF lim) 0 xs).length (ixs (hiF lim) 0 xs).length e xs.length lim)) ⟨5,nsW.zip (BW xs (ixs (loF lim) 0 xs) (ixs (hiF lim) 0 xs))⟩
abbrev gI:Nat->List VV:=fun i=>[I (([]:List Int).getD i 0)]
theorem LW1_ok:LSound Try.prog true (.block 1 (.loop (loopB 1 (bodyOf Try.prog 15)))) 57 (LW1 xs e lim):=by
 have h1:LSound Try.prog true (.block 1 (.loop (loopB 1 (bodyOf Try.prog 15)))) 57 (LW1m xs e lim):=
  ghost_row (d:=7) (nx:=4) (bs:=[(3,vecI []),(2,vecW xs)]) (t0:=(6,.sl 3 0)::tW xs e lim) gI 1 3 LWs_ok (by
   rintro lock t h K ⟨hf,hn,hK⟩
   exact ⟨hf,⟨⟨rfl,rfl,VB.fit_refl _,VB.fit_refl _,VB.fit_refl _,trivial⟩,rfl,rfl,rfl,rfl,rfl,rfl,rfl,trivial⟩,hn,hK⟩)
 exact ghost_row (d:=6) (nx:=3) (bs:=[(2,vecW xs)]) (t0:=(7,.nils)::tW xs e lim) gI 1 3 h1 (by
   rintro lock t h K ⟨hf,hn,hK⟩
   exact ⟨hf,⟨⟨rfl,rfl,VB.fit_refl _,VB.fit_refl _,trivial⟩,rfl,rfl,rfl,rfl,rfl,rfl,rfl,trivial⟩,hn,hK⟩)
end
def LWx:LT:=fun lock t h K=>∃ xs e lim,LW1 xs e lim lock t h K
theorem LWx_ok:LSound Try.prog true (.block 1 (.loop (loopB 1 (bodyOf Try.prog 15)))) 57 LWx:=by
 rintro lock t h K ⟨xs,e,lim,hK⟩
 exact LW1_ok _ _ _ _ hK
end Go.Sx.Str
namespace Go.Sx.Str
open Go Go.Sx Go.Proofs
set_option maxRecDepth 1000000
def t15:List (FuncId × Spec1):=[waT 34,inT 38,flT 13]
def wmR (Q:VRes->List VB->Prop):VRes->VH->Prop:=fun r h=>Q r [h.at 3,h.at 4]
theorem f15_ev (n cap:Nat) (l:Int->Pt) (w:Wt) (lim:Int) (Q:VRes->List VB->Prop):spBL Try.prog 15 (tabS t15) [(1,LWx)] 10 20 0 [.agg (wtL w),.slice (.el 0 [] 0 0) n cap,I lim] ⟨1,[(0,ptsA n l)]⟩ (wmR Q) =
 (bif !watB w then
 Q (VRes.ret (VV.tup [VV.nils,VV.nils,I 1])) [VB.free,VB.free]
 else bif !inB lim (0:Int) (100000:Int) then
 Q (VRes.ret (VV.tup [VV.nils,VV.nils,I 2])) [VB.free,VB.free]
 else ∃ P,isList (VH.mk (2) [(1,VB.cells (wtL w) 25),(0,ptsA n l)]) (VV.slice (VA.el 0 [] (0:Int) 0) n cap) P.length 9 (pG P)/\∃ xs e lim_1,FitP 0 (VH.mk (2+1) [(2,vecW (flL w P)),(1,VB.cells (wtL w) 25),(0,ptsA n l)]) [(30,I 0),(29,I (↑(flL w P).length:Int)),(28,VV.sl (2) (flL w P).length),(8,I (flE w P)),(10,I (flI w P)),(9,VV.sl (2) (flL w P).length),(27,I (flE w P)),(26,I (flI w P)),(25,VV.sl (2) (flL w P).length),(21,VV.tup [VV.sl (2) (flL w P).length,I (flI w P),I (flE w P)]),(24,flV (2) w P),(23,VV.slice (VA.el 0 [] (0:Int) 0) n cap),(22,VV.agg [I w.flo,I w.fhi,I w.wlo,I w.whi]),(17,VV.bool false),(17,VV.bool !inB lim (0:Int) (100000:Int)),(20,VV.bool !inB lim (0:Int) (100000:Int)),(19,VV.bool (inB lim (0:Int) (100000:Int))),(18,I lim),(13,VV.bool false),(13,VV.bool !watB w),(16,VV.bool !watB w),(15,VV.bool (watB w)),(14,VV.agg [I w.flo,I w.fhi,I w.wlo,I w.whi]),(8,I 0),(7,VV.nils),(6,VV.nils),(3,VV.ptr (VA.own (1) 0)),(0,VV.agg (wtL w)),(1,VV.slice (VA.el 0 [] (0:Int) 0) n cap),(2,I lim)] (VH.mk 3 [(2,vecW xs)]) ((6,VV.nils)::(7,VV.nils)::tW xs e lim_1)/\xs.length<=100000/\Q (VRes.ret (VV.tup [VV.sl 3 (ixs (loF lim_1) (0:Int) xs).length,VV.sl 4 (ixs (hiF lim_1) (0:Int) xs).length,I e])) [VB.vec (ixs (loF lim_1) (0:Int) xs).length (fun i=>[I ((ixs (loF lim_1) (0:Int) xs).getD i (0:Int))]) 1 (3:TypeId),VB.vec (ixs (hiF lim_1) (0:Int) xs).length (fun i=>[I ((ixs (hiF lim_1) (0:Int) xs).getD i (0:Int))]) 1 (3:TypeId)]):=by kernel_rfl
end Go.Sx.Str
namespace Go.Sx.Str
open Go Go.Sx Go.Proofs
set_option maxRecDepth 1000000
def wmE (w:Wt) (P:List Pt) (lim:Int):Int:=bif !watB w then 1 else bif !inB lim 0 100000 then 2 else flE w P
def wmS (w:Wt) (P:List Pt) (lim:Int):List Int:=bif decide (wmE w P lim=0) then ixs (loF lim) 0 (rL w P) else []
def wmP (w:Wt) (P:List Pt) (lim:Int):List Int:=bif decide (wmE w P lim=0) then ixs (hiF lim) 0 (rL w P) else []
abbrev wmV (o:Nat) (w:Wt) (P:List Pt) (lim:Int):VV:=.tup [.sl o (wmS w P lim).length,.sl (o+1) (wmP w P lim).length,I (wmE w P lim)]
theorem wm_bad {w:Wt} {P:List Pt} {lim:Int} (h:wmE w P lim ≠ 0):wmS w P lim=[]/\wmP w P lim=[]:=by
 unfold wmS wmP
 rw [decide_eq_false h]
 exact ⟨rfl,rfl⟩
theorem wm_good {w:Wt} {P:List Pt} {lim:Int} (h:wmE w P lim=0):wmS w P lim=ixs (loF lim) 0 (rL w P)/\wmP w P lim=ixs (hiF lim) 0 (rL w P):=by
 unfold wmS wmP
 rw [decide_eq_true h]
 exact ⟨rfl,rfl⟩
theorem flE_len {w:Wt} {P:List Pt} (h:flE w P=0):P.length<=64/\watB w=true/\rE w P=0:=by
 unfold flE at h
 cases hw:watB w
 ·rw [hw] at h; exact absurd h (show (1:Int) ≠ 0 by decide)
 ·rw [hw] at h
  by_cases hl:(P.length:Int) > 64
  ·rw [decide_eq_true hl] at h; exact absurd h (show (3:Int) ≠ 0 by decide)
  ·rw [decide_eq_false hl] at h
   exact ⟨by omega,rfl,h⟩
theorem flL_0 {w:Wt} {P:List Pt} (h:flE w P=0):flL w P=rL w P:=by
 unfold flL
 rw [decide_eq_true h]; rfl
theorem flL_1 {w:Wt} {P:List Pt} (h:flE w P ≠ 0):flL w P=[]:=by
 unfold flL
 rw [decide_eq_false h]; rfl
theorem flL_len (w:Wt) (P:List Pt):(flL w P).length<=64:=by
 by_cases h:flE w P=0
 ·rw [flL_0 h,rL_len]; exact (flE_len h).1
 ·rw [flL_1 h]; exact Nat.zero_le _
theorem two_ghosts {f:FuncId} {args:List VV} {h:VH} {bs:List (Nat × VB)} {e:Int} (hc:CallsV Try.prog f args h (.ret (.tup [.nils,.nils,I e])) ⟨3,bs⟩):CallsV Try.prog f args h (.ret (.tup [.sl 3 0,.sl 4 0,I e])) (((VH.mk 3 bs).new (vecI [])).new (vecI [])):=by
 have h1:=calls_ghost (v2:=.tup [.sl 3 0,.nils,I e]) gI 1 3 hc (fun R x hv hx=>by
  obtain ⟨xs,⟨y,ys,g1,⟨y2,ys2,g2,⟨y3,ys3,g3,g4,rfl⟩,rfl⟩,rfl⟩,hx⟩:=hx
  exact ⟨_,⟨y,_,nil_ghost hv g1,⟨y2,_,g2,⟨y3,_,g3,g4,rfl⟩,rfl⟩,rfl⟩,hx⟩)
 exact calls_ghost (v2:=.tup [.sl 3 0,.sl 4 0,I e]) gI 1 3 h1 (fun R x hv hx=>by
  obtain ⟨xs,⟨y,ys,g1,⟨y2,ys2,g2,⟨y3,ys3,g3,g4,rfl⟩,rfl⟩,rfl⟩,hx⟩:=hx
  exact ⟨_,⟨y,_,g1,⟨y2,_,nil_ghost hv g2,⟨y3,_,g3,g4,rfl⟩,rfl⟩,rfl⟩,hx⟩)
def wmK (w:Wt) (P:List Pt) (lim:Int):VRes->List VB->Prop:=fun r bs=>
 (r=.ret (.tup [.nils,.nils,I (wmE w P lim)])/\wmS w P lim=[]/\wmP w P lim=[]) ∨ (r=.ret (wmV 3 w P lim)/\bs=[vecI (wmS w P lim),vecI (wmP w P lim)])
theorem wm_finish {f:FuncId} {args:List VV} {n:Nat} {l:Int->Pt} {w:Wt} {P:List Pt} {lim:Int} {r:VRes} {h':VH} (hc:CallsV Try.prog f args ⟨1,[(0,ptsA n l)]⟩ r h') (hQ:wmR (wmK w P lim) r h') :
  CallsV Try.prog f args ⟨1,[(0,ptsA n l)]⟩ (.ret (wmV 3 w P lim)) ⟨5,[(3,vecI (wmS w P lim)),(4,vecI (wmP w P lim))]⟩:=by
 rcases hQ with ⟨rfl,h1,h2⟩ | ⟨rfl,hb⟩
 ·have h3:=calls_weak hc (k:=3) (bs:=[]) (show 1<=3 by decide) trivial rfl rfl
  unfold wmV
  rw [h1,h2]
  exact calls_weak (two_ghosts h3) (show 1<=5 by decide) ⟨VB.fit_refl _,VB.fit_refl _,trivial⟩ rfl rfl
 ·injection hb with g0 g1
  injection g1 with g1 _
  exact calls_weak hc (show 1<=5 by decide) ⟨by rw [g0]; exact VB.fit_refl _,by rw [g1]; exact VB.fit_refl _,trivial⟩ rfl rfl
theorem t15_ok:∀ x ∈ t15,SpOk Try.prog x.1 x.2:=by
 intro x hx
 simp only [t15,List.mem_cons,List.not_mem_nil,or_false] at hx
 rcases hx with rfl | rfl | rfl
 ·exact waT_ok wa34_v
 ·exact inT_ok within_v
 ·exact fl13_ok
theorem warm15 (w:Wt) (P:List Pt) (lim:Int) (cap:Nat):CallsV Try.prog 15 [.agg (wtL w),.slice (.el 0 [] 0 0) P.length cap,I lim] ⟨1,[(0,ptsA P.length (pF P))]⟩ (.ret (wmV 3 w P lim)) ⟨5,[(3,vecI (wmS w P lim)),(4,vecI (wmP w P lim))]⟩:=by
 have hsp:=spBL_ok hmix (tabs_ok t15_ok) (f:=15) (l:=[(1,LWx)]) (fun x hx=>by
  simp only [List.mem_singleton] at hx
  subst hx
  exact ⟨by kernel_rfl,LWx_ok⟩) (un:=10) (fu:=20)
 obtain ⟨r,h',hQ,hc⟩:=of_sp hsp (args:=[.agg (wtL w),.slice (.el 0 [] 0 0) P.length cap,I lim]) (h:=⟨1,[(0,ptsA P.length (pF P))]⟩)
  (K:=wmR (wmK w P lim))
  (by
   rw [f15_ev]
   refine cond_b (fun hw=>.inl ?_) (fun hw=>cond_b (fun hn=>.inl ?_) (fun hn=>?_))
   ·have:wmE w P lim=1:=by unfold wmE; rw [hw]; rfl
    obtain ⟨h1,h2⟩:=wm_bad (show wmE w P lim ≠ 0 by rw [this]; decide)
    rw [this]; exact ⟨rfl,h1,h2⟩
   ·have:wmE w P lim=2:=by unfold wmE; rw [hw,hn]; rfl
    obtain ⟨h1,h2⟩:=wm_bad (show wmE w P lim ≠ 0 by rw [this]; decide)
    rw [this]; exact ⟨rfl,h1,h2⟩
   ·have he:wmE w P lim=flE w P:=by unfold wmE; rw [hw,hn]; rfl
    refine ⟨P,isList_arr rfl,flL w P,flE w P,lim,⟨⟨rfl,rfl,VB.fit_refl _,trivial⟩,rfl,rfl,rfl,rfl,rfl,rfl,rfl,trivial⟩,by have:=flL_len w P; omega,.inr ?_⟩
    unfold wmV
    rw [he]
    by_cases h0:flE w P=0
    ·obtain ⟨h1,h2⟩:=wm_good (he.trans h0)
     rw [h1,h2,flL_0 h0]
     exact ⟨rfl,rfl⟩
    ·obtain ⟨h1,h2⟩:=wm_bad (show wmE w P lim ≠ 0 by rw [he]; exact h0)
     rw [h1,h2,flL_1 h0]
     exact ⟨rfl,rfl⟩)
 exact wm_finish hc hQ
def wmT (f:FuncId):FuncId × Spec1:=(f,fun _ args h K=>match args with
 | [.agg [.int .i64 a,.int .i64 b,.int .i64 c,.int .i64 d],v,.int .i64 lim]=>∃ P:List Pt,isList h v P.length 9 (pG P)/\match h with
  | ⟨nx,bs⟩=>K (.ret (wmV nx ⟨a,b,c,d⟩ P lim)) ⟨nx+2,(nx+1,vecI (wmP ⟨a,b,c,d⟩ P lim))::(nx,vecI (wmS ⟨a,b,c,d⟩ P lim))::bs⟩
 | _=>False)
theorem at_two {A B:VB} (i:Nat):(VH.mk 5 [(3,A),(4,B)]).at (3+i)=(([A,B]:List VB)[i]?).getD .free:=by
 match i with
 | 0=>rfl
 | 1=>rfl
 | i+2=>
  rw [at_ge (by show ¬ 3+(i+2)<5; omega)]
  rfl
theorem wmT_ok {f:FuncId} (hf:∀ (w:Wt) (P:List Pt) (lim:Int) (cap:Nat),CallsV Try.prog f [.agg (wtL w),.slice (.el 0 [] 0 0) P.length cap,I lim] ⟨1,[(0,ptsA P.length (pF P))]⟩ (.ret (wmV 3 w P lim)) ⟨5,[(3,vecI (wmS w P lim)),(4,vecI (wmP w P lim))]⟩):SpOk Try.prog (wmT f).1 (wmT f).2:=by
 intro lock args h K hK
 simp only [wmT] at hK
 split at hK
 ·rename_i a b c d v lim
  obtain ⟨P,hl,hK⟩:=hK
  have h2:=calls_lists (P:=Try.prog) (f:=f) (ags:=[.v (.agg (wtL ⟨a,b,c,d⟩)),.l P.length 9 (pG P),.v (I lim)]) (args':=[.agg (wtL ⟨a,b,c,d⟩),v,I lim]) (h:=h) (r:=.ret (wmV 3 ⟨a,b,c,d⟩ P lim)) (bl:=[vecI (wmS ⟨a,b,c,d⟩ P lim),vecI (wmP ⟨a,b,c,d⟩ P lim)]) 3
   (fun cs=>by
    cases cs with
    | nil=>exact ⟨_,hf _ _ _ _,at_two⟩
    | cons c cs=>exact ⟨_,hf _ _ _ _,at_two⟩)
   (by simp [VRes.flat,VV.flat,flatL])
   (fun c hc=>by
    simp only [List.mem_cons,List.not_mem_nil,or_false] at hc
    rcases hc with rfl | rfl <;> exact fun _ _=>rfl)
   ⟨_,rfl,rfl,_,_,rfl,hl,fun _ _=>rfl,_,rfl,rfl,rfl⟩
  have e2:(VRes.ret (wmV 3 ⟨a,b,c,d⟩ P lim)).sh 3 h.nx=.ret (wmV h.nx ⟨a,b,c,d⟩ P lim):=by
   simp [VRes.sh,VV.sh,shL,shN]; omega
  rw [e2] at h2
  exact ⟨_,_,(by cases h; exact hK),lockP_push _ _,h2⟩
 ·exact hK.elim
theorem wm15_ok:SpOk Try.prog (wmT 15).1 (wmT 15).2:=wmT_ok warm15
end Go.Sx.Str
namespace Go.Sx.Str
open Go Go.Sx Go.Proofs
set_option maxRecDepth 1000000
end Go.Sx.Str
