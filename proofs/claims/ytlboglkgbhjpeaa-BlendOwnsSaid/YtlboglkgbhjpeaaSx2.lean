/- The evaluator: what code does to abstract values and heaps, as a proposition. -/
import Derived.Test.YtlboglkgbhjpeaaSx1
namespace Go.Sx
open Go
inductive VRes where
 | ret (v:VV)
 | panic (v:VV)
inductive Cal where
 | fn (f:FuncId)
 | yl (n:Nat)
abbrev CallT:=Nat->Cal->List VV->VH->(VRes->VH->Prop)->Prop
def udf:VV:=.tup []
def ofS:Value->VV
 | .bool b=>.bool b
 | .int k n=>.int k n
 | .pointer none=>.nilp
 | .slice none 0 0=>.nils
 | .nilFunc=>.nilf
 | .nilIface=>.niff
 | v=>.opq v
def ofV:Value->VV
 | .agg cs=>.agg (cs.toList.map ofS)
 | .tuple cs=>.tup (cs.toList.map ofS)
 | v=>ofS v
def evO (t:Slots):Operand->VV
 | .tmp d=>look t d
 | .const v=>ofV v
 | .global g=>.opq (.pointer (some ⟨g,0,none⟩))
 | .func f=>.func f [] []
def fo (v:VV) (K:VV->Prop):Prop:=
 match v with
 | .bool b=>K (.bool b)
 | .int k n=>K (.int k n)
 | .nilp=>K .nilp
 | .ptr a=>K (.ptr a)
 | .nils=>K .nils
 | .slice a l c=>K (.slice a l c)
 | .func f a b=>K (.func f a b)
 | .nilf=>K .nilf
 | .iface t v=>K (.iface t v)
 | .niff=>K .niff
 | .agg cs=>K (.agg cs)
 | .tup vs=>K (.tup vs)
 | .opq v=>K (.opq v)
 | .any=>K .any
 | .yld n=>K (.yld n)
 | .sl n L=>K (.sl n L)
 | .sub n L s i k=>K (.sub n L s i k)
 | .mp n=>K (.mp n)
 | .tl L s g=>K (.tl L s g)
 | .tp cs=>K (.tp cs)
 | .hs t j C=>K (.hs t j C)
def foL:List VV->(List VV->Prop)->Prop
 | [],K=>K []
 | v::vs,K=>fo v fun v=>foL vs fun vs=>K (v::vs)
def foN (n:Nat) (K:Nat->Prop):Prop:=
 match n with
 | 0=>K 0
 | m+1=>K (m+1)
def VV.cs? : VV->Option (List VV)
 | .agg cs=>some cs
 | .tup _=>none
 | .opq v=>bif v.oneCell' then some [.opq v] else none
 | .any=>none
 | v=>some [v]
def putT (n:Nat) (t:Slots) (d:Option Tmp) (v:VV) (K:Slots->Prop):Prop:=
 match d with
 | some d=>bif Nat.blt d n then K ((d,v)::t) else False
 | none=>K t
def inS (lo hi:Nat):Int->Bool
 | .ofNat m=>Nat.ble m hi
 | .negSucc m=>Nat.ble m lo
def inU (hi:Nat):Int->Bool
 | .ofNat m=>Nat.ble m hi
 | .negSucc _=>false
def inK (k:IntKind) (n:Int):Bool:=
 match k with
 | .i64=>inS 9223372036854775807 9223372036854775807 n
 | .i32=>inS 2147483647 2147483647 n
 | .i16=>inS 32767 32767 n
 | .i8=>inS 127 127 n
 | .u64=>inU 18446744073709551615 n
 | .u32=>inU 4294967295 n
 | .u16=>inU 65535 n
 | .u8=>inU 255 n
theorem inS_iff {lo hi:Nat} {n:Int}:inS lo hi n=true ↔ -((lo:Int)+1)<=n/\n<=hi:=by
 cases n with
 | ofNat m=>
  simp only [inS,Nat.ble_eq,Int.ofNat_eq_natCast]
  omega
 | negSucc m=>
  simp only [inS,Nat.ble_eq]
  omega
theorem inU_iff {hi:Nat} {n:Int}:inU hi n=true ↔ 0<=n/\n<=hi:=by
 cases n with
 | ofNat m=>
  simp only [inU,Nat.ble_eq,Int.ofNat_eq_natCast]
  omega
 | negSucc m=>
  simp only [inU,Bool.false_eq_true,false_iff]
  omega
theorem inK_64 {n:Int}:inK .i64 n=true ↔ -9223372036854775808<=n/\n<=9223372036854775807:=by
 show inS _ _ _=true ↔ _
 rw [inS_iff]
 omega
def tyI (P:Program) (t:TypeId):Option (Bool × Nat):=
 match P.info? t,P.underlying t with
 | some i,some (.struct _)=>some (true,i.size)
 | some i,some (.array _ _)=>some (true,i.size)
 | some i,some _=>some (false,i.size)
 | _,_=>none
def tyZ (P:Program) (t:TypeId):Option (List VV):=
 match P.info? t with
 | some i=>i.zero.map fun z=>z.cells.toList.map ofS
 | none=>none
def VA.add:VA->Nat->VA
 | .own n off,k=>.own n (off+k)
 | .el n ix i off,k=>.el n ix i (off+k)
 | .ve n L s i off,k=>.ve n L s i (off+k)
 | .fa n p o,k=>.fa n p (o+k)
 | .rw n j o,k=>.rw n j (o+k)
 | .hb t j o,k=>.hb t j (o+k)
def addE (a:VA) (k:Nat) (K:VA->Prop):Prop:=
 match a with
 | .own n off=>foN (off+k) fun m=>K (.own n m)
 | .el n ix i off=>foN (off+k) fun m=>K (.el n ix i m)
 | .ve n L s i off=>foN (off+k) fun m=>K (.ve n L s i m)
 | .fa n p o=>K (.fa n p (o+k))
 | .rw n j o=>K (.rw n j (o+k))
 | .hb t j o=>K (.hb t j (o+k))
def famR (g:Nat->Int) (o size:Nat):List VV:=(List.range size).map fun j=>.int .i64 (g (o+j))
def numsE:List VV->(List Int->Prop)->Prop
 | [],K=>K []
 | .int .i64 n::r,K=>numsE r fun l=>K (n::l)
 | _,_=>False
def selE (k:IntKind):List VV->(List Int->Prop)->Prop
 | .int k' n::r,K=>bif decide (k'=k) then selE k r fun l=>K (n::l) else K []
 | _,K=>K []
def setF (g:Nat->Int) (o:Nat):List Int->Nat->Int
 | [x]=>fun k=>bif Nat.beq k o then x else g k
 | ns=>fun k=>bif (Nat.ble o k && Nat.blt k (o+ns.length)) then ns.getD (k - o) 0 else g k
def setM (g:Nat->Nat->Int) (i o:Nat) (x:Int):Nat->Nat->Int:=fun a b=>bif (Nat.beq a i && Nat.beq b o) then x else g a b
def rowM (g:Nat->Nat->Int) (i:Nat) (f:Nat->Int):Nat->Nat->Int:=fun a=>bif Nat.beq a i then f else g a
def bunN (t:Nat):List (Nat × VB)->Option Nat
 | []=>none
 | (m,.bun t' ..)::r=>bif Nat.beq t' t then some m else bunN t r
 | _::r=>bunN t r
def loadE (agg:Bool) (size:Nat) (a:VA) (h:VH) (K:VV->Prop):Prop:=
 match a with
 | .own n off=>
  match h.at n with
  | .cells cs _=>
   bif agg then (bif Nat.ble (off+size) cs.length then foL ((cs.drop off).take size) (fun l=>K (.agg l)) else False)
   else (match cs[off]? with
    | some v=>fo v K
    | none=>False)
  | .fam pre L g _=>
   bif agg then
    (bif Nat.ble pre.length off then (bif Nat.ble (off+size) (pre.length+L) then foN (off - pre.length) fun o=>foL (famR g o size) (fun l=>K (.agg l)) else False)
    else (bif (Nat.ble L 64 && Nat.ble (off+size) (pre.length+L)) then foL (((pre ++ famR g 0 L).drop off).take size) (fun l=>K (.agg l)) else False))
   else (bif Nat.ble pre.length off then (bif Nat.blt off (pre.length+L) then foN (off - pre.length) fun o=>K (.int .i64 (g o)) else False) else (match pre[off]? with
    | some v=>fo v K
    | none=>False))
  | _=>False
 | .fa n p o=>
  match h.at n with
  | .fam pre L g _=>
   bif Nat.beq pre.length p then
    (bif agg then (bif decide (o+size<=L) then foL (famR g o size) (fun l=>K (.agg l)) else False)
    else (bif decide (o<L) then K (.int .i64 (g o)) else False)) else False
  | .cells cs _=>
   match cs.drop p with
   | .int k n::r=>bif agg then False else selE k r fun l=>bif decide (o<(n::l).length) then K (.int k ((n::l).getD o 0)) else False
   | _=>False
  | _=>False
 | .rw n j o=>
  match h.at n with
  | .mat _ r C g _ _=>bif agg then False else (bif Nat.beq j 0 then (bif decide (o<r) then K (.slice (.rw n (o+1) 0) C C) else False)
   else bif decide (j - 1<r/\o<C) then K (.int .i64 (g (j - 1) o)) else False)
  | _=>False
 | .hb _ _ _=>False
 | .el n ix i off=>
  match h.at n with
  | .arr s ok g=>
   bif Nat.ble (off+size) s then ok ix i/\(bif agg then foL (((g ix i).drop off).take size) (fun l=>K (.agg l)) else (match (g ix i)[off]? with
    | some v=>fo v K
    | none=>False)) else False
  | _=>False
 | .ve n L s i off=>
  match h.at n with
  | .vec L' g s' _=>
   bif (Nat.ble (off+size) s && Nat.beq s' s && Nat.beq L' L) then (bif agg then foL (((g i).drop off).take size) (fun l=>K (.agg l)) else (match (g i)[off]? with
    | some v=>fo v K
    | none=>False)) else False
  | _=>False
def setL:List VV->Nat->List VV->List VV
 | cs,_,[]=>cs
 | cs,off,v::vs=>setL (cs.set off v) (off+1) vs
def VA.bel (k:Nat):VA->Bool
 | .own n _=>Nat.blt n k
 | .el _ _ _ _=>true
 | .ve n _ _ _ _=>Nat.blt n k
 | .fa n _ _=>Nat.blt n k
 | .rw n _ _=>Nat.blt n k
 | .hb _ _ _=>true
mutual
def VV.bel (k:Nat):VV->Bool
 | .ptr a=>a.bel k
 | .slice a _ _=>a.bel k
 | .func _ a b=>belL k a && belL k b
 | .iface _ v=>v.bel k
 | .agg cs=>belL k cs
 | .tup vs=>belL k vs
 | .yld n=>Nat.blt n k
 | .sl n _=>Nat.blt n k
 | .sub n _ _ _ _=>Nat.blt n k
 | .mp n=>Nat.blt n k
 | _=>true
def belL (k:Nat):List VV->Bool
 | []=>true
 | v::vs=>v.bel k && belL k vs
end
def ovG (o k:Nat) (g f:Nat->List VV):Nat->List VV:=fun j=>bif (Nat.ble o j && Nat.blt j (o+k)) then f (j - o) else g j
def atG (i:Nat) (g:Nat->List VV) (e:List VV):Nat->List VV:=fun j=>bif Nat.beq j i then e else g j
def storeE (lock size:Nat) (a:VA) (v:VV) (h:VH) (K:VH->Prop):Prop:=
 match a,v.cs? with
 | .own n off,some vs=>
  match h.at n with
  | .cells cs t=>
   bif (Nat.ble lock n && Nat.beq vs.length size && Nat.ble (off+size) cs.length && vs.all VV.one) then foL (setL cs off vs) (fun l=>(match h with
    | ⟨nx,bs⟩=>K ⟨nx,(n,.cells l t)::bs⟩)) else False
  | .fam pre L g t=>
   bif (Nat.ble lock n && Nat.beq vs.length size && Nat.ble (off+size) (pre.length+L)) then
    (bif Nat.ble pre.length off then foN (off - pre.length) fun o=>numsE vs fun ns=>(match h with
     | ⟨nx,bs⟩=>K ⟨nx,(n,.fam pre L (setF g o ns) t)::bs⟩)
    else (bif (Nat.ble (off+size) pre.length && vs.all VV.one) then foL (setL pre off vs) (fun l=>(match h with
     | ⟨nx,bs⟩=>K ⟨nx,(n,.fam l L g t)::bs⟩)) else False)) else False
  | _=>False
 | .fa n p o,some vs=>
  match h.at n with
  | .fam pre L g t=>
   bif (Nat.ble lock n && Nat.beq vs.length size && Nat.beq pre.length p && decide (o+size<=L)) then
    numsE vs fun ns=>(match h with
     | ⟨nx,bs⟩=>K ⟨nx,(n,.fam pre L (setF g o ns) t)::bs⟩) else False
  | _=>False
 | .rw n j o,some vs=>
  match h.at n with
  | .mat Kr r C g t te=>
   bif (Nat.ble lock n && Nat.beq vs.length size) then (bif Nat.beq j 0 then (match vs with
    | [.slice (.fa q 0 0) L L']=>(match h.at q with
     | .fam [] Lq f te'=>
      bif (Nat.ble lock q && Nat.beq Lq L && Nat.beq L' L && Nat.beq te' te && Nat.beq o r && decide (r<Kr) && (Nat.beq r 0 || Nat.beq L C) && decide (0<L) && !Nat.beq q n) then (match h with
       | ⟨nx,bs⟩=>K ⟨nx,(n,.mat Kr (r+1) L (rowM g r f) t te)::(q,.gone)::bs⟩) else False
     | _=>False)
    | _=>False)
    else (match vs with
    | [.int .i64 x]=>bif decide (j - 1<r/\o<C) then (match h with
     | ⟨nx,bs⟩=>K ⟨nx,(n,.mat Kr r C (setM g (j - 1) o x) t te)::bs⟩) else False
    | _=>False)) else False
  | _=>False
 | .hb t j o,some vs=>
  match bunN t h.bs with
  | some m=>
   match h.at m,vs with
   | .bun t' r C g te,[.int .i64 x]=>bif (Nat.ble lock m && Nat.beq t' t && Nat.beq size 1 && decide (j<r/\o<C)) then (match h with
    | ⟨nx,bs⟩=>K ⟨nx,(m,.bun t r C (setM g j o x) te)::bs⟩) else False
   | _,_=>False
  | none=>False
 | .ve n L s i off,some vs=>
  match h.at n with
  | .vec L' g s' t=>
   foL vs fun vs=>bif (Nat.ble lock n && Nat.beq vs.length size && Nat.ble (off+size) s && Nat.beq s' s && Nat.beq L' L && vs.all VV.one && belL 0 vs) then
    (match h with
    | ⟨nx,bs⟩=>bif Nat.beq size s then K ⟨nx,(n,.vec L (atG i g vs) s t)::bs⟩ else K ⟨nx,(n,.vec L (atG i g (setL (g i) off vs)) s t)::bs⟩) else False
  | _=>False
 | _,_=>False
def famA (P:Program):Nat->TypeId->Option Nat
 | 0,_=>none
 | d+1,t=>
  match P.underlying t with
  | some (.array n e)=>
   match P.underlying e with
   | some (.int .i64)=>some n
   | some (.array _ _)=>(famA P d e).map (n * ·)
   | _=>none
  | _=>none
def isFam (P:Program) (t:TypeId):Bool:=
 match famA P 3 t with
 | some n=>Nat.ble 6 n
 | none=>false
def isSel (P:Program) (t:TypeId):Bool:=
 match P.underlying t with
 | some (.array _ e)=>
  match P.underlying e with
  | some (.int .i64)=>false
  | some (.int _)=>true
  | _=>false
 | _=>false
def lastF:List Field->Option Field
 | []=>none
 | [f]=>some f
 | _::r=>lastF r
def famS (P:Program) (t:TypeId):Option (Nat × Nat):=
 match P.underlying t with
 | some (.array _ _)=>bif isFam P t then (famA P 3 t).map fun n=>(0,n) else none
 | some (.struct fs)=>
  match lastF fs.toList with
  | some f=>bif isFam P f.type then (famA P 3 f.type).map fun n=>(f.offset,n) else none
  | none=>none
 | _=>none
def zerosB:List VV->Nat->Bool
 | [],0=>true
 | .int .i64 n::r,k+1=>bif decide (n=0) then zerosB r k else false
 | _,_=>false
def newE (h:VH) (cs:List VV) (t:TypeId) (K:Nat->VH->Prop):Prop:=
 match h with
 | ⟨nx,bs⟩=>foN nx fun nx=>foL cs fun cs=>K nx ⟨nx+1,(nx,.cells cs t)::bs⟩
def newZ (P:Program) (h:VH) (cs:List VV) (t:TypeId) (K:Nat->VH->Prop):Prop:=
 match famS P t with
 | some (p,L)=>bif (zerosB (cs.drop p) L && Nat.ble p cs.length) then (match h with
   | ⟨nx,bs⟩=>foN nx fun nx=>foL (cs.take p) fun pre=>foN L fun L=>K nx ⟨nx+1,(nx,.fam pre L (fun _=>0) t)::bs⟩) else False
 | none=>newE h cs t K
def newN (P:Program) (h:VH) (cs:List VV) (t:TypeId) (K:Nat->VH->Prop):Prop:=
 match famS P t with
 | some (p,L)=>bif (Nat.blt 12 L && zerosB (cs.drop p) L) then (match h with
   | ⟨nx,bs⟩=>foN nx fun nx=>foL (cs.take p) fun pre=>foN L fun L=>K nx ⟨nx+1,(nx,.fam pre L (fun _=>0) t)::bs⟩)
  else numsE (cs.drop p) fun ns=>bif Nat.beq ns.length L then (match h with
   | ⟨nx,bs⟩=>foN nx fun nx=>foL (cs.take p) fun pre=>foN L fun L=>K nx ⟨nx+1,(nx,.fam pre L (fun k=>ns.getD k 0) t)::bs⟩) else False
 | none=>newE h cs t K
def pkE (P:Program) (t:TypeId):Option PK:=
 match P.underlying t with
 | some .bool=>some .bool
 | some (.int k)=>some (.int k)
 | _=>none
def pkL (P:Program):Nat->TypeId->Option (List PK)
 | 0,_=>none
 | d+1,t=>
  match P.underlying t with
  | some .bool=>some [.bool]
  | some (.int k)=>some [.int k]
  | some (.struct fs)=>fs.toList.foldr (fun f r=>match pkL P d f.type,r with | some a,some b=>some (a ++ b) | _,_=>none) (some [])
  | some (.array n e)=>match pkL P d e with | some a=>some (List.replicate n a).flatten | none=>none
  | _=>none
def keyE:List PK->List VV->(List Int->Prop)->Prop
 | [],[],K=>K []
 | .bool::ks,.bool b::vs,K=>keyE ks vs fun l=>K ((bif b then 1 else 0)::l)
 | .int k::ks,.int k' n::vs,K=>bif decide (k=k') then keyE ks vs (fun l=>K (n::l)) else False
 | _,_,_=>False
def valE (k:PK) (v:VV) (K:Int->Prop):Prop:=
 match k,v with
 | .bool,.bool b=>K (bif b then 1 else 0)
 | .int k,.int k' n=>bif decide (k=k') then K n else False
 | _,_=>False
def getE:List (List Int × Int)->List Int->Option Int
 | [],_=>none
 | (k,v)::r,key=>if k=key then some v else getE r key
def hasE:List (List Int × Int)->List Int->Bool
 | [],_=>false
 | (k,_)::r,key=>if k=key then true else hasE r key
def valOf (es:List (List Int × Int)) (key:List Int):Int:=(getE es key).getD 0
def setE:List (List Int × Int)->List Int->Int->List (List Int × Int)
 | [],key,x=>[(key,x)]
 | (k,v)::r,key,x=>if k=key then (key,x)::r else (k,v)::setE r key x
def KeyLaw (P:Program) (kt:TypeId) (ks:List PK):Prop:=
 (∃ fs,P.underlying kt=some (.struct fs))/\∀ (w:World) (k:List Int),keyB ks k=true->(∀ b,(Instr.checkKey b 10000 kt (.agg (keyV ks k).toArray)).run P w=.ok () w) /\
  ∀ k',keyB ks k'=true->(Op.equal kt (.agg (keyV ks k).toArray) (.agg (keyV ks k').toArray)).run P w=.ok (decide (k=k')) w
def zeroE (P:Program) (t:TypeId):Option Value:=
 match P.info? t with
 | some i=>i.zero
 | none=>none
def valZ (k:PK) (z:Value):Bool:=
 match k,z with
 | .bool,.bool b=>!b
 | .int k,.int k' n=>decide (k=k') && decide (n=0)
 | _,_=>false
def lookupE (P:Program) (kt et:TypeId) (n:Nat) (cs:List VV) (commaOk:Bool) (h:VH) (K:VV->Prop):Prop:=
 match h.at n,zeroE P et with
 | .map ks vk es,some z=>keyE ks cs fun key=>KeyLaw P kt ks/\bif valZ vk z then
   (bif commaOk then K (.tup [vk.vv (valOf es key),.bool (hasE es key)]) else fo (vk.vv (valOf es key)) K) else False
 | _,_=>False
def updateE (P:Program) (lock:Nat) (kt:TypeId) (n:Nat) (cs:List VV) (v:VV) (h:VH) (K:VH->Prop):Prop:=
 match h.at n with
 | .map ks vk es=>bif Nat.ble lock n then keyE ks cs fun key=>KeyLaw P kt ks/\valE vk v fun x=>(match h with
   | ⟨nx,bs⟩=>K ⟨nx,(n,.map ks vk (setE es key x))::bs⟩) else False
 | _=>False
def fillL (place:Nat->Option (Nat × Nat)) (cs:List VV):List (Nat × VV)->Option (List VV)
 | []=>some cs
 | (i,v)::rest=>
  match place i,v.cs? with
  | some (off,size),some vs=>
   bif (Nat.beq vs.length size && Nat.ble (off+size) cs.length) then fillL place (setL cs off vs) rest else none
  | _,_=>none
def placesL (P:Program):List Field->Option (List (Nat × Nat))
 | []=>some []
 | f::fs=>
  match tyI P f.type,placesL P fs with
  | some (_,s),some r=>some ((f.offset,s)::r)
  | _,_=>none
def buildE (P:Program) (t:TypeId) (parts:List (Nat × VV)):Option (List VV):=
 match tyZ P t,P.underlying t with
 | some z,some (.struct fields)=>
  match placesL P fields.toList with
  | some pl=>fillL (pl[·]?) z parts
  | none=>none
 | some z,some (.array _ e)=>
  match tyI P e with
  | some (_,s)=>fillL (fun i=>some (i*s,s)) z parts
  | none=>none
 | _,_=>none
def repL (z:List VV):Nat->List VV
 | 0=>[]
 | n+1=>z ++ repL z n
def partE (P:Program) (t:TypeId) (cs:List VV) (off:Nat):Option VV:=
 match tyI P t with
 | some (true,s)=>bif Nat.ble (off+s) cs.length then some (.agg ((cs.drop off).take s)) else none
 | some (false,_)=>cs[off]?
 | none=>none
def eqF (P:Program) (rec:TypeId->VV->VV->Option Bool) (xs ys:List VV):List Field->Option Bool
 | []=>some true
 | f::fs=>
  bif f.name == "_" then none else
  match partE P f.type xs f.offset,partE P f.type ys f.offset with
  | some a,some b=>
   match rec f.type a b,eqF P rec xs ys fs with
   | some p,some q=>some (p && q)
   | _,_=>none
  | _,_=>none
def eqI (P:Program) (rec:TypeId->VV->VV->Option Bool) (e:TypeId) (s:Nat) (xs ys:List VV):Nat->Nat->Option Bool
 | 0,_=>some true
 | n+1,j=>
  match partE P e xs (j*s),partE P e ys (j*s) with
  | some a,some b=>
   match rec e a b,eqI P rec e s xs ys n (j+1) with
   | some p,some q=>some (p && q)
   | _,_=>none
  | _,_=>none
def eqT (P:Program):Nat->TypeId->VV->VV->Option Bool
 | 0,_,_,_=>none
 | d+1,t,x,y=>
  match P.underlying t,x,y with
  | some .bool,.bool a,.bool b=>some (a == b)
  | some (.int _),.int k a,.int k' b=>bif (decide (k=k')) then some (decide (a=b)) else none
  | some (.struct fs),.agg xs,.agg ys=>bif P.stoodInHeld t then none else eqF P (eqT P d) xs ys fs.toList
  | some (.array n e),.agg xs,.agg ys=>
   match tyI P e with
   | some (_,s)=>eqI P (eqT P d) e s xs ys n 0
   | none=>none
  | _,_,_=>none
def quoZ (a b:Int):Int:=a.tdiv b
def remZ (a b:Int):Int:=a.tmod b
theorem quoZ_nn {a b:Int} (h:0<=a):quoZ a b=a / b:=Int.tdiv_eq_ediv_of_nonneg h
def wrK (op:BinOp) (k:IntKind) (a b:Int) (K:VV->Prop):Prop:=
 match op with
 | .sub=>K (.opq (.int k (k.wrap (a - b))))
 | .gtr=>K (.bool (decide (a > b)))
 | .lss=>K (.bool (decide (a<b)))
 | .add=>K (.opq (.int k (k.wrap (a+b))))
 | .leq=>K (.bool (decide (a<=b)))
 | .geq=>K (.bool (decide (a ≥ b)))
 | _=>False
def wrE (op:BinOp) (k k':IntKind) (a b:Int) (K:VV->Prop):Prop:=bif (decide (k=k')) then wrK op k a b K else False
def wr32 (n:Int):Int:=IntKind.u32.wrap n
def binE (P:Program) (op:BinOp) (t:TypeId) (x y:VV) (K:VV->Prop):Prop:=
 match x,y with
 | .opq (.int k a),.opq (.int k' b)=>wrE op k k' a b K
 | .opq (.int k a),.int k' b=>wrE op k k' a b K
 | .int k a,.opq (.int k' b)=>wrE op k k' a b K
 | .int k a,.int k' b=>
  bif (decide (k=k')) then
   match op with
   | .add=>(match k with
    | .u32=>K (.int .u32 (wr32 (a+b)))
    | k=>bif inK k (a+b) then K (.int k (a+b)) else False)
   | .sub=>bif inK k (a - b) then K (.int k (a - b)) else False
   | .mul=>bif inK k (a*b) then K (.int k (a*b)) else False
   | .quo=>bif decide (b=0) then False else (bif inK k (quoZ a b) then K (.int k (quoZ a b)) else False)
   | .rem=>bif decide (b=0) then False else K (.int k (remZ a b))
   | .eql=>K (.bool (decide (a=b)))
   | .neq=>K (.bool (!decide (a=b)))
   | .lss=>K (.bool (decide (a<b)))
   | .leq=>K (.bool (decide (a<=b)))
   | .gtr=>K (.bool (decide (a > b)))
   | .geq=>K (.bool (decide (a ≥ b)))
   | .shr=>bif decide (b<0) then False else K (.int k (a.fdiv (2 ^ (min b.toNat k.bits))))
   | .shl=>bif decide (b<0) then False else (bif inK k (a*2 ^ (min b.toNat k.bits)) then K (.int k (a*2 ^ (min b.toNat k.bits))) else False)
   | .and=>K (.int k (k.wrap (BitVec.ofInt k.bits a &&& BitVec.ofInt k.bits b).toNat))
   | .or=>K (.int k (k.wrap (BitVec.ofInt k.bits a ||| BitVec.ofInt k.bits b).toNat))
   | .andNot=>K (.int k (k.wrap (BitVec.ofInt k.bits a &&& ~~~(BitVec.ofInt k.bits b)).toNat))
   | _=>False
  else (match op with
   | .shr=>bif decide (b<0) then False else K (.int k (a.fdiv (2 ^ (min b.toNat k.bits))))
   | .shl=>bif decide (b<0) then False else (bif inK k (a*2 ^ (min b.toNat k.bits)) then K (.int k (a*2 ^ (min b.toNat k.bits))) else False)
   | _=>False)
 | .bool a,.bool b=>
  match op,P.underlying t with
  | .eql,some .bool=>K (.bool (a == b))
  | .neq,some .bool=>K (.bool (!(a == b)))
  | _,_=>False
 | .agg xs,.agg ys=>
  bif P.eqGuardType P.depth t then False else
  match eqT P 10000 t (.agg xs) (.agg ys) with
  | some r=>
   match op with
   | .eql=>K (.bool r)
   | .neq=>K (.bool (!r))
   | _=>False
  | none=>False
 | .ptr _,.nilp=>
  match op,P.underlying t with
  | .eql,some (.pointer _)=>K (.bool false)
  | .neq,some (.pointer _)=>K (.bool (!false))
  | _,_=>False
 | .tp _,.nilp=>
  match op,P.underlying t with
  | .eql,some (.pointer _)=>K (.bool false)
  | .neq,some (.pointer _)=>K (.bool (!false))
  | _,_=>False
 | .nilp,.nilp=>
  match op,P.underlying t with
  | .eql,some (.pointer _)=>K (.bool true)
  | .neq,some (.pointer _)=>K (.bool (!true))
  | _,_=>False
 | .slice _ _ c,.nils=>
  bif Nat.ble 1 c then (match op,P.underlying t with
  | .eql,some (.slice _)=>K (.bool false)
  | .neq,some (.slice _)=>K (.bool (!false))
  | _,_=>False) else False
 | .nils,.nils=>
  match op,P.underlying t with
  | .eql,some (.slice _)=>K (.bool true)
  | .neq,some (.slice _)=>K (.bool (!true))
  | _,_=>False
 | _,_=>False
def unE (op:UnOp) (x:VV) (K:VV->Prop):Prop:=
 match op,x with
 | .not,.bool b=>K (.bool (!b))
 | .neg,.int k n=>bif inK k (0 - n) then K (.int k (0 - n)) else False
 | _,_=>False
def idxE (P:Program) (e:TypeId) (s:Nat) (cs:List VV) (i:Int) (K:VV->Prop):Nat->Nat->Prop
 | 0,_=>False
 | n+1,j=>bif decide (i=(j:Int)) then (match partE P e cs (j*s) with
   | some v=>fo v K
   | none=>False) else idxE P e s cs i K n (j+1)
def maxL (k:IntKind):Int->List VV->Option Int
 | m,[]=>some m
 | m,.int k' n::r=>bif decide (k=k') then maxL k (max m n) r else none
 | _,_=>none
def minL (k:IntKind):Int->List VV->Option Int
 | m,[]=>some m
 | m,.int k' n::r=>bif decide (k=k') then minL k (min m n) r else none
 | _,_=>none
def builtinE (P:Program) (b:Builtin) (tys:List TypeId) (args:List VV) (K:VV->Prop):Prop:=
 match b,args with
 | .len,[.slice _ n _]=>
  match tys with
  | [t]=>(match P.underlying t with | some (.slice _)=>K (.int .i64 n) | _=>False)
  | _=>False
 | .len,[.sl _ L]=>
  match tys with
  | [t]=>(match P.underlying t with | some (.slice _)=>K (.int .i64 L) | _=>False)
  | _=>False
 | .len,[.sub _ _ _ _ k]=>
  match tys with
  | [t]=>(match P.underlying t with | some (.slice _)=>K (.int .i64 k) | _=>False)
  | _=>False
 | .len,[.tl L _ _]=>
  match tys with
  | [t]=>(match P.underlying t with | some (.slice _)=>K (.int .i64 L) | _=>False)
  | _=>False
 | .len,[.hs _ _ C]=>
  match tys with
  | [t]=>(match P.underlying t with | some (.slice _)=>K (.int .i64 C) | _=>False)
  | _=>False
 | .len,[.nils]=>
  match tys with
  | [t]=>(match P.underlying t with | some (.slice _)=>K (.int .i64 0) | _=>False)
  | _=>False
 | .max,.int k n::r=>(match maxL k n r with | some m=>K (.int k m) | none=>False)
 | .min,.int k n::r=>(match minL k n r with | some m=>K (.int k m) | none=>False)
 | _,_=>False
def newsE (s:Nat) (x:VV) (h:VH) (K:Nat->(Nat->List VV)->Prop):Prop:=
 match x with
 | .nils=>K 0 (fun _=>[])
 | .slice (.own m off) k _=>
  match h.at m with
  | .cells cs _=>bif (Nat.ble (off+k*s) cs.length && belL 0 ((cs.drop off).take (k*s)) && ((cs.drop off).take (k*s)).all VV.one) then K k (fun j=>(((cs.drop off).take (k*s)).drop (j*s)).take s) else False
  | _=>False
 | .sl m L=>
  match h.at m with
  | .vec L' g s' _=>bif (Nat.beq s' s && Nat.beq L' L) then K L g else False
  | _=>False
 | .sub m L s0 i k=>
  match h.at m with
  | .vec L' g s' _=>bif (Nat.beq s' s && Nat.beq s0 s && Nat.beq L' L) then K k (fun j=>g (i+j)) else False
  | _=>False
 | .tl L s0 g=>bif Nat.beq s0 s then K L g else False
 | .hs t j C=>
  match bunN t h.bs with
  | some m=>
   match h.at m with
   | .bun t' r C' g _=>bif (Nat.beq s 1 && Nat.beq t' t && Nat.beq C' C && decide (j<r)) then K C (fun k=>[.int .i64 (g j k)]) else False
   | _=>False
  | none=>False
 | .slice (.fa m p o) k _=>
  match h.at m with
  | .fam pre L g _=>bif (Nat.beq s 1 && Nat.beq pre.length p && decide (o+k<=L)) then K k (fun j=>[.int .i64 (g (o+j))]) else False
  | _=>False
 | .slice (.el m ix i off) k _=>
  match h.at m with
  | .arr s' ok g=>bif (Nat.beq s' s && Nat.beq off 0) then ((∀ j:Nat,j<k->ok ix (i+(j:Int))/\(g ix (i+(j:Int))).all VV.one=true)/\K k (fun j=>g ix (i+(j:Int)))) else False
  | _=>False
 | _=>False
def catG (L:Nat) (g f:Nat->List VV):Nat->List VV:=fun j=>bif Nat.blt j L then g j else f (j - L)
def arrEl (P:Program) (t:TypeId):Bool:=
 match P.underlying t with
 | some (.slice e)=>(match P.underlying e with
  | some (.array _ _)=>true
  | _=>false)
 | _=>false
def roomB (n bytes:Nat):Bool:=Nat.ble n 281474976710656 && Nat.ble (n*bytes) 140737488355328
def frzC (lock m j:Nat) (h:VH) (K:VH->Prop):Prop:=
 match h.at m,h with
 | .cells cs t,⟨nx,bs⟩=>
  match cs[j]? with
  | some (.sl b L)=>
   match (VH.mk nx bs).at b with
   | .vec L' g s _=>bif (Nat.ble lock m && Nat.ble lock b && Nat.beq L' L && Nat.ble 1 s && !(Nat.beq b m)) then foL (cs.set j (.tl L s g)) (fun cs=>K ⟨nx,(m,.cells cs t)::(b,.gone)::bs⟩) else K ⟨nx,bs⟩
   | _=>K ⟨nx,bs⟩
  | some (.ptr (.own b 0))=>
   match (VH.mk nx bs).at b with
   | .cells cs' _=>bif (Nat.ble lock m && Nat.ble lock b && belL 0 cs' && !(Nat.beq b m)) then foL (cs.set j (.tp cs')) (fun cs=>K ⟨nx,(m,.cells cs t)::(b,.gone)::bs⟩) else K ⟨nx,bs⟩
   | _=>K ⟨nx,bs⟩
  | _=>K ⟨nx,bs⟩
 | _,h=>K h
def frzR (lock m:Nat):Nat->Nat->VH->(VH->Prop)->Prop
 | 0,_,h,K=>K h
 | n+1,j,h,K=>frzC lock m j h fun h=>foN (j+1) fun j=>frzR lock m n j h K
def frzA (lock:Nat) (args:List VV) (h:VH) (K:VH->Prop):Prop:=
 match args with
 | [_,.slice (.own m _) _ _]=>
  match h.at m with
  | .cells cs _=>bif belL 0 cs then K h else foN cs.length fun n=>frzR lock m n 0 h K
  | _=>K h
 | _=>K h
def appE (P:Program) (lock:Nat) (tys:List TypeId) (args:List VV) (h:VH) (K:VV->VH->Prop):Prop:=
 match tys,args with
 | [t,t'],[a,x]=>
  bif Nat.beq t' t then
   match P.underlying t with
   | some (.slice e)=>
    match P.info? e,tyI P e,tyZ P e with
    | some i,some (_,s),some z=>
     foN s fun s=>foN i.bytes fun by'=>bif (Nat.ble 1 s && Nat.beq z.length s) then
      newsE s x h fun k f=>
       match a,h with
       | .nils,⟨nx,bs⟩=>bif roomB k by' then (foN nx fun nx=>K (.sl nx k) ⟨nx+1,(nx,.vec k f s e)::bs⟩) else False
       | .sl n L,⟨nx,bs⟩=>
        match h.at n with
        | .vec L' g s' e'=>bif (Nat.ble lock n && Nat.beq s' s && Nat.beq e' e && Nat.beq L' L) then (bif roomB (L+k) by' then K (.sl n (L+k)) ⟨nx,(n,.vec (L+k) (catG L g f) s e)::bs⟩ else False) else False
        | _=>False
       | .sub n L s0 i m,⟨nx,bs⟩=>
        match h.at n with
        | .vec L' g s' e'=>bif (Nat.ble lock n && Nat.beq s' s && Nat.beq s0 s && Nat.beq e' e && Nat.beq L' L) then
          (bif decide (i+m+k<=L) then K (.sub n L s i (m+k)) ⟨nx,(n,.vec L (ovG (i+m) k g f) s e)::bs⟩
          else bif (Nat.beq i 0 && Nat.beq m L && roomB (L+k) by') then K (.sub n (L+k) s 0 (L+k)) ⟨nx,(n,.vec (L+k) (catG L g f) s e)::bs⟩ else False)
         else False
        | _=>False
       | _,_=>False
     else False
    | _,_,_=>False
   | _=>False
  else False
 | _,_=>False
def clrE (P:Program) (lock:Nat) (tys:List TypeId) (args:List VV) (h:VH) (K:VV->VH->Prop):Prop:=
 match tys,args with
 | [t],[.sub n L s0 i k]=>
  match P.underlying t with
  | some (.slice e)=>
   match tyI P e,tyZ P e with
   | some (_,s),some z=>foN s fun s=>foL z fun z=>
    match h.at n,h with
    | .vec L' g s' e',⟨nx,bs⟩=>bif (Nat.ble lock n && Nat.ble 1 s && Nat.beq s' s && Nat.beq s0 s && Nat.beq L' L && Nat.beq z.length s && z.all VV.one && belL 0 z) then K (.tup []) ⟨nx,(n,.vec L (ovG i k g fun _=>z) s e')::bs⟩ else False
    | _,_=>False
   | _,_=>False
  | _=>False
 | _,_=>False
def flatF (f:Nat->List VV):Nat->List VV
 | 0=>[]
 | m+1=>flatF f m ++ f m
def intV:List VV->Int
 | [.int .i64 n]=>n
 | _=>0
def intsL (f:Nat->List VV) (m:Nat):List Int:=(List.range m).map fun j=>intV (f j)
def copyE (P:Program) (lock:Nat) (tys:List TypeId) (args:List VV) (h:VH) (K:VV->VH->Prop):Prop:=
 match tys,args with
 | [t,t'],[.slice (.own n off) dl _,x]=>
  bif (Nat.beq t' t && Nat.ble 1 dl) then
   match P.underlying t with
   | some (.slice e)=>
    match tyI P e with
    | some (_,s)=>bif Nat.beq s 1 then
      newsE 1 x h fun k f=>bif Nat.ble 1 k then (foN (min k dl) fun m=>foL (flatF f m) fun vs=>
       match h with
       | ⟨nx,bs⟩=>
        match h.at n with
        | .cells cs ty=>bif (Nat.ble lock n && Nat.ble (off+m) cs.length && vs.all VV.one && Nat.beq vs.length m) then foL (setL cs off vs) (fun cs=>K (.int .i64 m) ⟨nx,(n,.cells cs ty)::bs⟩) else False
        | _=>False) else False
     else False
    | none=>False
   | _=>False
  else False
 | [t,t'],[.slice (.fa n p o) dl _,x]=>
  bif (Nat.beq t' t && Nat.ble 1 dl) then
   match P.underlying t with
   | some (.slice e)=>
    match tyI P e with
    | some (_,s)=>bif Nat.beq s 1 then
      newsE 1 x h fun k f=>
       match h with
       | ⟨nx,bs⟩=>
        match h.at n with
        | .fam pre L g ty=>bif (Nat.ble lock n && Nat.beq pre.length p && decide (o+dl<=L)) then ((∀ j,j<min k dl->f j=[.int .i64 (intV (f j))])/\K (.int .i64 (min k dl:Nat)) ⟨nx,(n,.fam pre L (setF g o (intsL f (min k dl))) ty)::bs⟩) else False
        | _=>False
     else False
    | none=>False
   | _=>False
  else False
 | _,_=>False
def isIf:TypeDesc->Bool
 | .interface _=>true
 | _=>false
def mthE (P:Program) (t:TypeId) (name:String):Option FuncId:=
 match P.info? t with
 | some i=>
  match i.methods.find? (·.name == name) with
  | some m=>bif m.path.isEmpty then (match m.func,P.underlying t with
   | some (_,false),some (.pointer _)=>none
   | some (f,false),some _=>some f
   | _,_=>none) else none
  | none=>none
 | none=>none
def bndE (t:Slots) (o:Option Operand) (d:Int) (K:Int->Prop):Prop:=
 match o with
 | none=>K d
 | some x=>match evO t x with
  | .int .i64 n=>K n
  | _=>False
def elT (P:Program) (t:TypeId):TypeId:=
 match P.underlying t with
 | some (.slice e)=>e
 | _=>0
def isRow (P:Program) (t:TypeId):Bool:=
 match P.underlying t,P.underlying (elT P t),tyZ P t with
 | some (.slice _),some (.int .i64),some [.nils]=>true
 | _,_,_=>false
def mkSl (P:Program) (ty:TypeId) (l c:VV) (h:VH) (K:VV->VH->Prop):Prop:=
 match l,c,P.underlying ty with
 | .int _ l,.int _ c,some (.slice e)=>
  match P.info? e,tyI P e,tyZ P e with
  | some i,some (_,s),some z=>
   foN s fun s=>foN i.bytes fun by'=>bif (Nat.ble 1 s && Nat.beq z.length s) then
    bif decide (0<=l/\c=l) then bif roomB l.toNat by' then
     bif zerosB z s then (match h with
      | ⟨nx,bs⟩=>foN nx fun nx=>K (.slice (.fa nx 0 0) l.toNat l.toNat) ⟨nx+1,(nx,.fam [] (l.toNat*s) (fun _=>0) e)::bs⟩)
     else (match z,h with
      | [v],⟨nx,bs⟩=>bif arrEl P e then foN nx (fun nx=>foN l.toNat fun n=>foL (List.replicate n v) fun cs=>K (.slice (.own nx 0) n n) ⟨nx+1,(nx,.cells cs e)::bs⟩)
       else bif isRow P e then foN nx (fun nx=>K (.slice (.rw nx 0 0) l.toNat l.toNat) ⟨nx+1,(nx,.mat l.toNat 0 0 (fun _ _=>0) e (elT P e))::bs⟩)
       else bif (v.bel 0 && v.one) then foN nx (fun nx=>K (.sl nx l.toNat) ⟨nx+1,(nx,.vec l.toNat (fun _=>[v]) 1 e)::bs⟩) else False
      | _,_=>False)
    else False else False
   else False
  | _,_,_=>False
 | _,_,_=>False
def occN (b:Nat):List Nat->Slots->Nat
 | _,[]=>0
 | seen,(d,v)::r=>bif seen.any (Nat.beq d) then occN b seen r else (match v with
  | .sl m _=>bif Nat.beq m b then occN b (d::seen) r+1 else occN b (d::seen) r
  | _=>occN b (d::seen) r)
def tellL (lock:Nat):List Operand->Slots->VH->(Slots->VH->Prop)->Prop
 | [],t,h,K=>K t h
 | .tmp d::r,t,h,K=>
  match look t d,h with
  | .sl b L,⟨nx,bs⟩=>
   match (VH.mk nx bs).at b with
   | .vec L' g s _=>bif (Nat.ble lock b && Nat.beq L' L && Nat.ble 1 s && Nat.ble (occN b [] t) 1) then tellL lock r ((d,.tl L s g)::t) ⟨nx,(b,.gone)::bs⟩ K else tellL lock r t ⟨nx,bs⟩ K
   | _=>tellL lock r t ⟨nx,bs⟩ K
  | _,h=>tellL lock r t h K
 | _::r,t,h,K=>tellL lock r t h K
def isSlc (P:Program) (t:TypeId):Bool:=
 match P.underlying t with
 | some (.slice e)=>(match P.underlying e with
  | some (.slice _)=>true
  | _=>false)
 | _=>false
def tellO (P:Program) (lock:Nat) (op:Op) (t:Slots) (h:VH) (K:Slots->VH->Prop):Prop:=
 match op with
 | .buildSlice ty _ parts=>bif isSlc P ty then tellL lock (parts.toList.map (·.2)) t h K else K t h
 | .store _ x v=>(match evO t x with
  | .ptr (.ve _ _ _ _ _)=>tellL lock [v] t h K
  | _=>K t h)
 | _=>K t h
def opE0 (P:Program) (call:CallT) (lock:Nat) (op:Op) (t:Slots) (h:VH) (K:VV->VH->Prop) (Kp:VV->VH->Prop):Prop:=
 match op with
 | .move x=>fo (evO t x) fun v=>K v h
 | .assign x=>fo (evO t x) fun v=>K v h
 | .pick c a b=>
  match evO t c with
  | .bool q=>bif q then fo (evO t a) (fun v=>K v h) else fo (evO t b) (fun v=>K v h)
  | _=>False
 | .alloc e=>
  match tyZ P e with
  | some z=>newZ P h z e fun n h=>K (.ptr (.own n 0)) h
  | none=>False
 | .box e x=>
  match (evO t x).cs? with
  | some cs=>newN P h cs e fun n h=>K (.ptr (.own n 0)) h
  | none=>False
 | .makeMap ty none=>
  match P.underlying ty with
  | some (.map kt et)=>
   match pkL P 5 kt,pkE P et with
   | some ks,some vk=>(match h with
    | ⟨nx,bs⟩=>foN nx fun nx=>K (.mp nx) ⟨nx+1,(nx,.map ks vk [])::bs⟩)
   | _,_=>False
  | _=>False
 | .lookup ty x ix ok=>
  match evO t x,evO t ix,P.underlying ty with
  | .mp n,.agg cs,some (.map kt et)=>lookupE P kt et n cs ok h fun v=>K v h
  | _,_,_=>False
 | .mapUpdate ty x ix v=>
  match evO t x,evO t ix,P.underlying ty with
  | .mp n,.agg cs,some (.map kt _)=>updateE P lock kt n cs (evO t v) h fun h'=>K udf h'
  | _,_,_=>False
 | .insert ty x ix v=>
  match evO t x,evO t ix,P.underlying ty with
  | .mp n,.agg cs,some (.map kt _)=>updateE P lock kt n cs (evO t v) h fun h'=>K udf h'
  | _,_,_=>False
 | .build ty parts=>
  match buildE P ty (parts.toList.map fun (i,x)=>(i,evO t x)) with
  | some cs=>foL cs fun cs=>K (.agg cs) h
  | none=>False
 | .buildSlice ty len parts=>
  match P.underlying ty with
  | some (.slice e)=>
   match tyI P e,tyZ P e with
   | some (_,s),some z=>
    foN s fun s=>bif (Nat.ble (len*s) 16777216 && Nat.ble 1 s && Nat.beq z.length s) then
     match fillL (fun i=>some (i*s,s)) (repL z len) (parts.toList.map fun (i,x)=>(i,evO t x)) with
     | some cs=>bif (belL 0 cs && cs.all VV.one && Nat.beq cs.length (len*s)) then (match h with
       | ⟨nx,bs⟩=>foN nx fun nx=>foL cs fun cs=>K (.sl nx len) ⟨nx+1,(nx,.vec len (fun j=>(cs.drop (j*s)).take s) s e)::bs⟩)
      else newE h cs e fun n h=>K (.slice (.own n 0) len len) h
     | none=>False
    else False
   | _,_=>False
  | _=>False
 | .load ty x=>
  match evO t x,tyI P ty with
  | .ptr a,some (agg,size)=>foN size fun size=>loadE agg size a h fun v=>K v h
  | .tp cs,some (agg,size)=>foN size fun size=>bif Nat.ble size cs.length then (bif agg then foL (cs.take size) (fun l=>K (.agg l) h) else (match cs[0]? with
   | some v=>fo v fun v=>K v h
   | none=>False)) else False
  | _,_=>False
 | .store ty x v=>
  match evO t x,tyI P ty with
  | .ptr a,some (_,size)=>foN size fun size=>storeE lock size a (evO t v) h fun h'=>K udf h'
  | _,_=>False
 | .nilCheck x=>
  match evO t x with
  | .ptr a=>K (.ptr a) h
  | .func f a b=>K (.func f a b) h
  | .tp cs=>K (.tp cs) h
  | _=>False
 | .binOp o ty x (.const .nilIface) _=>
  match evO t x,P.underlying ty,o with
  | .iface _ _,some (.interface _),.eql=>K (.bool false) h
  | .iface _ _,some (.interface _),.neq=>K (.bool true) h
  | .niff,some (.interface _),.eql=>K (.bool true) h
  | .niff,some (.interface _),.neq=>K (.bool false) h
  | _,_,_=>False
 | .binOp o ty x (.const (.slice none 0 0)) _=>
  match evO t x with
  | .sl n L=>
   match h.at n,P.underlying ty,o with
   | .vec L' _ _ _,some (.slice _),.eql=>bif (Nat.beq L' L && Nat.ble 1 L) then K (.bool false) h else False
   | .vec L' _ _ _,some (.slice _),.neq=>bif (Nat.beq L' L && Nat.ble 1 L) then K (.bool true) h else False
   | _,_,_=>False
  | .tl L _ _=>
   match P.underlying ty,o with
   | some (.slice _),.eql=>bif Nat.ble 1 L then K (.bool false) h else False
   | some (.slice _),.neq=>bif Nat.ble 1 L then K (.bool true) h else False
   | _,_=>False
  | v=>binE P o ty v .nils fun v=>K v h
 | .binOp o ty x y _=>binE P o ty (evO t x) (evO t y) fun v=>K v h
 | .typeAssert x _ asserted true=>
  match evO t x,P.underlying asserted with
  | .iface ty v,some d=>
   bif isIf d then False else
   bif Nat.beq ty asserted then fo v fun v=>K (.tup [v,.bool true]) h else False
  | _,_=>False
 | .unOp o _ x=>unE o (evO t x) fun v=>K v h
 | .convert src dst x=>
  match evO t x,P.underlying src,P.underlying dst with
  | .int _ n,some _,some (.int k)=>bif inK k n then K (.int k n) h else False
  | _,_,_=>False
 | .makeInterface ty x=>
  match P.underlying ty with
  | some (.interface _)=>False
  | some _=>fo (evO t x) fun v=>K (.iface ty v) h
  | none=>False
 | .makeFunc (.func f) a b=>foL (a.toList.map (evO t)) fun a=>foL (b.toList.map (evO t)) fun b=>K (.func f a b) h
 | .fieldAddr s x f=>
  match evO t x,P.underlying s with
  | .ptr a,some (.struct fs)=>
   match fs.toList[f]? with
   | some fd=>(match tyI P fd.type with
    | some (_,z)=>bif Nat.ble 1 z then addE a fd.offset (fun a=>K (.ptr a) h) else False
    | none=>False)
   | none=>False
  | .tp cs,some (.struct fs)=>
   match fs.toList[f]? with
   | some fd=>(match tyI P fd.type with
    | some (_,z)=>bif (Nat.ble 1 z && Nat.ble fd.offset cs.length) then foL (cs.drop fd.offset) (fun l=>K (.tp l) h) else False
    | none=>False)
   | none=>False
  | _,_=>False
 | .field s x f=>
  match evO t x,P.underlying s with
  | .agg cs,some (.struct fs)=>
   match fs.toList[f]? with
   | some fd=>(match partE P fd.type cs fd.offset with
    | some v=>fo v fun v=>K v h
    | none=>False)
   | none=>False
  | _,_=>False
 | .indexAddr ty x ix=>
  match evO t x,evO t ix,P.underlying ty with
  | .slice a len _,.int _ i,some (.slice e)=>
   match tyI P e with
   | some (_,s)=>
    bif decide (0<=i/\i<(len:Int)) then
     match a with
     | .own n off=>foN (off+i.toNat*s) fun m=>K (.ptr (.own n m)) h
     | .el n ix j off=>(match h.at n with
      | .arr st _ _=>bif (Nat.beq st s && Nat.beq off 0 && decide (0<=j)) then K (.ptr (.el n ix (j+i) 0)) h else False
      | _=>False)
     | .ve _ _ _ _ _=>False
     | .fa n p o=>foN s fun s=>K (.ptr (.fa n p (o+i.toNat*s))) h
     | .rw n j o=>foN s fun s=>bif Nat.beq s 1 then K (.ptr (.rw n j (o+i.toNat))) h else False
     | .hb _ _ _=>False
    else False
   | none=>False
  | .hs tg j C,.int _ i,some (.slice e)=>
   match tyI P e with
   | some (_,s)=>bif decide (0<=i/\i<(C:Int)) then (match bunN tg h.bs with
    | some m=>(match h.at m with
     | .bun t' r C' _ _=>bif (Nat.beq s 1 && Nat.beq t' tg && Nat.beq C' C && decide (j<r)) then K (.ptr (.hb tg j i.toNat)) h else False
     | _=>False)
    | none=>False) else False
   | none=>False
  | .sl n L,.int _ i,some (.slice e)=>
   match tyI P e with
   | some (_,s)=>
    bif decide (0<=i/\i<(L:Int)) then
     (match h.at n with
     | .vec L' _ s' _=>bif (Nat.beq s' s && Nat.beq L' L && Nat.ble 1 s) then foN s (fun s=>K (.ptr (.ve n L s i.toNat 0)) h) else False
     | _=>False)
    else False
   | none=>False
  | .tl L s0 g,.int _ i,some (.slice e)=>
   match tyI P e with
   | some (_,s)=>bif decide (0<=i/\i<(L:Int)) then (bif Nat.beq s0 s then foL (g i.toNat) (fun cs=>K (.tp cs) h) else False) else False
   | none=>False
  | .sub n L s0 j len,.int _ i,some (.slice e)=>
   match tyI P e with
   | some (_,s)=>
    bif decide (0<=i/\i<(len:Int)) then
     (match h.at n with
     | .vec L' _ s' _=>bif (Nat.beq s' s && Nat.beq s0 s && Nat.beq L' L && Nat.ble 1 s) then K (.ptr (.ve n L s (j+i.toNat) 0)) h else False
     | _=>False)
    else False
   | none=>False
  | .tp cs,.int _ i,some (.array len e)=>
   match tyI P e with
   | some (_,s)=>bif decide (0<=i/\i<(len:Int)) then numsE cs (fun ns=>bif (Nat.beq s 1 && Nat.beq ns.length len) then K (.tp [.int .i64 (ns.getD i.toNat 0)]) h else False) else False
   | none=>False
  | .ptr a,.int _ i,some (.array len e)=>
   match tyI P e with
   | some (_,s)=>bif decide (0<=i/\i<(len:Int)) then foN s fun s=>(match a with
     | .own n off=>bif (isFam P ty || isSel P ty) then K (.ptr (.fa n off (i.toNat*s))) h else addE (.own n off) (i.toNat*s) (fun a=>K (.ptr a) h)
     | a=>addE a (i.toNat*s) (fun a=>K (.ptr a) h)) else False
   | none=>False
  | _,_,_=>False
 | .index ty x ix=>
  match evO t x,evO t ix,P.underlying ty with
  | .agg cs,.int _ i,some (.array len e)=>
   match tyI P e with
   | some (_,s)=>idxE P e s cs i (fun v=>K v h) len 0
   | none=>False
  | _,_,_=>False
 | .extract x i=>
  match evO t x with
  | .tup vs=>(match vs[i]? with | some v=>fo v fun v=>K v h | none=>False)
  | _=>False
 | .call c=>
  match c.callee with
  | .value f=>
   match evO t f with
   | .func g first cap=>
    match P.funcs[g]? with
    | some fn => bif (fn.body.isSome && !(fn.name == "runtime.NumGoroutine")) then
      foL (first ++ c.args.toList.map (evO t) ++ cap) fun l=>call lock (.fn g) l h fun r h'=>(match r with
       | .ret v=>K v h'
       | .panic v=>Kp v h')
     else False
    | none=>False
   | .yld n=>foL (c.args.toList.map (evO t)) fun l=>call lock (.yl n) l h fun r h'=>(match r with
     | .ret v=>K v h'
     | .panic v=>Kp v h')
   | _=>False
  | .invoke x name=>
   match evO t x with
   | .iface ty v=>
    match mthE P ty name with
    | some g=>
     match P.funcs[g]? with
     | some fn => bif (fn.body.isSome && !(fn.name == "runtime.NumGoroutine")) then
       foL (v::c.args.toList.map (evO t)) fun l=>call lock (.fn g) l h fun r h'=>(match r with
        | .ret v=>K v h'
        | .panic v=>Kp v h')
      else False
     | none=>False
    | none=>False
   | _=>False
  | .builtin .append=>foL (c.args.toList.map (evO t)) fun l=>frzA lock l h fun h=>appE P lock c.argTypes.toList l h K
  | .builtin .copy=>foL (c.args.toList.map (evO t)) fun l=>copyE P lock c.argTypes.toList l h K
  | .builtin .clear=>foL (c.args.toList.map (evO t)) fun l=>clrE P lock c.argTypes.toList l h K
  | .builtin b=>foL (c.args.toList.map (evO t)) fun l=>(match b,l with
   | .len,[.mp n]=>
    match c.argTypes.toList,h.at n with
    | [ty],.map _ _ es=>(match P.underlying ty with | some (.map _ _)=>K (.int .i64 (es.length:Nat)) h | _=>False)
    | _,_=>False
   | b,l=>builtinE P b c.argTypes.toList l fun v=>K v h)
 | .panic x=>
  match evO t x with
  | .iface ty v=>Kp (.iface ty v) h
  | _=>False
 | .makeSlice ty l c=>mkSl P ty (evO t l) (evO t c) h K
 | .slice ty x lo (some hi) (some mx)=>
  match evO t x,P.underlying ty with
  | .sl n L,some (.slice e)=>
   match tyI P e,h.at n with
   | some _,.vec L' _ _ _=>bndE t lo 0 fun l=>bndE t (some hi) 0 fun u=>bndE t (some mx) 0 fun m=>
    bif (Nat.beq L' L && decide (0<=l/\l<=u/\u<=m/\m<=(L:Int))) then K .any h else False
   | _,_=>False
  | _,_=>False
 | .slice ty x lo hi none=>
  match evO t x,P.underlying ty with
  | .slice a len cap,some (.slice e)=>
   match tyI P e with
   | some (_,s)=>bndE t lo 0 fun l=>bndE t hi len fun u=>
    bif decide (0<=l/\l<=u/\u<=(cap:Int)) then
     match a with
     | .own n off=>foN (off+l.toNat*s) fun m=>K (.slice (.own n m) (u - l).toNat (cap - l.toNat)) h
     | .el n ix j off=>(match h.at n with
      | .arr st _ _=>bif (Nat.beq st s && Nat.beq off 0 && decide (0<=j)) then K (.slice (.el n ix (j+l) 0) (u - l).toNat (cap - l.toNat)) h else False
      | _=>False)
     | .ve _ _ _ _ _=>False
     | .fa n p o=>foN s fun s=>K (.slice (.fa n p (o+l.toNat*s)) (u - l).toNat (cap - l.toNat)) h
     | .rw _ _ _=>False
     | .hb _ _ _=>False
    else False
   | none=>False
  | .nils,some (.slice e)=>
   match tyI P e with
   | some _=>bndE t lo 0 fun l=>bndE t hi 0 fun u=>bif decide (l=0/\u=0) then K .nils h else False
   | none=>False
  | .sl n L,some (.slice e)=>
   match tyI P e with
   | some (_,s)=>bndE t lo 0 fun l=>bndE t hi L fun u=>
    bif decide (0<=l/\l<=u/\u<=(L:Int)) then
     (match h.at n with
     | .vec L' _ _ _=>bif Nat.beq L' L then foN s (fun s=>K (.sub n L s l.toNat (u - l).toNat) h) else False
     | _=>False)
    else False
   | none=>False
  | .tl L s0 g,some (.slice e)=>
   match tyI P e with
   | some (_,s)=>bndE t lo 0 fun l=>bndE t hi L fun u=>
    bif decide (0<=l/\l<=u/\u<=(L:Int)) then (bif Nat.beq s0 s then K (.tl (u - l).toNat s (fun j=>g (l.toNat+j))) h else False) else False
   | none=>False
  | .sub n L s0 i k,some (.slice e)=>
   match tyI P e with
   | some (_,s)=>bndE t lo 0 fun l=>bndE t hi k fun u=>
    bif decide (0<=l/\l<=u/\(i:Int)+u<=(L:Int)) then (bif Nat.beq s0 s then K (.sub n L s0 (i+l.toNat) (u - l).toNat) h else False) else False
   | none=>False
  | .ptr (.own n off),some (.array len e)=>
   match tyI P e with
   | some (_,s)=>bndE t lo 0 fun l=>bndE t hi len fun u=>
    bif decide (0<=l/\l<=u/\u<=(len:Int)) then (bif isFam P ty then foN s (fun s=>K (.slice (.fa n off (l.toNat*s)) (u - l).toNat (len - l.toNat)) h) else foN (off+l.toNat*s) (fun m=>K (.slice (.own n m) (u - l).toNat (len - l.toNat)) h)) else False
   | none=>False
  | _,_=>False
 | _=>False
def opE (P:Program) (call:CallT) (lock:Nat) (op:Op) (t:Slots) (h:VH) (K:VV->VH->Prop) (Kp:VV->VH->Prop):Prop:=
 tellO P lock op t h fun t h=>opE0 P call lock op t h K Kp
def guardE (ops:Array Oper) (o:Oper) (t:Slots) (k:Slots->Bool->Prop):Prop:=
 match o.guard with
 | none=>k t true
 | some (j,want)=>
  match (ops[j]?).bind (·.dst) with
  | some d=>
   match look t d with
   | .bool b=>bif b then k ((d,.bool true)::t) want else k ((d,.bool false)::t) (!want)
   | .tup _=>k t false
   | _=>False
  | none=>False
def opsE (P:Program) (call:CallT) (n lock:Nat) (ops:Array Oper):List Oper->Slots->VH->(VEx->Slots->VH->Prop)->Prop
 | [],t,h,K=>K .normal t h
 | o::rest,t,h,K=>guardE ops o t fun t w=>
   bif w then opE P call lock o.op t h (fun v h=>putT n t o.dst v fun t=>opsE P call n lock ops rest t h K) (fun v h=>K (.panic v) t h)
   else putT n t o.dst udf fun t=>opsE P call n lock ops rest t h K
end Go.Sx
