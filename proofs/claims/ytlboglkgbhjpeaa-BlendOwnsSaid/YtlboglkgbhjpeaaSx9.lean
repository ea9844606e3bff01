/- A region that draws its order: the evaluator runs it in the order of the text, and looks whether the order matters. -/
import Derived.Test.YtlboglkgbhjpeaaSx8
namespace Go.Sx
open Go
abbrev CK:=VEx->Slots->VH->Prop
def lookM:List (Nat × Nat)->Nat->Nat
 | [],_=>0
 | (m,v)::r,n=>bif Nat.beq m n then v else lookM r n
def mkOne (i:Nat) (ms:List (Nat × Nat)):List Edge->Option Nat
 | []=>some 0
 | e::r=>
  match mkOne i ms r with
  | some m=>bif Region.binds .any e then (bif Nat.blt e.on i then some (m ||| 2 ^ e.on ||| lookM ms e.on) else none) else some m
  | none=>none
def mkE:List Oper->Nat->List (Nat × Nat)->(List (Nat × Nat)->Prop)->Prop
 | [],_,ms,K=>K ms
 | o::r,i,ms,K=>
  match mkOne i ms o.after.toList with
  | some m=>foN m fun m=>foN (i+1) fun j=>mkE r j ((i,m)::ms) K
  | none=>False
def allLt (p:Nat->Bool):Nat->Bool
 | 0=>true
 | n+1=>p n && allLt p n
def isBar (ms:List (Nat × Nat)) (sz i:Nat):Bool:=
 allLt (fun j=>Nat.ble i j || (lookM ms i).testBit j) sz && allLt (fun j=>Nat.ble j i || (lookM ms j).testBit i) sz
structure RC where
 i:Nat
 lk:List Nat
 dst:Option Nat
 fp:List Nat
 wr:List Nat
def notIn (l:List Nat):List Nat->Bool
 | []=>true
 | n::r=>!memN l n && notIn l r
def apartB (r s:RC):Bool:=
 (match r.dst with
  | some d=>!memN s.lk d && (match s.dst with | some d'=>!Nat.beq d d' | none=>true)
  | none=>true) &&
 (match s.dst with
  | some d=>!memN r.lk d
  | none=>true) &&
 notIn s.fp r.wr && notIn r.fp s.wr && notIn s.wr r.wr
def chk1 (ms:List (Nat × Nat)) (r:RC):List RC->Bool
 | []=>true
 | s::l=>((lookM ms r.i).testBit s.i || apartB r s) && chk1 ms r l
def chkAll (ms:List (Nat × Nat)):List RC->Bool
 | []=>true
 | r::l=>chk1 ms r l && chkAll ms l
def preE:List Oper->Slots->VH->List Nat->(List Nat->Prop)->Prop
 | [],_,_,acc,K=>K acc
 | o::r,t,h,acc,K=>
  let put (v:VV):Prop:=(match o.dst with | some d=>preE r ((d,v)::t) h acc K | none=>preE r t h acc K)
  match o.op with
  | .store _ x _=>(match evO t x with | .ptr (.own n _)=>preE r t h (n::acc) K | .ptr (.fa n _ _)=>preE r t h (n::acc) K | .ptr (.rw n _ _)=>preE r t h (n::acc) K | _=>preE r t h acc K)
  | .move x=>fo (evO t x) put
  | .assign x=>fo (evO t x) put
  | .nilCheck x=>fo (evO t x) put
  | .fieldAddr _ x _=>fo (evO t x) put
  | .indexAddr _ x _=>(match evO t x with | .slice a _ _=>put (.ptr a) | v=>fo v put)
  | .load _ x=>(match evO t x with
   | .ptr (.own n off)=>(match h.at n with | .cells cs _=>(match cs[off]? with | some v=>fo v put | none=>put .any) | _=>put .any)
   | .ptr (.rw n 0 o)=>(match h.at n with | .mat _ _ C _ _ _=>put (.slice (.rw n (o+1) 0) C C) | _=>put .any)
   | _=>put .any)
  | _=>put .any
def fpE (un:List Nat):Nat->List Nat->(List Nat->Prop)->Prop
 | 0,acc,K=>K acc
 | n+1,acc,K=>bif memN un n then fpE un n acc K else fpE un n (n::acc) K
inductive Cls where
 | quiet
 | wr (n:Nat)
 | wrc (n:Nat)
 | wrq (n:Nat)
 | wv (n:Nat)
 | new
def mapOf (h:VH) (n:Nat):Option Nat:=
 match h.at n with
 | .fam (.mp m::_) _ _ _=>some m
 | .cells (.mp m::_) _=>some m
 | _=>none
def clsE (h:VH) (nx0 lock:Nat) (un:List Nat) (op:Op) (t:Slots) (K:Cls->List Nat->Prop):Prop:=
 match op with
 | .load _ x=>(match evO t x with | .ptr (.own n _)=>K .quiet [n] | .ptr (.el n _ _ _)=>K .quiet [n] | .ptr (.ve n _ _ _ _)=>K .quiet [n] | .ptr (.fa n _ _)=>K .quiet [n] | .tp _=>K .quiet [] | .ptr (.rw n _ _)=>K .quiet [n] | _=>False)
 | .store _ x _=>(match evO t x with | .ptr (.own n _)=>bif Nat.ble lock n then K (.wr n) [n] else False | .ptr (.fa n _ _)=>bif Nat.ble lock n then K (.wr n) [n] else False | .ptr (.rw n _ _)=>bif Nat.ble lock n then K (.wr n) [n] else False | _=>False)
 | .lookup _ x _ _=>(match evO t x with | .mp n=>K .quiet [n] | _=>False)
 | .mapUpdate _ x _ _=>(match evO t x with | .mp n=>bif Nat.ble lock n then K (.wr n) [n] else False | _=>False)
 | .insert _ x _ _=>(match evO t x with | .mp n=>bif Nat.ble lock n then K (.wr n) [n] else False | _=>False)
 | .makeMap _ _=>K .new []
 | .alloc _=>K .new []
 | .box _ _=>K .new []
 | .buildSlice _ _ _=>K .new []
 | .indexAddr _ x _=>(match evO t x with | .slice (.el n _ _ _) _ _=>K .quiet [n] | .sl n _=>K .quiet [n] | .sub n _ _ _ _=>K .quiet [n] | _=>K .quiet [])
 | .slice _ x _ _ _=>(match evO t x with | .slice (.el n _ _ _) _ _=>K .quiet [n] | .sl n _=>K .quiet [n] | _=>K .quiet [])
 | .call c=>(match c.callee with
  | .builtin .append=>(match c.args.toList.map (evO t) with
   | [a,x]=>(match dstN a with
    | some n=>bif Nat.ble lock n then (match x with
     | .sl m _=>K (.wv n) [n,m]
     | .sub m _ _ _ _=>K (.wv n) [n,m]
     | .slice (.own m _) _ _=>(match h.at m with
      | .cells cs _=>bif belL 0 cs then K (.wv n) [n,m] else False
      | _=>False)
     | .slice (.el m _ _ _) _ _=>K (.wv n) [n,m]
     | _=>K (.wv n) [n]) else False
    | none=>K .quiet [])
   | _=>K .quiet [])
  | .builtin .len=>(match c.args.toList.map (evO t) with
   | [.mp n]=>K .quiet [n]
   | _=>K .quiet [])
  | .builtin _=>K .quiet []
  | .value f=>(match evO t f with
   | .func _ _ (.ptr (.own m _)::_)=>bif Nat.ble lock m then (fpE un m [] fun l=>K (.wrc m) (m::l)) else (fpE un nx0 [] fun l=>K .quiet l)
   | _=>(match c.args.toList.map (evO t) with
    | .ptr (.own n _)::_=>(match mapOf h n with
     | some m=>bif Nat.ble lock m then (fpE un nx0 [] fun l=>bif memN l m then K (.wrq m) l else False) else (fpE un nx0 [] fun l=>K .quiet l)
     | none=>fpE un nx0 [] fun l=>K .quiet l)
    | [.sl m _,.agg _]=>bif Nat.ble lock m then (fpE un nx0 [] fun l=>bif memN l m then K (.wrq m) l else False) else (fpE un nx0 [] fun l=>K .quiet l)
    | _=>fpE un nx0 [] fun l=>K .quiet l))
  | _=>fpE un nx0 [] fun l=>K .quiet l)
 | .defer _=>False
 | .panic _=>False
 | _=>K .quiet []
def appTo (op:Op) (t:Slots):Option Nat:=match op with
 | .call c=>(match c.callee with
  | .builtin .append=>(match c.args.toList.map (evO t) with
   | [a,_]=>dstN a
   | _=>none)
  | _=>none)
 | _=>none
def VB.nf:VB->Bool
 | .free=>false
 | _=>true
def okFp (h:VH):List Nat->Bool
 | []=>true
 | n::r=>Nat.blt n h.nx && (h.at n).nf && (h.at n).bel h.nx && okFp h r
def lkL (t:Slots):List Operand->Slots
 | []=>[]
 | .tmp d::r=>(d,look t d)::lkL t r
 | _::r=>lkL t r
def tailE (h1:VH):Nat->Nat->List (Nat × VB)->(List (Nat × VB)->Prop)->Prop
 | 0,_,acc,K=>K acc
 | k+1,n,acc,K=>match h1.at n with
  | .cells cs ty=>tailE h1 k (n+1) ((n,.cells cs ty)::acc) K
  | .vec L g s ty=>tailE h1 k (n+1) ((n,.vec L g s ty)::acc) K
  | .gone=>tailE h1 k (n+1) ((n,.gone)::acc) K
  | .fam pre L g ty=>tailE h1 k (n+1) ((n,.fam pre L g ty)::acc) K
  | .map ks vk es=>tailE h1 k (n+1) ((n,.map ks vk es)::acc) K
  | _=>False
def belBl (k:Nat):List (Nat × VB)->Bool
 | []=>true
 | (_,b)::r=>b.bel k && belBl k r
def namesL:List (Nat × VB)->List Nat
 | []=>[]
 | (n,_)::r=>n::namesL r
def keepP (h h1:VH) (m:Nat):List Nat->Prop
 | []=>True
 | n::r=>bif Nat.beq n m then keepP h h1 m r else (h1.at n=h.at n/\keepP h h1 m r)
def mrgE (cl:Cls) (fp:List Nat) (v:VV) (h h1:VH) (K:VH->List Nat->List Nat->Prop):Prop:=
 match cl with
 | .quiet=>bif v.bel h.nx then K h [] [] else (match h,h1 with
  | ⟨nx,bs⟩,⟨nx1,bs1⟩=>foN (nx1 - nx) fun k=>foN nx fun nx=>tailE ⟨nx1,bs1⟩ k nx [] fun l=>bif (belBl (nx+k) l && v.bel (nx+k)) then foN (nx+k) (fun n2=>K ⟨n2,l ++ bs⟩ (namesL l) (List.range' nx k)) else False)
 | .wr n=>(match h1.at n,h.at n with
  | .cells cs ty,.cells _ _=>bif (belL h.nx cs && v.bel h.nx) then (match h with | ⟨nx,bs⟩=>K ⟨nx,(n,.cells cs ty)::bs⟩ [n] []) else False
  | .fam cs L g ty,.fam _ _ _ _=>bif (belL h.nx cs && v.bel h.nx) then (match h with | ⟨nx,bs⟩=>K ⟨nx,(n,.fam cs L g ty)::bs⟩ [n] []) else False
  | .map ks vk es,.map _ _ _=>bif v.bel h.nx then (match h with | ⟨nx,bs⟩=>K ⟨nx,(n,.map ks vk es)::bs⟩ [n] []) else False
  | .mat Kr r C g t te,.mat _ _ _ _ _ _=>bif v.bel h.nx then (match h with | ⟨nx,bs⟩=>K ⟨nx,(n,.mat Kr r C g t te)::bs⟩ [n] []) else False
  | _,_=>False)
 | .wrq n=>(match h1.at n,h.at n with
  | .map ks vk es,.map _ _ _=>keepP h h1 n fp/\bif v.bel h.nx then (match h with | ⟨nx,bs⟩=>K ⟨nx,(n,.map ks vk es)::bs⟩ [n] []) else False
  | .vec L g s ty,.vec _ _ _ _=>keepP h h1 n fp/\bif v.bel h.nx then (match h with | ⟨nx,bs⟩=>K ⟨nx,(n,.vec L g s ty)::bs⟩ [n] []) else False
  | _,_=>False)
 | .wrc n=>(match h1.at n,h.at n with
  | .cells cs ty,.cells _ _=>bif (belL h.nx cs && v.bel h.nx) then (match h with | ⟨nx,bs⟩=>K ⟨nx,(n,.cells cs ty)::bs⟩ [n] []) else False
  | _,_=>False)
 | .wv n=>(match h1.at n,h.at n with
  | .vec L g s ty,.vec _ _ _ _=>bif v.bel h.nx then (match h with | ⟨nx,bs⟩=>K ⟨nx,(n,.vec L g s ty)::bs⟩ [n] []) else False
  | .gone,.vec _ _ _ _=>bif v.bel h.nx then (match h with | ⟨nx,bs⟩=>K ⟨nx,(n,.gone)::bs⟩ [n] []) else False
  | _,_=>False)
 | .new=>(match h1.at h.nx with
  | .cells cs ty=>bif (belL (h.nx+1) cs && v.bel (h.nx+1)) then (match h with | ⟨nx,bs⟩=>foN nx fun nx=>K ⟨nx+1,(nx,.cells cs ty)::bs⟩ [nx] [nx]) else False
  | .vec L g s ty=>bif v.bel (h.nx+1) then (match h with | ⟨nx,bs⟩=>foN nx fun nx=>K ⟨nx+1,(nx,.vec L g s ty)::bs⟩ [nx] [nx]) else False
  | .fam cs L g ty=>bif (belL (h.nx+1) cs && v.bel (h.nx+1)) then (match h with | ⟨nx,bs⟩=>foN nx fun nx=>K ⟨nx+1,(nx,.fam cs L g ty)::bs⟩ [nx] [nx]) else False
  | .map ks vk es=>bif v.bel (h.nx+1) then (match h with | ⟨nx,bs⟩=>foN nx fun nx=>K ⟨nx+1,(nx,.map ks vk es)::bs⟩ [nx] [nx]) else False
  | _=>False)
def gE (ops:Array Oper) (o:Oper) (t:Slots) (k:Slots->Bool->Slots->Prop):Prop:=
 match o.guard with
 | none=>k t true []
 | some (j,want)=>
  match (ops[j]?).bind (·.dst) with
  | some d=>
   match look t d with
   | .bool b=>bif b then k ((d,.bool true)::t) want [(d,.bool true)] else k ((d,.bool false)::t) (!want) [(d,.bool false)]
   | .tup l=>k t false [(d,.tup l)]
   | _=>False
  | none=>False
def fstL:Slots->List Nat
 | []=>[]
 | (d,_)::r=>d::fstL r
def lockOf (h:VH):Cls->Nat
 | .wr _=>0
 | .wv _=>0
 | .wrq _=>0
 | .wrc m=>m
 | _=>h.nx
def memOp (d:Nat):List Operand->Bool
 | []=>false
 | .tmp d'::r=>Nat.beq d' d || memOp d r
 | _::r=>memOp d r
def defB (d:Nat):List Oper->Bool
 | []=>false
 | o::r=>(match o.dst with
  | some d'=>bif Nat.beq d' d then (match o.op with
   | .buildSlice _ _ _=>true
   | _=>false) else defB d r
  | none=>defB d r)
def useB (P:Program) (d:Nat):List Oper->Bool
 | []=>false
 | o::r=>(match o.op with
  | .buildSlice ty _ parts=>bif isSlc P ty then memOp d (parts.toList.map (·.2)) || useB P d r else useB P d r
  | .store ty _ (.tmp d')=>bif isSlc P ty then Nat.beq d' d || useB P d r else useB P d r
  | _=>useB P d r)
def tellP (P:Program) (ops:Array Oper) (o:Oper):Bool:=
 match o.dst,o.op with
 | some d,.call c=>(match c.callee with
  | .builtin .append=>(match c.args.toList with
   | [.tmp d0,_]=>defB d0 ops.toList && useB P d ops.toList
   | _=>false)
  | _=>false)
 | _,_=>false
def mrgT (fl:Bool) (cl:Cls) (v:VV) (h1:VH) (K:VV->VH->Prop):Prop:=
 match cl with
 | .wv n=>bif fl then (match v,h1 with
  | .sl m L,⟨nx1,bs1⟩=>bif Nat.beq m n then (match (VH.mk nx1 bs1).at n with
   | .vec L' g s _=>bif (Nat.beq L' L && Nat.ble 1 s) then K (.tl L s g) ⟨nx1,(n,.gone)::bs1⟩ else False
   | _=>False) else False
  | _,_=>False) else K v h1
 | _=>K v h1
def regE (P:Program) (call:CallT) (n lock nx0:Nat) (un:List Nat) (ops:Array Oper) (ms:List (Nat × Nat)) (sz:Nat):List Oper->Nat->Slots->VH->List RC->CK->Prop
 | [],_,t,h,rc,K=>bif chkAll ms rc then K .normal t h else False
 | o::rest,i,t,h,rc,K=>
  bif isBar ms sz i then
   bif chkAll ms rc then
    guardE ops o t fun t w=>
     bif w then opE P call lock o.op t h (fun v h=>putT n t o.dst v fun t=>foN (i+1) fun j=>regE P call n lock nx0 un ops ms sz rest j t h [] K) (fun v h=>K (.panic v) t h)
     else putT n t o.dst udf fun t=>foN (i+1) fun j=>regE P call n lock nx0 un ops ms sz rest j t h [] K
   else False
  else gE ops o t fun t w gl=>
   bif w then
    clsE h nx0 lock un o.op (lkL t o.op.operands.toList) fun cl fp=>
     bif (okFp h fp && belS h.nx (lkL t o.op.operands.toList)) then
      opE P call (lockOf h cl) o.op (lkL t o.op.operands.toList) (maskH fp h) (fun v h1=>mrgT (tellP P ops o) cl v h1 fun v h1=>
       mrgE cl fp v h h1 fun h' wr pre=>putT n t o.dst v fun t'=>foN (i+1) fun j=>
        regE P call n lock nx0 un ops ms sz rest j t' h' (⟨i,fstL (gl ++ lkL t o.op.operands.toList),o.dst,pre ++ fp,wr⟩::rc) K) (fun _ _=>False)
     else False
   else putT n t o.dst udf fun t=>foN (i+1) fun j=>regE P call n lock nx0 un ops ms sz rest j t h (⟨i,fstL gl,o.dst,[],[]⟩::rc) K
def drawE (P:Program) (call:CallT) (n lock:Nat) (ops:Array Oper) (t:Slots) (h:VH) (K:CK):Prop:=
 mkE ops.toList 0 [] fun ms=>preE ops.toList t h [] fun un=>foN h.nx fun nx0=>foN ops.size fun sz=>regE P call n lock nx0 un ops ms sz ops.toList 0 t h [] K
theorem preE_some:∀ (l:List Oper) (t:Slots) (h:VH) (acc:List Nat) (K:List Nat->Prop),preE l t h acc K->∃ un,K un:=by
 intro l
 induction l with
 | nil=>intro t h acc K hK; exact ⟨acc,hK⟩
 | cons o r ih=>
  intro t h acc K hK
  have hput:∀ v,(match o.dst with | some d=>preE r ((d,v)::t) h acc K | none=>preE r t h acc K)->∃ un,K un:=by
   intro v hv
   split at hv
   ·exact ih _ _ _ _ hv
   ·exact ih _ _ _ _ hv
  simp only [preE,fo_eq] at hK
  split at hK
  ·split at hK
   ·exact ih _ _ _ _ hK
   ·exact ih _ _ _ _ hK
   ·exact ih _ _ _ _ hK
   ·exact ih _ _ _ _ hK
  ·exact hput _ hK
  ·exact hput _ hK
  ·exact hput _ hK
  ·exact hput _ hK
  ·split at hK
   ·exact hput _ hK
   ·exact hput _ hK
  ·split at hK
   ·split at hK
    ·split at hK
     ·exact hput _ hK
     ·exact hput _ hK
    ·exact hput _ hK
   ·split at hK
    ·exact hput _ hK
    ·exact hput _ hK
   ·exact hput _ hK
  ·exact hput _ hK
theorem fpE_some (un:List Nat):∀ (n:Nat) (acc:List Nat) (K:List Nat->Prop),fpE un n acc K->∃ l,K l
 | 0,acc,K,h=>⟨acc,h⟩
 | n+1,acc,K,h=>by
  simp only [fpE] at h
  cases hm:memN un n with
  | true=>rw [hm] at h; exact fpE_some un n _ K h
  | false=>rw [hm] at h; exact fpE_some un n _ K h
theorem fpE_lt (un:List Nat) (N:Nat):∀ (n:Nat) (acc:List Nat) (K:List Nat->Prop),fpE un n acc K->n<=N->(∀ q ∈ acc,q<N)->∃ l,K l/\∀ q ∈ l,q<N
 | 0,acc,K,h,_,ha=>⟨acc,h,ha⟩
 | n+1,acc,K,h,hn,ha=>by
  simp only [fpE] at h
  cases hm:memN un n with
  | true=>rw [hm] at h; exact fpE_lt un N n _ K h (by omega) ha
  | false=>
   rw [hm] at h
   exact fpE_lt un N n _ K h (by omega) (fun q hq=>by
    rcases List.mem_cons.1 hq with rfl | hq
    ·omega
    ·exact ha q hq)
def MaskOK (ops:Array Oper) (ms:List (Nat × Nat)):Prop:=∀ j i,(lookM ms j).testBit i=true->Reach ops j i
theorem mkOne_sound {ops:Array Oper} {i:Nat} {o:Oper} {ms:List (Nat × Nat)} (ho:ops[i]? = some o) (hm:MaskOK ops ms):∀ (es:List Edge) (m:Nat),(∀ e ∈ es,e ∈ o.after)->mkOne i ms es=some m ->
  (∀ j,m.testBit j=true->Reach ops i j)/\(∀ e ∈ es,Region.binds .any e=true->e.on<i)
 | [],m,_,h=>by simp [mkOne] at h; subst h; simp
 | e::es,m,hsub,h=>by
  simp only [mkOne] at h
  split at h
  ·rename_i m0 h0
   obtain ⟨ih1,ih2⟩:=mkOne_sound ho hm es m0 (fun x hx=>hsub x (by simp [hx])) h0
   cases hb:Region.binds .any e with
   | false=>
    rw [hb] at h
    simp at h
    subst h
    refine ⟨ih1,fun x hx hbx=>?_⟩
    rcases List.mem_cons.1 hx with rfl | hx
    ·rw [hb] at hbx; cases hbx
    ·exact ih2 x hx hbx
   | true=>
    rw [hb] at h
    simp only [cond_true] at h
    cases hl:Nat.blt e.on i with
    | false=>rw [hl] at h; cases h
    | true=>
     rw [hl] at h
     simp at h
     subst h
     refine ⟨fun j hj=>?_,fun x hx hbx=>?_⟩
     ·simp only [Nat.testBit_or,Bool.or_eq_true,Nat.testBit_two_pow,decide_eq_true_eq] at hj
      rcases hj with (hj | hj) | hj
      ·exact ih1 j hj
      ·subst hj; exact .one ho (hsub e (by simp)) hb
      ·exact .more ho (hsub e (by simp)) hb (hm e.on j hj)
     ·rcases List.mem_cons.1 hx with rfl | hx
      ·exact ltb hl
      ·exact ih2 x hx hbx
  ·cases h
theorem mkE_sound {ops:Array Oper}:∀ (l:List Oper) (i:Nat) (ms:List (Nat × Nat)) (K:List (Nat × Nat)->Prop),mkE l i ms K->(∀ q,l[q]? = ops[i+q]?)->MaskOK ops ms ->
  ∃ ms',K ms'/\MaskOK ops ms'/\∀ j o,i<=j->ops[j]? = some o->∀ e ∈ o.after,Region.binds .any e=true->e.on<j
 | [],i,ms,K,h,hl,hm=>⟨ms,h,hm,fun j o hj ho=>by
   have:=hl (j - i)
   rw [show i+(j - i)=j by omega,ho] at this
   simp at this⟩
 | o::l,i,ms,K,h,hl,hm=>by
  simp only [mkE] at h
  split at h
  ·rename_i m h1
   simp only [foN_eq] at h
   have ho:ops[i]? = some o:=by have:=hl 0; simpa using this.symm
   obtain ⟨a1,a2⟩:=mkOne_sound ho hm o.after.toList m (fun e he=>by simpa using he) h1
   obtain ⟨ms',b1,b2,b3⟩:=mkE_sound l (i+1) _ K h (fun q=>by have:=hl (q+1); simpa [Nat.add_assoc,Nat.add_comm 1 q] using this) (fun j q hq=>by
    simp only [lookM] at hq
    by_cases hij:i=j
    ·subst hij; rw [beq_t rfl] at hq; exact a1 q hq
    ·rw [beq_f hij] at hq; exact hm j q hq)
   refine ⟨ms',b1,b2,fun j oj hj hoj=>?_⟩
   by_cases hij:i=j
   ·subst hij
    rw [ho] at hoj; cases hoj
    intro e he
    exact a2 e (by simpa using he)
   ·exact b3 j oj (by omega) hoj
  ·exact h.elim
theorem allLt_spec {p:Nat->Bool}:∀ {n:Nat},allLt p n=true->∀ j,j<n->p j=true
 | 0,_,j,hj=>by omega
 | n+1,h,j,hj=>by
  simp only [allLt,Bool.and_eq_true] at h
  by_cases hjn:j=n
  ·subst hjn; exact h.1
  ·exact allLt_spec h.2 j (by omega)
theorem isBar_spec {ops:Array Oper} {ms:List (Nat × Nat)} (hm:MaskOK ops ms) {sz i:Nat} (h:isBar ms sz i=true):(∀ j,j<sz->j<i->Reach ops i j)/\(∀ j,j<sz->i<j->Reach ops j i):=by
 simp only [isBar,Bool.and_eq_true] at h
 refine ⟨fun j h1 h2=>?_,fun j h1 h2=>?_⟩
 ·have:=allLt_spec h.1 j h1
  simp only [Bool.or_eq_true] at this
  rcases this with h3 | h3
  ·have:=Nat.le_of_ble_eq_true h3; omega
  ·exact hm i j h3
 ·have:=allLt_spec h.2 j h1
  simp only [Bool.or_eq_true] at this
  rcases this with h3 | h3
  ·have:=Nat.le_of_ble_eq_true h3; omega
  ·exact hm j i h3
theorem notIn_spec {l:List Nat}:∀ {r:List Nat},notIn l r=true->∀ n ∈ r,n ∉ l
 | [],_,n,hn=>by cases hn
 | m::r,h,n,hn=>by
  simp only [notIn,Bool.and_eq_true,Bool.not_eq_true'] at h
  rcases List.mem_cons.1 hn with rfl | hn
  ·intro hl; rw [memN_iff.2 hl] at h; cases h.1
  ·exact notIn_spec h.2 n hn
def rcOf (p:Nat × Rec):RC:=⟨p.1,fstL p.2.looks,p.2.o.dst,p.2.pre.map (·.1),p.2.post.map (·.1)⟩
theorem fstL_mem {l:Slots} {p:Nat × VV} (h:p ∈ l):p.1 ∈ fstL l:=by
 induction l with
 | nil=>cases h
 | cons q l ih=>
  obtain ⟨d,v⟩:=q
  rcases List.mem_cons.1 h with rfl | h
  ·simp [fstL]
  ·simp [fstL,ih h]
theorem apartB_spec {p q:Nat × Rec} (h:apartB (rcOf p) (rcOf q)=true):Indep p.2 q.2:=by
 simp only [apartB,rcOf,Bool.and_eq_true] at h
 obtain ⟨⟨⟨⟨h1,h2⟩,h3⟩,h4⟩,h5⟩:=h
 refine ⟨fun d hd=>?_,fun d hd=>?_,fun x hx y hy e=>?_,fun x hx y hy e=>?_,fun x hx y hy e=>?_⟩
 ·rw [hd] at h1
  simp only [Bool.and_eq_true,Bool.not_eq_true'] at h1
  refine ⟨fun x hx e=>?_,fun hs=>?_⟩
  ·have:=memN_iff.2 (fstL_mem hx)
   rw [e,h1.1] at this; cases this
  ·rw [hs] at h1
   have:=h1.2
   simp at this
 ·rw [hd] at h2
  simp only [Bool.not_eq_true'] at h2
  intro x hx e
  have:=memN_iff.2 (fstL_mem hx)
  rw [e,h2] at this; cases this
 ·exact notIn_spec h3 x.1 (List.mem_map.2 ⟨x,hx,rfl⟩) (List.mem_map.2 ⟨y,hy,e.symm⟩)
 ·exact notIn_spec h4 x.1 (List.mem_map.2 ⟨x,hx,rfl⟩) (List.mem_map.2 ⟨y,hy,e.symm⟩)
 ·exact notIn_spec h5 x.1 (List.mem_map.2 ⟨x,hx,rfl⟩) (List.mem_map.2 ⟨y,hy,e.symm⟩)
theorem chk1_spec {ops:Array Oper} {ms:List (Nat × Nat)} (hm:MaskOK ops ms) {q:Nat × Rec}:∀ {L:List (Nat × Rec)},chk1 ms (rcOf q) (L.map rcOf)=true->∀ p ∈ L,Reach ops q.1 p.1 ∨ Indep q.2 p.2
 | [],_,p,hp=>by cases hp
 | x::L,h,p,hp=>by
  simp only [List.map_cons,chk1,Bool.and_eq_true,Bool.or_eq_true] at h
  rcases List.mem_cons.1 hp with rfl | hp
  ·rcases h.1 with h1 | h1
   ·exact .inl (hm _ _ h1)
   ·exact .inr (apartB_spec h1)
  ·exact chk1_spec hm h.2 p hp
theorem chkAll_spec {ops:Array Oper} {ms:List (Nat × Nat)} (hm:MaskOK ops ms):∀ {L:List (Nat × Rec)},L.Pairwise (fun p q=>q.1<p.1)->chkAll ms (L.map rcOf)=true->∀ p ∈ L,∀ q ∈ L,p.1<q.1->Reach ops q.1 p.1 ∨ Indep q.2 p.2
 | [],_,_,p,hp=>by cases hp
 | x::L,hs,h,p,hp=>by
  simp only [List.map_cons,chkAll,Bool.and_eq_true] at h
  intro q hq hlt
  obtain ⟨hs1,hs2⟩:=List.pairwise_cons.1 hs
  rcases List.mem_cons.1 hp with hp2 | hp2 <;> rcases List.mem_cons.1 hq with hq2 | hq2
  ·rw [hp2,hq2] at hlt; omega
  ·have:=hs1 q hq2; rw [hp2] at hlt; omega
  ·rw [hq2]; exact chk1_spec hm h.1 p hp2
  ·exact chkAll_spec hm hs2 h.2 p hp2 q hq2 hlt
theorem okFp_spec {h:VH}:∀ {l:List Nat},okFp h l=true->∀ n ∈ l,n<h.nx/\h.at n ≠ .free/\(h.at n).bel h.nx=true
 | [],_,n,hn=>by cases hn
 | m::r,ho,n,hn=>by
  simp only [okFp,Bool.and_eq_true] at ho
  obtain ⟨⟨⟨h1,h2⟩,h3⟩,h4⟩:=ho
  rcases List.mem_cons.1 hn with rfl | hn
  ·exact ⟨ltb h1,fun e=>(by rw [e] at h2; cases h2),h3⟩
  ·exact okFp_spec h4 n hn
theorem lkL_mem {t:Slots}:∀ {l:List Operand} {p:Nat × VV},p ∈ lkL t l->p.2=look t p.1
 | [],p,h=>by cases h
 | .tmp d::r,p,h=>by
  simp only [lkL] at h
  rcases List.mem_cons.1 h with rfl | h
  ·rfl
  ·exact lkL_mem h
 | .const _::r,p,h=>lkL_mem (l:=r) h
 | .global _::r,p,h=>lkL_mem (l:=r) h
 | .func _::r,p,h=>lkL_mem (l:=r) h
theorem belS_spec {k:Nat}:∀ {l:Slots},belS k l=true->∀ p ∈ l,p.2.bel k=true
 | [],_,p,hp=>by cases hp
 | (d,v)::r,h,p,hp=>by
  simp only [belS,Bool.and_eq_true] at h
  rcases List.mem_cons.1 hp with rfl | hp
  ·exact h.1
  ·exact belS_spec h.2 p hp
theorem look_mem {t:Slots} {d:Nat}:look t d=.any ∨ (d,look t d) ∈ t:=by
 induction t with
 | nil=>exact .inl rfl
 | cons p t ih=>
  obtain ⟨m,v⟩:=p
  rw [look_cons]
  by_cases h:m=d
  ·subst h; right; simp
  ·rw [if_neg h]
   rcases ih with h1 | h1
   ·exact .inl h1
   ·exact .inr (by simp [h1])
def ExRel (R:Rn):VEx->Exit->Prop
 | .normal,e=>e=.normal
 | .exit id,e=>e=.exit id
 | .goto l,e=>e=.goto l
 | .ret,e=>e=.ret
 | .panic v,e=>∃ x,VRel R v x/\e=.panic [{ v:=x,recovered:=false }]
def mkD (r:Nat):Deferred:={ target:=.collected r,args:=#[] }
structure Marks (rs:List Nat) (R:Rn) (η:Nat->VB) (w:World):Prop where
 nodup:rs.Nodup
 blk:∀ r ∈ rs,w.heap[r]? = some (.deferred (some []))/\∀ n,¬ R.ow n (η n) r
theorem Marks.nil {R:Rn} {η:Nat->VB} {w:World}:Marks [] R η w:=⟨List.nodup_nil,fun r hr=>by cases hr⟩
theorem Marks.next {rs:List Nat} {R R':Rn} {η η':Nat->VB} {w w':World} (h:Marks rs R η w) (hn:Nxt η R w η' R' w'):Marks rs R' η' w':=by
 refine ⟨h.nodup,fun r hr=>?_⟩
 obtain ⟨h1,h2⟩:=h.blk r hr
 have hlt:r<w.heap.size:=(Array.getElem?_eq_some_iff.1 h1).1
 refine ⟨by rw [hn.frame r hlt h2]; exact h1,fun n hb=>?_⟩
 rcases hn.own n r hb with ⟨m,h3⟩ | h3
 ·exact h2 m h3
 ·omega
theorem Marks.join {rs rs':List Nat} {R:Rn} {η:Nat->VB} {w:World} (h:Marks rs R η w) (h':Marks rs' R η w) (hd:∀ r ∈ rs,r ∉ rs'):Marks (rs ++ rs') R η w:=
 ⟨List.nodup_append.2 ⟨h.nodup,h'.nodup,fun a ha _ hb e=>hd a ha (e ▸ hb)⟩,fun r hr=>(List.mem_append.1 hr).elim (h.blk r) (h'.blk r)⟩
def PostC (pl:Bool) (B:Nat) (ds:List Deferred) (n:Nat) (R:Rn) (η:Nat->VB) (w:World) (e:VEx) (t':Slots) (h':VH):Exit->Act->World->Prop:=fun ex a' w'=>
 ∃ R' rs,Nxt η R w h'.at R' w'/\Emb B R' h'.at w'/\TRel R' t' a'/\a'.tmps.size=n/\a'.defers=rs.map mkD ++ ds/\Marks rs R' h'.at w'/\(∀ r ∈ rs,w.heap.size<=r)/\(pl=false->rs=[])/\ExRel R' e ex
theorem post0 {pl:Bool} {B:Nat} {ds:List Deferred} {n:Nat} {R R':Rn} {η:Nat->VB} {w w':World} {e:VEx} {t':Slots} {h':VH} {ex:Exit} {a':Act} (h1:Nxt η R w h'.at R' w') (h2:Emb B R' h'.at w') (h3:TRel R' t' a') (h4:a'.tmps.size=n) (h5:a'.defers=ds) (h6:ExRel R' e ex) :
  PostC pl B ds n R η w e t' h' ex a' w':=⟨R',[],h1,h2,h3,h4,by simpa using h5,.nil,(fun r hr=>by cases hr),fun _=>rfl,h6⟩
theorem PostC.of_next {pl:Bool} {B:Nat} {ds:List Deferred} {n:Nat} {R R1:Rn} {η η1:Nat->VB} {w w1:World} {e:VEx} {t':Slots} {h':VH} (hn:Nxt η R w η1 R1 w1) {ex:Exit} {a':Act} {w':World} (h:PostC pl B ds n R1 η1 w1 e t' h' ex a' w') :
  PostC pl B ds n R η w e t' h' ex a' w':=by
 obtain ⟨R',rs,h1,h2,h3,h4,h5,h6,h7,hz,h8⟩:=h
 exact ⟨R',rs,hn.trans h1,h2,h3,h4,h5,h6,fun r hr=>Nat.le_trans hn.size (h7 r hr),hz,h8⟩
theorem PostC.join {pl:Bool} {B:Nat} {ds:List Deferred} {n:Nat} {R R1:Rn} {η η1:Nat->VB} {w w1:World} {rs:List Nat} {e:VEx} {t':Slots} {h':VH} (hn:Nxt η R w η1 R1 w1) (hm:Marks rs R1 η1 w1) (hr:∀ r ∈ rs,w.heap.size<=r) (hrz:pl=false->rs=[]) {ex:Exit} {a':Act} {w':World}
  (h:PostC pl B (rs.map mkD ++ ds) n R1 η1 w1 e t' h' ex a' w'):PostC pl B ds n R η w e t' h' ex a' w':=by
 obtain ⟨R',rs',h1,h2,h3,h4,h5,h6,h7,hz,h8⟩:=h
 refine ⟨R',rs' ++ rs,hn.trans h1,h2,h3,h4,by rw [h5]; simp,h6.join (hm.next h1) (fun r hr1 hr2=>?_),fun r hr'=>?_,fun hp=>by rw [hz hp,hrz hp]; rfl,h8⟩
 ·have:=h7 r hr1
  have:=(Array.getElem?_eq_some_iff.1 (hm.blk r hr2).1).1
  omega
 ·rcases List.mem_append.1 hr' with h9 | h9
  ·exact Nat.le_trans hn.size (h7 r h9)
  ·exact hr r h9
theorem PostC.any {pl:Bool} {B:Nat} {ds:List Deferred} {n:Nat} {R:Rn} {η:Nat->VB} {w:World} {e:VEx} {t':Slots} {h':VH} {ex:Exit} {a':Act} {w':World} (h:PostC false B ds n R η w e t' h' ex a' w'):PostC pl B ds n R η w e t' h' ex a' w':=by
 obtain ⟨R',rs,h1,h2,h3,h4,h5,h6,h7,hz,h8⟩:=h
 exact ⟨R',rs,h1,h2,h3,h4,h5,h6,h7,fun _=>hz rfl,h8⟩
section
variable {P:Program} {ops:Array Oper}
theorem yield_bool {R:Rn} {a:Act} {j d:Nat} {b:Bool} (hd:(ops[j]?).bind (·.dst)=some d) (hv:VRel R (.bool b) (a.tmps.getD d undef)):yielded ops a.tmps j=some b:=by
 simp only [VRel] at hv
 unfold yielded
 rw [hd]
 rw [Array.getD_eq_getD_getElem?] at hv
 cases hx:a.tmps[d]? with
 | none=>rw [hx] at hv; simp [undef] at hv
 | some x=>rw [hx] at hv; simp at hv; subst hv; simp [hx]
theorem yield_tup {R:Rn} {a:Act} {j d:Nat} {l:List VV} (hd:(ops[j]?).bind (·.dst)=some d) (hv:VRel R (.tup l) (a.tmps.getD d undef)):yielded ops a.tmps j=none:=by
 obtain ⟨xs,_,hv⟩:=hv
 unfold yielded
 rw [hd]
 rw [Array.getD_eq_getD_getElem?] at hv
 cases hx:a.tmps[d]? with
 | none=>simp [hx]
 | some x=>rw [hx] at hv; simp at hv; subst hv; simp [hx]
theorem guardE_sound {o:Oper} {t:Slots} {k:Slots->Bool->Prop} (h:guardE ops o t k):∃ t' b,k t' b/\∀ (R:Rn) (a:Act),TRel R t a->TRel R t' a/\Region.wanted o (yielded ops a.tmps)=b:=by
 unfold guardE at h
 split at h
 ·rename_i hg
  exact ⟨t,true,h,fun R a ht=>⟨ht,by simp [Region.wanted,hg]⟩⟩
 ·rename_i j want hg
  split at h
  ·rename_i d hd
   split at h
   ·rename_i b hb
    cases b with
    | true=>
     refine ⟨_,_,h,fun R a ht=>⟨ht.same hb,?_⟩⟩
     have:=yield_bool (ops:=ops) hd (by rw [<- hb]; exact ht d)
     cases want <;> simp [Region.wanted,hg,this]
    | false=>
     refine ⟨_,_,h,fun R a ht=>⟨ht.same hb,?_⟩⟩
     have:=yield_bool (ops:=ops) hd (by rw [<- hb]; exact ht d)
     cases want <;> simp [Region.wanted,hg,this]
   ·rename_i l hl
    refine ⟨_,_,h,fun R a ht=>⟨ht,?_⟩⟩
    have:=yield_tup (ops:=ops) hd (by rw [<- hl]; exact ht d)
    simp [Region.wanted,hg,this]
   ·exact h.elim
  ·exact h.elim
theorem gE_sound {o:Oper} {t:Slots} {k:Slots->Bool->Slots->Prop} (h:gE ops o t k):∃ t' b gl,k t' b gl/\(∀ d,look t' d=look t d)/\(∀ p ∈ gl,p.2=look t' p.1) /\
  ∀ (R:Rn) (a:Act),(∀ p ∈ gl,VRel R p.2 (a.tmps.getD p.1 undef))->Region.wanted o (yielded ops a.tmps)=b:=by
 unfold gE at h
 have hsame:∀ (d:Nat) (b:Bool),look t d=.bool b->∀ d',look ((d,.bool b)::t) d'=look t d':=by
  intro d b hb d'
  rw [look_cons]
  by_cases e:d=d'
  ·subst e; rw [if_pos rfl,hb]
  ·rw [if_neg e]
 split at h
 ·rename_i hg
  exact ⟨t,true,[],h,fun _=>rfl,by simp,fun R a _=>by simp [Region.wanted,hg]⟩
 ·rename_i j want hg
  split at h
  ·rename_i d hd
   split at h
   ·rename_i b hb
    cases b with
    | true=>
     refine ⟨_,_,_,h,hsame d true hb,?_,fun R a hp=>?_⟩
     ·intro p hp; simp at hp; subst hp; rw [look_cons,if_pos rfl]
     ·have:=yield_bool (ops:=ops) (R:=R) hd (hp (d,.bool true) (by simp))
      cases want <;> simp [Region.wanted,hg,this]
    | false=>
     refine ⟨_,_,_,h,hsame d false hb,?_,fun R a hp=>?_⟩
     ·intro p hp; simp at hp; subst hp; rw [look_cons,if_pos rfl]
     ·have:=yield_bool (ops:=ops) (R:=R) hd (hp (d,.bool false) (by simp))
      cases want <;> simp [Region.wanted,hg,this]
   ·rename_i l hl
    refine ⟨_,_,_,h,fun _=>rfl,?_,fun R a hp=>?_⟩
    ·intro p hp; simp at hp; subst hp; exact hl.symm
    ·have:=yield_tup (ops:=ops) (R:=R) hd (hp (d,.tup l) (by simp))
     simp [Region.wanted,hg,this]
   ·exact h.elim
  ·exact h.elim
theorem putT_sound {n:Nat} {t:Slots} {d:Option Tmp} {v:VV} {K:Slots->Prop} (h:putT n t d v K):∃ t',K t'/\look t'=updT (look t) d v/\(∀ x,d=some x->x<n):=by
 unfold putT at h
 split at h
 ·rename_i d
  obtain ⟨h1,h2⟩:=cond_f h
  exact ⟨_,h2,(by funext m; rw [look_cons]; rfl),fun x hx=>by cases hx; exact ltb h1⟩
 ·exact ⟨t,h,rfl,fun x hx=>by cases hx⟩
theorem fact_skip {i:Nat} {o:Oper} (hoi:ops[i]? = some o) {gl:Slots} (hw:∀ (R:Rn) (a:Act),(∀ p ∈ gl,VRel R p.2 (a.tmps.getD p.1 undef))->Region.wanted o (yielded ops a.tmps)=false):FactR P ops i ⟨o,gl,[],[],udf⟩:=by
 intro F hF B R a w η he hl _ K Q hK
 unfold wpOpIn
 rw [hoi]
 simp only [hw R a hl]
 exact ⟨fun f _=>hF.fn f,hK undef R w (Nxt.refl _ _ _ he.fresh) he ⟨[],rfl,rfl⟩⟩
theorem fact_run {i:Nat} {o:Oper} (hoi:ops[i]? = some o) {gl tl:Slots} (hw:∀ (R:Rn) (a:Act),(∀ p ∈ gl,VRel R p.2 (a.tmps.getD p.1 undef))->Region.wanted o (yielded ops a.tmps)=true)
  {h h1:VH} {fp:List Nat} {po:List (Nat × VB)} {nw:Nat} {v:VV} (hfp:okFp h fp=true) (hbt:belS h.nx tl=true) (hop:OpV P o.op tl (maskH fp h) v h1)
  (hpo:∀ p ∈ po,(p.1 ∈ fp/\p.2=h1.at p.1/\(h.at p.1).mine) ∨ (h.nx<=p.1/\p.1<h.nx+nw/\p.2=h1.at p.1))
  (hpl:∀ p ∈ po,p.2.lay) (hpb:∀ p ∈ po,p.2.bel (h.nx+nw)=true)
  (hkeep:∀ n ∈ fp,(∀ p ∈ po,p.1 ≠ n)->h1.at n=h.at n) (hv:v.bel (h.nx+nw)=true) (hnew:∀ n,h.nx<=n->n<h.nx+nw->∃ p ∈ po,p.1=n) :
  FactR P ops i ⟨o,gl ++ tl,(List.range' h.nx nw).map (fun n=>(n,VB.free)) ++ fp.map (fun n=>(n,h.at n)),po,v⟩:=by
 intro F hF B R a w η he hl hpre K Q hK
 have hs:=okFp_spec hfp
 have hη:∀ n ∈ fp,η n=h.at n:=fun n hn=>hpre (n,h.at n) (List.mem_append.2 (.inr (List.mem_map.2 ⟨n,hn,rfl⟩)))
 have hem:=mask_emb (fun n hn=>(hs n hn).2.1) (fun n hn=>(hs n hn).2.2) he hη
 unfold wpOpIn
 rw [hoi]
 simp only [hw R a (fun p hp=>hl p (List.mem_append.2 (.inl hp))),if_true]
 have hag:Agree h.nx R (R.cut h.nx):=cut_agree R h.nx
 refine hop F hF o rfl B (R.cut h.nx) a w hem (fun d=>?_) K Q (fun x R0' w' n1 e1 hx=>?_)
 ·rcases look_mem (t:=tl) (d:=d) with hd | hd
  ·rw [hd]; trivial
  ·exact bel_V hag _ _ (belS_spec hbt _ hd) (hl (d,look tl d) (List.mem_append.2 (.inr hd)))
 ·obtain ⟨R',g1,g2,g3⟩:=mask_law (nw:=nw) (fun n hn=>(hs n hn).1) (fun n hn=>(hs n hn).2.1) hpo hpl hpb hkeep (fun n hn=>(hs n hn).2.2) hv he hη
   (fun n h1 h2=>hpre (n,.free) (List.mem_append.2 (.inl (List.mem_map.2 ⟨n,by rw [List.mem_range'_1]; omega,rfl⟩)))) hnew n1 e1 hx
  exact hK x R' w' g1 g2 g3
end
end Go.Sx
