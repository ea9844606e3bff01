/- The evaluator's operations are sound, fourth part. -/
import Derived.Test.YtlboglkgbhjpeaaSx5k
namespace Go.Sx
open Go
section
variable {P:Program}
theorem bif_cases {b:Bool} {X Y:Prop} (h:bif b then X else Y):(b=true/\X) ∨ (b=false/\Y):=by cases b <;> simp_all
theorem run_un {op:UnOp} {ty:TypeId} {x:Operand} {t:Slots} {h:VH} {K:VV->Prop} (hK:unE op (evO t x) K):∃ v,K v/\RunP P (.unOp op ty x) t h v:=by
 unfold unE at hK
 split at hK
 ·rename_i b hx
  refine ⟨_,hK,fun o hop B R a w e ht=>?_⟩
  have r:=evO_rel ht x
  rw [hx] at r
  simp only [VRel] at r
  refine ⟨.bool (!b),?_,rfl⟩
  unfold execOp
  rw [hop]
  simp [r,Op.unary]
 ·rename_i k n hx
  obtain ⟨h1,h2⟩:=cond_f hK
  refine ⟨_,h2,fun o hop B R a w e ht=>?_⟩
  have r:=evO_rel ht x
  rw [hx] at r
  simp only [VRel] at r
  refine ⟨.int k (k.wrap (0 - n)),?_,by rw [inK_wrap h1]; rfl⟩
  unfold execOp
  rw [hop]
  simp [r,Op.unary,Op.intArith]
 ·exact hK.elim
theorem run_conv {src dst:TypeId} {x:Operand} {t:Slots} {h:VH} {k0 k:IntKind} {n:Int} {d:TypeDesc} (hx:evO t x=.int k0 n) (hs:P.underlying src=some d) (hd:P.underlying dst=some (.int k)) (hn:inK k n=true):RunP P (.convert src dst x) t h (.int k n):=by
 intro o hop B R a w e ht
 have r:=evO_rel ht x
 rw [hx] at r
 simp only [VRel] at r
 refine ⟨.int k (k.wrap n),?_,by rw [inK_wrap hn]; rfl⟩
 unfold execOp
 rw [hop]
 simp [r,convert,run_und hs,run_und hd,Conv.intToInt]
theorem run_mkIf {ty:TypeId} {x:Operand} {t:Slots} {h:VH} {d:TypeDesc} (hd:P.underlying ty=some d) (hn:∀ m,d ≠ .interface m):RunP P (.makeInterface ty x) t h (.iface ty (evO t x)):=by
 intro o hop B R a w e ht
 refine ⟨.iface ty (a.eval x),?_,_,evO_rel ht x,rfl⟩
 unfold execOp
 rw [hop]
 have:(Instr.makeInterface ty (a.eval x)).run P w=.ok (.iface ty (a.eval x)) w:=by
  simp only [Instr.makeInterface,Sem.run_bind,run_und hd,Result.andThen_ok]
  cases d <;> first | rfl | exact (hn _ rfl).elim
 simp [this]
theorem run_mkFn {f:FuncId} {x y:Array Operand} {t:Slots} {h:VH}:RunP P (.makeFunc (.func f) x y) t h (.func f (x.toList.map (evO t)) (y.toList.map (evO t))):=by
 intro o hop B R a w e ht
 refine ⟨.func (.func f) (x.map a.eval) (y.map a.eval),?_,x.toList.map a.eval,y.toList.map a.eval,evL_rel ht _,evL_rel ht _,?_⟩
 ·unfold execOp
  rw [hop]
  rfl
 ·congr 1 <;> (apply Array.ext'; simp)
theorem run_nilc {x:Operand} {t:Slots} {h:VH} {v:VV} (hx:evO t x=v) (hv:(∃ p,v=.ptr p) ∨ (∃ f a b,v=.func f a b)):RunP P (.nilCheck x) t h v:=by
 intro o hop B R a w e ht
 have r:=evO_rel ht x
 rw [hx] at r
 refine ⟨a.eval x,?_,r⟩
 unfold execOp
 rw [hop]
 rcases hv with ⟨p,rfl⟩ | ⟨f,c,d,rfl⟩
 ·obtain ⟨q,_,hq⟩:=r
  simp [hq]
 ·obtain ⟨_,_,_,_,hq⟩:=r
  simp [hq]
theorem run_fieldAddr {s:TypeId} {x:Operand} {f:Nat} {t:Slots} {h:VH} {a:VA} {fs:Array Field} {fd:Field} {agg:Bool} {z:Nat} (hx:evO t x=.ptr a) (hu:P.underlying s=some (.struct fs)) (hf:fs.toList[f]? = some fd)
  (hz:tyI P fd.type=some (agg,z)) (h1:1<=z):RunP P (.fieldAddr s x f) t h (.ptr (a.add fd.offset)):=by
 intro o hop B R ac w e ht
 have r:=evO_rel ht x
 rw [hx] at r
 obtain ⟨p,hp,hq⟩:=r
 refine ⟨.pointer (some (p.add fd.offset)),?_,_,hp.add _,rfl⟩
 unfold execOp
 rw [hop]
 have hf':fs[f]? = some fd:=by simpa using hf
 have hz2:=(tyI_spec (w:=w) hz).2
 have:¬ z=0:=by omega
 simp [Instr.fieldAt,run_und hu,hf',hq,Instr.sureAddr,fieldPlace,hz2,this]
theorem run_field {s:TypeId} {x:Operand} {f:Nat} {t:Slots} {h:VH} {cs:List VV} {fs:Array Field} {fd:Field} {v:VV} (hx:evO t x=.agg cs) (hu:P.underlying s=some (.struct fs)) (hf:fs.toList[f]? = some fd)
  (hp:partE P fd.type cs fd.offset=some v):RunP P (.field s x f) t h v:=by
 intro o hop B R ac w e ht
 have r:=evO_rel ht x
 rw [hx] at r
 obtain ⟨xs,hxs,hq⟩:=r
 obtain ⟨y,hy,hv⟩:=part_sound hxs hp w
 refine ⟨y,?_,hv⟩
 unfold execOp
 rw [hop]
 have hf':fs[f]? = some fd:=by simpa using hf
 simp [Instr.field,run_und hu,hf',hq,asAgg,hy]
theorem run_index {ty e:TypeId} {x ix:Operand} {t:Slots} {h:VH} {cs:List VV} {k:IntKind} {i:Int} {len s:Nat} {agg:Bool} {v:VV} {m:Nat} (hx:evO t x=.agg cs) (hi:evO t ix=.int k i) (hu:P.underlying ty=some (.array len e))
  (hs:tyI P e=some (agg,s)) (him:i=(m:Int)) (hm:m<len) (hp:partE P e cs (m*s)=some v):RunP P (.index ty x ix) t h v:=by
 intro o hop B R ac w em ht
 have r:=evO_rel ht x
 have r2:=evO_rel ht ix
 rw [hx] at r
 rw [hi] at r2
 obtain ⟨xs,hxs,hq⟩:=r
 simp only [VRel] at r2
 obtain ⟨y,hy,hv⟩:=part_sound hxs hp w
 refine ⟨y,?_,hv⟩
 unfold execOp
 rw [hop]
 subst him
 have hin:(0:Int)<=(m:Int)/\(m:Int)<(len:Int):=by omega
 simp [Instr.index,r2,asIntOf,run_und hu,hq,hm,(tyI_spec (w:=w) hs).2,hy]
theorem idxE_sound {e:TypeId} {s:Nat} {cs:List VV} {i:Int} {K:VV->Prop}:∀ (n j:Nat),idxE P e s cs i K n j->∃ (m:Nat) (v:VV),i=(m:Int)/\m<j+n/\partE P e cs (m*s)=some v/\K v
 | 0,j,h=>h.elim
 | n+1,j,h=>by
  simp only [idxE] at h
  cases hd:decide (i=(j:Int)) with
  | true=>
   rw [hd] at h
   simp only [cond_true] at h
   split at h
   ·rename_i v hv
    rw [fo_eq] at h
    exact ⟨j,v,by simpa using hd,by omega,hv,h⟩
   ·exact h.elim
  | false=>
   rw [hd] at h
   simp only [cond_false] at h
   obtain ⟨m,v,h1,h2,h3⟩:=idxE_sound n (j+1) h
   exact ⟨m,v,h1,by omega,h3⟩
theorem run_extract {x:Operand} {i:Nat} {t:Slots} {h:VH} {vs:List VV} {v:VV} (hx:evO t x=.tup vs) (hv:vs[i]? = some v):RunP P (.extract x i) t h v:=by
 intro o hop B R ac w e ht
 have r:=evO_rel ht x
 rw [hx] at r
 obtain ⟨xs,hxs,hq⟩:=r
 obtain ⟨y,hy,hr⟩:=hxs.get i v hv
 refine ⟨y,?_,hr⟩
 unfold execOp
 rw [hop]
 simp [Instr.extract,hq,hy]
theorem run_idxS {ty e:TypeId} {x ix:Operand} {t:Slots} {h:VH} {a a':VA} {len cap s:Nat} {agg:Bool} {k:IntKind} {i:Int} (hx:evO t x=.slice a len cap) (hi:evO t ix=.int k i) (hu:P.underlying ty=some (.slice e))
  (hs:tyI P e=some (agg,s)) (h1:0<=i/\i<(len:Int)) (ha:∀ (B:Nat) (R:Rn) (w:World) (p:Addr),Emb B R h.at w->ARel R a p->ARel R a' (p.add (i.toNat*s))):RunP P (.indexAddr ty x ix) t h (.ptr a'):=by
 intro o hop B R ac w em ht
 have r:=evO_rel ht x
 have r2:=evO_rel ht ix
 rw [hx] at r
 rw [hi] at r2
 obtain ⟨hlc,p0,hp,hq⟩:=r
 simp only [VRel] at r2
 obtain ⟨p,rfl,hp'⟩:=hp.resolve_left (by omega)
 refine ⟨.pointer (some (p.add (i.toNat*s))),?_,_,ha B R w p em hp',rfl⟩
 unfold execOp
 rw [hop]
 simp [Instr.indexAt,r2,asIntOf,run_und hu,hq,h1,(tyI_spec (w:=w) hs).2]
theorem run_idxV {ty e:TypeId} {x ix:Operand} {t:Slots} {h:VH} {n L s:Nat} {g:Nat->List VV} {t':TypeId} {agg:Bool} {k:IntKind} {i:Int} (hx:evO t x=.sl n L) (hi:evO t ix=.int k i) (hu:P.underlying ty=some (.slice e))
  (hs:tyI P e=some (agg,s)) (hn:h.at n=.vec L g s t') (h1:0<=i/\i<(L:Int)):RunP P (.indexAddr ty x ix) t h (.ptr (.ve n L s i.toNat 0)):=by
 intro o hop B R ac w em ht
 have r:=evO_rel ht x
 have r2:=evO_rel ht ix
 rw [hx] at r
 rw [hi] at r2
 obtain ⟨hv,a,c,hq⟩:=r
 simp only [VRel] at r2
 obtain ⟨v',xs,g1,g2,g3⟩:=(em.vec n L g s t' hn).row
 rw [hv] at g1; cases g1
 rcases g2.2 with ⟨_,h0⟩ | ⟨gb,cap,cur,hq2,hrest⟩
 ·omega
 ·refine ⟨.pointer (some ((⟨gb,0,none⟩:Addr).add (i.toNat*s))),?_,_,⟨by omega,_,gb,hv,by rw [hq2]; rfl,?_⟩,rfl⟩
  ·unfold execOp
   rw [hop]
   simp [Instr.indexAt,r2,asIntOf,run_und hu,hq2,h1,(tyI_spec (w:=w) hs).2]
  ·rw [add_lit]; simp
theorem run_idxH {ty e:TypeId} {x ix:Operand} {t:Slots} {h:VH} {tg j C r m:Nat} {g:Nat->Nat->Int} {te:TypeId} {agg:Bool} {k:IntKind} {i:Int} (hx:evO t x=.hs tg j C) (hi:evO t ix=.int k i) (hu:P.underlying ty=some (.slice e))
  (hs:tyI P e=some (agg,1)) (hn:h.at m=.bun tg r C g te) (hj:j<r) (h1:0<=i/\i<(C:Int)):RunP P (.indexAddr ty x ix) t h (.ptr (.hb tg j i.toNat)):=by
 intro o hop B R ac w em ht
 have r1:=evO_rel ht x
 have r2:=evO_rel ht ix
 rw [hx] at r1
 rw [hi] at r2
 obtain ⟨ys,hv,hy,a,c,hq⟩:=r1
 simp only [VRel] at r2
 obtain ⟨ys',v',xs,g1,g2',g2,g3⟩:=(em.bun m _ _ _ _ _ hn).1.rows j hj
 rw [hv] at g1; cases g1
 rw [hy] at g2'; cases g2'
 rcases g2.2 with ⟨_,h0⟩ | ⟨gb,cap,cur,hq2,hrest⟩
 ·omega
 ·refine ⟨.pointer (some ((⟨gb,0,none⟩:Addr).add (i.toNat*1))),?_,_,⟨ys,_,gb,hv,hy,by rw [hq2]; rfl,?_⟩,rfl⟩
  ·unfold execOp
   rw [hop]
   simp [Instr.indexAt,r2,asIntOf,run_und hu,hq2,h1,(tyI_spec (w:=w) hs).2]
  ·rw [add_lit]; simp
def Bnd (t:Slots) (o:Option Operand) (d n:Int):Prop:=(o=none/\n=d) ∨ ∃ y,o=some y/\evO t y=.int .i64 n
theorem bndE_sound {t:Slots} {o:Option Operand} {d:Int} {K:Int->Prop} (h:bndE t o d K):∃ n,Bnd t o d n/\K n:=by
 unfold bndE at h
 split at h
 ·exact ⟨d,.inl ⟨rfl,rfl⟩,h⟩
 ·rename_i x
  split at h
  ·rename_i n hn
   exact ⟨n,.inr ⟨x,rfl,hn⟩,h⟩
  ·exact h.elim
theorem run_bnd {R:Rn} {t:Slots} {a:Act} {w:World} (ht:TRel R t a) {y:Operand} {n:Int} (hy:evO t y=.int .i64 n) {c:Nat} {code:BoundsCode} (h0:0<=n) (h1:n<=c):(Instr.sliceBound (a.eval y) c code).run P w=.ok n.toNat w:=by
 have r:=evO_rel ht y
 rw [hy] at r
 simp only [VRel] at r
 simp [Instr.sliceBound,r,asIntOf,h0,h1]
theorem run_bounds {R:Rn} {t:Slots} {a:Act} {w:World} (ht:TRel R t a) {lo hi:Option Operand} {len cap:Nat} {l u:Int} (hl:Bnd t lo 0 l) (hu:Bnd t hi len u) (h1:0<=l/\l<=u/\u<=(cap:Int)) :
  (Instr.sliceBounds true len cap (lo.map a.eval) (hi.map a.eval) none).run P w=.ok (l.toNat,u.toNat,cap) w:=by
 obtain ⟨h0,h2,h3⟩:=h1
 rcases hl with ⟨rfl,rfl⟩ | ⟨y,rfl,hy⟩ <;> rcases hu with ⟨rfl,rfl⟩ | ⟨z,rfl,hz⟩
 ·simp [Instr.sliceBounds]
 ·simp [Instr.sliceBounds,run_bnd ht hz (c:=cap) (by omega) h3]
 ·simp [Instr.sliceBounds,run_bnd ht hy (c:=len) h0 h2]
 ·have e:(u.toNat:Int)=u:=by omega
  simp [Instr.sliceBounds,run_bnd ht hz (c:=cap) (by omega) h3,run_bnd ht hy (c:=u.toNat) h0 (by omega)]
theorem run_boundsA {R:Rn} {t:Slots} {a:Act} {w:World} (ht:TRel R t a) {lo hi:Option Operand} {len:Nat} {l u:Int} (hl:Bnd t lo 0 l) (hu:Bnd t hi len u) (h1:0<=l/\l<=u/\u<=(len:Int)) :
  (Instr.sliceBounds false len len (lo.map a.eval) (hi.map a.eval) none).run P w=.ok (l.toNat,u.toNat,len) w:=by
 obtain ⟨h0,h2,h3⟩:=h1
 rcases hl with ⟨rfl,rfl⟩ | ⟨y,rfl,hy⟩ <;> rcases hu with ⟨rfl,rfl⟩ | ⟨z,rfl,hz⟩
 ·simp [Instr.sliceBounds]
 ·simp [Instr.sliceBounds,run_bnd ht hz (c:=len) (by omega) h3]
 ·simp [Instr.sliceBounds,run_bnd ht hy (c:=len) h0 h2]
 ·have e:(u.toNat:Int)=u:=by omega
  simp [Instr.sliceBounds,run_bnd ht hz (c:=len) (by omega) h3,run_bnd ht hy (c:=u.toNat) h0 (by omega)]
theorem run_sliceS {ty e:TypeId} {x:Operand} {lo hi:Option Operand} {t:Slots} {h:VH} {a a':VA} {len cap s:Nat} {agg:Bool} {l u:Int} (hx:evO t x=.slice a len cap) (hu:P.underlying ty=some (.slice e))
  (hs:tyI P e=some (agg,s)) (hl:Bnd t lo 0 l) (hh:Bnd t hi len u) (h1:0<=l/\l<=u/\u<=(cap:Int)) (ha:∀ (B:Nat) (R:Rn) (w:World) (p:Addr),Emb B R h.at w->ARel R a p->ARel R a' (p.add (l.toNat*s))) :
  RunP P (.slice ty x lo hi none) t h (.slice a' (u - l).toNat (cap - l.toNat)):=by
 intro o hop B R ac w em ht
 have r:=evO_rel ht x
 rw [hx] at r
 obtain ⟨hlc,p,hp,hq⟩:=r
 have hb:=run_bounds (P:=P) (w:=w) ht hl hh h1
 have e1:(u - l).toNat=u.toNat - l.toNat:=by omega
 cases p with
 | none=>
  have hc0:cap=0:=hp.elim id (fun ⟨q,h1,_⟩=>by cases h1)
  subst hc0
  refine ⟨.slice none 0 0,?_,by omega,none,.inl (by omega),by congr 1 <;> omega⟩
  have hu0:u.toNat=0:=by omega
  have hl0:l.toNat=0:=by omega
  unfold execOp
  rw [hop]
  simp only [Instr.sliceAt,Instr.slice,hq,Sem.run_bind,run_und hu,Result.andThen_ok,Option.map_none,hb,(tyI_spec (w:=w) hs).2,Sem.run_pure,hu0,hl0]
  simp
 | some p=>
  refine ⟨.slice (some (if cap=l.toNat then p else p.add (l.toNat*s))) (u - l).toNat (cap - l.toNat),?_,by omega,_,?_,rfl⟩
  ·unfold execOp
   rw [hop]
   simp only [Instr.sliceAt,Instr.slice,hq,Sem.run_bind,run_und hu,Result.andThen_ok,Option.map_none,hb,(tyI_spec (w:=w) hs).2,Sem.run_pure,e1]
   by_cases hc:cap=l.toNat
   ·simp [hc]
   ·simp [hc]
  ·by_cases hc:cap=l.toNat
   ·left; omega
   ·right
    rw [if_neg hc]
    obtain ⟨q,hq1,hq2⟩:=hp.resolve_left (by omega)
    cases hq1
    exact ⟨_,rfl,ha B R w p em hq2⟩
theorem run_slice_any2 {ty e:TypeId} {x:Operand} {lo hi:Option Operand} {t:Slots} {len cap s:Nat} {agg:Bool} {l u:Int} {R:Rn} {ac:Act} {w:World} {p:Option Addr} (ht:TRel R t ac) (hq:ac.eval x=.slice p len cap) (hu:P.underlying ty=some (.slice e))
  (hs:tyI P e=some (agg,s)) (hl:Bnd t lo 0 l) (hh:Bnd t hi len u) (h1:0<=l/\l<=u/\u<=(cap:Int)) {o:Oper} (hop:o.op=.slice ty x lo hi none) :
  ∃ p',(execOp ac.eval o).run P w=.ok (.value (.slice p' (u - l).toNat (cap - l.toNat))) w/\(u - l).toNat<=cap - l.toNat/\((u - l).toNat ≠ 0->p'=p.map (·.add (l.toNat*s)))/\(cap - l.toNat=0 ∨ p'=p.map (·.add (l.toNat*s)))/\(l.toNat=0->p'=p):=by
 have hb:=run_bounds (P:=P) (w:=w) ht hl hh (cap:=cap) h1
 have e1:(u - l).toNat=u.toNat - l.toNat:=by omega
 refine ⟨if cap=l.toNat then p else p.map (·.add (l.toNat*s)),?_,by omega,fun hne=>if_neg (by omega),?_,fun h0=>?_⟩
 ·unfold execOp
  rw [hop]
  simp only [Instr.sliceAt,Instr.slice,hq,Sem.run_bind,run_und hu,Result.andThen_ok,Option.map_none,hb,(tyI_spec (w:=w) hs).2,Sem.run_pure,e1]
 ·by_cases hc:cap=l.toNat
  ·left; omega
  ·exact .inr (if_neg hc)
 ·rw [h0,Nat.zero_mul]
  split
  ·rfl
  ·cases p with
   | none=>rfl
   | some q=>simp [Addr.add]
theorem run_sliceV {ty e:TypeId} {x:Operand} {lo hi:Option Operand} {t:Slots} {h:VH} {n L s:Nat} {g:Nat->List VV} {s':Nat} {t':TypeId} {agg:Bool} {l u:Int} (hx:evO t x=.sl n L) (hu:P.underlying ty=some (.slice e))
  (hs:tyI P e=some (agg,s)) (hn:h.at n=.vec L g s' t') (hl:Bnd t lo 0 l) (hh:Bnd t hi L u) (h1:0<=l/\l<=u/\u<=(L:Int)):RunP P (.slice ty x lo hi none) t h (.sub n L s l.toNat (u - l).toNat):=by
 intro o hop B R ac w em ht
 have r:=evO_rel ht x
 rw [hx] at r
 obtain ⟨hv,a,c,hq⟩:=r
 obtain ⟨v',xs,g1,g2,g3⟩:=(em.vec n L g s' t' hn).row
 rw [hv] at g1; cases g1
 have hlc:L<=c:=by
  rcases g2.2 with ⟨hq2,h0⟩ | ⟨gb,cap,cur,hq2,_,_,h2,_⟩
  ·omega
  ·rw [hq] at hq2; cases hq2; exact h2
 obtain ⟨p',hr,hkc,hp,hp2,hp0⟩:=run_slice_any2 (P:=P) (w:=w) ht hq hu hs hl hh (by omega) hop
 refine ⟨_,hr,_,p',_,hv,rfl,by omega,hkc,by omega,?_,a,by rw [hq,show l.toNat+(c - l.toNat)=c by omega],fun h0=>hp0 h0⟩
 rcases hp2 with hp2 | hp2
 ·exact .inl hp2
 ·rcases g2.2 with ⟨hq2,h0⟩ | ⟨gb,cap,cur,hq2,_⟩
  ·rw [hq] at hq2; cases hq2; left; omega
  ·rw [hq] at hq2; cases hq2
   refine .inr ⟨gb,by rw [hq]; rfl,?_⟩
   rw [hp2]
   simp only [Option.map_some,add_lit,Nat.zero_add]
theorem run_slice3 {ty e:TypeId} {x hi mx:Operand} {lo:Option Operand} {t:Slots} {h:VH} {n L:Nat} {i:Bool × Nat} {g:Nat->List VV} {s':Nat} {t':TypeId} {l u m:Int} (hx:evO t x=.sl n L) (hu:P.underlying ty=some (.slice e))
  (hs:tyI P e=some i) (hn:h.at n=.vec L g s' t') (hl:Bnd t lo 0 l) (hh:Bnd t (some hi) 0 u) (hm:Bnd t (some mx) 0 m) (h1:0<=l/\l<=u/\u<=m/\m<=(L:Int)):RunP P (.slice ty x lo (some hi) (some mx)) t h .any:=by
 intro o hop B R ac w em ht
 have r:=evO_rel ht x
 rw [hx] at r
 obtain ⟨hv,a,c,hq⟩:=r
 obtain ⟨agg,s⟩:=i
 obtain ⟨v',xs,g1,g2,g3⟩:=(em.vec n L g s' t' hn).row
 rw [hv] at g1; cases g1
 have hlc:L<=c:=by
  rcases g2.2 with ⟨hq2,h0⟩ | ⟨gb,cap,cur,hq2,_,_,h2,_⟩
  ·omega
  ·rw [hq] at hq2; cases hq2; exact h2
 have hh':evO t hi=.int .i64 u:=by
  rcases hh with ⟨h,_⟩ | ⟨y,h,hy⟩
  ·cases h
  ·cases h; exact hy
 have hm':evO t mx=.int .i64 m:=by
  rcases hm with ⟨h,_⟩ | ⟨y,h,hy⟩
  ·cases h
  ·cases h; exact hy
 have eu:((u.toNat:Nat):Int)=u:=by omega
 have em':((m.toNat:Nat):Int)=m:=by omega
 have hb:(Instr.sliceBounds true L c (lo.map ac.eval) (some (ac.eval hi)) (some (ac.eval mx))).run P w=.ok (l.toNat,u.toNat,m.toNat) w:=by
  have b1:=fun code=>run_bnd (P:=P) (w:=w) (code:=code) ht hm' (c:=c) (by omega) (by omega)
  have b2:=fun code=>run_bnd (P:=P) (w:=w) (code:=code) ht hh' (c:=m.toNat) (by omega) (by omega)
  rcases hl with ⟨rfl,rfl⟩ | ⟨y,rfl,hy⟩
  ·simp [Instr.sliceBounds,b1,b2]
  ·have b3:=fun code=>run_bnd (P:=P) (w:=w) (code:=code) ht hy (c:=u.toNat) (by omega) (by omega)
   simp [Instr.sliceBounds,b1,b2,b3]
 refine ⟨.slice (if m.toNat=l.toNat then a else a.map (·.add (l.toNat*s))) (u.toNat - l.toNat) (m.toNat - l.toNat),?_,trivial⟩
 unfold execOp
 rw [hop]
 simp only [Instr.sliceAt,Instr.slice,hq,Sem.run_bind,run_und hu,Result.andThen_ok,Option.map_some,hb,(tyI_spec (w:=w) hs).2,Sem.run_pure]
theorem run_sliceB {ty e:TypeId} {x:Operand} {lo hi:Option Operand} {t:Slots} {h:VH} {n L s i k:Nat} {agg:Bool} {l u:Int} (hx:evO t x=.sub n L s i k) (hu:P.underlying ty=some (.slice e))
  (hs:tyI P e=some (agg,s)) (hl:Bnd t lo 0 l) (hh:Bnd t hi k u) (h1:0<=l/\l<=u/\(i:Int)+u<=(L:Int)):RunP P (.slice ty x lo hi none) t h (.sub n L s (i+l.toNat) (u - l).toNat):=by
 intro o hop B R ac w em ht
 have r:=evO_rel ht x
 rw [hx] at r
 obtain ⟨v,a,c,hv,hq,hik,hkc,hlc,ha,a0,hex⟩:=r
 obtain ⟨p',hr,hkc',hp,hp2,hp0⟩:=run_slice_any2 (P:=P) (w:=w) ht hq hu hs hl hh (by omega) hop
 refine ⟨_,hr,v,p',_,hv,rfl,by omega,hkc',by omega,?_,a0,by rw [hex.1,show i+l.toNat+(c - l.toNat)=i+c by omega],fun h0=>(hp0 (by omega)).trans (hex.2 (by omega))⟩
 rcases hp2 with hp2 | hp2
 ·exact .inl hp2
 ·rcases ha with h0 | ⟨b,hb,rfl⟩
  ·left; omega
  ·refine .inr ⟨b,hb,?_⟩
   rw [hp2]
   simp only [Option.map_some,add_lit,Nat.add_mul]
theorem run_sliceT {ty e:TypeId} {x:Operand} {lo hi:Option Operand} {t:Slots} {h:VH} {L s:Nat} {g:Nat->List VV} {agg:Bool} {l u:Int} (hx:evO t x=.tl L s g) (hu:P.underlying ty=some (.slice e))
  (hs:tyI P e=some (agg,s)) (hl:Bnd t lo 0 l) (hh:Bnd t hi L u) (h1:0<=l/\l<=u/\u<=(L:Int)):RunP P (.slice ty x lo hi none) t h (.tl (u - l).toNat s (fun j=>g (l.toNat+j))):=by
 intro o hop B R ac w em ht
 have r:=evO_rel ht x
 rw [hx] at r
 obtain ⟨p,cap,hq,hc,hg⟩:=r
 obtain ⟨p',hr,hkc',hp,hp2,hp0⟩:=run_slice_any2 (P:=P) (w:=w) ht hq hu hs hl hh (by omega) hop
 refine ⟨_,hr,p',_,rfl,⟨hkc',fun hn=>?_⟩,fun i hi=>?_⟩
 ·rcases hp2 with hp2 | hp2
  ·exact hp2
  ·rw [hn] at hp2
   cases p with
   | none=>have:=hc.2 rfl; omega
   | some q=>cases hp2
 obtain ⟨b,o,xs,rfl,g1,g2,g3,g4⟩:=hg (l.toNat+i) (by omega)
 have e1:o+l.toNat*s+i*s=o+(l.toNat+i)*s:=by rw [Nat.add_mul]; omega
 refine ⟨b,o+l.toNat*s,xs,?_,g1,by rw [e1]; exact g2,g3,by rw [e1]; exact g4⟩
 rw [hp (by omega)]
 simp only [Option.map_some,add_lit]
theorem run_sliceA {ty e:TypeId} {x:Operand} {lo hi:Option Operand} {t:Slots} {h:VH} {va va':VA} {len s:Nat} {agg:Bool} {l u:Int} (hx:evO t x=.ptr va) (hu:P.underlying ty=some (.array len e))
  (hs:tyI P e=some (agg,s)) (hl:Bnd t lo 0 l) (hh:Bnd t hi len u) (h1:0<=l/\l<=u/\u<=(len:Int)) (H:∀ (R:Rn) (p:Addr),ARel R va p->ARel R va' (p.add (l.toNat*s))):RunP P (.slice ty x lo hi none) t h (.slice va' (u - l).toNat (len - l.toNat)):=by
 intro o hop B R ac w em ht
 have r:=evO_rel ht x
 rw [hx] at r
 obtain ⟨p,hp,hq⟩:=r
 have hb:=run_boundsA (P:=P) (w:=w) ht hl hh h1
 have e1:(u - l).toNat=u.toNat - l.toNat:=by omega
 refine ⟨.slice (some (if len=l.toNat then p else p.add (l.toNat*s))) (u - l).toNat (len - l.toNat),?_,by omega,_,?_,rfl⟩
 ·unfold execOp
  rw [hop]
  simp only [Instr.sliceAt,hq,Sem.run_bind,run_und hu,Result.andThen_ok,Option.map_none,hb,(tyI_spec (w:=w) hs).2,Sem.run_pure,e1,Instr.sureAddr]
 ·by_cases hc:len=l.toNat
  ·left; omega
  ·right
   rw [if_neg hc]
   exact ⟨_,rfl,H _ _ hp⟩
theorem run_idxSub {ty e:TypeId} {x ix:Operand} {t:Slots} {h:VH} {n L s j len:Nat} {agg:Bool} {k:IntKind} {i:Int} (hx:evO t x=.sub n L s j len) (hi:evO t ix=.int k i) (hu:P.underlying ty=some (.slice e))
  (hs:tyI P e=some (agg,s)) (h1:0<=i/\i<(len:Int)):RunP P (.indexAddr ty x ix) t h (.ptr (.ve n L s (j+i.toNat) 0)):=by
 intro o hop B R ac w em ht
 have r:=evO_rel ht x
 have r2:=evO_rel ht ix
 rw [hx] at r
 rw [hi] at r2
 obtain ⟨v,a,c,hv,hq,hik,hkc,hlc,ha,_⟩:=r
 simp only [VRel] at r2
 obtain ⟨b,hb,rfl⟩:=ha.resolve_left (fun h=>by omega)
 refine ⟨.pointer (some ((⟨b,j*s,none⟩:Addr).add (i.toNat*s))),?_,_,⟨by omega,_,b,hv,hb,?_⟩,rfl⟩
 ·unfold execOp
  rw [hop]
  simp [Instr.indexAt,r2,asIntOf,run_und hu,hq,h1,(tyI_spec (w:=w) hs).2]
 ·rw [add_lit,Nat.add_mul]; simp
theorem run_sliceN {ty e:TypeId} {x:Operand} {lo hi:Option Operand} {t:Slots} {h:VH} {l u:Int} (hx:evO t x=.nils) (hu:P.underlying ty=some (.slice e))
  (hl:Bnd t lo 0 l) (hh:Bnd t hi 0 u) (h1:l=0/\u=0) {agg:Bool} {s:Nat} (hs:tyI P e=some (agg,s)):RunP P (.slice ty x lo hi none) t h .nils:=by
 intro o hop B R ac w em ht
 have r:=evO_rel ht x
 rw [hx] at r
 simp only [VRel] at r
 obtain ⟨rfl,rfl⟩:=h1
 refine ⟨.slice none 0 0,?_,rfl⟩
 have hb:=run_bounds (P:=P) (w:=w) (cap:=0) (len:=0) ht hl (by simpa using hh) (by simp)
 unfold execOp
 rw [hop]
 simp only [Instr.sliceAt,Instr.slice,r,Sem.run_bind,run_und hu,Result.andThen_ok,Option.map_none,hb,(tyI_spec (w:=w) hs).2,Sem.run_pure]
 simp
theorem run_idxA {ty e:TypeId} {x ix:Operand} {t:Slots} {h:VH} {va va':VA} {len s:Nat} {agg:Bool} {k:IntKind} {i:Int} (hx:evO t x=.ptr va) (hi:evO t ix=.int k i) (hu:P.underlying ty=some (.array len e))
  (hs:tyI P e=some (agg,s)) (h1:0<=i/\i<(len:Int)) (H:∀ (B:Nat) (R:Rn) (w:World) (p:Addr),Emb B R h.at w->ARel R va p->ARel R va' (p.add (i.toNat*s))):RunP P (.indexAddr ty x ix) t h (.ptr va'):=by
 intro o hop B R ac w em ht
 have r:=evO_rel ht x
 have r2:=evO_rel ht ix
 rw [hx] at r
 rw [hi] at r2
 obtain ⟨p,hp,hq⟩:=r
 simp only [VRel] at r2
 refine ⟨.pointer (some (p.add (i.toNat*s))),?_,_,H B R w p em hp,rfl⟩
 unfold execOp
 rw [hop]
 simp [Instr.indexAt,r2,asIntOf,run_und hu,hq,Instr.sureAddr,h1,(tyI_spec (w:=w) hs).2]
theorem maxL_sound {R:Rn} {k:IntKind} {w:World}:∀ (r:List VV) (xs:List Value) (m n:Int),VRelL R r xs->maxL k m r=some n->(xs.foldlM Builtin.max2 (.int k m)).run P w=.ok (.int k n) w
 | [],_,m,n,h,hm=>by simp only [VRelL] at h; subst h; simp [maxL] at hm; subst hm; rfl
 | v::vs,_,m,n,h,hm=>by
  obtain ⟨y,ys,h1,h2,rfl⟩:=h
  unfold maxL at hm
  split at hm
  ·rename_i heq; cases heq
  ·rename_i m' k' q r' heq
   simp only [List.cons.injEq] at heq
   obtain ⟨rfl,rfl⟩:=heq
   cases hk:decide (k=k') with
   | false=>rw [hk] at hm; cases hm
   | true=>
    rw [hk] at hm
    simp only [cond_true] at hm
    simp only [VRel] at h1
    subst h1
    have ih:=maxL_sound (w:=w) vs ys _ n h2 hm
    simp only [List.foldlM_cons,Sem.run_bind,Builtin.max2,Sem.run_pure,Result.andThen_ok]
    rw [show ∀ m:Int,(if q > m then q else m)=max m q from fun m=>by omega]
    exact ih
  ·cases hm
theorem minL_sound {R:Rn} {k:IntKind} {w:World}:∀ (r:List VV) (xs:List Value) (m n:Int),VRelL R r xs->minL k m r=some n->(xs.foldlM Builtin.min2 (.int k m)).run P w=.ok (.int k n) w
 | [],_,m,n,h,hm=>by simp only [VRelL] at h; subst h; simp [minL] at hm; subst hm; rfl
 | v::vs,_,m,n,h,hm=>by
  obtain ⟨y,ys,h1,h2,rfl⟩:=h
  unfold minL at hm
  split at hm
  ·rename_i heq; cases heq
  ·rename_i m' k' q r' heq
   simp only [List.cons.injEq] at heq
   obtain ⟨rfl,rfl⟩:=heq
   cases hk:decide (k=k') with
   | false=>rw [hk] at hm; cases hm
   | true=>
    rw [hk] at hm
    simp only [cond_true] at hm
    simp only [VRel] at h1
    subst h1
    have ih:=minL_sound (w:=w) vs ys _ n h2 hm
    simp only [List.foldlM_cons,Sem.run_bind,Builtin.min2,Sem.run_pure,Result.andThen_ok]
    rw [show ∀ m:Int,(if q<m then q else m)=min m q from fun m=>by omega]
    exact ih
  ·cases hm
theorem run_bi {c:Call} {b:Builtin} {t:Slots} {h:VH} {v:VV} (hc:c.callee=.builtin b)
  (H:∀ (B:Nat) (R:Rn) (a:Act) (w:World) (ty:TypeId) (cn:Array Bool),Emb B R h.at w->TRel R t a->∃ x,(builtin b c.argTypes ty cn (c.args.map a.eval)).run P w=.ok (.value x) w/\VRel R v x):RunP P (.call c) t h v:=by
 intro o hop B R a w e ht
 obtain ⟨x,h1,h2⟩:=H B R a w o.type (c.args.map fun | .const _=>true | _=>false) e ht
 refine ⟨x,?_,h2⟩
 unfold execOp
 rw [hop]
 simp only [resolve,hc,Sem.run_bind,Sem.run_pure,Result.andThen_ok,invoke]
 exact h1
theorem builtinE_sound {c:Call} {b:Builtin} {t:Slots} {h:VH} {K:VV->Prop} (hc:c.callee=.builtin b) (hK:builtinE P b c.argTypes.toList (c.args.toList.map (evO t)) K):∃ v,K v/\RunP P (.call c) t h v:=by
 unfold builtinE at hK
 split at hK
 ·rename_i a n cap hargs
  split at hK
  ·rename_i ty hty
   split at hK
   ·rename_i e hu
    refine ⟨_,hK,run_bi hc fun B R ac w ty' cn em ht=>?_⟩
    have hr:=evL_rel (R:=R) ht c.args.toList
    rw [hargs] at hr
    obtain ⟨y,ys,h1,h2,h3⟩:=hr
    simp only [VRelL] at h2
    subst h2
    obtain ⟨_,p,_,rfl⟩:=h1
    have e1:c.args.map ac.eval = #[.slice p n cap]:=by apply Array.ext'; simpa using h3
    have e2:c.argTypes = #[ty]:=by apply Array.ext'; simpa using hty
    refine ⟨.int .i64 n,?_,rfl⟩
    rw [e1,e2]
    simp [builtin,Builtin.len_,run_und hu,goInt]
   ·exact hK.elim
  ·exact hK.elim
 ·rename_i n0 L hargs
  split at hK
  ·rename_i ty hty
   split at hK
   ·rename_i e hu
    refine ⟨_,hK,run_bi hc fun B R ac w ty' cn em ht=>?_⟩
    have hr:=evL_rel (R:=R) ht c.args.toList
    rw [hargs] at hr
    obtain ⟨y,ys,h1,h2,h3⟩:=hr
    simp only [VRelL] at h2
    subst h2
    obtain ⟨_,p,cp,rfl⟩:=h1
    have e1:c.args.map ac.eval = #[.slice p L cp]:=by apply Array.ext'; simpa using h3
    have e2:c.argTypes = #[ty]:=by apply Array.ext'; simpa using hty
    refine ⟨.int .i64 L,?_,rfl⟩
    rw [e1,e2]
    simp [builtin,Builtin.len_,run_und hu,goInt]
   ·exact hK.elim
  ·exact hK.elim
 ·rename_i n0 L0 s0 i0 L hargs
  split at hK
  ·rename_i ty hty
   split at hK
   ·rename_i e hu
    refine ⟨_,hK,run_bi hc fun B R ac w ty' cn em ht=>?_⟩
    have hr:=evL_rel (R:=R) ht c.args.toList
    rw [hargs] at hr
    obtain ⟨y,ys,h1,h2,h3⟩:=hr
    simp only [VRelL] at h2
    subst h2
    obtain ⟨_,p,cp,_,rfl,_⟩:=h1
    have e1:c.args.map ac.eval = #[.slice p L cp]:=by apply Array.ext'; simpa using h3
    have e2:c.argTypes = #[ty]:=by apply Array.ext'; simpa using hty
    refine ⟨.int .i64 L,?_,rfl⟩
    rw [e1,e2]
    simp [builtin,Builtin.len_,run_und hu,goInt]
   ·exact hK.elim
  ·exact hK.elim
 ·rename_i L s0 g0 hargs
  split at hK
  ·rename_i ty hty
   split at hK
   ·rename_i e hu
    refine ⟨_,hK,run_bi hc fun B R ac w ty' cn em ht=>?_⟩
    have hr:=evL_rel (R:=R) ht c.args.toList
    rw [hargs] at hr
    obtain ⟨y,ys,h1,h2,h3⟩:=hr
    simp only [VRelL] at h2
    subst h2
    obtain ⟨p,cp,rfl,_⟩:=h1
    have e1:c.args.map ac.eval = #[.slice p L cp]:=by apply Array.ext'; simpa using h3
    have e2:c.argTypes = #[ty]:=by apply Array.ext'; simpa using hty
    refine ⟨.int .i64 L,?_,rfl⟩
    rw [e1,e2]
    simp [builtin,Builtin.len_,run_und hu,goInt]
   ·exact hK.elim
  ·exact hK.elim
 ·rename_i t0 j0 L hargs
  split at hK
  ·rename_i ty hty
   split at hK
   ·rename_i e hu
    refine ⟨_,hK,run_bi hc fun B R ac w ty' cn em ht=>?_⟩
    have hr:=evL_rel (R:=R) ht c.args.toList
    rw [hargs] at hr
    obtain ⟨y,ys,h1,h2,h3⟩:=hr
    simp only [VRelL] at h2
    subst h2
    obtain ⟨_,_,_,p,cp,rfl⟩:=h1
    have e1:c.args.map ac.eval = #[.slice p L cp]:=by apply Array.ext'; simpa using h3
    have e2:c.argTypes = #[ty]:=by apply Array.ext'; simpa using hty
    refine ⟨.int .i64 L,?_,rfl⟩
    rw [e1,e2]
    simp [builtin,Builtin.len_,run_und hu,goInt]
   ·exact hK.elim
  ·exact hK.elim
 ·rename_i hargs
  split at hK
  ·rename_i ty hty
   split at hK
   ·rename_i e hu
    refine ⟨_,hK,run_bi hc fun B R ac w ty' cn em ht=>?_⟩
    have hr:=evL_rel (R:=R) ht c.args.toList
    rw [hargs] at hr
    obtain ⟨y,ys,h1,h2,h3⟩:=hr
    simp only [VRelL] at h2
    subst h2
    simp only [VRel] at h1
    subst h1
    have e1:c.args.map ac.eval = #[.slice none 0 0]:=by apply Array.ext'; simpa using h3
    have e2:c.argTypes = #[ty]:=by apply Array.ext'; simpa using hty
    refine ⟨.int .i64 0,?_,rfl⟩
    rw [e1,e2]
    simp [builtin,Builtin.len_,run_und hu,goInt]
   ·exact hK.elim
  ·exact hK.elim
 ·rename_i k n r hargs
  split at hK
  ·rename_i m hm
   refine ⟨_,hK,run_bi hc fun B R ac w ty' cn em ht=>?_⟩
   have hr:=evL_rel (R:=R) ht c.args.toList
   rw [hargs] at hr
   obtain ⟨y,ys,h1,h2,h3⟩:=hr
   simp only [VRel] at h1
   subst h1
   refine ⟨.int k m,?_,rfl⟩
   have e1:(c.args.map ac.eval).toList=.int k n::ys:=by simpa using h3
   simp only [builtin,Builtin.max_,e1,Sem.run_bind,maxL_sound r ys n m h2 hm,Result.andThen_ok]
   rfl
  ·exact hK.elim
 ·rename_i k n r hargs
  split at hK
  ·rename_i m hm
   refine ⟨_,hK,run_bi hc fun B R ac w ty' cn em ht=>?_⟩
   have hr:=evL_rel (R:=R) ht c.args.toList
   rw [hargs] at hr
   obtain ⟨y,ys,h1,h2,h3⟩:=hr
   simp only [VRel] at h1
   subst h1
   refine ⟨.int k m,?_,rfl⟩
   have e1:(c.args.map ac.eval).toList=.int k n::ys:=by simpa using h3
   simp only [builtin,Builtin.min_,e1,Sem.run_bind,minL_sound r ys n m h2 hm,Result.andThen_ok]
   rfl
  ·exact hK.elim
 ·exact hK.elim
theorem run_callop {c:Call} {f:Operand} {g:FuncId} {fn:Func} {first cap:List VV} {t:Slots} (hc:c.callee=.value f) (hf:evO t f=.func g first cap) (hfn:P.funcs[g]? = some fn)
  (hb : fn.body.isSome = true) (hn : (fn.name == "runtime.NumGoroutine") = false) {R : Rn} {a : Act} {w : World} (ht : TRel R t a) (o : Oper) (hop : o.op = .call c) :
  ∃ xs,VRelL R (first ++ c.args.toList.map (evO t) ++ cap) xs/\(execOp a.eval o).run P w=.ok (.enter g xs.toArray) w:=by
 have r:=evO_rel ht f
 rw [hf] at r
 obtain ⟨us,vs,h1,h2,h3⟩:=r
 refine ⟨us ++ c.args.toList.map a.eval ++ vs,(h1.append (evL_rel ht _)).append h2,?_⟩
 unfold execOp
 rw [hop]
 have hbn:fn.body.isNone=false:=by cases hh:fn.body <;> simp_all
 have hcf:∀ args,(callFunc g args).run P w=.ok (.enter g args) w:=by
  intro args
  unfold callFunc
  simp only [Sem.run_bind,run_program,Result.andThen_ok,hfn,hn,hbn]
  rfl
 simp only [resolve,hc,h3,Deferred.ofValue,Sem.run_bind,Sem.run_pure,Result.andThen_ok,invoke,hcf]
 congr 2
 apply Array.ext'
 simp
theorem mthE_sound {w:World} {t:TypeId} {name:String} {g:FuncId} {v:Value} {n:Nat} (h:mthE P t name=some g):(method (n+1) t v name).run P w=.ok (g,v) w:=by
 unfold mthE at h
 split at h
 ·rename_i i hi
  split at h
  ·rename_i m hm
   cases hp:m.path.isEmpty with
   | false=>rw [hp] at h; cases h
   | true=>
    rw [hp] at h
    simp only [cond_true] at h
    split at h
    ·cases h
    ·rename_i f d hnp hf hu
     cases h
     have hpe:m.path = #[]:=by simpa using hp
     unfold method
     simp only [Sem.run_bind,run_tyi hi,Result.andThen_ok,hm,hpe,follow,Sem.run_pure,hf]
     have e : (receiverAt t (.val v) false (if (#[] : Array FieldStep).isEmpty = true then some ((name.splitOn ".").getLastD name) else none)).run P w = .ok v w := by
      unfold receiverAt
      simp only [Sem.run_bind,run_und hu,Result.andThen_ok]
      cases d <;> first | (exact absurd rfl (hnp _)) | rfl
     simp only [Result.andThen_ok,e]
    ·cases h
  ·cases h
 ·cases h
theorem sl_nil {ty yt:TypeId} {x:Operand} {t:Slots} {h:VH} {n L:Nat} {g:Nat->List VV} {s:Nat} {t' b:TypeId} (hx:evO t x=.sl n L) (hn:h.at n=.vec L g s t') (hL:1<=L) (hu:P.underlying ty=some (.slice b)) :
  RunP P (.binOp .eql ty x (.const (.slice none 0 0)) yt) t h (.bool false)/\RunP P (.binOp .neq ty x (.const (.slice none 0 0)) yt) t h (.bool true):=by
 have key:∀ (B:Nat) (R:Rn) (ac:Act) (w:World),Emb B R h.at w->TRel R t ac->∃ p c,ac.eval x=.slice (some p) L c:=by
  intro B R ac w em ht
  have r:=evO_rel ht x
  rw [hx] at r
  obtain ⟨hv,a,c,hq⟩:=r
  obtain ⟨v',xs,g1,g2,g3⟩:=(em.vec n L g s t' hn).row
  rw [hv] at g1; cases g1
  rcases g2.2 with ⟨_,h0⟩ | ⟨gb,cap,cur,hq2,_⟩
  ·omega
  ·rw [hq] at hq2; cases hq2; exact ⟨_,_,hq⟩
 constructor
 ·refine run_bin fun B R ac w em ht=>?_
  obtain ⟨p,c,hq⟩:=key B R ac w em ht
  have h1:=eq_sl_nil (P:=P) (w:=w) 9999 ty p L c b hu
  refine ⟨.bool false,?_,?_,rfl⟩
  ·rw [hq]; exact guard_pass (by simp) (by simp)
  ·rw [hq]; exact (bin_eql (.inr ⟨_,_,_,rfl⟩) (.inr ⟨_,_,_,rfl⟩) h1).1
 ·refine run_bin fun B R ac w em ht=>?_
  obtain ⟨p,c,hq⟩:=key B R ac w em ht
  have h1:=eq_sl_nil (P:=P) (w:=w) 9999 ty p L c b hu
  refine ⟨.bool true,?_,?_,rfl⟩
  ·rw [hq]; exact guard_pass (by simp) (by simp)
  ·rw [hq]; exact (bin_eql (.inr ⟨_,_,_,rfl⟩) (.inr ⟨_,_,_,rfl⟩) h1).2
theorem run_invoke {c:Call} {t:Slots} {x:Operand} {name:String} {ty:TypeId} {v0:VV} {g:FuncId} {fn:Func} (hc:c.callee=.invoke x name) (hf:evO t x=.iface ty v0) (hm:mthE P ty name=some g) (hfn:P.funcs[g]? = some fn)
  (hb : fn.body.isSome = true) (hn : (fn.name == "runtime.NumGoroutine") = false) {R : Rn} {a : Act} {w : World} (ht : TRel R t a) (o : Oper) (hop : o.op = .call c) :
  ∃ xs,VRelL R (v0::c.args.toList.map (evO t)) xs/\(execOp a.eval o).run P w=.ok (.enter g xs.toArray) w:=by
 have r:=evO_rel ht x
 rw [hf] at r
 obtain ⟨y,hy,hx⟩:=r
 refine ⟨y::c.args.toList.map a.eval,⟨y,_,hy,evL_rel ht _,rfl⟩,?_⟩
 unfold execOp
 rw [hop]
 have hbn:fn.body.isNone=false:=by cases hh:fn.body <;> simp_all
 have hcf:∀ args,(callFunc g args).run P w=.ok (.enter g args) w:=by
  intro args
  unfold callFunc
  simp only [Sem.run_bind,run_program,Result.andThen_ok,hfn,hn,hbn]
  rfl
 obtain ⟨fu,hfu⟩:∃ fu,P.types.size+Made.depth=fu+1:=⟨P.types.size+99,by have:Made.depth=100:=rfl; omega⟩
 simp only [resolve,hc,hx,Sem.run_bind,Sem.run_pure,Result.andThen_ok,invoke]
 have e0:(#[Value.iface ty y] ++ c.args.map a.eval)[0]? = some (.iface ty y):=by
  rw [Array.getElem?_append_left (show 0<1 from Nat.one_pos)]
  rfl
 have e1:(#[Value.iface ty y] ++ c.args.map a.eval).extract 1 (#[Value.iface ty y] ++ c.args.map a.eval).size=c.args.map a.eval:=by
  apply Array.ext'
  simp
  exact List.take_of_length_le (by simp)
 simp only [e0,e1,callMethod,Sem.run_bind,run_program,Result.andThen_ok,hfu,mthE_sound hm,hcf]
 congr 2
 apply Array.ext'
 simp
theorem eq_if_nil {w:World} (d:Nat) (ty ti:TypeId) (v:Value) (m:Array (String × TypeId)) (hu:P.underlying ty=some (.interface m)):(Op.equalIn (d+1) ty (.iface ti v) .nilIface).run P w=.ok false w:=by
 rw [Op.equalIn]
 simp only [Sem.run_bind,run_und hu,Result.andThen_ok]
 rfl
theorem eq_nn {w:World} (d:Nat) (ty:TypeId) (m:Array (String × TypeId)) (hu:P.underlying ty=some (.interface m)):(Op.equalIn (d+1) ty .nilIface .nilIface).run P w=.ok true w:=by
 rw [Op.equalIn]
 simp only [Sem.run_bind,run_und hu,Result.andThen_ok]
 rfl
theorem bin_if {w:World} {ty:TypeId} {u:Value} {r:Bool} (h2:(∃ t v,u=.iface t v) ∨ u=.nilIface) (h:(Op.equalIn 10000 ty u .nilIface).run P w=.ok r w) :
  (binOp .eql ty u .nilIface).run P w=.ok (.bool r) w/\(binOp .neq ty u .nilIface).run P w=.ok (.bool (!r)) w:=by
 have h':(Op.equal ty u .nilIface).run P w=.ok r w:=h
 rcases h2 with ⟨t,v,rfl⟩ | rfl <;> (constructor <;> simp only [binOp] <;> simp only [Sem.run_bind,h',Result.andThen_ok] <;> rfl)
theorem run_ifnil {op:BinOp} {ty yt:TypeId} {x:Operand} {t:Slots} {h:VH} {v:VV} {r:Bool} {m:Array (String × TypeId)} (hu:P.underlying ty=some (.interface m)) (hx:evO t x=v) (hv:((∃ a b,v=.iface a b)/\r=false) ∨ (v=.niff/\r=true))
  (hop:op=.eql ∨ op=.neq):RunP P (.binOp op ty x (.const .nilIface) yt) t h (.bool (if op=.eql then r else !r)):=by
 refine run_bin fun B R a w e ht=>?_
 have rr:=evO_rel ht x
 rw [hx] at rr
 have hsh:((∃ t v,a.eval x=.iface t v) ∨ a.eval x=.nilIface)/\(Op.equalIn 10000 ty (a.eval x) .nilIface).run P w=.ok r w:=by
  rcases hv with ⟨⟨p,q,rfl⟩,rfl⟩ | ⟨rfl,rfl⟩
  ·obtain ⟨y,_,hy⟩:=rr
   rw [hy]
   exact ⟨.inl ⟨_,_,rfl⟩,eq_if_nil 9999 ty p y m hu⟩
  ·simp only [VRel] at rr
   rw [rr]
   exact ⟨.inr rfl,eq_nn 9999 ty m hu⟩
 obtain ⟨h1,h2⟩:=bin_if hsh.1 hsh.2
 have hg:(eqGuard op ty x (.const .nilIface) (a.eval x) (a.eval (.const .nilIface))).run P w=.ok () w:=by
  rcases hsh.1 with ⟨p,q,hy⟩ | hy
  ·rw [hy]
   exact guard_pass (by simp) (by simp)
  ·rw [hy]
   rcases hop with rfl | rfl <;> simp [eqGuard,Act.eval]
 refine ⟨_,hg,?_,rfl⟩
 rcases hop with rfl | rfl
 ·exact h1
 ·exact h2
theorem run_tya {x:Operand} {xt:TypeId} {t:Slots} {h:VH} {ty:TypeId} {v:VV} {d:TypeDesc} (hx:evO t x=.iface ty v) (hd:P.underlying ty=some d) (hni:isIf d=false):RunP P (.typeAssert x xt ty true) t h (.tup [v,.bool true]):=by
 intro o hop B R a w em ht
 have rr:=evO_rel ht x
 rw [hx] at rr
 obtain ⟨y,hy,hq⟩:=rr
 refine ⟨.tuple #[y,.bool true],?_,[y,.bool true],⟨_,_,hy,⟨_,_,rfl,rfl,rfl⟩,rfl⟩,rfl⟩
 unfold execOp
 rw [hop]
 cases d <;> first | (simp [isIf] at hni; done) | simp [Instr.typeAssert,run_und hd,hq]
theorem opE0_sound {call:CallT} (hg:Good P call) {lock:Nat} {op:Op} {t:Slots} {h:VH} {K Kp:VV->VH->Prop} (hK:opE0 P call lock op t h K Kp) :
  (∃ v h',K v h'/\LockP lock h h'/\OpV P op t h v h') ∨ (∃ v h',Kp v h'/\LockP lock h h'/\OpX P op t h v h'):=by
 have okP:∀ {op:Op} {v:VV},(∀ c,op ≠ .defer c)->K v h->RunP P op t h v->(∃ v h',K v h'/\LockP lock h h'/\OpV P op t h v h') ∨ (∃ v h',Kp v h'/\LockP lock h h'/\OpX P op t h v h'):=
  fun hd hk hr=>.inl ⟨_,h,hk,lockP_refl _ _,hr.runV.opV hd⟩
 unfold opE0 at hK
 split at hK
 ·rw [fo_eq] at hK; exact okP (by simp) hK (run_move (.inl rfl) t h)
 ·rw [fo_eq] at hK; exact okP (by simp) hK (run_move (.inr rfl) t h)
 ·split at hK
  ·rename_i q hq
   simp only [fo_eq] at hK
   refine okP (by simp) ?_ (run_pick hq h)
   cases q <;> simpa using hK
  ·exact hK.elim
 ·split at hK
  ·rename_i z hz
   obtain ⟨y,hy,hK⟩:=newZ_sound hK
   exact .inl ⟨_,_,hK,lockP_new _ _ _,(run_allocC hz hy t h).opV (by simp)⟩
  ·exact hK.elim
 ·split at hK
  ·rename_i cs hcs
   obtain ⟨y,hy,hK⟩:=newN_sound hK
   exact .inl ⟨_,_,hK,lockP_new _ _ _,(run_boxC hcs hy h).opV (by simp)⟩
  ·exact hK.elim
 ·split at hK
  ·rename_i kt et hu
   split at hK
   ·cases h with
    | mk nx bs=>
     simp only [foN_eq] at hK
     exact .inl ⟨_,(VH.mk nx bs).new _,hK,lockP_new _ _ _,run_makeMap.opV (by simp)⟩
   ·exact hK.elim
  ·exact hK.elim
 ·split at hK
  ·rename_i n cs kt et hx hi hu
   obtain ⟨v,hv,hr⟩:=lookupE_sound hx hi hu hK
   exact okP (by simp) hv hr
  ·exact hK.elim
 ·split at hK
  ·rename_i n cs kt et hx hi hu
   obtain ⟨h',hv,hl,hr⟩:=updateE_sound (.inl rfl) hx hi hu hK
   exact .inl ⟨_,h',hv,hl,hr.opV (by simp)⟩
  ·exact hK.elim
 ·split at hK
  ·rename_i n cs kt et hx hi hu
   obtain ⟨h',hv,hl,hr⟩:=updateE_sound (.inr rfl) hx hi hu hK
   exact .inl ⟨_,h',hv,hl,hr.opV (by simp)⟩
  ·exact hK.elim
 ·split at hK
  ·rename_i cs hcs
   rw [foL_eq] at hK
   exact okP (by simp) hK (run_build hcs h)
  ·exact hK.elim
 ·rename_i ty0 len parts0
  split at hK
  ·rename_i e hu
   split at hK
   ·rename_i b s z hs hz
    rw [foN_eq] at hK
    obtain ⟨h1,hK⟩:=cond_f hK
    simp only [Bool.and_eq_true] at h1
    obtain ⟨⟨g1,g3⟩,g4⟩:=h1
    split at hK
    ·rename_i cs hcs
     cases hpure:(belL 0 cs && cs.all VV.one && Nat.beq cs.length (len*s)) with
     | true=>
      rw [hpure] at hK
      simp only [cond_true] at hK
      simp only [Bool.and_eq_true] at hpure
      cases h with
      | mk nx bs=>
       simp only [foN_eq,foL_eq] at hK
       exact .inl ⟨_,(VH.mk nx bs).new _,hK,lockP_new _ _ _,(run_buildSliceV hu hs hz (Nat.le_of_ble_eq_true g1) (Nat.le_of_ble_eq_true g3) (Nat.eq_of_beq_eq_true g4) hpure.1.1 hpure.1.2 (Nat.eq_of_beq_eq_true hpure.2) hcs ⟨nx,bs⟩).opV (by simp)⟩
     | false=>
     rw [hpure] at hK
     simp only [cond_false] at hK
     rw [newE_eq] at hK
     exact .inl ⟨_,_,hK,lockP_new _ _ _,(run_buildSlice hu hs hz (Nat.le_of_ble_eq_true g1) (Nat.le_of_ble_eq_true g3) (Nat.eq_of_beq_eq_true g4) hcs h).opV (by simp)⟩
    ·exact hK.elim
   ·exact hK.elim
  ·exact hK.elim
 ·split at hK
  ·rename_i a agg size hx hty
   rw [foN_eq] at hK
   obtain ⟨v,hv,hr⟩:=run_loadop hx hty hK
   exact okP (by simp) hv hr
  ·rename_i cs agg size hx hty
   rw [foN_eq] at hK
   obtain ⟨h1,hK⟩:=cond_f hK
   have h1:=Nat.le_of_ble_eq_true h1
   cases agg with
   | true=>
    rw [cond_true,foL_eq] at hK
    exact okP (by simp) hK ((run_loadT hx hty h1).1 rfl)
   | false=>
    rw [cond_false] at hK
    split at hK
    ·rename_i v hv
     rw [fo_eq] at hK
     exact okP (by simp) hK ((run_loadT hx hty h1).2 rfl v hv)
    ·exact hK.elim
  ·exact hK.elim
 ·split at hK
  ·rename_i a b size hx hty
   rw [foN_eq] at hK
   obtain ⟨h',hv,hl,hr⟩:=run_storeop hx hty hK
   exact .inl ⟨_,h',hv,hl,hr.opV (by simp)⟩
  ·exact hK.elim
 ·split at hK
  ·rename_i a hx
   exact okP (by simp) hK (run_nilc hx (.inl ⟨_,rfl⟩))
  ·rename_i f a b hx
   exact okP (by simp) hK (run_nilc hx (.inr ⟨_,_,_,rfl⟩))
  ·rename_i cs hx
   exact okP (by simp) hK (run_nilcT hx)
  ·exact hK.elim
 ·split at hK
  ·rename_i _ _ hx hu
   exact okP (by simp) hK (run_ifnil hu hx (.inl ⟨⟨_,_,rfl⟩,rfl⟩) (.inl rfl))
  ·rename_i _ _ hx hu
   exact okP (by simp) hK (run_ifnil hu hx (.inl ⟨⟨_,_,rfl⟩,rfl⟩) (.inr rfl))
  ·rename_i _ hx hu
   exact okP (by simp) hK (run_ifnil hu hx (.inr ⟨rfl,rfl⟩) (.inl rfl))
  ·rename_i _ hx hu
   exact okP (by simp) hK (run_ifnil hu hx (.inr ⟨rfl,rfl⟩) (.inr rfl))
  ·exact hK.elim
 ·split at hK
  ·rename_i n L hx
   split at hK
   ·rename_i L' g s' t' b hn hu
    obtain ⟨h1,hK2⟩:=cond_f hK
    simp only [Bool.and_eq_true] at h1
    have h2:L'=L:=Nat.eq_of_beq_eq_true h1.1
    subst h2
    exact okP (by simp) hK2 (sl_nil hx hn (Nat.le_of_ble_eq_true h1.2) hu).1
   ·rename_i L' g s' t' b hn hu
    obtain ⟨h1,hK2⟩:=cond_f hK
    simp only [Bool.and_eq_true] at h1
    have h2:L'=L:=Nat.eq_of_beq_eq_true h1.1
    subst h2
    exact okP (by simp) hK2 (sl_nil hx hn (Nat.le_of_ble_eq_true h1.2) hu).2
   ·exact hK.elim
  ·rename_i L s0 g0 hx
   split at hK
   ·rename_i b hu
    obtain ⟨h1,hK2⟩:=cond_f hK
    exact okP (by simp) hK2 (tl_nil hx (Nat.le_of_ble_eq_true h1) hu).1
   ·rename_i b hu
    obtain ⟨h1,hK2⟩:=cond_f hK
    exact okP (by simp) hK2 (tl_nil hx (Nat.le_of_ble_eq_true h1) hu).2
   ·exact hK.elim
  ·rename_i yt _ _ _
   obtain ⟨v,hv,hr⟩:=binE_sound (yt:=yt) (y:=.const (.slice none 0 0)) hK
   exact okP (by simp) hv hr
 ·obtain ⟨v,hv,hr⟩:=binE_sound hK
  exact okP (by simp) hv hr
 ·split at hK
  ·rename_i ty v d hx hd
   obtain ⟨hni,hK⟩:=cond_ff hK
   obtain ⟨hb,hK2⟩:=cond_f hK
   rw [fo_eq] at hK2
   have:=Nat.eq_of_beq_eq_true hb
   subst this
   exact okP (by simp) hK2 (run_tya hx hd hni)
  ·exact hK.elim
 ·obtain ⟨v,hv,hr⟩:=run_un hK
  exact okP (by simp) hv hr
 ·split at hK
  ·rename_i k0 n d k hx hs hd
   obtain ⟨h1,h2⟩:=cond_f hK
   exact okP (by simp) h2 (run_conv hx hs hd h1)
  ·exact hK.elim
 ·split at hK
  ·exact hK.elim
  ·rename_i d hn hd
   rw [fo_eq] at hK
   exact okP (by simp) hK (run_mkIf hd (fun m hm=>hn m (by rw [hm])))
  ·exact hK.elim
 ·simp only [foL_eq] at hK
  exact okP (by simp) hK run_mkFn
 ·split at hK
  ·rename_i a fs hx hu
   split at hK
   ·rename_i fd hf
    split at hK
    ·rename_i b z hz
     obtain ⟨h1,h2⟩:=cond_f hK
     rw [addE_eq] at h2
     exact okP (by simp) h2 (run_fieldAddr hx hu hf hz (Nat.le_of_ble_eq_true h1))
    ·exact hK.elim
   ·exact hK.elim
  ·rename_i cs fs hx hu
   split at hK
   ·rename_i fd hf
    split at hK
    ·rename_i b z hz
     obtain ⟨h1,h2⟩:=cond_f hK
     simp only [Bool.and_eq_true] at h1
     rw [foL_eq] at h2
     exact okP (by simp) h2 (run_fieldAddrT hx hu hf hz (Nat.le_of_ble_eq_true h1.1))
    ·exact hK.elim
   ·exact hK.elim
  ·exact hK.elim
 ·split at hK
  ·rename_i cs fs hx hu
   split at hK
   ·rename_i fd hf
    split at hK
    ·rename_i v hv
     rw [fo_eq] at hK
     exact okP (by simp) hK (run_field hx hu hf hv)
    ·exact hK.elim
   ·exact hK.elim
  ·exact hK.elim
 ·split at hK
  ·rename_i a len cap k i e hx hi hu
   split at hK
   ·rename_i b s hs
    obtain ⟨h1,hK⟩:=cond_f hK
    have h1':0<=i/\i<(len:Int):=by simpa using h1
    split at hK
    ·rename_i _ n off
     rw [foN_eq] at hK
     exact okP (by simp) hK (run_idxS hx hi hu hs h1' (fun B R w p _ hp=>hp.add (i.toNat*s)))
    ·rename_i n ix2 j off _
     split at hK
     ·rename_i st ok g hn
      obtain ⟨h2,hK2⟩:=cond_f hK
      simp only [Bool.and_eq_true,decide_eq_true_eq] at h2
      obtain ⟨⟨g1,g2⟩,g3⟩:=h2
      have g1':st=s:=Nat.eq_of_beq_eq_true g1
      have g2':off=0:=Nat.eq_of_beq_eq_true g2
      subst g1'; subst g2'
      refine okP (by simp) hK2 (run_idxS hx hi hu hs h1' (fun B R w p em hp=>?_))
      simp only [ARel] at hp ⊢
      have hst:=(em.arr n _ _ _ hn).1
      rw [hp,add_add,hst]
      congr 1
      rw [show (j+i).toNat=j.toNat+i.toNat by omega,Nat.add_mul]
      omega
     ·exact hK.elim
    ·exact hK.elim
    ·rw [foN_eq] at hK
     exact okP (by simp) hK (run_idxS hx hi hu hs h1' (fun B R w p _ hp=>hp.add (i.toNat*s)))
    ·rw [foN_eq] at hK
     obtain ⟨h2,hK2⟩:=cond_f hK
     have h2':s=1:=Nat.eq_of_beq_eq_true h2
     subst h2'
     exact okP (by simp) hK2 (run_idxS hx hi hu hs h1' (fun B R w p _ hp=>by
      have:=hp.add i.toNat
      rwa [Nat.mul_one]))
    ·exact hK.elim
   ·exact hK.elim
  ·rename_i tg j C k i e hx hi hu
   split at hK
   ·rename_i b s hs
    obtain ⟨h1,hK⟩:=cond_f hK
    have h1':0<=i/\i<(C:Int):=by simpa using h1
    split at hK
    ·rename_i m _
     split at hK
     ·rename_i t' r C' g te hn
      obtain ⟨h2,hK2⟩:=cond_f hK
      simp only [Bool.and_eq_true,decide_eq_true_eq] at h2
      obtain ⟨⟨⟨g1,g2⟩,g3⟩,g4⟩:=h2
      obtain rfl:s=1:=Nat.eq_of_beq_eq_true g1
      obtain rfl:t'=tg:=Nat.eq_of_beq_eq_true g2
      obtain rfl:C'=C:=Nat.eq_of_beq_eq_true g3
      exact okP (by simp) hK2 (run_idxH hx hi hu hs hn g4 h1')
     ·exact hK.elim
    ·exact hK.elim
   ·exact hK.elim
  ·rename_i n L k i e hx hi hu
   split at hK
   ·rename_i b s hs
    obtain ⟨h1,hK⟩:=cond_f hK
    have h1':0<=i/\i<(L:Int):=by simpa using h1
    split at hK
    ·rename_i L' g s' t' hn
     obtain ⟨h2,hK2⟩:=cond_f hK
     simp only [Bool.and_eq_true] at h2
     obtain ⟨⟨g1,g2⟩,g3⟩:=h2
     have g1':s'=s:=Nat.eq_of_beq_eq_true g1
     have g2':L'=L:=Nat.eq_of_beq_eq_true g2
     subst g1'; subst g2'
     rw [foN_eq] at hK2
     exact okP (by simp) hK2 (run_idxV hx hi hu hs hn h1')
    ·exact hK.elim
   ·exact hK.elim
  ·rename_i L s0 g k i e hx hi hu
   split at hK
   ·rename_i b s hs
    obtain ⟨h1,hK⟩:=cond_f hK
    have h1':0<=i/\i<(L:Int):=by simpa using h1
    obtain ⟨h2,hK2⟩:=cond_f hK
    have h2':s0=s:=Nat.eq_of_beq_eq_true h2
    subst h2'
    rw [foL_eq] at hK2
    exact okP (by simp) hK2 (run_idxT hx hi hu hs h1')
   ·exact hK.elim
  ·rename_i n L s0 j len k i e hx hi hu
   split at hK
   ·rename_i b s hs
    obtain ⟨h1,hK⟩:=cond_f hK
    have h1':0<=i/\i<(len:Int):=by simpa using h1
    split at hK
    ·rename_i L' g s' t' hn
     obtain ⟨h2,hK2⟩:=cond_f hK
     simp only [Bool.and_eq_true] at h2
     have g1':s0=s:=Nat.eq_of_beq_eq_true h2.1.1.2
     subst g1'
     exact okP (by simp) hK2 (run_idxSub hx hi hu hs h1')
    ·exact hK.elim
   ·exact hK.elim
  ·rename_i cs k i len e hx hi hu
   split at hK
   ·rename_i b s hs
    obtain ⟨h1,h2⟩:=cond_f hK
    have h1':0<=i/\i<(len:Int):=by simpa using h1
    obtain ⟨ns,h3,rfl⟩:=numsE_sound h2
    obtain ⟨h4,h5⟩:=cond_f h3
    simp only [Bool.and_eq_true] at h4
    have g1':s=1:=Nat.eq_of_beq_eq_true h4.1
    have g2':ns.length=len:=Nat.eq_of_beq_eq_true h4.2
    subst g1'
    exact okP (by simp) h5 (run_idxTA hx hi hu hs g2' h1')
   ·exact hK.elim
  ·rename_i va k i len e hx hi hu
   split at hK
   ·rename_i b s hs
    obtain ⟨h1,h2⟩:=cond_f hK
    rw [foN_eq] at h2
    have h1':0<=i/\i<(len:Int):=by simpa using h1
    split at h2
    ·rename_i n off
     rcases bif_cases h2 with ⟨_,h2⟩ | ⟨_,h2⟩
     ·refine okP (by simp) h2 (run_idxA hx hi hu hs h1' (fun B R w p _ hp=>?_))
      obtain ⟨b,hb,rfl⟩:=hp
      exact ⟨b,hb,add_lit _ _ _⟩
     ·rw [addE_eq] at h2
      exact okP (by simp) h2 (run_idxA hx hi hu hs h1' (fun B R w p _ hp=>hp.add (i.toNat*s)))
    ·rw [addE_eq] at h2
     exact okP (by simp) h2 (run_idxA hx hi hu hs h1' (fun B R w p _ hp=>hp.add (i.toNat*s)))
   ·exact hK.elim
  ·exact hK.elim
 ·split at hK
  ·rename_i cs k i len e hx hi hu
   split at hK
   ·rename_i b s hs
    obtain ⟨m,v,h1,h2,h3,h4⟩:=idxE_sound _ _ hK
    exact okP (by simp) h4 (run_index hx hi hu hs h1 (by omega) h3)
   ·exact hK.elim
  ·exact hK.elim
 ·split at hK
  ·rename_i vs hx
   split at hK
   ·rename_i v hv
    rw [fo_eq] at hK
    exact okP (by simp) hK (run_extract hx hv)
   ·exact hK.elim
  ·exact hK.elim
 ·rename_i c
  split at hK
  ·rename_i f hc
   split at hK
   ·rename_i g first cap hf
    split at hK
    ·rename_i fn hfn
     obtain ⟨h1,hK⟩:=cond_f hK
     simp only [Bool.and_eq_true,Bool.not_eq_true'] at h1
     rw [foL_eq] at hK
     obtain ⟨r,h',hr,hl,hcv⟩:=hg _ _ _ _ _ hK
     cases r with
     | ret v=>
      refine .inl ⟨v,h',hr,hl,?_⟩
      intro F hF o hop B R a w e ht next Q hn
      obtain ⟨xs,hx1,hx2⟩:=run_callop (P:=P) (w:=w) hc hf hfn h1.1 h1.2 ht o hop
      refine ⟨fun f _=>hF.fn f,?_⟩
      rw [Oper.semAt_eq _ _ _ (by rw [hop]; simp),hx2]
      refine ⟨fun hd=>(by rw [hF.dep] at hd; cases hd),hF.calls _ _ _ _ _ ((hcv B R w xs e hx1).mono ?_)⟩
      rintro en w' ⟨R',n1,e1,x,hv,rfl⟩
      exact hn x R' w' n1 e1 hv
     | panic v=>
      refine .inr ⟨v,h',hr,hl,?_⟩
      intro F hF o hop B R a w e ht next Q hn
      obtain ⟨xs,hx1,hx2⟩:=run_callop (P:=P) (w:=w) hc hf hfn h1.1 h1.2 ht o hop
      refine ⟨fun f _=>hF.fn f,?_⟩
      rw [Oper.semAt_eq _ _ _ (by rw [hop]; simp),hx2]
      refine ⟨fun hd=>(by rw [hF.dep] at hd; cases hd),hF.calls _ _ _ _ _ ((hcv B R w xs e hx1).mono ?_)⟩
      rintro en w' ⟨R',n1,e1,x,hv,rfl⟩
      exact hn x R' w' n1 e1 hv
    ·exact hK.elim
   ·rename_i n hf
    rw [foL_eq] at hK
    obtain ⟨r,h',hr,hl,hcv⟩:=hg _ _ _ _ _ hK
    have key:∀ (R:Rn) (a:Act) (w:World),TRel R t a->∀ o:Oper,o.op=.call c->∃ b,R.blk n=some b/\(execOp a.eval o).run P w=(Instr.yield b (c.args.toList.map a.eval).toArray).run P w:=by
     intro R a w ht o hop
     have rr:=evO_rel ht f
     rw [hf] at rr
     obtain ⟨b,hb,hx⟩:=rr
     refine ⟨b,hb,?_⟩
     unfold execOp
     rw [hop]
     simp only [resolve,hc,hx,Deferred.ofValue,Sem.run_bind,Sem.run_pure,Result.andThen_ok,invoke]
     congr 2
     apply Array.ext'
     simp
    cases r with
    | ret v=>
     refine .inl ⟨v,h',hr,hl,?_⟩
     intro F hF o hop B R a w e ht next Q hn
     obtain ⟨b,hb,hrun⟩:=key R a w ht o hop
     obtain ⟨f',tmps,as,bd,hy,hrd⟩:=hcv F hF B R w _ b e (evL_rel ht c.args.toList) hb
     refine ⟨fun f _=>hF.fn f,?_⟩
     rw [Oper.semAt_eq _ _ _ (by rw [hop]; simp),hrun,hy]
     refine ⟨fun hd=>(by rw [hF.dep] at hd; cases hd),hrd.mono ?_⟩
     rintro en w' ⟨R',n1,e1,x,hv,rfl⟩
     exact hn x R' w' n1 e1 hv
    | panic v=>
     refine .inr ⟨v,h',hr,hl,?_⟩
     intro F hF o hop B R a w e ht next Q hn
     obtain ⟨b,hb,hrun⟩:=key R a w ht o hop
     obtain ⟨f',tmps,as,bd,hy,hrd⟩:=hcv F hF B R w _ b e (evL_rel ht c.args.toList) hb
     refine ⟨fun f _=>hF.fn f,?_⟩
     rw [Oper.semAt_eq _ _ _ (by rw [hop]; simp),hrun,hy]
     refine ⟨fun hd=>(by rw [hF.dep] at hd; cases hd),hrd.mono ?_⟩
     rintro en w' ⟨R',n1,e1,x,hv,rfl⟩
     exact hn x R' w' n1 e1 hv
   ·exact hK.elim
  ·rename_i x name hc
   split at hK
   ·rename_i ty v0 hf
    split at hK
    ·rename_i g hm
     split at hK
     ·rename_i fn hfn
      obtain ⟨h1,hK⟩:=cond_f hK
      simp only [Bool.and_eq_true,Bool.not_eq_true'] at h1
      rw [foL_eq] at hK
      obtain ⟨r,h',hr,hl,hcv⟩:=hg _ _ _ _ _ hK
      cases r with
      | ret v=>
       refine .inl ⟨v,h',hr,hl,?_⟩
       intro F hF o hop B R a w e ht next Q hn
       obtain ⟨xs,hx1,hx2⟩:=run_invoke (P:=P) (w:=w) hc hf hm hfn h1.1 h1.2 ht o hop
       refine ⟨fun f _=>hF.fn f,?_⟩
       rw [Oper.semAt_eq _ _ _ (by rw [hop]; simp),hx2]
       refine ⟨fun hd=>(by rw [hF.dep] at hd; cases hd),hF.calls _ _ _ _ _ ((hcv B R w xs e hx1).mono ?_)⟩
       rintro en w' ⟨R',n1,e1,x,hv,rfl⟩
       exact hn x R' w' n1 e1 hv
      | panic v=>
       refine .inr ⟨v,h',hr,hl,?_⟩
       intro F hF o hop B R a w e ht next Q hn
       obtain ⟨xs,hx1,hx2⟩:=run_invoke (P:=P) (w:=w) hc hf hm hfn h1.1 h1.2 ht o hop
       refine ⟨fun f _=>hF.fn f,?_⟩
       rw [Oper.semAt_eq _ _ _ (by rw [hop]; simp),hx2]
       refine ⟨fun hd=>(by rw [hF.dep] at hd; cases hd),hF.calls _ _ _ _ _ ((hcv B R w xs e hx1).mono ?_)⟩
       rintro en w' ⟨R',n1,e1,x,hv,rfl⟩
       exact hn x R' w' n1 e1 hv
     ·exact hK.elim
    ·exact hK.elim
   ·exact hK.elim
  ·rename_i hc
   rw [foL_eq] at hK
   obtain ⟨h1,hK,hl1,htd⟩:=frzA_sound hK
   obtain ⟨v,h',hv,hl,hr,_⟩:=appE_sound hc hK
   exact .inl ⟨v,h',hv,lockP_trans hl1 hl,(htd.runV hr).opV (by simp)⟩
  ·rename_i hc
   rw [foL_eq] at hK
   obtain ⟨v,h',hv,hl,hr⟩:=copyE_sound hc hK
   exact .inl ⟨v,h',hv,hl,hr.opV (by simp)⟩
  ·rename_i hc
   rw [foL_eq] at hK
   obtain ⟨v,h',hv,hl,hr⟩:=clrE_sound hc hK
   exact .inl ⟨v,h',hv,hl,hr.opV (by simp)⟩
  ·rename_i b _ hc
   rw [foL_eq] at hK
   split at hK
   ·rename_i n hl _ _
    split at hK
    ·rename_i ty ks vk es hty hn
     split at hK
     ·rename_i kt et hu
      exact okP (by simp) hK (run_lenM hc hl hty hn hu)
     ·exact hK.elim
    ·exact hK.elim
   ·obtain ⟨v,hv,hr⟩:=builtinE_sound hc hK
    exact okP (by simp) hv hr
 ·split at hK
  ·rename_i _ ty v hx
   rename_i x _
   refine .inr ⟨_,h,hK,lockP_refl _ _,?_⟩
   intro F hF o hop B R a w e ht next Q hn
   have r:=evO_rel ht x
   rw [hx] at r
   refine ⟨fun f _=>hF.fn f,?_⟩
   rw [Oper.semAt_eq _ _ _ (by rw [hop]; simp)]
   have hr':=r
   obtain ⟨y,hy,hq⟩:=r
   have:(execOp a.eval o).run P w=.halt (.panic (a.eval x)) w:=by
    unfold execOp
    rw [hop]
    simp [hq,Instr.panic]
   rw [this]
   exact hn (a.eval x) R w (Nxt.refl _ _ _ e.fresh) e hr'
  ·exact hK.elim
 ·obtain ⟨v,h',k1,k2,k3⟩:=mkSl_sound (lock:=lock) hK
  exact .inl ⟨v,h',k1,k2,k3.opV (by simp)⟩
 ·split at hK
  ·rename_i n L e hx hu
   split at hK
   ·rename_i b L' g s' t' hs hn
    obtain ⟨l,hl,hK⟩:=bndE_sound hK
    obtain ⟨u,hh,hK⟩:=bndE_sound hK
    obtain ⟨m,hm,hK⟩:=bndE_sound hK
    obtain ⟨h1,hK2⟩:=cond_f hK
    simp only [Bool.and_eq_true] at h1
    have hL:L'=L:=Nat.eq_of_beq_eq_true h1.1
    subst hL
    exact okP (by simp) hK2 (run_slice3 hx hu hs hn hl hh hm (by simpa using h1.2))
   ·exact hK.elim
  ·exact hK.elim
 ·split at hK
  ·rename_i a len cap e hx hu
   split at hK
   ·rename_i b s hs
    obtain ⟨l,hl,hK⟩:=bndE_sound hK
    obtain ⟨u,hh,hK⟩:=bndE_sound hK
    obtain ⟨h1,hK⟩:=cond_f hK
    have h1':0<=l/\l<=u/\u<=(cap:Int):=by simpa using h1
    split at hK
    ·rename_i _ n off
     rw [foN_eq] at hK
     exact okP (by simp) hK (run_sliceS hx hu hs hl hh h1' (fun B R w p _ hp=>hp.add (l.toNat*s)))
    ·rename_i n ix2 j off _ _ _
     split at hK
     ·rename_i st ok g hn
      obtain ⟨h2,hK2⟩:=cond_f hK
      simp only [Bool.and_eq_true,decide_eq_true_eq] at h2
      obtain ⟨⟨g1,g2⟩,g3⟩:=h2
      have g1':st=s:=Nat.eq_of_beq_eq_true g1
      have g2':off=0:=Nat.eq_of_beq_eq_true g2
      subst g1'; subst g2'
      refine okP (by simp) hK2 (run_sliceS hx hu hs hl hh h1' (fun B R w p em hp=>?_))
      simp only [ARel] at hp ⊢
      have hst:=(em.arr n _ _ _ hn).1
      rw [hp,add_add,hst]
      congr 1
      rw [show (j+l).toNat=j.toNat+l.toNat by omega,Nat.add_mul]
      omega
     ·exact hK.elim
    ·exact hK.elim
    ·rw [foN_eq] at hK
     exact okP (by simp) hK (run_sliceS hx hu hs hl hh h1' (fun B R w p _ hp=>hp.add (l.toNat*s)))
    ·exact hK.elim
    ·exact hK.elim
   ·exact hK.elim
  ·rename_i e hx hu
   split at hK
   ·rename_i b s hs
    obtain ⟨l,hl,hK⟩:=bndE_sound hK
    obtain ⟨u,hh,hK⟩:=bndE_sound hK
    obtain ⟨h1,hK⟩:=cond_f hK
    exact okP (by simp) hK (run_sliceN hx hu hl hh (by simpa using h1) hs)
   ·exact hK.elim
  ·rename_i n L e hx hu
   split at hK
   ·rename_i b s hs
    obtain ⟨l,hl,hK⟩:=bndE_sound hK
    obtain ⟨u,hh,hK⟩:=bndE_sound hK
    obtain ⟨h1,hK⟩:=cond_f hK
    have h1':0<=l/\l<=u/\u<=(L:Int):=by simpa using h1
    split at hK
    ·rename_i L' g s' t' hn
     obtain ⟨h2,hK2⟩:=cond_f hK
     have h2':L'=L:=Nat.eq_of_beq_eq_true h2
     subst h2'
     rw [foN_eq] at hK2
     exact okP (by simp) hK2 (run_sliceV hx hu hs hn hl hh h1')
    ·exact hK.elim
   ·exact hK.elim
  ·rename_i L s0 g e hx hu
   split at hK
   ·rename_i b s hs
    obtain ⟨l,hl,hK⟩:=bndE_sound hK
    obtain ⟨u,hh,hK⟩:=bndE_sound hK
    obtain ⟨h1,hK⟩:=cond_f hK
    have h1':0<=l/\l<=u/\u<=(L:Int):=by simpa using h1
    obtain ⟨h2,hK2⟩:=cond_f hK
    have h2':s0=s:=Nat.eq_of_beq_eq_true h2
    subst h2'
    exact okP (by simp) hK2 (run_sliceT hx hu hs hl hh h1')
   ·exact hK.elim
  ·rename_i n L s0 i k e hx hu
   split at hK
   ·rename_i b s hs
    obtain ⟨l,hl,hK⟩:=bndE_sound hK
    obtain ⟨u,hh,hK⟩:=bndE_sound hK
    obtain ⟨h1,hK⟩:=cond_f hK
    have h1':0<=l/\l<=u/\(i:Int)+u<=(L:Int):=by simpa using h1
    obtain ⟨h2,hK2⟩:=cond_f hK
    have h2':s0=s:=Nat.eq_of_beq_eq_true h2
    subst h2'
    exact okP (by simp) hK2 (run_sliceB hx hu hs hl hh h1')
   ·exact hK.elim
  ·rename_i n off len e hx hu
   split at hK
   ·rename_i b s hs
    obtain ⟨l,hl,hK⟩:=bndE_sound hK
    obtain ⟨u,hh,hK⟩:=bndE_sound hK
    obtain ⟨h1,hK⟩:=cond_f hK
    have h1':0<=l/\l<=u/\u<=(len:Int):=by simpa using h1
    rcases bif_cases hK with ⟨_,hK⟩ | ⟨_,hK⟩
    ·rw [foN_eq] at hK
     refine okP (by simp) hK (run_sliceA hx hu hs hl hh h1' (fun R p hp=>?_))
     obtain ⟨b,hb,rfl⟩:=hp
     exact ⟨b,hb,add_lit _ _ _⟩
    ·rw [foN_eq] at hK
     exact okP (by simp) hK (run_sliceA hx hu hs hl hh h1' (fun R p hp=>hp.add (l.toNat*s)))
   ·exact hK.elim
  ·exact hK.elim
 ·exact hK.elim
theorem opE_sound {call:CallT} (hg:Good P call) {lock:Nat} {op:Op} {t:Slots} {h:VH} {K Kp:VV->VH->Prop} (hK:opE P call lock op t h K Kp) :
  (∃ v h',K v h'/\LockP lock h h'/\OpV P op t h v h') ∨ (∃ v h',Kp v h'/\LockP lock h h'/\OpX P op t h v h'):=by
 obtain ⟨t1,h1,hK,hl,ht⟩:=tellO_sound hK
 rcases opE0_sound hg hK with ⟨v,h',k1,k2,k3⟩ | ⟨v,h',k1,k2,k3⟩
 ·exact .inl ⟨v,h',k1,lockP_trans hl k2,ht.opV k3⟩
 ·exact .inr ⟨v,h',k1,lockP_trans hl k2,ht.opX k3⟩
end
end Go.Sx
