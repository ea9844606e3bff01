/- A body, evaluated along its spine: lists in slots are told as data behind some regions. -/
import Derived.Test.YtjpjicnfpikdlaaSxTt
namespace Go.Sx
open Go
def tellSs:List Nat->Slots->VH->(Slots->VH->Prop)->Prop
 | [],t,h,K=>K t h
 | d::r,t,h,K=>
  match look t d,h with
  | .sl b L,⟨nx,bs⟩=>
   match (VH.mk nx bs).at b with
   | .vec L' g s _=>bif (Nat.beq L' L && Nat.ble 1 s) then tellSs r ((d,.tl L s g)::t) ⟨nx,(b,.gone)::bs⟩ K else False
   | _=>False
  | _,_=>False
theorem tellSs_sound:∀ (l:List Nat) (t:Slots) (h:VH) (K:Slots->VH->Prop),tellSs l t h K->∃ t' h',K t' h'/\ToldT t h t' h':=by
 intro l
 induction l with
 | nil=>exact fun t h K hK=>⟨t,h,hK,ToldT.refl _ _⟩
 | cons d r ih=>
  intro t h K hK
  unfold tellSs at hK
  split at hK
  ·rename_i b L nx bs hd
   split at hK
   ·rename_i L' g s ty hb
    obtain ⟨hc,hK⟩:=cond_f hK
    simp only [Bool.and_eq_true] at hc
    have hL:=Nat.eq_of_beq_eq_true hc.1
    subst hL
    obtain ⟨t',h',k1,k3⟩:=ih _ _ K hK
    exact ⟨t',h',k1,(told_one hd hb).trans k3⟩
   ·exact hK.elim
  ·exact hK.elim
def spinE (P:Program) (call:CallT) (lsp:Nat->Option LT) (un n:Nat) (ts:Nat->List Nat):Code->Slots->VH->CK->Prop
 | .seq a b,t,h,K=>spinE P call lsp un n ts a t h fun e t h=>match e with
   | .normal=>spinE P call lsp un n ts b t h K
   | e=>K e t h
 | .region id ops d,t,h,K=>codeE P call lsp true un n 0 (.region id ops d) t h fun e t h=>tellSs (ts id) t h (K e)
 | c,t,h,K=>codeE P call lsp true un n 0 c t h K
def callSp (P:Program) (call:CallT) (lsp:Nat->Option LT) (un:Nat) (ts:Nat->List Nat) (f:FuncId) (args:List VV) (h:VH) (K:VRes->VH->Prop):Prop:=
 match P.funcs[f]? with
 | some fn=>(match fn.body with
  | some c=>bif Nat.ble args.length fn.ntmps then foN fn.ntmps fun n=>argT 0 args fun t=>spinE P call lsp un n ts c t h (endE P fn K) else False
  | none=>False)
 | none=>False
section
variable {P:Program}
theorem spin_sound (hmix:P.follows .mixedOrders=true) {call:CallT} (hg:Good P call) {lsp:Nat->Option LT} {un n:Nat} {ts:Nat->List Nat}:∀ (c:Code) (t:Slots) (h:VH) (K:CK),
  (∀ id T,lsp id=some T->∀ b ∈ blocksOf id c,LSound P true (.block id b) n T)->spinE P call lsp un n ts c t h K->∃ e t' h',K e t' h'/\SemC P true c n t h e t' h':=by
 intro c
 have base:∀ (c:Code) (t:Slots) (h:VH) (K:CK),(∀ id T,lsp id=some T->∀ b ∈ blocksOf id c,LSound P true (.block id b) n T)->codeE P call lsp true un n 0 c t h K->∃ e t' h',K e t' h'/\SemC P true c n t h e t' h':=fun c t h K hl hK=>by
  obtain ⟨e,t',h',k1,_,k3⟩:=code_sound (pl:=true) hmix hg c t h K hl hK
  exact ⟨e,t',h',k1,k3⟩
 induction c with
 | seq a b iha ihb=>
  intro t h K hls hK
  simp only [spinE] at hK
  obtain ⟨e,t1,h1,hK,hs1⟩:=iha t h _ (fun id T hT b hb=>hls id T hT b (by simp [blocksOf,hb])) hK
  by_cases hn:e=.normal
  ·subst hn
   obtain ⟨e2,t2,h2,hK,hs2⟩:=ihb t1 h1 K (fun id T hT b hb=>hls id T hT b (by simp [blocksOf,hb])) hK
   exact ⟨e2,t2,h2,hK,seq_sound hs1 hs2⟩
  ·refine ⟨e,t1,h1,?_,seq_stop hn hs1⟩
   cases e <;> first | exact (hn rfl).elim | exact hK
 | region id ops d=>
  intro t h K hls hK
  simp only [spinE] at hK
  obtain ⟨e,t1,h1,hK,hs⟩:=base _ t h _ hls hK
  obtain ⟨t2,h2,hK,ht⟩:=tellSs_sound _ _ _ _ hK
  exact ⟨e,t2,h2,hK,ht.sem hs⟩
 | _=>exact base _
theorem calls_spin (hmix:P.follows .mixedOrders=true) {call:CallT} (hg:Good P call) {lsp:Nat->Option LT} {un:Nat} {ts:Nat->List Nat} {f:FuncId}
  (hl:∀ fn c,P.funcs[f]? = some fn->fn.body=some c->∀ id T,lsp id=some T->∀ b ∈ blocksOf id c,LSound P true (.block id b) fn.ntmps T)
  {args:List VV} {h:VH} {K:VRes->VH->Prop} (hK:callSp P call lsp un ts f args h K):∃ r h',K r h'/\CallsV P f args h r h':=by
 unfold callSp at hK
 split at hK
 ·rename_i fn hf
  split at hK
  ·rename_i c hb
   obtain ⟨hle,hK⟩:=cond_f hK
   have hle':=Nat.le_of_ble_eq_true hle
   rw [foN_eq] at hK
   obtain ⟨t,hK,ht⟩:=argT_sound args 0 _ hK
   obtain ⟨e,t',h',hK,hs⟩:=spin_sound hmix hg c t h _ (hl fn c hf hb) hK
   have fin:∀ (r:VRes),(∀ (B:Nat) (R:Rn) (w:World) (ex:Exit) (a':Act) (w':World),PostC true B [] fn.ntmps R h.at w e t' h' ex a' w'->bodyPostM Fence.wide 0 P fn (fun en w'=>∃ R',Nxt h.at R w h'.at R' w'/\Emb B R' h'.at w'/\ResRel R' r en) ex a' w') ->
     CallsV P f args h r h':=by
    intro r hp B R w xs he hx
    have hlen:=hx.length
    refine callsIn_wide.1 (callsIn_of_wp_marks (n:=0) hf hb trivial ?_ rfl)
    have:=hs Fence.wide (wf_wide P) (fun _=>rfl) B [] R _ w he (args_rel hx ht (fn.ntmps - xs.toArray.size)) (by simp; omega) rfl
    exact wpIn_mono this (fun ex a' w' h1=>hp B R w ex a' w' h1)
   cases e with
   | normal=>
    obtain ⟨v,hK,hv⟩:=results_sound hK
    refine ⟨_,h',hK,fin _ ?_⟩
    rintro B R w ex a' w' ⟨R',rs,n1,e1,t1,s1,d1,m1,q1,z1,rfl⟩
    show LeavesInM Fence.wide 0 P fn a'.tmps _ a'.defers .returning w'
    rw [d1,List.append_nil]
    refine leaves_marks (by simp) rs w' m1 e1 n1 q1 (fun w'' e2 n2=>?_)
    obtain ⟨x,x1,x2⟩:=hv B R' a' w'' e2 t1
    exact ⟨x,x2,R',n2,e2,x,x1,rfl⟩
   | ret=>
    obtain ⟨v,hK,hv⟩:=results_sound hK
    refine ⟨_,h',hK,fin _ ?_⟩
    rintro B R w ex a' w' ⟨R',rs,n1,e1,t1,s1,d1,m1,q1,z1,rfl⟩
    show LeavesInM Fence.wide 0 P fn a'.tmps _ a'.defers .returning w'
    rw [d1,List.append_nil]
    refine leaves_marks (by simp) rs w' m1 e1 n1 q1 (fun w'' e2 n2=>?_)
    obtain ⟨x,x1,x2⟩:=hv B R' a' w'' e2 t1
    exact ⟨x,x2,R',n2,e2,x,x1,rfl⟩
   | panic v=>
    refine ⟨_,h',hK,fin _ ?_⟩
    rintro B R w ex a' w' ⟨R',rs,n1,e1,t1,s1,d1,m1,q1,z1,x,hx1,rfl⟩
    show LeavesInM Fence.wide 0 P fn a'.tmps _ a'.defers (.panicking _) w'
    rw [d1,List.append_nil]
    refine leaves_marks (by simp) rs w' m1 e1 n1 q1 (fun w'' e2 n2=>?_)
    exact ⟨R',n2,e2,x,hx1,rfl⟩
   | exit id=>exact hK.elim
   | goto l=>exact hK.elim
  ·exact hK.elim
 ·exact hK.elim
end
end Go.Sx
