/- stream: Ne1 Ne2 Ne3 Ne4, in one text. -/
import Derived.Test.YtnfkbbcbehnnkaaND
/- nose: what was tasted, evaluated. -/

namespace Go.Sx.Nos
open Go Go.Sx Go.Proofs
set_option maxRecDepth 1000000

def at2 (f g : FuncId) (lf lg : List (Nat × LT)) : FuncId → Nat → Option LT := fun x id => bif Nat.beq x f then tabB lf id else bif Nat.beq x g then tabB lg id else none
def sIni : St := ([zeroN], dIni)
def sT (p : Pn) : St := stp (p.T.flatMap (lkT p)) sIni
/-- What is laid down. -/
def sAll (p : Pn) : St := stp (links p) sIni
def taL (p : Pn) (c1 c2 c3 : Nat) (s : St) : List (Nat × LT) := [(0, lIni p c1 c2 c3 [zeroN] (fun _ => 0)), (2, lFar p c1 c2 c3 [zeroN]), (6, lM p c1 c2 c3 s.1 s.1.length s.2)]
def lkL (p : Pn) (c1 c2 c3 : Nat) : List (Nat × LT) := [(0, lOut p c1 c2 c3 sIni), (4, lStd p c1 c2 c3 (sT p))]
def tastH (p : Pn) (c1 c2 c3 : Nat) : VH := ⟨4, [(0, arD p), (1, arT p), (2, arS p), (3, pnB p c1 c2 c3)]⟩
def taR (Q : VRes → List VB → Prop) : VRes → VH → Prop := fun r h => Q r [h.at 0, h.at 1, h.at 2, h.at 3, h.at 4, h.at 5]
theorem taste_ev (p : Pn) (c1 c2 c3 : Nat) (s : St) (Q : VRes → List VB → Prop) : callN Try.prog noSpec (at2 63 70 (taL p c1 c2 c3 s) (lkL p c1 c2 c3)) 10 20 0 (.fn 63) [.ptr (.own 3 0)] (tastH p c1 c2 c3) (taR Q) =
  (KeyLaw Try.prog 73 (kU) ∧ FitP 0 (VH.mk 8 (ns0.zip (B0 p c1 c2 c3 [zeroN] (fun x => (0 : Int)) fun x => (0 : Int)))) (ds0.zip (V0 (0 : Int))) (VH.mk 8 (ns0.zip (B0 p c1 c2 c3 [zeroN] (fun x => (0 : Int)) fun x => (0 : Int)))) (ds0.zip (V0 (0 : Int))) ∧ ∀ (g : Nat → Int), (∀ (k : Nat), k < 65 → g k = WW) → FitP 0 (VH.mk 8 (ns0.zip (B0 p c1 c2 c3 [zeroN] (fun x => (0 : Int)) g))) ((27, I 0) :: ds0.zip (V0 (65 : Int))) (VH.mk 8 (ns0.zip (B0 p c1 c2 c3 [zeroN] (fun x => (0 : Int)) fun x => WW))) (ds2.zip (V0 (0 : Int))) ∧ ∀ (d : Nat → Int), (∀ (k : Nat), k < 4225 → d k = dIni k) → FitP 0 (VH.mk (10) ((9, VB.loop true none ((45, VV.func 70 [] [VV.ptr (VA.own (8) 0)]) :: (44, VV.ptr (VA.own 3 0)) :: ds2.zip (V0 (65 : Int))) (131) #[46, 47].toList ((Code.region 15 #[Oper.mk (some 7) (Op.alloc 117) 0 "nose.go:114" #[] none, Oper.mk none (Op.store 117 (Operand.tmp 7) (Operand.tmp 46)) 0 "nose.go:114" #[Edge.mk 0 Ground.data, Edge.mk 0 Ground.phase] none] false).seq (Code.region 16 #[Oper.mk (some 8) (Op.assign (Operand.tmp 47)) 3 "nose.go:114" #[] none] false)) (Code.block 5 (Code.region 17 #[Oper.mk (some 48) (Op.load 79 (Operand.tmp 3)) 79 "nose.go:115" #[] none, Oper.mk (some 49) (Op.indexAddr 117 (Operand.tmp 7) (Operand.const (Value.int IntKind.i64 (0 : Int)))) 0 "nose.go:115" #[] none, Oper.mk (some 50) (Op.load 73 (Operand.tmp 49)) 73 "nose.go:115" #[Edge.mk 1 Ground.data] none, Oper.mk (some 51) (Op.indexAddr 117 (Operand.tmp 7) (Operand.const (Value.int IntKind.i64 (1 : Int)))) 0 "nose.go:115" #[] none, Oper.mk (some 52) (Op.load 73 (Operand.tmp 51)) 73 "nose.go:115" #[Edge.mk 3 Ground.data] none, Oper.mk (some 53) (Op.move (Operand.tmp 8)) 3 "nose.go:115" #[] none, Oper.mk (some 54) (Op.call (Call.mk (Callee.value (Operand.func 69)) #[Operand.tmp 48, Operand.tmp 50, Operand.tmp 52, Operand.tmp 53] #[79, 73, 73, 3])) 0 "nose.go:115" #[Edge.mk 0 Ground.data, Edge.mk 2 Ground.data, Edge.mk 4 Ground.data, Edge.mk 5 Ground.data] none] false))) :: (8, VB.cells [VV.ptr (VA.own 3 0)] 104) :: ns0.zip (B0 p c1 c2 c3 [zeroN] d fun x => WW))) [(18, I 0), (17, I (↑p.T.length : Int)), (16, VV.slice (VA.el 1 [] (0 : Int) 0) p.T.length c2), (15, VV.ptr (VA.own 3 (1))), (14, VV.ptr (VA.own 3 0)), (13, VV.ptr (VA.own 3 0)), (0, VV.yld (9)), (1, VV.ptr (VA.own (8) 0))] (VH.mk 10 (nsO.zip (BO p c1 c2 c3 sIni.fst sIni.snd))) (dsO.zip (VO p c2 (0 : Int))) ∧ (PnOk p ∧ Gd p sIni.fst) ∧ FitP 0 (VH.mk 10 (nsO.zip (BO p c1 c2 c3 (sT p).fst (sT p).snd))) (dsS.zip (VS p c3 (0 : Int))) (VH.mk 10 (nsO.zip (BO p c1 c2 c3 (sT p).fst (sT p).snd))) (dsS.zip (VS p c3 (0 : Int))) ∧ (PnOk p ∧ Gd p (sT p).fst) ∧ FitP 0 (VH.mk 10 ((9, VB.gone) :: nsO.zip (BO p c1 c2 c3 (stp (List.flatMap lkS p.S) (sT p)).fst (stp (List.flatMap lkS p.S) (sT p)).snd))) ((61, I 0) :: (60, I (↑(esOf (stp (List.flatMap lkS p.S) (sT p)).fst).length : Int)) :: (9, I (↑(esOf (stp (List.flatMap lkS p.S) (sT p)).fst).length : Int)) :: (59, I (↑(esOf (stp (List.flatMap lkS p.S) (sT p)).fst).length : Int)) :: (58, VV.mp 4) :: (57, VV.ptr (VA.own 5 0)) :: (56, VV.ptr (VA.own 5 0)) :: (55, VV.ptr (VA.own 5 0)) :: (45, VV.func 70 [] [VV.ptr (VA.own (8) 0)]) :: (44, VV.ptr (VA.own 3 0)) :: ds2.zip (V0 (65 : Int))) (VH.mk 10 (nsK.zip (BK p c1 c2 c3 s.fst s.snd))) (dsM.zip (VM (↑s.fst.length : Int) (0 : Int))) ∧ Safe s.fst.length s.snd ∧ (goodF s.fst.length s.snd → Q (VRes.ret (VV.ptr (VA.own 5 0))) [arD p, arT p, arS p, pnB p c1 c2 c3, VB.map kU (PK.int IntKind.i64) (esOf s.fst), VB.fam [VV.mp 4] 4225 (fwN s.fst.length s.fst.length s.snd) (93 : TypeId)]) ∧ (¬goodF s.fst.length s.snd → ∀ (m : Nat) (d' : Nat → Int), Q (VRes.panic (VV.iface (108 : TypeId) (VV.agg []))) [arD p, arT p, arS p, pnB p c1 c2 c3, VB.map kU (PK.int IntKind.i64) (esOf s.fst), VB.fam [VV.mp 4] 4225 d' (93 : TypeId)])) := by kernel_rfl


end Go.Sx.Nos

/- nose: what was tasted. -/

namespace Go.Sx.Nos
open Go Go.Sx Go.Proofs
set_option maxRecDepth 1000000

theorem callL2_good {f g : FuncId} (hne : Nat.beq g f = false) {lf lg : List (Nat × LT)} (hf' : LoopsOk Try.prog f lf) (hg' : LoopsOk Try.prog g lg) {sp : FuncId → Option Spec1} (hsp : ∀ f S, sp f = some S → SpOk Try.prog f S) {un : Nat} (m : Nat) : Good Try.prog (callN Try.prog sp (at2 f g lf lg) un m) := by
  refine callN_good hmix hsp (fun x fn c hf hc id T hT b hb => ?_) m
  unfold at2 at hT
  cases hx : Nat.beq x f with
  | true =>
    rw [hx] at hT
    have := Nat.eq_of_beq_eq_true hx
    subst this
    exact loops_use hf' hf c hc id T hT b hb
  | false =>
    rw [hx] at hT
    cases hx2 : Nat.beq x g with
    | true =>
      rw [hx2] at hT
      have := Nat.eq_of_beq_eq_true hx2
      subst this
      exact loops_use hg' hf c hc id T hT b hb
    | false => rw [hx2] at hT; cases hT

theorem noSp : ∀ (f : FuncId) (S : Spec1), noSpec f = some S → SpOk Try.prog f S := fun _ _ h => absurd h (by simp [noSpec])

section
variable {p : Pn} {c1 c2 c3 : Nat}

theorem taL_ok {s : St} : LoopsOk Try.prog 63 (taL p c1 c2 c3 s) := by
  intro x hx
  simp only [taL, List.mem_cons, List.not_mem_nil, or_false] at hx
  rcases hx with rfl | rfl | rfl
  · exact ⟨by kernel_rfl, lIni_ok⟩
  · exact ⟨by kernel_rfl, lFar_ok⟩
  · exact ⟨by kernel_rfl, lM_ok⟩

theorem lkL_ok : LoopsOk Try.prog 70 (lkL p c1 c2 c3) := by
  intro x hx
  simp only [lkL, List.mem_cons, List.not_mem_nil, or_false] at hx
  rcases hx with rfl | rfl
  · exact ⟨by kernel_rfl, lOut_ok⟩
  · exact ⟨by kernel_rfl, lStd_ok⟩

theorem gd_ini : Gd p sIni.1 := ⟨by simp [sIni], fun x hx => by simp only [sIni, List.mem_singleton] at hx; subst hx; exact uni_z p⟩

theorem gd_T (hp : PnOk p) : Gd p (sT p).1 := gd_ini.fold fun x hx => by
  obtain ⟨t, ht, hx⟩ := List.mem_flatMap.1 hx
  exact lkT_uni hp ht x hx

theorem links_uni (hp : PnOk p) : ∀ x ∈ links p, x.1 ∈ uni p ∧ x.2.1 ∈ uni p := by
  intro x hx
  rcases List.mem_append.1 hx with hx | hx
  · obtain ⟨t, ht, hx⟩ := List.mem_flatMap.1 hx
    exact lkT_uni hp ht x hx
  · obtain ⟨s, hs, hx⟩ := List.mem_flatMap.1 hx
    exact lkS_uni hp hs x hx

theorem gd_all (hp : PnOk p) : Gd p (sAll p).1 := gd_ini.fold (links_uni hp)

theorem sAll_eq : sAll p = stp (p.S.flatMap lkS) (sT p) := stp_app _ _ _

/-- The greatest differences, if nothing is torn. -/
def farF (p : Pn) : Nat → Int := fwN (sAll p).1.length (sAll p).1.length (sAll p).2
def fitF (p : Pn) : Prop := goodF (sAll p).1.length (sAll p).2

theorem taste_v (hp : PnOk p) (hs : Safe (sAll p).1.length (sAll p).2) :
    (fitF p → CallsV Try.prog 63 [.ptr (.own 3 0)] (tastH p c1 c2 c3) (.ret (.ptr (.own 5 0))) ⟨6, [(0, arD p), (1, arT p), (2, arS p), (3, pnB p c1 c2 c3), (4, maB (sAll p).1), (5, faB 4 (farF p))]⟩) ∧
    (¬ fitF p → CallsV Try.prog 63 [.ptr (.own 3 0)] (tastH p c1 c2 c3) (.panic misV) (tastH p c1 c2 c3)) := by
  obtain ⟨r, h', hQ, hc⟩ := of_callN (callL2_good (f := 63) (g := 70) (by decide) (taL_ok (p := p) (c1 := c1) (c2 := c2) (c3 := c3) (s := sAll p)) (lkL_ok (p := p) (c1 := c1) (c2 := c2) (c3 := c3)) (sp := noSpec) noSp (un := 10) 20)
    (f := 63) (args := [.ptr (.own 3 0)]) (h := tastH p c1 c2 c3)
    (K := taR fun r bs => (fitF p ∧ r = .ret (.ptr (.own 5 0)) ∧ bs = [arD p, arT p, arS p, pnB p c1 c2 c3, maB (sAll p).1, faB 4 (farF p)]) ∨ (¬ fitF p ∧ r = .panic misV ∧ ∃ x y, bs = [arD p, arT p, arS p, pnB p c1 c2 c3, x, y]))
    (by
      refine cast (taste_ev p c1 c2 c3 (sAll p) _).symm ?_
      refine ⟨key73, fitP_self rfl, fun g hg => ⟨⟨⟨rfl, rfl, VB.fit_refl _, VB.fit_refl _, VB.fit_refl _, VB.fit_refl _, VB.fit_refl _, VB.fit_refl _, VB.fit_refl _, ⟨rfl, rfl, rfl, fun k hk => hg k hk⟩, trivial⟩, rfl, rfl, rfl, rfl, trivial⟩, fun d hd => ⟨?_, ⟨hp, gd_ini⟩, fitP_self rfl, ⟨hp, gd_T hp⟩, ?_, hs, fun h => .inl ⟨h, rfl, rfl⟩, fun h m d' => .inr ⟨h, rfl, _, _, rfl⟩⟩⟩⟩
      · refine ⟨⟨rfl, rfl, VB.fit_refl _, VB.fit_refl _, VB.fit_refl _, VB.fit_refl _, VB.fit_refl _, ⟨rfl, rfl, rfl, fun k hk => hd k hk⟩, VB.fit_refl _, VB.fit_refl _, ?_, trivial⟩, rfl, rfl, rfl, rfl, rfl, trivial⟩
        show _ = recT
        kernel_rfl
      · rw [← sAll_eq, esOf_len]
        exact ⟨⟨rfl, rfl, VB.fit_refl _, VB.fit_refl _, VB.fit_refl _, VB.fit_refl _, VB.fit_refl _, VB.fit_refl _, VB.fit_refl _, trivial⟩, rfl, rfl, rfl, rfl, trivial⟩)
  rcases hQ with ⟨hf, rfl, hb⟩ | ⟨hf, rfl, x, y, hb⟩
  · refine ⟨fun _ => ?_, fun h => absurd hf h⟩
    injection hb with g0 hb
    injection hb with g1 hb
    injection hb with g2 hb
    injection hb with g3 hb
    injection hb with g4 hb
    injection hb with g5 hb
    exact calls_weak hc (show 4 ≤ 6 by decide) ⟨by rw [g0]; exact VB.fit_refl _, by rw [g1]; exact VB.fit_refl _, by rw [g2]; exact VB.fit_refl _, by rw [g3]; exact VB.fit_refl _, by rw [g4]; exact VB.fit_refl _, by rw [g5]; exact VB.fit_refl _, trivial⟩ rfl rfl
  · refine ⟨fun h => absurd h hf, fun _ => ?_⟩
    injection hb with g0 hb
    injection hb with g1 hb
    injection hb with g2 hb
    injection hb with g3 hb
    exact calls_weak hc (show 4 ≤ 4 by decide) ⟨by rw [g0]; exact VB.fit_refl _, by rw [g1]; exact VB.fit_refl _, by rw [g2]; exact VB.fit_refl _, by rw [g3]; exact VB.fit_refl _, trivial⟩ rfl rfl
end
end Go.Sx.Nos

/- nose: what was tasted, as a row. -/

namespace Go.Sx.Nos
open Go Go.Sx Go.Proofs
set_option maxRecDepth 1000000

/-- Nothing grows too far. -/
def SafeP (p : Pn) : Prop := Safe (sAll p).1.length (sAll p).2

/-- What was tasted, of the panel at 3. -/
def tasT (p : Pn) (c1 c2 c3 : Nat) : FuncId × Spec1 := (63, fun _ args h K => match args with
  | [.ptr (.own 3 0)] => (h.at 0 = arD p ∧ h.at 1 = arT p ∧ h.at 2 = arS p ∧ h.at 3 = pnB p c1 c2 c3) ∧ (PnOk p ∧ SafeP p) ∧
    (match h with
      | ⟨nx, bs⟩ => (fitF p → K (.ret (.ptr (.own (nx + 1) 0))) ⟨nx + 2, (nx + 1, faB nx (farF p)) :: (nx, maB (sAll p).1) :: bs⟩) ∧ (¬ fitF p → K (.panic misV) ⟨nx, bs⟩))
  | _ => False)

theorem lt_nx {h : VH} {n : Nat} (hn : h.at n ≠ .free) : n < h.nx := by
  by_cases hh : n < h.nx
  · exact hh
  · exact (hn (at_geA hh)).elim

theorem tasT_ok {p : Pn} {c1 c2 c3 : Nat} : SpOk Try.prog (tasT p c1 c2 c3).1 (tasT p c1 c2 c3).2 := by
  intro lock args h K hK
  simp only [tasT] at hK
  split at hK
  · obtain ⟨⟨g0, g1, g2, g3⟩, ⟨hp, hs⟩, hK⟩ := hK
    obtain ⟨t1, t2⟩ := taste_v (c1 := c1) (c2 := c2) (c3 := c3) hp hs
    have hnx : (tastH p c1 c2 c3).nx ≤ h.nx := lt_nx (n := 3) (by rw [g3]; simp)
    have hat : ∀ n, n < (tastH p c1 c2 c3).nx → h.at n = (tastH p c1 c2 c3).at n := fun n hn => by
      match n, hn with
      | 0, _ => exact g0
      | 1, _ => exact g1
      | 2, _ => exact g2
      | 3, _ => exact g3
    have hnf : ∀ n, n < (tastH p c1 c2 c3).nx → (tastH p c1 c2 c3).at n ≠ .free := fun n hn => by
      match n, hn with
      | 0, _ => exact fun h => VB.noConfusion h
      | 1, _ => exact fun h => VB.noConfusion h
      | 2, _ => exact fun h => VB.noConfusion h
      | 3, _ => exact fun h => VB.noConfusion h
    have hbel : ∀ n, n < (tastH p c1 c2 c3).nx → ((tastH p c1 c2 c3).at n).bel (tastH p c1 c2 c3).nx = true := fun n hn => by
      match n, hn with
      | 0, _ => rfl
      | 1, _ => rfl
      | 2, _ => rfl
      | 3, _ => rfl
    by_cases hf : fitF p
    · have h1 := calls_lift_new (bl := [maB (sAll p).1, faB 4 (farF p)]) (h := h) (t1 hf) hnx hat (fun n hn => by
        match n, hn with
        | 0, _ => rfl
        | 1, _ => rfl
        | 2, _ => rfl
        | 3, _ => rfl) hnf hbel rfl (fun i => by
        match i with
        | 0 => rfl
        | 1 => rfl
        | i + 2 =>
          rw [at_geA (by show ¬ 4 + (i + 2) < 6; omega)]
          rfl)
      obtain ⟨nx, bs⟩ := h
      refine ⟨_, _, hK.1 hf, ?_, ?_⟩
      · have := lockP_push (lock := lock) (VH.mk nx bs) [maB (sAll p).1, faB nx (farF p)]
        exact this
      · have s5 : shN 4 nx 5 = nx + 1 := by unfold shN; rw [if_neg (by decide)]; omega
        have s4 : shN 4 nx 4 = nx := by unfold shN; rw [if_neg (by decide)]; omega
        have e1 : (VRes.ret (.ptr (.own 5 0))).sh (tastH p c1 c2 c3).nx nx = .ret (.ptr (.own (nx + 1) 0)) := congrArg (fun n => VRes.ret (.ptr (.own n 0))) s5
        have e2 : ([maB (sAll p).1, faB 4 (farF p)] : List VB).map (VB.sh (tastH p c1 c2 c3).nx nx) = [maB (sAll p).1, faB nx (farF p)] := congrArg (fun n => [maB (sAll p).1, VB.fam [.mp n] 4225 (farF p) 93]) s4
        rw [e1, e2] at h1
        exact h1
    · have h1 := calls_lift (h := h) (t2 hf) hnx hat (fun n hn => rfl) hnf hbel rfl rfl
      exact ⟨_, h, by cases h; exact hK.2 hf, lockP_refl _ _, h1⟩
  · exact hK.elim
end Go.Sx.Nos

/- nose: does a panel fit, evaluated. -/

namespace Go.Sx.Nos
open Go Go.Sx Go.Proofs
set_option maxRecDepth 1000000

def trR (Q : VRes → List VB → Prop) : VRes → VH → Prop := fun r h => Q r [h.at 0, h.at 1, h.at 2, h.at 6, h.at 7]
theorem tried_ev (p : Pn) (c1 c2 c3 : Nat) (Q : VRes → List VB → Prop) : spD Try.prog 46 (tabS [tasT p c1 c2 c3]) noL 10 20 0 [.agg (pnV p c1 c2 c3)] (pnH p) (trR Q) =
  ((arD p = arD p ∧ arT p = arT p ∧ arS p = arS p ∧ pnB p c1 c2 c3 = pnB p c1 c2 c3) ∧ (PnOk p ∧ SafeP p) ∧ (fitF p → Q (VRes.ret (VV.tup [VV.ptr (VA.own (6 + 1) 0), VV.bool true])) [arD p, arT p, arS p, VB.map kU (PK.int IntKind.i64) (esOf (sAll p).fst), VB.fam [VV.mp (6)] 4225 (farF p) (93 : TypeId)]) ∧ (¬fitF p → Q (VRes.ret (VV.tup [VV.nilp, VV.bool false])) [arD p, arT p, arS p, VB.cells [] 108, VB.free])) := by kernel_rfl


end Go.Sx.Nos
