/- stream: Ck2 Cl1 Dc1 Dd1 Dd2 Dd3 De1 Dc2 Df1 Df2 Df3 Dg1 Dg2 Ea1 CxRb Ea2 Eb1 Eb2 Eb3 Fb1 Eb4 Fb2 Fb3 Fc1, in one text. -/
import Derived.Test.YtlboglkgbhjpeaaWW3
import Derived.Test.YtlboglkgbhjpeaaWW2
import Derived.Test.YtlboglkgbhjpeaaSxTt
/- blend: alive. -/

namespace Go.Sx.Bln
open Go Go.Sx Go.Proofs
set_option maxRecDepth 1000000

theorem ok0 : okAll L0 T0 = true := by decide +kernel
theorem okP0 : okPaths P0 = true := by decide +kernel
theorem chp0 : (chpF L0 T0 0 300).map (fun c => (c 0, c 1, c 2, costF L0 c)) = some (2, 1, 0, 130) := by decide +kernel
theorem pln0 : (planF L0 T0 P0 2 2 3 (mostF L0)).map (fun x => [x 0 0 0, x 0 0 1, x 0 0 2, x 0 1 0, x 0 1 1, x 0 1 2, x 1 0 0, x 1 0 1, x 1 0 2, x 1 1 0, x 1 1 1, x 1 1 2]) = some [1, 1, 0, 1, 1, 0, 1, 1, 0, 0, 0, 0] := by decide +kernel

theorem smR_ok : SpOk Try.prog smR.1 smR.2 := by
  intro lock args h K hK
  simp only [smR] at hK
  split at hK
  · obtain ⟨h', hc⟩ := sample_v
    exact ⟨_, h, hK, lockP_refl _ _, calls_lift0 hc rfl rfl⟩
  · exact hK.elim

theorem cfg0 : Cfg L0 T0 P0 2 := by
  obtain ⟨hl, hp, ht, _⟩ := okAll_l ok0
  refine ⟨hl, hp, okT_tB ht, by decide, by decide, fun i hi => ?_, fun i j => ?_⟩
  · have hi : i < 2 := hi
    match i, hi with
    | 0, _ => rfl
    | 1, _ => rfl
    | _ + 2, hi => omega
  · match i, j with
    | 0, 0 => exact ⟨by decide, by decide⟩
    | 0, 1 => exact ⟨by decide, by decide⟩
    | 0, _ + 2 => exact (show (0 : Int) ≤ 0 ∧ (0 : Int) ≤ 1048576 from ⟨by decide, by decide⟩)
    | 1, 0 => exact ⟨by decide, by decide⟩
    | 1, 1 => exact ⟨by decide, by decide⟩
    | 1, _ + 2 => exact (show (0 : Int) ≤ 0 ∧ (0 : Int) ≤ 1048576 from ⟨by decide, by decide⟩)
    | _ + 2, _ => exact (show (0 : Int) ≤ 0 ∧ (0 : Int) ≤ 1048576 from ⟨by decide, by decide⟩)
theorem pthB0 : pthB P0 := by
  refine ⟨⟨by decide, by decide⟩, fun i => ?_⟩
  match i with
  | 0 => decide
  | 1 => decide
  | _ + 2 => exact (show 0 ≤ 100000 by decide)

/-- A list among the arguments that is told as data ahead of the call. -/
theorem plA_ok : SpOk Try.prog plA.1 plA.2 := by
  intro lock args h K hK
  simp only [plA] at hK
  split at hK
  · rename_i a b m L nx bs
    obtain ⟨rfl, rfl, ⟨rfl, rfl, g, ty, hm, hg⟩, hK⟩ := hK
    obtain ⟨r, h', hc, hk⟩ := pln22_v (l := L0) (t := T0) (d00 := 150) (d01 := 150) (d10 := 150) (d11 := 0) ok0 okP0 cfg0 pthB0
    rcases pln_tell hc hk with ⟨hn, _⟩ | ⟨x, h2, hx, hc2⟩
    · have := pln0
      rw [show planF L0 T0 P0 2 2 3 (mostF L0) = none from hn] at this
      cases this
    · have hc3 : CallsV Try.prog 17 [stD L0, .agg (tsL T0), pthD P0] ⟨nx, (m, .gone) :: bs⟩ (.ret (.tup [plnD 3 2 2 x, I 0])) ⟨nx, (m, .gone) :: bs⟩ := calls_lift0 hc2 rfl rfl
      have hc4 : CallsV Try.prog 17 [stD L0, .agg (tsL T0), .tl 2 1 g] ⟨nx, (m, .gone) :: bs⟩ (.ret (.tup [plnD 3 2 2 x, I 0])) ⟨nx, (m, .gone) :: bs⟩ := calls_args hc3 (fun R xs hx => by
        obtain ⟨y0, _, k0, ⟨y1, _, k1, ⟨y2, _, k2, k3, rfl⟩, rfl⟩, rfl⟩ := hx
        obtain ⟨_, _, u1, _, e1⟩ := (tl_weak (L := 2) (L' := 2) (s := 1) (g := g) (g' := pthG P0) rfl hg).1 R [y2] ⟨y2, [], k2, rfl, rfl⟩
        cases e1
        exact ⟨_, _, k0, ⟨_, _, k1, ⟨_, _, u1, k3, rfl⟩, rfl⟩, rfl⟩)
      refine ⟨_, _, hK x hx, lock0 _ _, calls_told (h := ⟨nx, bs⟩) (m := m) (L := 2) (s := 1) (g := g) (t := ty) hc4 hm (fun R R' xs hle hv hxs => ?_)⟩
      obtain ⟨y0, _, k0, ⟨y1, _, k1, ⟨y2, _, k2, k3, rfl⟩, rfl⟩, rfl⟩ := hxs
      exact ⟨_, _, VRel.mono hle _ _ k0, ⟨_, _, VRel.mono hle _ _ k1, ⟨_, _, hv y2 k2, VRelL.mono hle _ _ k3, rfl⟩, rfl⟩, rfl⟩
  · exact hK.elim

theorem wk_lit3 {a b c : Int} {n : Nat → Int} (h0 : n 0 = a) (h1 : n 1 = b) (h2 : n 2 = c) : wkL [.tl 3 1 (fun j => List.take 1 (List.drop (j * 1) [I a, I b, I c]))] [d1 3 n] := tl_weak rfl (fun j hj => by
  subst h0; subst h1; subst h2
  match j, hj with
  | 0, _ => exact wkL_refl _
  | 1, _ => exact wkL_refl _
  | 2, _ => exact wkL_refl _
  | _ + 3, hj => omega)

theorem chpE0 : chpE L0 T0 0 300 = 0 := by
  unfold chpE
  rw [if_neg (by rw [ok0]; simp), if_neg (by omega), if_neg (fun h => by have := chp0; rw [h] at this; cases this)]

theorem al_tab : ∀ f T, tabS [smR, cheapR L0 T0, plA, inR, spR] f = some T → SpOk Try.prog f T := tab_ok _ (fun x hx => by
  simp only [List.mem_cons, List.not_mem_nil, or_false] at hx
  rcases hx with rfl | rfl | rfl | rfl | rfl
  · exact smR_ok
  · exact cheapR_ok L0 T0
  · exact plA_ok
  · exact inR_ok
  · exact spR_ok)
theorem alive_v : ∃ h', CallsV Try.prog 16 [] ⟨0, []⟩ (.ret (.bool true)) h' := by
  obtain ⟨r, h', rfl, hc⟩ := of_callN (noL_good al_tab) (f := 16) (args := []) (h := ⟨0, []⟩) (K := fun r _ => r = .ret (.bool true)) (by
    refine cast (al_ev _).symm ⟨rfl, rfl, fun h => (h chpE0).elim, fun _ c hc => ?_⟩
    have h0 := chp0
    rw [hc] at h0
    have h0 : (c 0, c 1, c 2, costF L0 c) = (2, 1, 0, 130) := by simpa using h0
    simp only [Prod.mk.injEq] at h0
    obtain ⟨c0, c1, c2, c3⟩ := h0
    refine ⟨rfl, rfl, ⟨rfl, rfl, _, _, rfl, ?_⟩, fun x hx => ?_⟩
    · intro i hi
      have hi : i < 2 := hi
      have key : ∀ a b : Int, wkL [.tl 2 1 (fun j => List.take 1 (List.drop (j * 1) [I a, I b]))] [inD [a, b]] := fun a b => tl_weak rfl (fun j hj => by
        match j, hj with
        | 0, _ => exact wkL_refl _
        | 1, _ => exact wkL_refl _
        | _ + 2, hj => exact absurd hj (by show ¬ _ + 2 < 2; omega))
      match i, hi with
      | 0, _ => exact key 150 150
      | 1, _ => exact key 150 0
      | _ + 2, hi => omega
    · have h1 := pln0
      rw [hx] at h1
      have h1 : [x 0 0 0, x 0 0 1, x 0 0 2, x 0 1 0, x 0 1 1, x 0 1 2, x 1 0 0, x 1 0 1, x 1 0 2, x 1 1 0, x 1 1 1, x 1 1 2] = [1, 1, 0, 1, 1, 0, 1, 1, 0, 0, 0, 0] := by simpa using h1
      simp only [List.cons.injEq, and_true] at h1
      obtain ⟨e1, e2, e3, e4, e5, e6, e7, e8, e9, ea, eb, ec⟩ := h1
      refine ⟨3, c, ⟨rfl, rfl, fun _ _ => rfl⟩, ⟨rfl, Nat.le_refl _, _, _, rfl, fun j hj => ?_⟩, by omega, cond_dk c3 ?_⟩
      · match j, hj with
        | 0, _ => exact congrArg (fun n => [I n]) c0.symm
        | 1, _ => exact congrArg (fun n => [I n]) c1.symm
        | 2, _ => exact congrArg (fun n => [I n]) c2.symm
        | _ + 3, hj => omega
      · refine ⟨.tl 2 1 (plnG 3 2 x), .tl 2 1 _, 2, fun _ => 2, fun _ _ => 3, x, ⟨rfl, rfl, fun _ _ => rfl⟩, ⟨rfl, Nat.le_refl _, _, _, rfl, fun _ _ => rfl⟩, ⟨wkL_refl _, tl_weak rfl (fun i hi => ?_)⟩, ⟨by omega, fun _ => (show 2 ≤ 100000 by omega), fun _ _ => (show 3 ≤ 100000 by omega)⟩, rfl⟩
        match i, hi with
        | 0, _ =>
          refine tl_weak rfl (fun y hy => ?_)
          match y, hy with
          | 0, _ => exact wk_lit3 e1 e2 e3
          | 1, _ => exact wk_lit3 e4 e5 e6
          | _ + 2, hy => exact absurd hy (by show ¬ _ + 2 < 2; omega)
        | 1, _ =>
          refine tl_weak rfl (fun y hy => ?_)
          match y, hy with
          | 0, _ => exact wk_lit3 e7 e8 e9
          | 1, _ => exact wk_lit3 ea eb ec
          | _ + 2, hy => exact absurd hy (by show ¬ _ + 2 < 2; omega)
        | _ + 2, hi => exact absurd hi (by show ¬ _ + 2 < 2; omega))
  exact ⟨h', hc⟩
theorem alT_ok : SpOk Try.prog alT.1 alT.2 := by
  intro lock args h K hK
  simp only [alT] at hK
  split at hK
  · obtain ⟨h', hc⟩ := alive_v
    exact ⟨_, h, hK, lockP_refl _ _, calls_lift0 hc rfl rfl⟩
  · exact hK.elim
end Go.Sx.Bln

/- blend: the law BlendMade. -/

namespace Go.Sx.Bln
open Go Go.Sx Go.Proofs
set_option maxRecDepth 1000000

end Go.Sx.Bln

/- blend: the document's casks, Meets, evaluated. -/

namespace Go.Sx.Bln
open Go Go.Sx Go.Proofs
set_option maxRecDepth 1000000

end Go.Sx.Bln

/- blend: the document's choices, evaluated. -/

namespace Go.Sx.Bln
open Go Go.Sx Go.Proofs
set_option maxRecDepth 1000000

end Go.Sx.Bln

/- blend: the document's choices. -/

namespace Go.Sx
open Go
section
variable {P : Program}

end
end Go.Sx

namespace Go.Sx.Bln
open Go Go.Sx Go.Proofs
set_option maxRecDepth 1000000

theorem catG_lt {L j : Nat} {f g : Nat → List VV} (h : j < L) : catG L f g j = f j := by
  unfold catG
  rw [show Nat.blt j L = true from Nat.blt_eq.mpr h]
  rfl
theorem catG_ge {L j : Nat} {f g : Nat → List VV} (h : L ≤ j) : catG L f g j = g (j - L) := by
  unfold catG
  rw [show Nat.blt j L = false from Bool.eq_false_iff.2 (fun hh => by have := Nat.blt_eq.mp hh; omega)]
  rfl
theorem room8 {n : Nat} (h : n ≤ 100) : roomB n 8 = true := by
  unfold roomB
  rw [Nat.ble_eq_true_of_le (by omega), Nat.ble_eq_true_of_le (by omega)]
  rfl

section
variable {D : List Int}

end
end Go.Sx.Bln

/- blend: the document's choices: the outer loop, and the row. -/

namespace Go.Sx.Bln
open Go Go.Sx Go.Proofs
set_option maxRecDepth 1000000

section
variable {D : List Int}

end
end Go.Sx.Bln

/- blend: the document's choices are all choices, in their order. -/

namespace Go.Sx.Bln
open Go Go.Sx Go.Proofs
set_option maxRecDepth 100000

section
variable {D : List Int} {most : Nat → Int}

end

end Go.Sx.Bln

/- blend: the document's casks and Meets. -/

namespace Go.Sx.Bln
open Go Go.Sx Go.Proofs
set_option maxRecDepth 1000000

section
variable {l : List Stk} {t : Tst} {y m : Int} {D : List Int}

end

end Go.Sx.Bln

/- blend: the document's Cheapest, evaluated. -/

namespace Go.Sx.Bln
open Go Go.Sx Go.Proofs
set_option maxRecDepth 1000000

end Go.Sx.Bln

/- blend: the document's Cheapest. -/

namespace Go.Sx.Bln
open Go Go.Sx Go.Proofs
set_option maxRecDepth 1000000

section
variable {l : List Stk} {t : Tst} {y m : Int}

/-- A choice as a list. -/
def dC (l : List Stk) (c : Nat → Int) : List Int := (List.range l.length).map c
theorem dC_get {c : Nat → Int} {i : Nat} (hi : i < l.length) : (dC l c).getD i 0 = c i := by
  unfold dC
  rw [List.getD_eq_getElem?_getD, List.getElem?_map, List.getElem?_range hi]
  rfl
theorem chD_dC {c : Nat → Int} (h : ∀ i, l.length ≤ i → c i = 0) : chD (dC l c) = c := by
  funext i
  show (dC l c).getD i 0 = c i
  by_cases hi : i < l.length
  · exact dC_get hi
  · rw [h i (by omega), List.getD_eq_getElem?_getD, List.getElem?_eq_none (by unfold dC; rw [List.length_map, List.length_range]; omega)]
    rfl
theorem isD_dC {h : VH} {k : Nat} {c : Nat → Int} : isD h (k + 1) (.tl l.length 1 (chG c)) (inD (dC l c)) := by
  refine ⟨?_, rfl, fun i hi => ?_⟩
  · unfold dC; rw [List.length_map, List.length_range]
  · unfold dG chG
    rw [dC_get hi]
theorem dC_len {c : Nat → Int} : (dC l c).length = l.length := by unfold dC; rw [List.length_map, List.length_range]
theorem chAt_ge (hl : lB l) {j : Nat} (hj : j < nAll l) : ∀ i, l.length ≤ i → chAt (mostF l) l.length j i = 0 :=
  ((all_mem (fun i _ => (mostF_bd hl i).1)).1 (chAt_mem hj)).2

end
end Go.Sx.Bln

/- blend: the document's Cheapest, as a row. -/

namespace Go.Sx.Bln
open Go Go.Sx Go.Proofs
set_option maxRecDepth 1000000

section
variable (l : List Stk) (t : Tst) (y m : Int)

end
end Go.Sx.Bln

/- blend: the law BlendCheapest, evaluated. -/

namespace Go.Sx.Bln
open Go Go.Sx Go.Proofs
set_option maxRecDepth 1000000

end Go.Sx.Bln

/- blend: the law BlendCheapest. -/

namespace Go.Sx.Bln
open Go Go.Sx Go.Proofs
set_option maxRecDepth 1000000

end Go.Sx.Bln

/- blend: a choice by remainders (some), the law's meets, evaluated. -/

namespace Go.Sx.Bln
open Go Go.Sx Go.Proofs
set_option maxRecDepth 1000000

def bG (B : List Int) (j : Nat) : List VV := [.int .u8 (B.getD j 0)]
def byD (B : List Int) : VV := .tl B.length 1 (bG B)
def dsSo : List Nat := [11, 10, 9, 5, 0, 1]
def VSo (l : List Stk) (B : List Int) (i : Nat) : List VV := [I i, I l.length, stD l, .sl 0 i, stD l, byD B]
theorem sol_ev (l : List Stk) (B : List Int) (i : Nat) (F : Nat → List VV) (X : VEx → List VV → List VB → Prop) : codeE Try.prog (callN Try.prog noSpec noL 10 20) (fun _ => none) true 10 (ntOf Try.prog 32) 0 (loopB 0 (bodyOf Try.prog 32)) (dsSo.zip (VSo l B i)) ⟨1, [0].zip [.vec i F 1 3]⟩ (obs 1 dsSo [0] X) =
  (bif decide ((↑i : Int) < (↑l.length : Int)) then
 bif decide ((0 : Int) ≤ (↑i : Int) ∧ (↑i : Int) < (↑l.length : Int)) then
 bif decide ((↑B.length : Int) = (0 : Int)) then
 False
 else bif decide ((0 : Int) ≤ remZ (↑i : Int) (↑B.length : Int) ∧ remZ (↑i : Int) (↑B.length : Int) < (↑B.length : Int)) then
 bif inK IntKind.i64 (B.getD (remZ (↑i : Int) (↑B.length : Int)).toNat (0 : Int)) then
 bif inK IntKind.i64 ((l.getD (↑i : Int).toNat k0).casks + (1 : Int)) then
 bif decide ((l.getD (↑i : Int).toNat k0).casks + (1 : Int) = (0 : Int)) then
 False
 else bif i.beq i then
 bif roomB (i + 1) (8) then
 bif inK IntKind.i64 ((↑i : Int) + (1 : Int)) then
 X VEx.normal [I ((↑i : Int) + (1 : Int)), I (↑l.length : Int), VV.tl l.length 5 (stG l), VV.sl 0 (i + 1), VV.tl l.length 5 (stG l), VV.tl B.length 1 (bG B)] [VB.vec (i + 1) (catG i F fun (j : Nat) => List.take (1) (List.drop (j * (1)) [I (remZ (B.getD (remZ (↑i : Int) (↑B.length : Int)).toNat (0 : Int)) ((l.getD (↑i : Int).toNat k0).casks + (1 : Int)))])) (1) 3]
 else False
 else False
 else False
 else False
 else False
 else False
 else False
 else X (VEx.exit 0) [I (↑i : Int), I (↑l.length : Int), VV.tl l.length 5 (stG l), VV.sl 0 i, VV.tl l.length 5 (stG l), VV.tl B.length 1 (bG B)] [VB.vec i F 1 (3 : TypeId)]) := by kernel_rfl

/-- Numbers from 0 to 255. -/
def u8B (B : List Int) : Prop := 0 < B.length ∧ ∀ i, 0 ≤ B.getD i 0 ∧ B.getD i 0 ≤ 255
def someF (l : List Stk) (B : List Int) (i : Nat) : Int := B.getD (i % B.length) 0 % ((l.getD i k0).casks + 1)
def lSo (l : List Stk) (B : List Int) : LT := fun lock tt h K =>
  FitP lock h tt ⟨1, [0].zip [.vec 0 (chG (someF l B)) 1 3]⟩ (dsSo.zip (VSo l B 0)) ∧ (lB l ∧ u8B B) ∧ K .normal (dsSo.zip (VSo l B l.length)) ⟨1, [0].zip [.vec l.length (chG (someF l B)) 1 3]⟩
theorem som_ev (l : List Stk) (B : List Int) (Q : VRes → VH → Prop) : callN Try.prog noSpec (atF 32 [(0, lSo l B)]) 10 20 0 (.fn 32) [stD l, byD B] ⟨0, []⟩ (fun r h => Q r h) =
  (FitP 0 (VH.mk (0 + 1) [(0, VB.vec 0 (fun (j : Nat) => List.take (1) (List.drop (j * (1)) [])) (1) 3)]) [(11, I 0), (10, I (↑l.length : Int)), (9, VV.tl l.length 5 (stG l)), (5, VV.sl 0 0), (8, VV.sl 0 0), (4, VV.nils), (0, stD l), (1, byD B)] (VH.mk 1 ([0].zip [VB.vec 0 (chG (someF l B)) 1 (3 : TypeId)])) (dsSo.zip (VSo l B 0)) ∧ (lB l ∧ u8B B) ∧ Q (VRes.ret (VV.sl 0 l.length)) (VH.mk 1 [(0, VB.vec l.length (chG (someF l B)) 1 (3 : TypeId))])) := by kernel_rfl

def bldR (l : List Stk) (t : Tst) : FuncId × Spec1 := (24, fun _ args h K => match args with
  | [x, z, .int .i64 y, w] => isD h 4 x (stD l) ∧ isD h 4 z (.agg (tsL t)) ∧ ∃ D, isD h 4 w (inD D) ∧ (bldE l t y D ≠ 0 → K (.ret (.tup [zV, I (bldE l t y D)])) h) ∧ (bldE l t y D = 0 → ∀ V, V = vtF l t (chD D) y → K (.ret (.tup [vtV V h.nx, I 0])) (h.new (vtB V)))
  | _ => False)
theorem lme_ev (l : List Stk) (t : Tst) (y m : Int) (D : List Int) (Q : VRes → Prop) : callN Try.prog (tabS [bldR l t]) noL 10 20 0 (.fn 31) [stD l, .agg (tsL t), I y, I m, inD D] ⟨0, []⟩ (fun r _ => Q r) =
  (isD (VH.mk (0 + 1) [(0, VB.cells [VV.tl t.T.length 1 (dG t.T), I t.far, I t.least] 25)]) 4 (VV.tl l.length 5 (stG l)) (stD l) ∧ isD (VH.mk (0 + 1) [(0, VB.cells [VV.tl t.T.length 1 (dG t.T), I t.far, I t.least] 25)]) 4 (VV.agg [VV.tl t.T.length 1 (dG t.T), I t.far, I t.least]) (VV.agg (tsL t)) ∧ ∃ (D_1 : List Int), isD (VH.mk (0 + 1) [(0, VB.cells [VV.tl t.T.length 1 (dG t.T), I t.far, I t.least] 25)]) 4 (VV.tl D.length 1 (dG D)) (inD D_1) ∧ (bldE l t y D_1 ≠ (0 : Int) → bif !decide (bldE l t y D_1 = (0 : Int)) then
 Q (VRes.ret (VV.bool false))
 else bif decide (m = (0 : Int)) then
 Q (VRes.ret (VV.bool (decide ((0 : Int) = (0 : Int)))))
 else Q (VRes.ret (VV.bool false))) ∧ (bldE l t y D_1 = (0 : Int) → ∀ (V : Vt), V = vtF l t (chD D_1) y → bif decide (m = (0 : Int)) then
 Q (VRes.ret (VV.bool (decide (V.v = (0 : Int)))))
 else bif V.k then
 Q (VRes.ret (VV.bool (decide (V.v ≥ m))))
 else Q (VRes.ret (VV.bool false)))) := by kernel_rfl

end Go.Sx.Bln

/- blend: a list of uint8 among a law's arguments, read. -/

namespace Go.Sx.Bln
open Go Go.Sx Go.Proofs Go.ChangeShapes Go.WideShapes Go.RowKit
set_option maxRecDepth 100000

theorem leavesP5 : leavesT Try.prog 5 5 = some [5] := by kernel_rfl
theorem undP5 : Try.prog.underlying 5 = some (.int .u8) := by kernel_rfl
theorem undP61 : Try.prog.underlying 61 = some (.slice 5) := by kernel_rfl
theorem cellsP5 : Try.prog.cellsOf 5 = 1 := by kernel_rfl

section
variable {H : Type} {enc : TypeId × Value → H} {w : World} {b0 base : Nat} {spare : Nat → Bool} {held : Bool} {d : DataW H} {p : List MemPlace} {v : Value} {fuel : Nat} {y : DataW H × List MemPlace}

abbrev U8 := {n : Int // 0 ≤ n ∧ n ≤ 255}
theorem leafB {v : Value} (h : ∃ m v' y, some v = some v' ∧ DataW.trod enc Try.prog w base spare held m 5 [v'] = some y) : ∃ n : U8, v = .int .u8 n.1 := by
  obtain ⟨m, v', y, e, h⟩ := h
  cases e
  obtain ⟨n, rfl, hn⟩ := leaf_int undP5 h
  have h2 : 0 ≤ n ∧ n ≤ 255 := by
    simp only [Lit.wf, Bool.and_eq_true, decide_eq_true_eq] at hn
    exact hn
  exact ⟨⟨n, h2⟩, rfl⟩

theorem bytes_rd (h : DataW.trod enc Try.prog w base spare held fuel 61 [v] = some y) : ∃ B : List Int, VRel (dataR w) (byD B) v ∧ ∀ i, 0 ≤ B.getD i 0 ∧ B.getD i 0 ≤ 255 := by
  obtain ⟨l, hl⟩ := read_list (α := U8) (f := fun n => [.int .u8 n.1]) (d0 := ⟨0, by decide⟩) undP61 leavesP5 cellsP5 (by decide) (fun _ => rfl) (fun xs hx hc => by
    obtain ⟨a, rfl⟩ := len1 hx
    obtain ⟨n, rfl⟩ := leafB (hc 0 5 rfl)
    exact ⟨n, _, _, rfl, rfl, rfl⟩) h
  have e : ∀ j, (l.map Subtype.val).getD j 0 = (l.getD j ⟨0, by decide⟩).1 := fun j => by
    rw [List.getD_eq_getElem?_getD, List.getD_eq_getElem?_getD, List.getElem?_map]
    cases l[j]? <;> rfl
  refine ⟨l.map Subtype.val, ?_, fun i => by rw [e]; exact (l.getD i ⟨0, by decide⟩).2⟩
  have e2 : byD (l.map Subtype.val) = .tl l.length 1 (fun j => [.int .u8 (l.getD j ⟨0, by decide⟩).1]) := by
    unfold byD bG
    rw [List.length_map]
    congr 1
    funext j
    rw [e]
  rw [e2]
  exact hl
theorem bytes_in (s : Value.okWide Try.prog w .any b0 61 v) (h : DataW.Trod enc Try.prog w base spare held 61 v d p) : ∃ B : List Int, VRel (dataR w) (byD B) v ∧ ∀ i, 0 ≤ B.getD i 0 ∧ B.getD i 0 ≤ 255 := by
  obtain ⟨_, _, h⟩ := open_list undP61 s h
  exact bytes_rd h
end
end Go.Sx.Bln

/- blend: a choice by remainders (some), the law's meets, as rows. -/

namespace Go.Sx.Bln
open Go Go.Sx Go.Proofs
set_option maxRecDepth 1000000

section
variable {l : List Stk} {t : Tst} {y m : Int} {D B : List Int}

theorem some_bd (hl : lB l) (hB : u8B B) {i : Nat} (hi : i < l.length) : 0 ≤ someF l B i ∧ someF l B i ≤ (l.getD i k0).casks := by
  have h1 := (hl.2 i hi).1
  unfold someF
  have := Int.emod_nonneg (B.getD (i % B.length) 0) (b := (l.getD i k0).casks + 1) (by omega)
  have := Int.emod_lt_of_pos (B.getD (i % B.length) 0) (b := (l.getD i k0).casks + 1) (by omega)
  omega

theorem lSo_ok : LSound Try.prog true (.block 0 (.loop (loopB 0 (bodyOf Try.prog 32)))) (ntOf Try.prog 32) (lSo l B) := by
  by_cases hh : lB l ∧ u8B B
  · obtain ⟨hl, hB⟩ := hh
    have hl6 := hl.1
    refine loop_row hmix good0 (un := 10) (ds := dsSo) (ns := [0]) (nx := 1) (fun i : Nat => VSo l B i) (fun i => [.vec i (chG (someF l B)) 1 3]) (fun i => i ≤ l.length) (fun i => l.length - i) (fun _ e vs bs => e = .exit 0 ∧ bs = [.vec l.length (chG (someF l B)) 1 3] ∧ vs = VSo l B l.length) noL_ok ?_ ?_
    · rintro i h0
      refine cast (sol_ev l B i _ _).symm ?_
      by_cases hlt : i < l.length
      · have h1 := (hl.2 i hlt).1
        have hb := some_bd hl hB hlt
        have e1 : remZ (i : Int) (B.length : Int) = ((i % B.length : Nat) : Int) := by rw [remZ_nn (by omega)]; rfl
        have hlt2 : i % B.length < B.length := Nat.mod_lt _ hB.1
        have hv := hB.2 (i % B.length)
        rw [e1, show (i : Int).toNat = i by omega, show ((i % B.length : Nat) : Int).toNat = i % B.length by omega, remZ_nn hv.1]
        refine cond_dk (by omega) (cond_dk ⟨by omega, by omega⟩ (cond_d (fun h => by have := hB.1; omega) (fun _ => cond_dk ⟨by omega, by omega⟩ (cond_r (by omega) (cond_r (by omega) (cond_d (fun h => by omega) (fun _ => cond_k (Nat.beq_refl _) (cond_k (room8 (by omega)) (cond_r (by omega) ⟨i + 1, by omega, by dsimp only; omega, rfl, ⟨⟨rfl, rfl, rfl, fun q hq => ?_⟩, trivial⟩, fun _ _ _ h => h⟩)))))))))
        by_cases hq2 : q < i
        · rw [catG_lt hq2]
        · obtain rfl : q = i := by omega
          rw [catG_ge (Nat.le_refl _), Nat.sub_self]
          rfl
      · obtain rfl : i = l.length := by omega
        exact cond_d (fun h => by omega) (fun _ => ⟨rfl, rfl, rfl⟩)
    · rintro lock tt h K ⟨hf, _, k1⟩
      refine ⟨0, hf, Nat.zero_le _, ?_⟩
      rintro e vs bs ⟨rfl, rfl, rfl⟩
      exact k1
  · rintro lock tt h K ⟨hf, hc, _⟩
    exact (hh hc).elim

theorem some_n (hl : lB l) (hB : u8B B) : CallsV Try.prog 32 [stD l, byD B] ⟨0, []⟩ (.ret (.sl 0 l.length)) ⟨1, [(0, .vec l.length (chG (someF l B)) 1 3)]⟩ := by
  have hall : LoopsOk Try.prog 32 [(0, lSo l B)] := fun x hx => by
    simp only [List.mem_singleton] at hx
    subst hx
    exact ⟨by kernel_rfl, lSo_ok⟩
  obtain ⟨r, h', ⟨rfl, rfl⟩, hc⟩ := of_callN (callL_good hmix noSp hall (un := 10) 20) (f := 32) (args := [stD l, byD B]) (h := ⟨0, []⟩) (K := fun r h' => r = .ret (.sl 0 l.length) ∧ h' = ⟨1, [(0, .vec l.length (chG (someF l B)) 1 3)]⟩) (by
    refine cast (som_ev l B _).symm ⟨?_, ⟨hl, hB⟩, rfl, rfl⟩
    exact ⟨⟨rfl, rfl, ⟨rfl, rfl, rfl, fun i hi => by omega⟩, trivial⟩, rfl, rfl, rfl, rfl, rfl, rfl, trivial⟩)
  exact hc

theorem bldR_ok (l : List Stk) (t : Tst) : SpOk Try.prog (bldR l t).1 (bldR l t).2 := by
  intro lock args h K hK
  simp only [bldR] at hK
  split at hK
  · obtain ⟨h1, h2, D, h3, k1, k2⟩ := hK
    exact bldT_ok lock _ h K ⟨l, t, D, h1, h2, h3, k1, k2⟩
  · exact hK.elim

/-- Does a choice meet a need, by its blend? -/
noncomputable def lmF (l : List Stk) (t : Tst) (y m : Int) (D : List Int) : Bool := decide (bldE l t y D = 0) && if m = 0 then decide (volF l (chD D) = 0) else (vtF l t (chD D) y).k && decide (volF l (chD D) ≥ m)
theorem lm_v : ∃ h', CallsV Try.prog 31 [stD l, .agg (tsL t), I y, I m, inD D] ⟨0, []⟩ (.ret (.bool (lmF l t y m D))) h' := by
  obtain ⟨r, h', rfl, hc⟩ := of_callN (noL_good (tab1 (bldR_ok l t))) (f := 31) (args := [stD l, .agg (tsL t), I y, I m, inD D]) (h := ⟨0, []⟩) (K := fun r _ => r = .ret (.bool (lmF l t y m D))) (by
    refine cast (lme_ev l t y m D _).symm ⟨isD_l, isD_t, D, isD_d, fun he => cond_nd (fun _ => ?_) (fun h => (he h).elim), ?_⟩
    · unfold lmF; rw [decide_eq_false he]; rfl
    · rintro he V rfl
      have hv : (vtF l t (chD D) y).v = volF l (chD D) := rfl
      unfold lmF
      rw [hv, decide_eq_true he, Bool.true_and]
      refine cond_d (fun h => by rw [if_pos h]) (fun h => ?_)
      rw [if_neg h]
      refine cond_i (fun h2 => by rw [h2]; rfl) (fun h2 => by rw [h2]; rfl))
  exact ⟨h', hc⟩
end

/-- A choice by remainders, as a row; the law's meets, as a row. -/
def someT : FuncId × Spec1 := (32, fun _ args h K => match args with
  | [x, z] => ∃ (l : List Stk) (B : List Int), isD h 3 x (stD l) ∧ isD h 3 z (byD B) ∧ (lB l ∧ u8B B) ∧ K (.ret (.sl h.nx l.length)) (h.new (.vec l.length (chG (someF l B)) 1 3))
  | _ => False)
theorem someT_ok : SpOk Try.prog someT.1 someT.2 := by
  intro lock args h K hK
  simp only [someT] at hK
  split at hK
  · rename_i x z
    obtain ⟨l, B, hx, hz, ⟨hl, hB⟩, hK⟩ := hK
    have := calls_lendDO (args' := [x, z]) (h := h) 3 0 (some_n hl hB) rfl (fun i => rfl) rfl (fun i hi => rfl) ⟨hx, hz, trivial⟩
    have e : (VRes.ret (.sl 0 l.length)).sh 0 h.nx = .ret (.sl h.nx l.length) := by simp [VRes.sh, VV.sh, shN]
    rw [e] at this
    exact ⟨_, _, hK, lockP_new _ _ _, this⟩
  · exact hK.elim
noncomputable def lmT : FuncId × Spec1 := (31, fun _ args h K => match args with
  | [x, z, .int .i64 y, .int .i64 m, w] => ∃ (l : List Stk) (t : Tst) (D : List Int), isD h 4 x (stD l) ∧ isD h 4 z (.agg (tsL t)) ∧ isD h 4 w (inD D) ∧ K (.ret (.bool (lmF l t y m D))) h
  | _ => False)
theorem lmT_ok : SpOk Try.prog lmT.1 lmT.2 := by
  intro lock args h K hK
  simp only [lmT] at hK
  split at hK
  · obtain ⟨l, t, D, hx, hz, hw, hK⟩ := hK
    obtain ⟨h', hv⟩ := lm_v (l := l) (t := t) (D := D)
    exact ⟨_, h, hK, lockP_refl _ _, calls_lendDP 4 hv rfl ⟨hx, hz, ⟨rfl, rfl⟩, ⟨rfl, rfl⟩, hw, trivial⟩⟩
  · exact hK.elim
end Go.Sx.Bln

/- blend: the law BlendProof, evaluated. -/

namespace Go.Sx.Bln
open Go Go.Sx Go.Proofs
set_option maxRecDepth 1000000

def smB (l : List Stk) (B : List Int) : FuncId × Spec1 := (32, fun _ args h K => match args with
  | [x, z] => isD h 3 x (stD l) ∧ isD h 3 z (byD B) ∧ (lB l ∧ u8B B) ∧ K (.ret (.sl h.nx l.length)) (h.new (.vec l.length (chG (someF l B)) 1 3))
  | _ => False)

end Go.Sx.Bln

/- blend: no choice that meets a need costs less than the bound (plain). -/

namespace Go.Sx.Bln
open Go Go.Sx Go.Proofs
set_option maxRecDepth 100000

theorem KF_all {l : List Stk} {t : Tst} {n : Nat → Int} {b : Bool} : ∀ {K : Nat}, KF l t n b K = true → b = true ∧ ∀ k, k < K → okF l t n k = true
  | 0, h => ⟨h, fun k hk => by omega⟩
  | K + 1, h => by
    unfold KF at h
    simp only [Bool.and_eq_true] at h
    obtain ⟨h1, h2⟩ := h
    obtain ⟨h3, h4⟩ := KF_all h1
    refine ⟨h3, fun k hk => ?_⟩
    by_cases e : k = K
    · subst e; exact h2
    · exact h4 k (by omega)

section
variable {l : List Stk} {t : Tst} {y m u : Int} {D : List Int} {n : Nat → Int}

theorem sumF_nn {f : Nat → Int} : ∀ K : Nat, (∀ k, k < K → 0 ≤ f k) → 0 ≤ sumF f K
  | 0, _ => Int.le_refl _
  | K + 1, h => by
    have := sumF_nn (f := f) K (fun k hk => h k (by omega))
    have := h K (by omega)
    show 0 ≤ sumF f K + f K
    omega

end
end Go.Sx.Bln

/- blend: the law BlendProof. -/

namespace Go.Sx.Bln
open Go Go.Sx Go.Proofs
set_option maxRecDepth 1000000

section
variable {l : List Stk} {t : Tst} {y m u e n : Int} {D B : List Int}

theorem smB_ok (l : List Stk) (B : List Int) : SpOk Try.prog (smB l B).1 (smB l B).2 := by
  intro lock args h K hK
  simp only [smB] at hK
  split at hK
  · exact someT_ok lock _ h K ⟨l, B, hK⟩
  · exact hK.elim

theorem bestF_meets : ∀ {j : Nat} {c : Nat → Int}, bestF l t y m j = some c → meetsF l t c y m = true
  | 0, _, h => by cases h
  | j + 1, c, h => by
    unfold bestF stepC at h
    cases hb : bestF l t y m j with
    | none =>
      rw [hb] at h
      dsimp only at h
      split at h
      · rename_i g; cases h; exact g
      · cases h
    | some d =>
      rw [hb] at h
      dsimp only at h
      have hd := hb
      split at h
      · rename_i g; cases h; exact g.2
      · cases h; exact bestF_meets hd

end
end Go.Sx.Bln

/- blend: the cheapest choice is the first of the cheapest (plain). -/

namespace Go.Sx.Bln
open Go Go.Sx Go.Proofs
set_option maxRecDepth 100000

/-- Ahead in the order of lists. -/
def lexLt (k : Nat) (c d : Nat → Int) : Prop := ∃ i, i < k ∧ (∀ p, p < i → c p = d p) ∧ c i < d i

theorem all_lex {most : Nat → Int} : ∀ k : Nat, (∀ i, i < k → 0 ≤ most i) → (allC most k).Pairwise (lexLt k)
  | 0, _ => List.pairwise_singleton _ _
  | k + 1, h => by
    have ih := all_lex k (fun i hi => h i (by omega))
    show ((allC most k).flatMap (rowC most k)).Pairwise (lexLt (k + 1))
    rw [List.pairwise_flatMap]
    refine ⟨fun c _ => ?_, ih.imp ?_⟩
    · unfold rowC
      rw [List.pairwise_map]
      refine List.pairwise_lt_range.imp ?_
      intro a b hab
      refine ⟨k, by omega, fun p hp => ?_, ?_⟩
      · rw [setC_get, setC_get, if_neg (by omega), if_neg (by omega)]
      · rw [setC_same, setC_same]; omega
    · rintro c d ⟨i, hi, h1, h2⟩ x hx z hz
      unfold rowC at hx hz
      rw [List.mem_map] at hx hz
      obtain ⟨a, _, rfl⟩ := hx
      obtain ⟨b, _, rfl⟩ := hz
      refine ⟨i, by omega, fun p hp => ?_, ?_⟩
      · rw [setC_get, setC_get, if_neg (by omega), if_neg (by omega)]
        exact h1 p hp
      · rw [setC_get, setC_get, if_neg (by omega), if_neg (by omega)]
        exact h2

section
variable {l : List Stk} {t : Tst} {y m : Int}

theorem bestF_le : ∀ {J j : Nat}, j < J → meetsF l t (chAt (mostF l) l.length j) y m = true → ∃ c i, bestF l t y m J = some c ∧ c = chAt (mostF l) l.length i ∧ i < J ∧ (costF l c < costF l (chAt (mostF l) l.length j) ∨ costF l c = costF l (chAt (mostF l) l.length j) ∧ i ≤ j)
  | 0, j, h, _ => by omega
  | J + 1, j, h, hm => by
    have hs : bestF l t y m (J + 1) = stepC l t y m (bestF l t y m J) (chAt (mostF l) l.length J) := rfl
    rw [hs]
    by_cases e : j = J
    · subst e
      cases hb : bestF l t y m j with
      | none =>
        refine ⟨_, j, ?_, rfl, by omega, .inr ⟨rfl, Nat.le_refl _⟩⟩
        show (if _ then _ else _) = _
        rw [if_pos hm]
      | some d =>
        obtain ⟨i, hi, hd⟩ := bestF_mem hb
        by_cases hc : costF l (chAt (mostF l) l.length j) < costF l d
        · refine ⟨_, j, ?_, rfl, by omega, .inr ⟨rfl, Nat.le_refl _⟩⟩
          show (if _ then _ else _) = _
          rw [if_pos ⟨hc, hm⟩]
        · refine ⟨d, i, ?_, hd, by omega, ?_⟩
          · show (if _ then _ else _) = _
            rw [if_neg (fun h => hc h.1)]
          · omega
    · obtain ⟨c, i, h1, h2, h3, h4⟩ := bestF_le (J := J) (j := j) (by omega) hm
      rw [h1]
      by_cases hc : costF l (chAt (mostF l) l.length J) < costF l c ∧ meetsF l t (chAt (mostF l) l.length J) y m = true
      · refine ⟨_, J, ?_, rfl, by omega, .inl (by omega)⟩
        show (if _ then _ else _) = _
        rw [if_pos hc]
      · refine ⟨c, i, ?_, h2, by omega, h4⟩
        show (if _ then _ else _) = _
        rw [if_neg hc]

/-- Among the choices that meet a need the cheapest one, and the first of these. -/
theorem chp_le (hl : lB l) {n : Nat → Int} (hn : ∀ i, i < l.length → 0 ≤ n i ∧ n i ≤ (l.getD i k0).casks) (hg : ∀ i, l.length ≤ i → n i = 0) (hm : meetsF l t n y m = true) : ∃ c, chpF l t y m = some c ∧ costF l c ≤ costF l n ∧ (costF l c = costF l n → c = n ∨ lexLt l.length c n) := by
  have hm0 : ∀ i, i < l.length → 0 ≤ mostF l i := fun i _ => (mostF_bd hl i).1
  have hmem : n ∈ allC (mostF l) l.length := (all_mem hm0).2 ⟨hn, hg⟩
  obtain ⟨j, hj, rfl⟩ := List.getElem_of_mem hmem
  have e : chAt (mostF l) l.length j = (allC (mostF l) l.length)[j] := by
    unfold chAt
    rw [List.getD_eq_getElem?_getD, List.getElem?_eq_getElem hj]
    rfl
  rw [← e] at hm ⊢
  obtain ⟨c, i, h1, h2, h3, h4⟩ := bestF_le (J := nAll l) (j := j) hj hm
  refine ⟨c, h1, by omega, fun hc => ?_⟩
  rcases h4 with h4 | ⟨_, h4⟩
  · omega
  · by_cases hij : i = j
    · subst hij; exact .inl h2
    · have hi : i < (allC (mostF l) l.length).length := h3
      have hp := List.pairwise_iff_getElem.1 (all_lex l.length hm0) i j hi hj (by omega)
      have e2 : chAt (mostF l) l.length i = (allC (mostF l) l.length)[i] := by
        unfold chAt
        rw [List.getD_eq_getElem?_getD, List.getElem?_eq_getElem hi]
        rfl
      rw [h2, e, e2]
      exact .inr hp
end
end Go.Sx.Bln

/- blend: the law BlendProof holds. -/

namespace Go.Sx.Bln
open Go Go.Sx Go.Proofs
set_option maxRecDepth 1000000

section
variable {l : List Stk} {t : Tst} {y m u : Int} {D B : List Int}

theorem chp_mem (hl : lB l) {c : Nat → Int} (h : chpF l t y m = some c) : (∀ i, i < l.length → 0 ≤ c i ∧ c i ≤ (l.getD i k0).casks) ∧ meetsF l t c y m = true := by
  refine ⟨?_, bestF_meets h⟩
  obtain ⟨j, hj, rfl⟩ := bestF_mem h
  exact ((all_mem (fun i _ => (mostF_bd hl i).1)).1 (chAt_mem hj)).1

theorem some_ge {i : Nat} (h : l.length ≤ i) : someF l B i = 0 := by
  unfold someF
  rw [show (l.getD i k0) = k0 by rw [List.getD_eq_getElem?_getD, List.getElem?_eq_none h]; rfl]
  exact Int.emod_one _

theorem okCh_of {c : Nat → Int} (hn : ∀ i, i < l.length → 0 ≤ c i ∧ c i ≤ (l.getD i k0).casks) : okCh l (dC l c) = true := by
  unfold okCh
  rw [List.all_eq_true]
  intro i hi
  have hi := List.mem_range.1 hi
  unfold okC
  rw [dC_get hi]
  exact decide_eq_true (hn i hi)

theorem bldE_of (ho : okAll l t = true) (hy : 0 ≤ y ∧ y ≤ 100) {c : Nat → Int} (hn : ∀ i, i < l.length → 0 ≤ c i ∧ c i ≤ (l.getD i k0).casks) : bldE l t y (dC l c) = 0 := by
  unfold bldE
  rw [if_neg (by rw [ho]; simp), if_neg (fun h => h ⟨hy, dC_len⟩), okCh_of hn]
  rfl

theorem lm_meets {c : Nat → Int} (hg : ∀ i, l.length ≤ i → c i = 0) (h : lmF l t y m (dC l c) = true) : meetsF l t c y m = true := by
  unfold lmF at h
  rw [chD_dC hg] at h
  simp only [Bool.and_eq_true] at h
  obtain ⟨_, h⟩ := h
  unfold meetsF
  split at h
  · rename_i g; rw [if_pos g]; exact h
  · rename_i g
    rw [if_neg g]
    simp only [Bool.and_eq_true, decide_eq_true_eq] at h
    rw [decide_eq_false (by omega), h.1]
    rfl

theorem isD_own {h : VH} {c : Nat → Int} {n k : Nat} (hm : h.at n = .vec l.length (chG c) 1 3) : isD h (k + 1) (.sl n l.length) (inD (dC l c)) :=
  ⟨dC_len, by decide, _, _, hm, fun j hj => by unfold dG chG; rw [dC_get hj]⟩

end
end Go.Sx.Bln

/- blend: a lesser need, a greater Far, and one cask more keep what meets a need (plain). -/

namespace Go.Sx.Bln
open Go Go.Sx Go.Proofs
set_option maxRecDepth 100000

section
variable {l : List Stk} {t : Tst} {y m : Int} {n : Nat → Int}

theorem meets_need {m' : Int} (h : meetsF l t n y m' = true) (h0 : 0 < m) (hm : m ≤ m') : meetsF l t n y m = true := by
  unfold meetsF at h ⊢
  rw [if_neg (by omega)] at h ⊢
  simp only [Bool.and_eq_true, Bool.not_eq_true', decide_eq_false_iff_not] at h
  rw [decide_eq_false (by omega), h.2]
  rfl

theorem KF_of {b : Bool} (hb : b = true) : ∀ {K : Nat}, (∀ k, k < K → okF l t n k = true) → KF l t n b K = true
  | 0, _ => hb
  | K + 1, h => by
    unfold KF
    rw [KF_of hb (fun k hk => h k (by omega)), h K (by omega)]
    rfl

/-- A taste with another Far. -/
abbrev farT (t : Tst) (f : Int) : Tst := ⟨t.T, f, t.least⟩
theorem meets_far {f : Int} (hv : 0 ≤ volF l n) (hf : t.far ≤ f) (h : meetsF l t n y m = true) : meetsF l (farT t f) n y m = true := by
  unfold meetsF at h ⊢
  by_cases e : m = 0
  · rw [if_pos e] at h ⊢; exact h
  · rw [if_neg e] at h ⊢
    rw [Bool.and_eq_true] at h ⊢
    refine ⟨h.1, ?_⟩
    obtain ⟨h1, h2⟩ := KF_all (show KF l t n _ t.T.length = true from h.2)
    refine KF_of h1 (fun k hk => ?_)
    have h3 := h2 k hk
    unfold okF at h3 ⊢
    simp only [Bool.and_eq_true, Bool.not_eq_true', decide_eq_false_iff_not] at h3 ⊢
    obtain ⟨h4, h5⟩ := h3
    have e1 := Int.mul_le_mul_of_nonneg_right (show t.T.getD k 0 + t.far ≤ t.T.getD k 0 + f by omega) hv
    have e2 := Int.mul_le_mul_of_nonneg_right (show t.T.getD k 0 - f ≤ t.T.getD k 0 - t.far by omega) hv
    exact ⟨by omega, by omega⟩

/-- Two lists of stocks that differ in their casks alone. -/
def likeB (l l' : List Stk) : Prop := l'.length = l.length ∧ ∀ i, (l'.getD i k0).vol = (l.getD i k0).vol ∧ (l'.getD i k0).age = (l.getD i k0).age ∧ (l'.getD i k0).cost = (l.getD i k0).cost ∧ (l'.getD i k0).prof = (l.getD i k0).prof
theorem like_age {l' : List Stk} (h : likeB l l') : ∀ K, ageF l' n y K = ageF l n y K
  | 0 => rfl
  | K + 1 => by
    unfold ageF
    rw [like_age h K, (h.2 K).2.1]
theorem like_sums {l' : List Stk} (h : likeB l l') : volF l' n = volF l n ∧ costF l' n = costF l n ∧ (∀ k, loF l' n k = loF l n k) ∧ ∀ k, hiF l' n k = hiF l n k := by
  obtain ⟨h1, h2⟩ := h
  unfold volF costF loF hiF
  rw [h1]
  refine ⟨sumF_congr _ (fun i _ => ?_), sumF_congr _ (fun i _ => ?_), fun k => sumF_congr _ (fun i _ => ?_), fun k => sumF_congr _ (fun i _ => ?_)⟩
  · unfold tmV; rw [(h2 i).1]
  · unfold tmC; rw [(h2 i).2.2.1]
  · unfold tmL; rw [(h2 i).1, (h2 i).2.2.2]
  · unfold tmH; rw [(h2 i).1, (h2 i).2.2.2]
theorem like_KF {l' : List Stk} (h : likeB l l') {b : Bool} : ∀ K, KF l' t n b K = KF l t n b K
  | 0 => rfl
  | K + 1 => by
    obtain ⟨h1, _, h3, h4⟩ := like_sums (n := n) h
    unfold KF
    rw [like_KF h K]
    unfold okF
    rw [h3, h4, h1]
theorem meets_like {l' : List Stk} (h : likeB l l') : meetsF l' t n y m = meetsF l t n y m := by
  obtain ⟨h1, _⟩ := like_sums (n := n) h
  have hk : (vtF l' t n y).k = (vtF l t n y).k := by
    show KF l' t n _ t.T.length = KF l t n _ t.T.length
    rw [like_KF h, h1, like_age h, h.1]
  unfold meetsF
  rw [h1, hk]
end
end Go.Sx.Bln

/- blend: what the cheapest costs with a lesser need, a greater Far, one cask more (plain). -/

namespace Go.Sx.Bln
open Go Go.Sx Go.Proofs
set_option maxRecDepth 100000

section
variable {l : List Stk} {t : Tst} {y m : Int}

theorem chp_all (hl : lB l) {c : Nat → Int} (h : chpF l t y m = some c) : (∀ i, i < l.length → 0 ≤ c i ∧ c i ≤ (l.getD i k0).casks) ∧ (∀ i, l.length ≤ i → c i = 0) ∧ meetsF l t c y m = true := by
  obtain ⟨h1, h2⟩ := chp_mem hl h
  refine ⟨h1, ?_, h2⟩
  obtain ⟨j, hj, rfl⟩ := bestF_mem h
  exact chAt_ge hl hj

theorem chp_need (hl : lB l) {m' : Int} {c : Nat → Int} (h : chpF l t y m' = some c) (h0 : 0 < m) (hm : m ≤ m') : ∃ d, chpF l t y m = some d ∧ costF l d ≤ costF l c := by
  obtain ⟨h1, h2, h3⟩ := chp_all hl h
  obtain ⟨d, g1, g2, _⟩ := chp_le hl h1 h2 (meets_need h3 h0 hm)
  exact ⟨d, g1, g2⟩

theorem vol_nn (hl : lB l) {n : Nat → Int} (hn : ∀ i, i < l.length → 0 ≤ n i ∧ n i ≤ (l.getD i k0).casks) : 0 ≤ volF l n := sumF_nn _ (fun i hi => Int.mul_nonneg (hn i hi).1 (by have := (hl.2 i hi).2.1; omega))

theorem chp_far (hl : lB l) {f : Int} {c : Nat → Int} (h : chpF l t y m = some c) (hf : t.far ≤ f) : ∃ d, chpF l (farT t f) y m = some d ∧ costF l d ≤ costF l c := by
  obtain ⟨h1, h2, h3⟩ := chp_all hl h
  obtain ⟨d, g1, g2, _⟩ := chp_le (t := farT t f) hl h1 h2 (meets_far (vol_nn hl h1) hf h3)
  exact ⟨d, g1, g2⟩

theorem chp_rich (hl : lB l) {l' : List Stk} (hl' : lB l') (hk : likeB l l') (hc : ∀ i, (l.getD i k0).casks ≤ (l'.getD i k0).casks) {c : Nat → Int} (h : chpF l t y m = some c) : ∃ d, chpF l' t y m = some d ∧ costF l' d ≤ costF l c := by
  obtain ⟨h1, h2, h3⟩ := chp_all hl h
  obtain ⟨d, g1, g2, _⟩ := chp_le (l := l') (t := t) hl' (fun i hi => by have := h1 i (by rw [← hk.1]; exact hi); have := hc i; omega) (fun i hi => h2 i (by rw [← hk.1]; exact hi)) (by rw [meets_like hk]; exact h3)
  refine ⟨d, g1, ?_⟩
  rw [(like_sums (n := c) hk).2.1] at g2
  exact g2
end
end Go.Sx.Bln

/- blend: one cask more (plain), and what the law BlendLeast asks. -/

namespace Go.Sx.Bln
open Go Go.Sx Go.Proofs
set_option maxRecDepth 100000

section
variable {l : List Stk} {t : Tst} {y m : Int}

/-- One cask more of a stock. -/
def rchS (s : Stk) : Stk := ⟨min 6 (s.casks + 1), s.vol, s.age, s.cost, s.prof⟩
def rchL (l : List Stk) (k : Nat) : List Stk := l.set k (rchS (l.getD k k0))
theorem rchL_len {k : Nat} : (rchL l k).length = l.length := List.length_set
theorem rchL_get {k : Nat} (hk : k < l.length) (j : Nat) : (rchL l k).getD j k0 = if j = k then rchS (l.getD k k0) else l.getD j k0 := by
  unfold rchL
  rw [List.getD_eq_getElem?_getD, List.getElem?_set]
  by_cases h : k = j
  · subst h
    rw [if_pos rfl, if_pos rfl, if_pos hk]
    rfl
  · rw [if_neg h, if_neg (fun e => h e.symm), ← List.getD_eq_getElem?_getD]
theorem rchL_like {k : Nat} (hk : k < l.length) : likeB l (rchL l k) := by
  refine ⟨rchL_len, fun i => ?_⟩
  rw [rchL_get hk]
  split
  · rename_i h; subst h; exact ⟨rfl, rfl, rfl, rfl⟩
  · exact ⟨rfl, rfl, rfl, rfl⟩
theorem rchL_more {k : Nat} (hl : lB l) (hk : k < l.length) (i : Nat) : (l.getD i k0).casks ≤ ((rchL l k).getD i k0).casks := by
  rw [rchL_get hk]
  split
  · rename_i h; subst h
    have := (hl.2 i hk).1
    show _ ≤ min 6 _
    omega
  · exact Int.le_refl _
theorem rchL_okS {k i : Nat} (hl : lB l) (hk : k < l.length) (h : okS t (l.getD i k0) = true) : okS t ((rchL l k).getD i k0) = true := by
  rw [rchL_get hk]
  split
  · rename_i e; subst e
    have := (hl.2 i hk).1
    unfold okS rchS at *
    simp only [Bool.and_eq_true, decide_eq_true_eq] at h ⊢
    obtain ⟨⟨_, b⟩, c⟩ := h
    exact ⟨⟨by omega, b⟩, c⟩
  · exact h
theorem rchL_ok {k : Nat} (hk : k < l.length) (h : okAll l t = true) : okAll (rchL l k) t = true := by
  have hl := (okAll_l h).1
  unfold okAll at h ⊢
  simp only [Bool.and_eq_true, decide_eq_true_eq, Bool.not_eq_true'] at h ⊢
  obtain ⟨⟨h1, h2⟩, h3⟩ := h
  refine ⟨⟨h1, by rw [rchL_len]; exact h2⟩, ?_⟩
  unfold anyS at h3 ⊢
  rw [List.any_eq_false] at h3 ⊢
  intro i hi
  rw [rchL_len] at hi
  have := h3 i hi
  unfold qS at this ⊢
  rw [Bool.not_eq_true', Bool.not_eq_false] at this ⊢
  exact rchL_okS hl hk this
theorem rch_el {k : Nat} {e : Nat → List VV} (hk : k < l.length) (j : Nat) : atG k (catG 0 e (stG l)) (setL (catG 0 e (stG l) k) 0 [I (min 6 ((l.getD k k0).casks + 1))]) j = stG (rchL l k) j := by
  unfold atG stG
  rw [rchL_get hk]
  by_cases h : j = k
  · subst h; rw [beq_t rfl, cond_true, if_pos rfl]; rfl
  · rw [beq_f h, cond_false, if_neg h]; rfl

theorem chpE_cases (ho : okAll l t = true) (hr : (0 ≤ y ∧ y ≤ 100) ∧ 0 ≤ m ∧ m ≤ 1048576) : (chpF l t y m = none ∧ chpE l t y m = 4 ∧ chpC l t y m = 0) ∨ ∃ c, chpF l t y m = some c ∧ chpE l t y m = 0 ∧ chpC l t y m = costF l c := by
  have e1 : chpE l t y m = if chpF l t y m = none then 4 else 0 := by unfold chpE; rw [if_neg (by rw [ho]; simp), if_neg (fun h => h hr)]
  cases hb : chpF l t y m with
  | none =>
    rw [hb, if_pos rfl] at e1
    refine .inl ⟨rfl, e1, ?_⟩
    unfold chpC
    rw [if_pos (by rw [e1]; decide)]
  | some c =>
    rw [hb, if_neg (by simp)] at e1
    refine .inr ⟨c, rfl, e1, ?_⟩
    unfold chpC
    rw [if_neg (fun h => h e1), hb]
theorem chpE_0 (h : chpE l t y m = 0 ∨ chpE l t y m = 4) : okAll l t = true ∧ (0 ≤ y ∧ y ≤ 100) ∧ 0 ≤ m ∧ m ≤ 1048576 := by
  unfold chpE at h
  split at h
  · omega
  · rename_i h1
    split at h
    · omega
    · rename_i h2
      exact ⟨by simpa using h1, Classical.not_not.1 h2⟩
theorem chpE_none (h : chpE l t y m = 4) : chpF l t y m = none := by
  obtain ⟨ho, hr⟩ := chpE_0 (.inr h)
  rcases chpE_cases ho hr with ⟨h1, _⟩ | ⟨_, _, h2, _⟩
  · exact h1
  · omega
theorem okAll_far {f : Int} (h : okAll l t = true) (hf : 0 ≤ f ∧ f ≤ 1000) : okAll l (farT t f) = true := by
  unfold okAll okT anyS qS okS at *
  simp only [Bool.and_eq_true, decide_eq_true_eq, Bool.not_eq_true'] at h ⊢
  obtain ⟨⟨⟨⟨⟨h1, h2⟩, h3⟩, h4⟩, h5⟩, h6⟩ := h
  exact ⟨⟨⟨⟨⟨h1, h2⟩, hf⟩, h4⟩, h5⟩, h6⟩

theorem meets_lm (ho : okAll l t = true) (hy : 0 ≤ y ∧ y ≤ 100) {c : Nat → Int} (hn : ∀ i, i < l.length → 0 ≤ c i ∧ c i ≤ (l.getD i k0).casks) (hg : ∀ i, l.length ≤ i → c i = 0) (h : meetsF l t c y m = true) : lmF l t y m (dC l c) = true := by
  unfold lmF
  rw [chD_dC hg, bldE_of ho hy hn]
  unfold meetsF at h
  split at h
  · rename_i e
    rw [if_pos e]
    simp only [Bool.and_eq_true, decide_eq_true_eq] at h ⊢
    exact ⟨trivial, h⟩
  · rename_i e
    rw [if_neg e]
    simp only [Bool.and_eq_true, decide_eq_true_eq, Bool.not_eq_true', decide_eq_false_iff_not] at h ⊢
    exact ⟨trivial, h.2, by omega⟩
end
end Go.Sx.Bln
