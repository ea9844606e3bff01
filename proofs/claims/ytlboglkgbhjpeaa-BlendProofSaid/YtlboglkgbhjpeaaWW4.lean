/- stream: Ck2 Cl1 Dc1 Dd1 Dd2 Dd3 De1 Dc2 Df1 Df2 Df3 Dg1 Dg2 Ea1 CxRb Ea2 Eb1 Eb2 Eb3 Eb4, in one text. -/
import Derived.Test.YtlboglkgbhjpeaaWW3
import Derived.Test.YtlboglkgbhjpeaaWW2
import Derived.Test.YtlboglkgbhjpeaaSxTt
/- blend: alive. -/

namespace Go.Sx.Bln
open Go Go.Sx Go.Proofs
set_option maxRecDepth 1000000

theorem ok0 : okAll L0 T0 = true := by decide +kernel
theorem okP0 : okPaths P0 = true := by decide +kernel
theorem chp0 : (chpF L0 T0 0 300).map (fun c => (c 0, c 1, c 2, costF L0 c)) = some (2, 1, 0, 130) := by decide +kernel
theorem pln0 : (planF L0 T0 P0 2 2 3 (mostF L0)).map (fun x => [x 0 0 0, x 0 0 1, x 0 0 2, x 0 1 0, x 0 1 1, x 0 1 2, x 1 0 0, x 1 0 1, x 1 0 2, x 1 1 0, x 1 1 1, x 1 1 2]) = some [1, 1, 0, 1, 1, 0, 1, 1, 0, 0, 0, 0] := by decide +kernel

theorem smR_ok : SpOk Try.prog smR.1 smR.2 := by
  intro lock args h K hK
  simp only [smR] at hK
  split at hK
  · obtain ⟨h', hc⟩ := sample_v
    exact ⟨_, h, hK, lockP_refl _ _, calls_lift0 hc rfl rfl⟩
  · exact hK.elim

theorem cfg0 : Cfg L0 T0 P0 2 := by
  obtain ⟨hl, hp, ht, _⟩ := okAll_l ok0
  refine ⟨hl, hp, okT_tB ht, by decide, by decide, fun i hi => ?_, fun i j => ?_⟩
  · have hi : i < 2 := hi
    match i, hi with
    | 0, _ => rfl
    | 1, _ => rfl
    | _ + 2, hi => omega
  · match i, j with
    | 0, 0 => exact ⟨by decide, by decide⟩
    | 0, 1 => exact ⟨by decide, by decide⟩
    | 0, _ + 2 => exact (show (0 : Int) ≤ 0 ∧ (0 : Int) ≤ 1048576 from ⟨by decide, by decide⟩)
    | 1, 0 => exact ⟨by decide, by decide⟩
    | 1, 1 => exact ⟨by decide, by decide⟩
    | 1, _ + 2 => exact (show (0 : Int) ≤ 0 ∧ (0 : Int) ≤ 1048576 from ⟨by decide, by decide⟩)
    | _ + 2, _ => exact (show (0 : Int) ≤ 0 ∧ (0 : Int) ≤ 1048576 from ⟨by decide, by decide⟩)
theorem pthB0 : pthB P0 := by
  refine ⟨⟨by decide, by decide⟩, fun i => ?_⟩
  match i with
  | 0 => decide
  | 1 => decide
  | _ + 2 => exact (show 0 ≤ 100000 by decide)

/-- A list among the arguments that is told as data ahead of the call. -/
theorem plA_ok : SpOk Try.prog plA.1 plA.2 := by
  intro lock args h K hK
  simp only [plA] at hK
  split at hK
  · rename_i a b m L nx bs
    obtain ⟨rfl, rfl, ⟨rfl, rfl, g, ty, hm, hg⟩, hK⟩ := hK
    obtain ⟨r, h', hc, hk⟩ := pln22_v (l := L0) (t := T0) (d00 := 150) (d01 := 150) (d10 := 150) (d11 := 0) ok0 okP0 cfg0 pthB0
    rcases pln_tell hc hk with ⟨hn, _⟩ | ⟨x, h2, hx, hc2⟩
    · have := pln0
      rw [show planF L0 T0 P0 2 2 3 (mostF L0) = none from hn] at this
      cases this
    · have hc3 : CallsV Try.prog 17 [stD L0, .agg (tsL T0), pthD P0] ⟨nx, (m, .gone) :: bs⟩ (.ret (.tup [plnD 3 2 2 x, I 0])) ⟨nx, (m, .gone) :: bs⟩ := calls_lift0 hc2 rfl rfl
      have hc4 : CallsV Try.prog 17 [stD L0, .agg (tsL T0), .tl 2 1 g] ⟨nx, (m, .gone) :: bs⟩ (.ret (.tup [plnD 3 2 2 x, I 0])) ⟨nx, (m, .gone) :: bs⟩ := calls_args hc3 (fun R xs hx => by
        obtain ⟨y0, _, k0, ⟨y1, _, k1, ⟨y2, _, k2, k3, rfl⟩, rfl⟩, rfl⟩ := hx
        obtain ⟨_, _, u1, _, e1⟩ := (tl_weak (L := 2) (L' := 2) (s := 1) (g := g) (g' := pthG P0) rfl hg).1 R [y2] ⟨y2, [], k2, rfl, rfl⟩
        cases e1
        exact ⟨_, _, k0, ⟨_, _, k1, ⟨_, _, u1, k3, rfl⟩, rfl⟩, rfl⟩)
      refine ⟨_, _, hK x hx, lock0 _ _, calls_told (h := ⟨nx, bs⟩) (m := m) (L := 2) (s := 1) (g := g) (t := ty) hc4 hm (fun R R' xs hle hv hxs => ?_)⟩
      obtain ⟨y0, _, k0, ⟨y1, _, k1, ⟨y2, _, k2, k3, rfl⟩, rfl⟩, rfl⟩ := hxs
      exact ⟨_, _, VRel.mono hle _ _ k0, ⟨_, _, VRel.mono hle _ _ k1, ⟨_, _, hv y2 k2, VRelL.mono hle _ _ k3, rfl⟩, rfl⟩, rfl⟩
  · exact hK.elim

theorem wk_lit3 {a b c : Int} {n : Nat → Int} (h0 : n 0 = a) (h1 : n 1 = b) (h2 : n 2 = c) : wkL [.tl 3 1 (fun j => List.take 1 (List.drop (j * 1) [I a, I b, I c]))] [d1 3 n] := tl_weak rfl (fun j hj => by
  subst h0; subst h1; subst h2
  match j, hj with
  | 0, _ => exact wkL_refl _
  | 1, _ => exact wkL_refl _
  | 2, _ => exact wkL_refl _
  | _ + 3, hj => omega)

theorem chpE0 : chpE L0 T0 0 300 = 0 := by
  unfold chpE
  rw [if_neg (by rw [ok0]; simp), if_neg (by omega), if_neg (fun h => by have := chp0; rw [h] at this; cases this)]

theorem al_tab : ∀ f T, tabS [smR, cheapR L0 T0, plA, inR, spR] f = some T → SpOk Try.prog f T := tab_ok _ (fun x hx => by
  simp only [List.mem_cons, List.not_mem_nil, or_false] at hx
  rcases hx with rfl | rfl | rfl | rfl | rfl
  · exact smR_ok
  · exact cheapR_ok L0 T0
  · exact plA_ok
  · exact inR_ok
  · exact spR_ok)
theorem alive_v : ∃ h', CallsV Try.prog 16 [] ⟨0, []⟩ (.ret (.bool true)) h' := by
  obtain ⟨r, h', rfl, hc⟩ := of_callN (noL_good al_tab) (f := 16) (args := []) (h := ⟨0, []⟩) (K := fun r _ => r = .ret (.bool true)) (by
    refine cast (al_ev _).symm ⟨rfl, rfl, fun h => (h chpE0).elim, fun _ c hc => ?_⟩
    have h0 := chp0
    rw [hc] at h0
    have h0 : (c 0, c 1, c 2, costF L0 c) = (2, 1, 0, 130) := by simpa using h0
    simp only [Prod.mk.injEq] at h0
    obtain ⟨c0, c1, c2, c3⟩ := h0
    refine ⟨rfl, rfl, ⟨rfl, rfl, _, _, rfl, ?_⟩, fun x hx => ?_⟩
    · intro i hi
      have hi : i < 2 := hi
      have key : ∀ a b : Int, wkL [.tl 2 1 (fun j => List.take 1 (List.drop (j * 1) [I a, I b]))] [inD [a, b]] := fun a b => tl_weak rfl (fun j hj => by
        match j, hj with
        | 0, _ => exact wkL_refl _
        | 1, _ => exact wkL_refl _
        | _ + 2, hj => exact absurd hj (by show ¬ _ + 2 < 2; omega))
      match i, hi with
      | 0, _ => exact key 150 150
      | 1, _ => exact key 150 0
      | _ + 2, hi => omega
    · have h1 := pln0
      rw [hx] at h1
      have h1 : [x 0 0 0, x 0 0 1, x 0 0 2, x 0 1 0, x 0 1 1, x 0 1 2, x 1 0 0, x 1 0 1, x 1 0 2, x 1 1 0, x 1 1 1, x 1 1 2] = [1, 1, 0, 1, 1, 0, 1, 1, 0, 0, 0, 0] := by simpa using h1
      simp only [List.cons.injEq, and_true] at h1
      obtain ⟨e1, e2, e3, e4, e5, e6, e7, e8, e9, ea, eb, ec⟩ := h1
      refine ⟨3, c, ⟨rfl, rfl, fun _ _ => rfl⟩, ⟨rfl, Nat.le_refl _, _, _, rfl, fun j hj => ?_⟩, by omega, cond_dk c3 ?_⟩
      · match j, hj with
        | 0, _ => exact congrArg (fun n => [I n]) c0.symm
        | 1, _ => exact congrArg (fun n => [I n]) c1.symm
        | 2, _ => exact congrArg (fun n => [I n]) c2.symm
        | _ + 3, hj => omega
      · refine ⟨.tl 2 1 (plnG 3 2 x), .tl 2 1 _, 2, fun _ => 2, fun _ _ => 3, x, ⟨rfl, rfl, fun _ _ => rfl⟩, ⟨rfl, Nat.le_refl _, _, _, rfl, fun _ _ => rfl⟩, ⟨wkL_refl _, tl_weak rfl (fun i hi => ?_)⟩, ⟨by omega, fun _ => (show 2 ≤ 100000 by omega), fun _ _ => (show 3 ≤ 100000 by omega)⟩, rfl⟩
        match i, hi with
        | 0, _ =>
          refine tl_weak rfl (fun y hy => ?_)
          match y, hy with
          | 0, _ => exact wk_lit3 e1 e2 e3
          | 1, _ => exact wk_lit3 e4 e5 e6
          | _ + 2, hy => exact absurd hy (by show ¬ _ + 2 < 2; omega)
        | 1, _ =>
          refine tl_weak rfl (fun y hy => ?_)
          match y, hy with
          | 0, _ => exact wk_lit3 e7 e8 e9
          | 1, _ => exact wk_lit3 ea eb ec
          | _ + 2, hy => exact absurd hy (by show ¬ _ + 2 < 2; omega)
        | _ + 2, hi => exact absurd hi (by show ¬ _ + 2 < 2; omega))
  exact ⟨h', hc⟩
theorem alT_ok : SpOk Try.prog alT.1 alT.2 := by
  intro lock args h K hK
  simp only [alT] at hK
  split at hK
  · obtain ⟨h', hc⟩ := alive_v
    exact ⟨_, h, hK, lockP_refl _ _, calls_lift0 hc rfl rfl⟩
  · exact hK.elim
end Go.Sx.Bln

/- blend: the law BlendMade. -/

namespace Go.Sx.Bln
open Go Go.Sx Go.Proofs
set_option maxRecDepth 1000000

theorem great_len {l : List Stk} {t : Tst} {m : Int} (h : greatF l t m = false) : l.length ≤ 8 ∧ t.T.length ≤ 6 ∧ anyG l = false ∧ pF l l.length ≤ m := by
  unfold greatF at h
  simp only [Bool.or_eq_false_iff, decide_eq_false_iff_not] at h
  obtain ⟨⟨h1, h2⟩, h3⟩ := h
  exact ⟨by omega, by omega, h2, by omega⟩

end Go.Sx.Bln

/- blend: the document's casks, Meets, evaluated. -/

namespace Go.Sx.Bln
open Go Go.Sx Go.Proofs
set_option maxRecDepth 1000000

end Go.Sx.Bln

/- blend: the document's choices, evaluated. -/

namespace Go.Sx.Bln
open Go Go.Sx Go.Proofs
set_option maxRecDepth 1000000

end Go.Sx.Bln

/- blend: the document's choices. -/

namespace Go.Sx
open Go
section
variable {P : Program}

end
end Go.Sx

namespace Go.Sx.Bln
open Go Go.Sx Go.Proofs
set_option maxRecDepth 1000000

theorem catG_lt {L j : Nat} {f g : Nat → List VV} (h : j < L) : catG L f g j = f j := by
  unfold catG
  rw [show Nat.blt j L = true from Nat.blt_eq.mpr h]
  rfl
theorem catG_ge {L j : Nat} {f g : Nat → List VV} (h : L ≤ j) : catG L f g j = g (j - L) := by
  unfold catG
  rw [show Nat.blt j L = false from Bool.eq_false_iff.2 (fun hh => by have := Nat.blt_eq.mp hh; omega)]
  rfl
theorem room8 {n : Nat} (h : n ≤ 100) : roomB n 8 = true := by
  unfold roomB
  rw [Nat.ble_eq_true_of_le (by omega), Nat.ble_eq_true_of_le (by omega)]
  rfl

section
variable {D : List Int}

end
end Go.Sx.Bln

/- blend: the document's choices: the outer loop, and the row. -/

namespace Go.Sx.Bln
open Go Go.Sx Go.Proofs
set_option maxRecDepth 1000000

section
variable {D : List Int}

end
end Go.Sx.Bln

/- blend: the document's choices are all choices, in their order. -/

namespace Go.Sx.Bln
open Go Go.Sx Go.Proofs
set_option maxRecDepth 100000

section
variable {D : List Int} {most : Nat → Int}

end

end Go.Sx.Bln

/- blend: the document's casks and Meets. -/

namespace Go.Sx.Bln
open Go Go.Sx Go.Proofs
set_option maxRecDepth 1000000

section
variable {l : List Stk} {t : Tst} {y m : Int} {D : List Int}

end

end Go.Sx.Bln

/- blend: the document's Cheapest, evaluated. -/

namespace Go.Sx.Bln
open Go Go.Sx Go.Proofs
set_option maxRecDepth 1000000

end Go.Sx.Bln

/- blend: the document's Cheapest. -/

namespace Go.Sx.Bln
open Go Go.Sx Go.Proofs
set_option maxRecDepth 1000000

section
variable {l : List Stk} {t : Tst} {y m : Int}

/-- A choice as a list. -/
def dC (l : List Stk) (c : Nat → Int) : List Int := (List.range l.length).map c
theorem dC_get {c : Nat → Int} {i : Nat} (hi : i < l.length) : (dC l c).getD i 0 = c i := by
  unfold dC
  rw [List.getD_eq_getElem?_getD, List.getElem?_map, List.getElem?_range hi]
  rfl
theorem chD_dC {c : Nat → Int} (h : ∀ i, l.length ≤ i → c i = 0) : chD (dC l c) = c := by
  funext i
  show (dC l c).getD i 0 = c i
  by_cases hi : i < l.length
  · exact dC_get hi
  · rw [h i (by omega), List.getD_eq_getElem?_getD, List.getElem?_eq_none (by unfold dC; rw [List.length_map, List.length_range]; omega)]
    rfl
theorem dC_len {c : Nat → Int} : (dC l c).length = l.length := by unfold dC; rw [List.length_map, List.length_range]

end
end Go.Sx.Bln

/- blend: the document's Cheapest, as a row. -/

namespace Go.Sx.Bln
open Go Go.Sx Go.Proofs
set_option maxRecDepth 1000000

section
variable (l : List Stk) (t : Tst) (y m : Int)

end
end Go.Sx.Bln

/- blend: the law BlendCheapest, evaluated. -/

namespace Go.Sx.Bln
open Go Go.Sx Go.Proofs
set_option maxRecDepth 1000000

end Go.Sx.Bln

/- blend: the law BlendCheapest. -/

namespace Go.Sx.Bln
open Go Go.Sx Go.Proofs
set_option maxRecDepth 1000000

end Go.Sx.Bln

/- blend: a choice by remainders (some), the law's meets, evaluated. -/

namespace Go.Sx.Bln
open Go Go.Sx Go.Proofs
set_option maxRecDepth 1000000

def bG (B : List Int) (j : Nat) : List VV := [.int .u8 (B.getD j 0)]
def byD (B : List Int) : VV := .tl B.length 1 (bG B)
def dsSo : List Nat := [11, 10, 9, 5, 0, 1]
def VSo (l : List Stk) (B : List Int) (i : Nat) : List VV := [I i, I l.length, stD l, .sl 0 i, stD l, byD B]
theorem sol_ev (l : List Stk) (B : List Int) (i : Nat) (F : Nat → List VV) (X : VEx → List VV → List VB → Prop) : codeE Try.prog (callN Try.prog noSpec noL 10 20) (fun _ => none) true 10 (ntOf Try.prog 32) 0 (loopB 0 (bodyOf Try.prog 32)) (dsSo.zip (VSo l B i)) ⟨1, [0].zip [.vec i F 1 3]⟩ (obs 1 dsSo [0] X) =
  (bif decide ((↑i : Int) < (↑l.length : Int)) then
 bif decide ((0 : Int) ≤ (↑i : Int) ∧ (↑i : Int) < (↑l.length : Int)) then
 bif decide ((↑B.length : Int) = (0 : Int)) then
 False
 else bif decide ((0 : Int) ≤ remZ (↑i : Int) (↑B.length : Int) ∧ remZ (↑i : Int) (↑B.length : Int) < (↑B.length : Int)) then
 bif inK IntKind.i64 (B.getD (remZ (↑i : Int) (↑B.length : Int)).toNat (0 : Int)) then
 bif inK IntKind.i64 ((l.getD (↑i : Int).toNat k0).casks + (1 : Int)) then
 bif decide ((l.getD (↑i : Int).toNat k0).casks + (1 : Int) = (0 : Int)) then
 False
 else bif i.beq i then
 bif roomB (i + 1) (8) then
 bif inK IntKind.i64 ((↑i : Int) + (1 : Int)) then
 X VEx.normal [I ((↑i : Int) + (1 : Int)), I (↑l.length : Int), VV.tl l.length 5 (stG l), VV.sl 0 (i + 1), VV.tl l.length 5 (stG l), VV.tl B.length 1 (bG B)] [VB.vec (i + 1) (catG i F fun (j : Nat) => List.take (1) (List.drop (j * (1)) [I (remZ (B.getD (remZ (↑i : Int) (↑B.length : Int)).toNat (0 : Int)) ((l.getD (↑i : Int).toNat k0).casks + (1 : Int)))])) (1) 3]
 else False
 else False
 else False
 else False
 else False
 else False
 else False
 else X (VEx.exit 0) [I (↑i : Int), I (↑l.length : Int), VV.tl l.length 5 (stG l), VV.sl 0 i, VV.tl l.length 5 (stG l), VV.tl B.length 1 (bG B)] [VB.vec i F 1 (3 : TypeId)]) := by kernel_rfl

/-- Numbers from 0 to 255. -/
def u8B (B : List Int) : Prop := 0 < B.length ∧ ∀ i, 0 ≤ B.getD i 0 ∧ B.getD i 0 ≤ 255
def someF (l : List Stk) (B : List Int) (i : Nat) : Int := B.getD (i % B.length) 0 % ((l.getD i k0).casks + 1)
def lSo (l : List Stk) (B : List Int) : LT := fun lock tt h K =>
  FitP lock h tt ⟨1, [0].zip [.vec 0 (chG (someF l B)) 1 3]⟩ (dsSo.zip (VSo l B 0)) ∧ (lB l ∧ u8B B) ∧ K .normal (dsSo.zip (VSo l B l.length)) ⟨1, [0].zip [.vec l.length (chG (someF l B)) 1 3]⟩
theorem som_ev (l : List Stk) (B : List Int) (Q : VRes → VH → Prop) : callN Try.prog noSpec (atF 32 [(0, lSo l B)]) 10 20 0 (.fn 32) [stD l, byD B] ⟨0, []⟩ (fun r h => Q r h) =
  (FitP 0 (VH.mk (0 + 1) [(0, VB.vec 0 (fun (j : Nat) => List.take (1) (List.drop (j * (1)) [])) (1) 3)]) [(11, I 0), (10, I (↑l.length : Int)), (9, VV.tl l.length 5 (stG l)), (5, VV.sl 0 0), (8, VV.sl 0 0), (4, VV.nils), (0, stD l), (1, byD B)] (VH.mk 1 ([0].zip [VB.vec 0 (chG (someF l B)) 1 (3 : TypeId)])) (dsSo.zip (VSo l B 0)) ∧ (lB l ∧ u8B B) ∧ Q (VRes.ret (VV.sl 0 l.length)) (VH.mk 1 [(0, VB.vec l.length (chG (someF l B)) 1 (3 : TypeId))])) := by kernel_rfl

def bldR (l : List Stk) (t : Tst) : FuncId × Spec1 := (24, fun _ args h K => match args with
  | [x, z, .int .i64 y, w] => isD h 4 x (stD l) ∧ isD h 4 z (.agg (tsL t)) ∧ ∃ D, isD h 4 w (inD D) ∧ (bldE l t y D ≠ 0 → K (.ret (.tup [zV, I (bldE l t y D)])) h) ∧ (bldE l t y D = 0 → ∀ V, V = vtF l t (chD D) y → K (.ret (.tup [vtV V h.nx, I 0])) (h.new (vtB V)))
  | _ => False)
theorem lme_ev (l : List Stk) (t : Tst) (y m : Int) (D : List Int) (Q : VRes → Prop) : callN Try.prog (tabS [bldR l t]) noL 10 20 0 (.fn 31) [stD l, .agg (tsL t), I y, I m, inD D] ⟨0, []⟩ (fun r _ => Q r) =
  (isD (VH.mk (0 + 1) [(0, VB.cells [VV.tl t.T.length 1 (dG t.T), I t.far, I t.least] 25)]) 4 (VV.tl l.length 5 (stG l)) (stD l) ∧ isD (VH.mk (0 + 1) [(0, VB.cells [VV.tl t.T.length 1 (dG t.T), I t.far, I t.least] 25)]) 4 (VV.agg [VV.tl t.T.length 1 (dG t.T), I t.far, I t.least]) (VV.agg (tsL t)) ∧ ∃ (D_1 : List Int), isD (VH.mk (0 + 1) [(0, VB.cells [VV.tl t.T.length 1 (dG t.T), I t.far, I t.least] 25)]) 4 (VV.tl D.length 1 (dG D)) (inD D_1) ∧ (bldE l t y D_1 ≠ (0 : Int) → bif !decide (bldE l t y D_1 = (0 : Int)) then
 Q (VRes.ret (VV.bool false))
 else bif decide (m = (0 : Int)) then
 Q (VRes.ret (VV.bool (decide ((0 : Int) = (0 : Int)))))
 else Q (VRes.ret (VV.bool false))) ∧ (bldE l t y D_1 = (0 : Int) → ∀ (V : Vt), V = vtF l t (chD D_1) y → bif decide (m = (0 : Int)) then
 Q (VRes.ret (VV.bool (decide (V.v = (0 : Int)))))
 else bif V.k then
 Q (VRes.ret (VV.bool (decide (V.v ≥ m))))
 else Q (VRes.ret (VV.bool false)))) := by kernel_rfl

end Go.Sx.Bln

/- blend: a list of uint8 among a law's arguments, read. -/

namespace Go.Sx.Bln
open Go Go.Sx Go.Proofs Go.ChangeShapes Go.WideShapes Go.RowKit
set_option maxRecDepth 100000

theorem leavesP5 : leavesT Try.prog 5 5 = some [5] := by kernel_rfl
theorem undP5 : Try.prog.underlying 5 = some (.int .u8) := by kernel_rfl
theorem undP61 : Try.prog.underlying 61 = some (.slice 5) := by kernel_rfl
theorem cellsP5 : Try.prog.cellsOf 5 = 1 := by kernel_rfl

section
variable {H : Type} {enc : TypeId × Value → H} {w : World} {b0 base : Nat} {spare : Nat → Bool} {held : Bool} {d : DataW H} {p : List MemPlace} {v : Value} {fuel : Nat} {y : DataW H × List MemPlace}

abbrev U8 := {n : Int // 0 ≤ n ∧ n ≤ 255}
theorem leafB {v : Value} (h : ∃ m v' y, some v = some v' ∧ DataW.trod enc Try.prog w base spare held m 5 [v'] = some y) : ∃ n : U8, v = .int .u8 n.1 := by
  obtain ⟨m, v', y, e, h⟩ := h
  cases e
  obtain ⟨n, rfl, hn⟩ := leaf_int undP5 h
  have h2 : 0 ≤ n ∧ n ≤ 255 := by
    simp only [Lit.wf, Bool.and_eq_true, decide_eq_true_eq] at hn
    exact hn
  exact ⟨⟨n, h2⟩, rfl⟩

theorem bytes_rd (h : DataW.trod enc Try.prog w base spare held fuel 61 [v] = some y) : ∃ B : List Int, VRel (dataR w) (byD B) v ∧ ∀ i, 0 ≤ B.getD i 0 ∧ B.getD i 0 ≤ 255 := by
  obtain ⟨l, hl⟩ := read_list (α := U8) (f := fun n => [.int .u8 n.1]) (d0 := ⟨0, by decide⟩) undP61 leavesP5 cellsP5 (by decide) (fun _ => rfl) (fun xs hx hc => by
    obtain ⟨a, rfl⟩ := len1 hx
    obtain ⟨n, rfl⟩ := leafB (hc 0 5 rfl)
    exact ⟨n, _, _, rfl, rfl, rfl⟩) h
  have e : ∀ j, (l.map Subtype.val).getD j 0 = (l.getD j ⟨0, by decide⟩).1 := fun j => by
    rw [List.getD_eq_getElem?_getD, List.getD_eq_getElem?_getD, List.getElem?_map]
    cases l[j]? <;> rfl
  refine ⟨l.map Subtype.val, ?_, fun i => by rw [e]; exact (l.getD i ⟨0, by decide⟩).2⟩
  have e2 : byD (l.map Subtype.val) = .tl l.length 1 (fun j => [.int .u8 (l.getD j ⟨0, by decide⟩).1]) := by
    unfold byD bG
    rw [List.length_map]
    congr 1
    funext j
    rw [e]
  rw [e2]
  exact hl
theorem bytes_in (s : Value.okWide Try.prog w .any b0 61 v) (h : DataW.Trod enc Try.prog w base spare held 61 v d p) : ∃ B : List Int, VRel (dataR w) (byD B) v ∧ ∀ i, 0 ≤ B.getD i 0 ∧ B.getD i 0 ≤ 255 := by
  obtain ⟨_, _, h⟩ := open_list undP61 s h
  exact bytes_rd h
end
end Go.Sx.Bln

/- blend: a choice by remainders (some), the law's meets, as rows. -/

namespace Go.Sx.Bln
open Go Go.Sx Go.Proofs
set_option maxRecDepth 1000000

section
variable {l : List Stk} {t : Tst} {y m : Int} {D B : List Int}

theorem some_bd (hl : lB l) (hB : u8B B) {i : Nat} (hi : i < l.length) : 0 ≤ someF l B i ∧ someF l B i ≤ (l.getD i k0).casks := by
  have h1 := (hl.2 i hi).1
  unfold someF
  have := Int.emod_nonneg (B.getD (i % B.length) 0) (b := (l.getD i k0).casks + 1) (by omega)
  have := Int.emod_lt_of_pos (B.getD (i % B.length) 0) (b := (l.getD i k0).casks + 1) (by omega)
  omega

theorem lSo_ok : LSound Try.prog true (.block 0 (.loop (loopB 0 (bodyOf Try.prog 32)))) (ntOf Try.prog 32) (lSo l B) := by
  by_cases hh : lB l ∧ u8B B
  · obtain ⟨hl, hB⟩ := hh
    have hl6 := hl.1
    refine loop_row hmix good0 (un := 10) (ds := dsSo) (ns := [0]) (nx := 1) (fun i : Nat => VSo l B i) (fun i => [.vec i (chG (someF l B)) 1 3]) (fun i => i ≤ l.length) (fun i => l.length - i) (fun _ e vs bs => e = .exit 0 ∧ bs = [.vec l.length (chG (someF l B)) 1 3] ∧ vs = VSo l B l.length) noL_ok ?_ ?_
    · rintro i h0
      refine cast (sol_ev l B i _ _).symm ?_
      by_cases hlt : i < l.length
      · have h1 := (hl.2 i hlt).1
        have hb := some_bd hl hB hlt
        have e1 : remZ (i : Int) (B.length : Int) = ((i % B.length : Nat) : Int) := by rw [remZ_nn (by omega)]; rfl
        have hlt2 : i % B.length < B.length := Nat.mod_lt _ hB.1
        have hv := hB.2 (i % B.length)
        rw [e1, show (i : Int).toNat = i by omega, show ((i % B.length : Nat) : Int).toNat = i % B.length by omega, remZ_nn hv.1]
        refine cond_dk (by omega) (cond_dk ⟨by omega, by omega⟩ (cond_d (fun h => by have := hB.1; omega) (fun _ => cond_dk ⟨by omega, by omega⟩ (cond_r (by omega) (cond_r (by omega) (cond_d (fun h => by omega) (fun _ => cond_k (Nat.beq_refl _) (cond_k (room8 (by omega)) (cond_r (by omega) ⟨i + 1, by omega, by dsimp only; omega, rfl, ⟨⟨rfl, rfl, rfl, fun q hq => ?_⟩, trivial⟩, fun _ _ _ h => h⟩)))))))))
        by_cases hq2 : q < i
        · rw [catG_lt hq2]
        · obtain rfl : q = i := by omega
          rw [catG_ge (Nat.le_refl _), Nat.sub_self]
          rfl
      · obtain rfl : i = l.length := by omega
        exact cond_d (fun h => by omega) (fun _ => ⟨rfl, rfl, rfl⟩)
    · rintro lock tt h K ⟨hf, _, k1⟩
      refine ⟨0, hf, Nat.zero_le _, ?_⟩
      rintro e vs bs ⟨rfl, rfl, rfl⟩
      exact k1
  · rintro lock tt h K ⟨hf, hc, _⟩
    exact (hh hc).elim

theorem some_n (hl : lB l) (hB : u8B B) : CallsV Try.prog 32 [stD l, byD B] ⟨0, []⟩ (.ret (.sl 0 l.length)) ⟨1, [(0, .vec l.length (chG (someF l B)) 1 3)]⟩ := by
  have hall : LoopsOk Try.prog 32 [(0, lSo l B)] := fun x hx => by
    simp only [List.mem_singleton] at hx
    subst hx
    exact ⟨by kernel_rfl, lSo_ok⟩
  obtain ⟨r, h', ⟨rfl, rfl⟩, hc⟩ := of_callN (callL_good hmix noSp hall (un := 10) 20) (f := 32) (args := [stD l, byD B]) (h := ⟨0, []⟩) (K := fun r h' => r = .ret (.sl 0 l.length) ∧ h' = ⟨1, [(0, .vec l.length (chG (someF l B)) 1 3)]⟩) (by
    refine cast (som_ev l B _).symm ⟨?_, ⟨hl, hB⟩, rfl, rfl⟩
    exact ⟨⟨rfl, rfl, ⟨rfl, rfl, rfl, fun i hi => by omega⟩, trivial⟩, rfl, rfl, rfl, rfl, rfl, rfl, trivial⟩)
  exact hc

theorem bldR_ok (l : List Stk) (t : Tst) : SpOk Try.prog (bldR l t).1 (bldR l t).2 := by
  intro lock args h K hK
  simp only [bldR] at hK
  split at hK
  · obtain ⟨h1, h2, D, h3, k1, k2⟩ := hK
    exact bldT_ok lock _ h K ⟨l, t, D, h1, h2, h3, k1, k2⟩
  · exact hK.elim

/-- Does a choice meet a need, by its blend? -/
noncomputable def lmF (l : List Stk) (t : Tst) (y m : Int) (D : List Int) : Bool := decide (bldE l t y D = 0) && if m = 0 then decide (volF l (chD D) = 0) else (vtF l t (chD D) y).k && decide (volF l (chD D) ≥ m)
theorem lm_v : ∃ h', CallsV Try.prog 31 [stD l, .agg (tsL t), I y, I m, inD D] ⟨0, []⟩ (.ret (.bool (lmF l t y m D))) h' := by
  obtain ⟨r, h', rfl, hc⟩ := of_callN (noL_good (tab1 (bldR_ok l t))) (f := 31) (args := [stD l, .agg (tsL t), I y, I m, inD D]) (h := ⟨0, []⟩) (K := fun r _ => r = .ret (.bool (lmF l t y m D))) (by
    refine cast (lme_ev l t y m D _).symm ⟨isD_l, isD_t, D, isD_d, fun he => cond_nd (fun _ => ?_) (fun h => (he h).elim), ?_⟩
    · unfold lmF; rw [decide_eq_false he]; rfl
    · rintro he V rfl
      have hv : (vtF l t (chD D) y).v = volF l (chD D) := rfl
      unfold lmF
      rw [hv, decide_eq_true he, Bool.true_and]
      refine cond_d (fun h => by rw [if_pos h]) (fun h => ?_)
      rw [if_neg h]
      refine cond_i (fun h2 => by rw [h2]; rfl) (fun h2 => by rw [h2]; rfl))
  exact ⟨h', hc⟩
end

/-- A choice by remainders, as a row; the law's meets, as a row. -/
def someT : FuncId × Spec1 := (32, fun _ args h K => match args with
  | [x, z] => ∃ (l : List Stk) (B : List Int), isD h 3 x (stD l) ∧ isD h 3 z (byD B) ∧ (lB l ∧ u8B B) ∧ K (.ret (.sl h.nx l.length)) (h.new (.vec l.length (chG (someF l B)) 1 3))
  | _ => False)
theorem someT_ok : SpOk Try.prog someT.1 someT.2 := by
  intro lock args h K hK
  simp only [someT] at hK
  split at hK
  · rename_i x z
    obtain ⟨l, B, hx, hz, ⟨hl, hB⟩, hK⟩ := hK
    have := calls_lendDO (args' := [x, z]) (h := h) 3 0 (some_n hl hB) rfl (fun i => rfl) rfl (fun i hi => rfl) ⟨hx, hz, trivial⟩
    have e : (VRes.ret (.sl 0 l.length)).sh 0 h.nx = .ret (.sl h.nx l.length) := by simp [VRes.sh, VV.sh, shN]
    rw [e] at this
    exact ⟨_, _, hK, lockP_new _ _ _, this⟩
  · exact hK.elim
noncomputable def lmT : FuncId × Spec1 := (31, fun _ args h K => match args with
  | [x, z, .int .i64 y, .int .i64 m, w] => ∃ (l : List Stk) (t : Tst) (D : List Int), isD h 4 x (stD l) ∧ isD h 4 z (.agg (tsL t)) ∧ isD h 4 w (inD D) ∧ K (.ret (.bool (lmF l t y m D))) h
  | _ => False)
theorem lmT_ok : SpOk Try.prog lmT.1 lmT.2 := by
  intro lock args h K hK
  simp only [lmT] at hK
  split at hK
  · obtain ⟨l, t, D, hx, hz, hw, hK⟩ := hK
    obtain ⟨h', hv⟩ := lm_v (l := l) (t := t) (D := D)
    exact ⟨_, h, hK, lockP_refl _ _, calls_lendDP 4 hv rfl ⟨hx, hz, ⟨rfl, rfl⟩, ⟨rfl, rfl⟩, hw, trivial⟩⟩
  · exact hK.elim
end Go.Sx.Bln

/- blend: the law BlendProof, evaluated. -/

namespace Go.Sx.Bln
open Go Go.Sx Go.Proofs
set_option maxRecDepth 1000000

def grR (l : List Stk) (t : Tst) : FuncId × Spec1 := (14, fun _ args h K => match args with
  | [x, z, .int .i64 m] => isD h 4 x (stD l) ∧ isD h 4 z (.agg (tsL t)) ∧ K (.ret (.bool (greatF l t m))) h
  | _ => False)
def bnR (l : List Stk) (t : Tst) (D : List Int) : FuncId × Spec1 := (35, fun _ args h K => match args with
  | [x, z, .int .i64 y, .int .i64 m, w, .int .i64 u] => isD h 4 x (stD l) ∧ isD h 4 z (.agg (tsL t)) ∧ isD h 4 w (inD D) ∧ D.length ≤ 100000 ∧ K (.ret (.tup [I (bndV l t y m u D), I (bndE l t y m u D)])) h
  | _ => False)
noncomputable def chA (l : List Stk) (t : Tst) : FuncId × Spec1 := (18, fun _ args h K => match args with
  | [x, z, .int .i64 y, .int .i64 m] => isD h 4 x (stD l) ∧ isD h 4 z (.agg (tsL t)) ∧ K (.ret (.tup [.any, I (chpC l t y m), I (chpE l t y m)])) h
  | _ => False)
def smB (l : List Stk) (B : List Int) : FuncId × Spec1 := (32, fun _ args h K => match args with
  | [x, z] => isD h 3 x (stD l) ∧ isD h 3 z (byD B) ∧ (lB l ∧ u8B B) ∧ K (.ret (.sl h.nx l.length)) (h.new (.vec l.length (chG (someF l B)) 1 3))
  | _ => False)
noncomputable def lmR (l : List Stk) (t : Tst) : FuncId × Spec1 := (31, fun _ args h K => match args with
  | [x, z, .int .i64 y, .int .i64 m, w] => isD h 4 x (stD l) ∧ isD h 4 z (.agg (tsL t)) ∧ ∃ (D : List Int), isD h 4 w (inD D) ∧ K (.ret (.bool (lmF l t y m D))) h
  | _ => False)
def dsPr : List Nat := [67, 66, 65, 17, 16, 15, 14, 8, 0, 1, 2, 3, 4, 5, 6]
def VPr (l : List Stk) (t : Tst) (y m u e n : Int) (D B : List Int) (i : Nat) (a : Int) : List VV := [I i, I l.length, stD l, I a, I e, I n, .bool false, .ptr (.own 0 0), stD l, .agg (tsL t), I y, I m, inD D, I u, byD B]
theorem prl_ev (l : List Stk) (t : Tst) (y m u e n : Int) (D B : List Int) (i : Nat) (a : Int) (X : VEx → List VV → List VB → Prop) : codeE Try.prog (callN Try.prog noSpec noL 10 20) (fun _ => none) true 10 (ntOf Try.prog 12) 0 (loopB 0 (bodyOf Try.prog 12)) (dsPr.zip (VPr l t y m u e n D B i a)) ⟨1, [0].zip (BR t)⟩ (obs 1 dsPr [0] X) =
  (bif decide ((↑i : Int) < (↑l.length : Int)) then
 bif decide ((0 : Int) ≤ (↑i : Int) ∧ (↑i : Int) < (↑l.length : Int)) then
 bif inK IntKind.i64 ((l.getD (↑i : Int).toNat k0).casks * (l.getD (↑i : Int).toNat k0).cost) then
 bif inK IntKind.i64 (a + (l.getD (↑i : Int).toNat k0).casks * (l.getD (↑i : Int).toNat k0).cost) then
 bif inK IntKind.i64 ((↑i : Int) + (1 : Int)) then
 X VEx.normal [I ((↑i : Int) + (1 : Int)), I (↑l.length : Int), stD l, I (a + (l.getD (↑i : Int).toNat k0).casks * (l.getD (↑i : Int).toNat k0).cost), I e, I n, VV.bool false, VV.ptr (VA.own 0 0), stD l, VV.agg (tsL t), I y, I m, inD D, I u, byD B] [VB.cells (tsL t) (25 : TypeId)]
 else False
 else False
 else False
 else False
 else X (VEx.exit 0) [I (↑i : Int), I (↑l.length : Int), stD l, I a, I e, I n, VV.bool false, VV.ptr (VA.own 0 0), stD l, VV.agg (tsL t), I y, I m, inD D, I u, byD B] [VB.cells (tsL t) (25 : TypeId)]) := by kernel_rfl

def tmA (l : List Stk) (i : Nat) : Int := (l.getD i k0).casks * (l.getD i k0).cost
def lPr (l : List Stk) (t : Tst) (y m u e n : Int) (D B : List Int) : LT := fun lock tt h K =>
  FitP lock h tt ⟨1, [0].zip (BR t)⟩ (dsPr.zip (VPr l t y m u e n D B 0 0)) ∧ lB l ∧ K .normal (dsPr.zip (VPr l t y m u e n D B l.length (sumF (tmA l) l.length))) ⟨1, [0].zip (BR t)⟩
theorem prp_ev (l : List Stk) (t : Tst) (y m u : Int) (D B : List Int) (Q : VRes → Prop) : callN Try.prog (tabS [grR l t, bnR l t D, rsR l t, chA l t, smB l B, bldR l t, lmR l t, alT]) (atF 12 [(0, lPr l t y m u (bndE l t y m u D) (bndV l t y m u D) D B)]) 10 20 0 (.fn 12) [stD l, .agg (tsL t), I y, I m, inD D, I u, byD B] ⟨0, []⟩ (fun r _ => Q r) =
  (isD (VH.mk (0 + 1) [(0, VB.cells (tsL t) 25)]) 4 (stD l) (stD l) ∧ isD (VH.mk (0 + 1) [(0, VB.cells (tsL t) 25)]) 4 (VV.agg (tsL t)) (VV.agg (tsL t)) ∧ bif greatF l t (1000 : Int) then
 Q (VRes.ret (VV.bool true))
 else bif decide ((↑D.length : Int) > (12 : Int)) then
 Q (VRes.ret (VV.bool true))
 else bif decide ((↑B.length : Int) = (0 : Int)) then
 Q (VRes.ret (VV.bool true))
 else isD (VH.mk (0 + 1) [(0, VB.cells (tsL t) 25)]) 4 (stD l) (stD l) ∧ isD (VH.mk (0 + 1) [(0, VB.cells (tsL t) 25)]) 4 (VV.agg (tsL t)) (VV.agg (tsL t)) ∧ isD (VH.mk (0 + 1) [(0, VB.cells (tsL t) 25)]) 4 (inD D) (inD D) ∧ D.length ≤ 100000 ∧ bif !decide (bndE l t y m u D = (0 : Int)) then
 bif decide (bndV l t y m u D = (0 : Int)) then
 Q (VRes.ret (VV.bool true))
 else Q (VRes.ret (VV.bool false))
 else isD (VH.mk (0 + 1) [(0, VB.cells (tsL t) 25)]) 3 (stD l) (stD l) ∧ isD (VH.mk (0 + 1) [(0, VB.cells (tsL t) 25)]) 3 (VV.agg (tsL t)) (VV.agg (tsL t)) ∧ (l.length ≤ 100000 ∧ t.T.length ≤ 100000) ∧ bif !(decide (l.length ≤ 6) && !anyS l t) then
 Q (VRes.ret (VV.bool false))
 else bif decide (bndV l t y m u D < (0 : Int)) then
 Q (VRes.ret (VV.bool false))
 else FitP 0 (VH.mk 1 ([0].zip (BR t))) (dsPr.zip (VPr l t y m u (bndE l t y m u D) (bndV l t y m u D) D B 0 (0 : Int))) (VH.mk 1 ([0].zip (BR t))) (dsPr.zip (VPr l t y m u (bndE l t y m u D) (bndV l t y m u D) D B 0 (0 : Int))) ∧ lB l ∧ isD (VH.mk 1 ([0].zip (BR t))) 4 (stD l) (stD l) ∧ isD (VH.mk 1 ([0].zip (BR t))) 4 (VV.agg (tsL t)) (VV.agg (tsL t)) ∧ bif decide (chpE l t y m = (0 : Int)) then
 bif decide (chpC l t y m < bndV l t y m u D) then
 Q (VRes.ret (VV.bool false))
 else bif decide (bndV l t y m u D > sumF (tmA l) l.length) then
 Q (VRes.ret (VV.bool false))
 else bif !decide (chpE l t y m = (0 : Int)) then
 bif !decide (chpE l t y m = (4 : Int)) then
 Q (VRes.ret (VV.bool false))
 else isD (VH.mk 1 ([0].zip (BR t))) 3 (stD l) (stD l) ∧ isD (VH.mk 1 ([0].zip (BR t))) 3 (byD B) (byD B) ∧ (lB l ∧ u8B B) ∧ isD ((VH.mk 1 ([0].zip (BR t))).new (VB.vec l.length (chG (someF l B)) 1 (3 : TypeId))) 4 (stD l) (stD l) ∧ isD ((VH.mk 1 ([0].zip (BR t))).new (VB.vec l.length (chG (someF l B)) 1 (3 : TypeId))) 4 (VV.agg (tsL t)) (VV.agg (tsL t)) ∧ ∃ (D_1 : List Int), isD ((VH.mk 1 ([0].zip (BR t))).new (VB.vec l.length (chG (someF l B)) 1 (3 : TypeId))) 4 (VV.sl (VH.mk 1 ([0].zip (BR t))).nx l.length) (inD D_1) ∧ (bldE l t y D_1 ≠ (0 : Int) → bif decide (bldE l t y D_1 = (0 : Int)) then
 isD (VH.mk (3) ((2, VB.cells [I 0, I 0, I 0, VV.nils, VV.bool false] 49) :: (2, VB.cells [I 0, I 0, I 0, VV.nils, VV.bool false] 49) :: ((VH.mk 1 ([0].zip (BR t))).nx, VB.vec l.length (chG (someF l B)) 1 (3 : TypeId)) :: (VH.mk 1 ([0].zip (BR t))).bs)) 4 (stD l) (stD l) ∧ isD (VH.mk (3) ((2, VB.cells [I 0, I 0, I 0, VV.nils, VV.bool false] 49) :: (2, VB.cells [I 0, I 0, I 0, VV.nils, VV.bool false] 49) :: ((VH.mk 1 ([0].zip (BR t))).nx, VB.vec l.length (chG (someF l B)) 1 (3 : TypeId)) :: (VH.mk 1 ([0].zip (BR t))).bs)) 4 (VV.agg (tsL t)) (VV.agg (tsL t)) ∧ ∃ (D_2 : List Int), isD (VH.mk (3) ((2, VB.cells [I 0, I 0, I 0, VV.nils, VV.bool false] 49) :: (2, VB.cells [I 0, I 0, I 0, VV.nils, VV.bool false] 49) :: ((VH.mk 1 ([0].zip (BR t))).nx, VB.vec l.length (chG (someF l B)) 1 (3 : TypeId)) :: (VH.mk 1 ([0].zip (BR t))).bs)) 4 (VV.sl (VH.mk 1 ([0].zip (BR t))).nx l.length) (inD D_2) ∧ bif !lmF l t y m D_2 then
 Q (VRes.ret (VV.bool true))
 else bif decide ((0 : Int) ≥ bndV l t y m u D) then
 Q (VRes.ret (VV.bool true))
 else Q (VRes.ret (VV.bool false))
 else Q (VRes.ret (VV.bool false))) ∧ (bldE l t y D_1 = (0 : Int) → ∀ (V : Vt), V = vtF l t (chD D_1) y → isD (VH.mk (4) ((3, VB.cells [I V.v, I V.c, I V.a, VV.sl ((VH.mk 1 ([0].zip (BR t))).new (VB.vec l.length (chG (someF l B)) 1 (3 : TypeId))).nx V.P.length, VV.bool V.k] 49) :: (3, VB.cells [I 0, I 0, I 0, VV.nils, VV.bool false] 49) :: (((VH.mk 1 ([0].zip (BR t))).new (VB.vec l.length (chG (someF l B)) 1 (3 : TypeId))).nx, vtB V) :: ((VH.mk 1 ([0].zip (BR t))).new (VB.vec l.length (chG (someF l B)) 1 (3 : TypeId))).bs)) 4 (stD l) (stD l) ∧ isD (VH.mk (4) ((3, VB.cells [I V.v, I V.c, I V.a, VV.sl ((VH.mk 1 ([0].zip (BR t))).new (VB.vec l.length (chG (someF l B)) 1 (3 : TypeId))).nx V.P.length, VV.bool V.k] 49) :: (3, VB.cells [I 0, I 0, I 0, VV.nils, VV.bool false] 49) :: (((VH.mk 1 ([0].zip (BR t))).new (VB.vec l.length (chG (someF l B)) 1 (3 : TypeId))).nx, vtB V) :: ((VH.mk 1 ([0].zip (BR t))).new (VB.vec l.length (chG (someF l B)) 1 (3 : TypeId))).bs)) 4 (VV.agg (tsL t)) (VV.agg (tsL t)) ∧ ∃ (D_2 : List Int), isD (VH.mk (4) ((3, VB.cells [I V.v, I V.c, I V.a, VV.sl ((VH.mk 1 ([0].zip (BR t))).new (VB.vec l.length (chG (someF l B)) 1 (3 : TypeId))).nx V.P.length, VV.bool V.k] 49) :: (3, VB.cells [I 0, I 0, I 0, VV.nils, VV.bool false] 49) :: (((VH.mk 1 ([0].zip (BR t))).new (VB.vec l.length (chG (someF l B)) 1 (3 : TypeId))).nx, vtB V) :: ((VH.mk 1 ([0].zip (BR t))).new (VB.vec l.length (chG (someF l B)) 1 (3 : TypeId))).bs)) 4 (VV.sl (VH.mk 1 ([0].zip (BR t))).nx l.length) (inD D_2) ∧ bif !lmF l t y m D_2 then
 Q (VRes.ret (VV.bool true))
 else bif decide (V.c ≥ bndV l t y m u D) then
 Q (VRes.ret (VV.bool true))
 else Q (VRes.ret (VV.bool false)))
 else isD (VH.mk 1 ([0].zip (BR t))) 3 (stD l) (stD l) ∧ isD (VH.mk 1 ([0].zip (BR t))) 3 (byD B) (byD B) ∧ (lB l ∧ u8B B) ∧ isD ((VH.mk 1 ([0].zip (BR t))).new (VB.vec l.length (chG (someF l B)) 1 (3 : TypeId))) 4 (stD l) (stD l) ∧ isD ((VH.mk 1 ([0].zip (BR t))).new (VB.vec l.length (chG (someF l B)) 1 (3 : TypeId))) 4 (VV.agg (tsL t)) (VV.agg (tsL t)) ∧ ∃ (D_1 : List Int), isD ((VH.mk 1 ([0].zip (BR t))).new (VB.vec l.length (chG (someF l B)) 1 (3 : TypeId))) 4 (VV.sl (VH.mk 1 ([0].zip (BR t))).nx l.length) (inD D_1) ∧ (bldE l t y D_1 ≠ (0 : Int) → bif decide (bldE l t y D_1 = (0 : Int)) then
 isD (VH.mk (3) ((2, VB.cells [I 0, I 0, I 0, VV.nils, VV.bool false] 49) :: (2, VB.cells [I 0, I 0, I 0, VV.nils, VV.bool false] 49) :: ((VH.mk 1 ([0].zip (BR t))).nx, VB.vec l.length (chG (someF l B)) 1 (3 : TypeId)) :: (VH.mk 1 ([0].zip (BR t))).bs)) 4 (stD l) (stD l) ∧ isD (VH.mk (3) ((2, VB.cells [I 0, I 0, I 0, VV.nils, VV.bool false] 49) :: (2, VB.cells [I 0, I 0, I 0, VV.nils, VV.bool false] 49) :: ((VH.mk 1 ([0].zip (BR t))).nx, VB.vec l.length (chG (someF l B)) 1 (3 : TypeId)) :: (VH.mk 1 ([0].zip (BR t))).bs)) 4 (VV.agg (tsL t)) (VV.agg (tsL t)) ∧ ∃ (D_2 : List Int), isD (VH.mk (3) ((2, VB.cells [I 0, I 0, I 0, VV.nils, VV.bool false] 49) :: (2, VB.cells [I 0, I 0, I 0, VV.nils, VV.bool false] 49) :: ((VH.mk 1 ([0].zip (BR t))).nx, VB.vec l.length (chG (someF l B)) 1 (3 : TypeId)) :: (VH.mk 1 ([0].zip (BR t))).bs)) 4 (VV.sl (VH.mk 1 ([0].zip (BR t))).nx l.length) (inD D_2) ∧ bif !lmF l t y m D_2 then
 Q (VRes.ret (VV.bool true))
 else bif decide ((0 : Int) ≥ bndV l t y m u D) then
 Q (VRes.ret (VV.bool true))
 else Q (VRes.ret (VV.bool false))
 else Q (VRes.ret (VV.bool false))) ∧ (bldE l t y D_1 = (0 : Int) → ∀ (V : Vt), V = vtF l t (chD D_1) y → isD (VH.mk (4) ((3, VB.cells [I V.v, I V.c, I V.a, VV.sl ((VH.mk 1 ([0].zip (BR t))).new (VB.vec l.length (chG (someF l B)) 1 (3 : TypeId))).nx V.P.length, VV.bool V.k] 49) :: (3, VB.cells [I 0, I 0, I 0, VV.nils, VV.bool false] 49) :: (((VH.mk 1 ([0].zip (BR t))).new (VB.vec l.length (chG (someF l B)) 1 (3 : TypeId))).nx, vtB V) :: ((VH.mk 1 ([0].zip (BR t))).new (VB.vec l.length (chG (someF l B)) 1 (3 : TypeId))).bs)) 4 (stD l) (stD l) ∧ isD (VH.mk (4) ((3, VB.cells [I V.v, I V.c, I V.a, VV.sl ((VH.mk 1 ([0].zip (BR t))).new (VB.vec l.length (chG (someF l B)) 1 (3 : TypeId))).nx V.P.length, VV.bool V.k] 49) :: (3, VB.cells [I 0, I 0, I 0, VV.nils, VV.bool false] 49) :: (((VH.mk 1 ([0].zip (BR t))).new (VB.vec l.length (chG (someF l B)) 1 (3 : TypeId))).nx, vtB V) :: ((VH.mk 1 ([0].zip (BR t))).new (VB.vec l.length (chG (someF l B)) 1 (3 : TypeId))).bs)) 4 (VV.agg (tsL t)) (VV.agg (tsL t)) ∧ ∃ (D_2 : List Int), isD (VH.mk (4) ((3, VB.cells [I V.v, I V.c, I V.a, VV.sl ((VH.mk 1 ([0].zip (BR t))).new (VB.vec l.length (chG (someF l B)) 1 (3 : TypeId))).nx V.P.length, VV.bool V.k] 49) :: (3, VB.cells [I 0, I 0, I 0, VV.nils, VV.bool false] 49) :: (((VH.mk 1 ([0].zip (BR t))).new (VB.vec l.length (chG (someF l B)) 1 (3 : TypeId))).nx, vtB V) :: ((VH.mk 1 ([0].zip (BR t))).new (VB.vec l.length (chG (someF l B)) 1 (3 : TypeId))).bs)) 4 (VV.sl (VH.mk 1 ([0].zip (BR t))).nx l.length) (inD D_2) ∧ bif !lmF l t y m D_2 then
 Q (VRes.ret (VV.bool true))
 else bif decide (V.c ≥ bndV l t y m u D) then
 Q (VRes.ret (VV.bool true))
 else Q (VRes.ret (VV.bool false)))
 else bif !decide (chpE l t y m = (0 : Int)) then
 bif !decide (chpE l t y m = (4 : Int)) then
 Q (VRes.ret (VV.bool false))
 else isD (VH.mk 1 ([0].zip (BR t))) 3 (stD l) (stD l) ∧ isD (VH.mk 1 ([0].zip (BR t))) 3 (byD B) (byD B) ∧ (lB l ∧ u8B B) ∧ isD ((VH.mk 1 ([0].zip (BR t))).new (VB.vec l.length (chG (someF l B)) 1 (3 : TypeId))) 4 (stD l) (stD l) ∧ isD ((VH.mk 1 ([0].zip (BR t))).new (VB.vec l.length (chG (someF l B)) 1 (3 : TypeId))) 4 (VV.agg (tsL t)) (VV.agg (tsL t)) ∧ ∃ (D_1 : List Int), isD ((VH.mk 1 ([0].zip (BR t))).new (VB.vec l.length (chG (someF l B)) 1 (3 : TypeId))) 4 (VV.sl (VH.mk 1 ([0].zip (BR t))).nx l.length) (inD D_1) ∧ (bldE l t y D_1 ≠ (0 : Int) → bif decide (bldE l t y D_1 = (0 : Int)) then
 isD (VH.mk (3) ((2, VB.cells [I 0, I 0, I 0, VV.nils, VV.bool false] 49) :: (2, VB.cells [I 0, I 0, I 0, VV.nils, VV.bool false] 49) :: ((VH.mk 1 ([0].zip (BR t))).nx, VB.vec l.length (chG (someF l B)) 1 (3 : TypeId)) :: (VH.mk 1 ([0].zip (BR t))).bs)) 4 (stD l) (stD l) ∧ isD (VH.mk (3) ((2, VB.cells [I 0, I 0, I 0, VV.nils, VV.bool false] 49) :: (2, VB.cells [I 0, I 0, I 0, VV.nils, VV.bool false] 49) :: ((VH.mk 1 ([0].zip (BR t))).nx, VB.vec l.length (chG (someF l B)) 1 (3 : TypeId)) :: (VH.mk 1 ([0].zip (BR t))).bs)) 4 (VV.agg (tsL t)) (VV.agg (tsL t)) ∧ ∃ (D_2 : List Int), isD (VH.mk (3) ((2, VB.cells [I 0, I 0, I 0, VV.nils, VV.bool false] 49) :: (2, VB.cells [I 0, I 0, I 0, VV.nils, VV.bool false] 49) :: ((VH.mk 1 ([0].zip (BR t))).nx, VB.vec l.length (chG (someF l B)) 1 (3 : TypeId)) :: (VH.mk 1 ([0].zip (BR t))).bs)) 4 (VV.sl (VH.mk 1 ([0].zip (BR t))).nx l.length) (inD D_2) ∧ bif !lmF l t y m D_2 then
 Q (VRes.ret (VV.bool true))
 else bif decide ((0 : Int) ≥ bndV l t y m u D) then
 Q (VRes.ret (VV.bool true))
 else Q (VRes.ret (VV.bool false))
 else Q (VRes.ret (VV.bool false))) ∧ (bldE l t y D_1 = (0 : Int) → ∀ (V : Vt), V = vtF l t (chD D_1) y → isD (VH.mk (4) ((3, VB.cells [I V.v, I V.c, I V.a, VV.sl ((VH.mk 1 ([0].zip (BR t))).new (VB.vec l.length (chG (someF l B)) 1 (3 : TypeId))).nx V.P.length, VV.bool V.k] 49) :: (3, VB.cells [I 0, I 0, I 0, VV.nils, VV.bool false] 49) :: (((VH.mk 1 ([0].zip (BR t))).new (VB.vec l.length (chG (someF l B)) 1 (3 : TypeId))).nx, vtB V) :: ((VH.mk 1 ([0].zip (BR t))).new (VB.vec l.length (chG (someF l B)) 1 (3 : TypeId))).bs)) 4 (stD l) (stD l) ∧ isD (VH.mk (4) ((3, VB.cells [I V.v, I V.c, I V.a, VV.sl ((VH.mk 1 ([0].zip (BR t))).new (VB.vec l.length (chG (someF l B)) 1 (3 : TypeId))).nx V.P.length, VV.bool V.k] 49) :: (3, VB.cells [I 0, I 0, I 0, VV.nils, VV.bool false] 49) :: (((VH.mk 1 ([0].zip (BR t))).new (VB.vec l.length (chG (someF l B)) 1 (3 : TypeId))).nx, vtB V) :: ((VH.mk 1 ([0].zip (BR t))).new (VB.vec l.length (chG (someF l B)) 1 (3 : TypeId))).bs)) 4 (VV.agg (tsL t)) (VV.agg (tsL t)) ∧ ∃ (D_2 : List Int), isD (VH.mk (4) ((3, VB.cells [I V.v, I V.c, I V.a, VV.sl ((VH.mk 1 ([0].zip (BR t))).new (VB.vec l.length (chG (someF l B)) 1 (3 : TypeId))).nx V.P.length, VV.bool V.k] 49) :: (3, VB.cells [I 0, I 0, I 0, VV.nils, VV.bool false] 49) :: (((VH.mk 1 ([0].zip (BR t))).new (VB.vec l.length (chG (someF l B)) 1 (3 : TypeId))).nx, vtB V) :: ((VH.mk 1 ([0].zip (BR t))).new (VB.vec l.length (chG (someF l B)) 1 (3 : TypeId))).bs)) 4 (VV.sl (VH.mk 1 ([0].zip (BR t))).nx l.length) (inD D_2) ∧ bif !lmF l t y m D_2 then
 Q (VRes.ret (VV.bool true))
 else bif decide (V.c ≥ bndV l t y m u D) then
 Q (VRes.ret (VV.bool true))
 else Q (VRes.ret (VV.bool false)))
 else isD (VH.mk 1 ([0].zip (BR t))) 3 (stD l) (stD l) ∧ isD (VH.mk 1 ([0].zip (BR t))) 3 (byD B) (byD B) ∧ (lB l ∧ u8B B) ∧ isD ((VH.mk 1 ([0].zip (BR t))).new (VB.vec l.length (chG (someF l B)) 1 (3 : TypeId))) 4 (stD l) (stD l) ∧ isD ((VH.mk 1 ([0].zip (BR t))).new (VB.vec l.length (chG (someF l B)) 1 (3 : TypeId))) 4 (VV.agg (tsL t)) (VV.agg (tsL t)) ∧ ∃ (D_1 : List Int), isD ((VH.mk 1 ([0].zip (BR t))).new (VB.vec l.length (chG (someF l B)) 1 (3 : TypeId))) 4 (VV.sl (VH.mk 1 ([0].zip (BR t))).nx l.length) (inD D_1) ∧ (bldE l t y D_1 ≠ (0 : Int) → bif decide (bldE l t y D_1 = (0 : Int)) then
 isD (VH.mk (3) ((2, VB.cells [I 0, I 0, I 0, VV.nils, VV.bool false] 49) :: (2, VB.cells [I 0, I 0, I 0, VV.nils, VV.bool false] 49) :: ((VH.mk 1 ([0].zip (BR t))).nx, VB.vec l.length (chG (someF l B)) 1 (3 : TypeId)) :: (VH.mk 1 ([0].zip (BR t))).bs)) 4 (stD l) (stD l) ∧ isD (VH.mk (3) ((2, VB.cells [I 0, I 0, I 0, VV.nils, VV.bool false] 49) :: (2, VB.cells [I 0, I 0, I 0, VV.nils, VV.bool false] 49) :: ((VH.mk 1 ([0].zip (BR t))).nx, VB.vec l.length (chG (someF l B)) 1 (3 : TypeId)) :: (VH.mk 1 ([0].zip (BR t))).bs)) 4 (VV.agg (tsL t)) (VV.agg (tsL t)) ∧ ∃ (D_2 : List Int), isD (VH.mk (3) ((2, VB.cells [I 0, I 0, I 0, VV.nils, VV.bool false] 49) :: (2, VB.cells [I 0, I 0, I 0, VV.nils, VV.bool false] 49) :: ((VH.mk 1 ([0].zip (BR t))).nx, VB.vec l.length (chG (someF l B)) 1 (3 : TypeId)) :: (VH.mk 1 ([0].zip (BR t))).bs)) 4 (VV.sl (VH.mk 1 ([0].zip (BR t))).nx l.length) (inD D_2) ∧ bif !lmF l t y m D_2 then
 Q (VRes.ret (VV.bool true))
 else bif decide ((0 : Int) ≥ bndV l t y m u D) then
 Q (VRes.ret (VV.bool true))
 else Q (VRes.ret (VV.bool false))
 else Q (VRes.ret (VV.bool false))) ∧ (bldE l t y D_1 = (0 : Int) → ∀ (V : Vt), V = vtF l t (chD D_1) y → isD (VH.mk (4) ((3, VB.cells [I V.v, I V.c, I V.a, VV.sl ((VH.mk 1 ([0].zip (BR t))).new (VB.vec l.length (chG (someF l B)) 1 (3 : TypeId))).nx V.P.length, VV.bool V.k] 49) :: (3, VB.cells [I 0, I 0, I 0, VV.nils, VV.bool false] 49) :: (((VH.mk 1 ([0].zip (BR t))).new (VB.vec l.length (chG (someF l B)) 1 (3 : TypeId))).nx, vtB V) :: ((VH.mk 1 ([0].zip (BR t))).new (VB.vec l.length (chG (someF l B)) 1 (3 : TypeId))).bs)) 4 (stD l) (stD l) ∧ isD (VH.mk (4) ((3, VB.cells [I V.v, I V.c, I V.a, VV.sl ((VH.mk 1 ([0].zip (BR t))).new (VB.vec l.length (chG (someF l B)) 1 (3 : TypeId))).nx V.P.length, VV.bool V.k] 49) :: (3, VB.cells [I 0, I 0, I 0, VV.nils, VV.bool false] 49) :: (((VH.mk 1 ([0].zip (BR t))).new (VB.vec l.length (chG (someF l B)) 1 (3 : TypeId))).nx, vtB V) :: ((VH.mk 1 ([0].zip (BR t))).new (VB.vec l.length (chG (someF l B)) 1 (3 : TypeId))).bs)) 4 (VV.agg (tsL t)) (VV.agg (tsL t)) ∧ ∃ (D_2 : List Int), isD (VH.mk (4) ((3, VB.cells [I V.v, I V.c, I V.a, VV.sl ((VH.mk 1 ([0].zip (BR t))).new (VB.vec l.length (chG (someF l B)) 1 (3 : TypeId))).nx V.P.length, VV.bool V.k] 49) :: (3, VB.cells [I 0, I 0, I 0, VV.nils, VV.bool false] 49) :: (((VH.mk 1 ([0].zip (BR t))).new (VB.vec l.length (chG (someF l B)) 1 (3 : TypeId))).nx, vtB V) :: ((VH.mk 1 ([0].zip (BR t))).new (VB.vec l.length (chG (someF l B)) 1 (3 : TypeId))).bs)) 4 (VV.sl (VH.mk 1 ([0].zip (BR t))).nx l.length) (inD D_2) ∧ bif !lmF l t y m D_2 then
 Q (VRes.ret (VV.bool true))
 else bif decide (V.c ≥ bndV l t y m u D) then
 Q (VRes.ret (VV.bool true))
 else Q (VRes.ret (VV.bool false)))) := by kernel_rfl

end Go.Sx.Bln

/- blend: no choice that meets a need costs less than the bound (plain). -/

namespace Go.Sx.Bln
open Go Go.Sx Go.Proofs
set_option maxRecDepth 100000

theorem KF_all {l : List Stk} {t : Tst} {n : Nat → Int} {b : Bool} : ∀ {K : Nat}, KF l t n b K = true → b = true ∧ ∀ k, k < K → okF l t n k = true
  | 0, h => ⟨h, fun k hk => by omega⟩
  | K + 1, h => by
    unfold KF at h
    simp only [Bool.and_eq_true] at h
    obtain ⟨h1, h2⟩ := h
    obtain ⟨h3, h4⟩ := KF_all h1
    refine ⟨h3, fun k hk => ?_⟩
    by_cases e : k = K
    · subst e; exact h2
    · exact h4 k (by omega)

theorem ageF_le {l : List Stk} {n : Nat → Int} {y : Int} (hl : lB l) (hy : 0 ≤ y ∧ y ≤ 1000) : ∀ K, K ≤ l.length → (-1 ≤ ageF l n y K) ∧ ∀ i, i < K → 0 < n i → 0 ≤ ageF l n y K ∧ ageF l n y K ≤ (l.getD i k0).age + y
  | 0, _ => ⟨by unfold ageF; omega, fun i hi => by omega⟩
  | K + 1, h => by
    obtain ⟨h0, h1⟩ := ageF_le hl hy K (by omega)
    have h3 := (hl.2 K (by omega)).2.2.1
    refine ⟨by unfold ageF; split <;> omega, fun i hi hn => ?_⟩
    by_cases e : i = K
    · subst e
      unfold ageF
      split <;> omega
    · have := h1 i (by omega) hn
      unfold ageF
      split <;> omega

section
variable {l : List Stk} {t : Tst} {y m u : Int} {D : List Int} {n : Nat → Int}

/-- Litres of a stock in a choice. -/
abbrev pV (l : List Stk) (n : Nat → Int) (i : Nat) : Int := n i * (l.getD i k0).vol

theorem sum_note (K : Nat) (k : Nat) (D : List Int) : sumF (fun i => pV l n i * tmI D t (l.getD i k0) k) K =
    D.getD (2 * k + 1) 0 * ((t.T.getD k 0 + t.far) * sumF (pV l n) K - sumF (tmH l n k) K) + D.getD (2 * k + 2) 0 * (sumF (tmL l n k) K - (t.T.getD k 0 - t.far) * sumF (pV l n) K) := by
  induction K with
  | zero => simp [sumF]
  | succ K ih =>
    have hH : sumF (tmH l n k) (K + 1) = sumF (tmH l n k) K + tmH l n k K := rfl
    have hL : sumF (tmL l n k) (K + 1) = sumF (tmL l n k) K + tmL l n k K := rfl
    have hP : sumF (pV l n) (K + 1) = sumF (pV l n) K + pV l n K := rfl
    have h0 : sumF (fun i => pV l n i * tmI D t (l.getD i k0) k) (K + 1) = sumF (fun i => pV l n i * tmI D t (l.getD i k0) k) K + pV l n K * tmI D t (l.getD K k0) k := rfl
    rw [h0, ih, hH, hL, hP]
    unfold tmI tmH tmL pV
    grind

theorem sum_all (L : Nat) (D : List Int) : ∀ K : Nat, sumF (fun i => pV l n i * sumF (tmI D t (l.getD i k0)) K) L =
    sumF (fun k => D.getD (2 * k + 1) 0 * ((t.T.getD k 0 + t.far) * sumF (pV l n) L - sumF (tmH l n k) L) + D.getD (2 * k + 2) 0 * (sumF (tmL l n k) L - (t.T.getD k 0 - t.far) * sumF (pV l n) L)) K
  | 0 => by
    have : ∀ L, sumF (fun i => pV l n i * sumF (tmI D t (l.getD i k0)) 0) L = 0 := fun L => by
      induction L with
      | zero => rfl
      | succ L ih =>
        show _ + pV l n L * 0 = 0
        rw [ih]; simp
    rw [this]; rfl
  | K + 1 => by
    have h1 : ∀ L, sumF (fun i => pV l n i * sumF (tmI D t (l.getD i k0)) (K + 1)) L = sumF (fun i => pV l n i * sumF (tmI D t (l.getD i k0)) K) L + sumF (fun i => pV l n i * tmI D t (l.getD i k0) K) L := fun L => by
      induction L with
      | zero => rfl
      | succ L ih =>
        show sumF (fun i => pV l n i * sumF (tmI D t (l.getD i k0)) (K + 1)) L + pV l n L * (sumF (tmI D t (l.getD L k0)) K + tmI D t (l.getD L k0) K) = (_ + _) + (_ + _)
        rw [ih]
        grind
    rw [h1, sum_all L D K, sum_note]
    rfl

theorem sumF_nn {f : Nat → Int} : ∀ K : Nat, (∀ k, k < K → 0 ≤ f k) → 0 ≤ sumF f K
  | 0, _ => Int.le_refl _
  | K + 1, h => by
    have := sumF_nn (f := f) K (fun k hk => h k (by omega))
    have := h K (by omega)
    show 0 ≤ sumF f K + f K
    omega

theorem sum_tmB (hn : ∀ i, i < l.length → 0 ≤ n i ∧ n i ≤ (l.getD i k0).casks) (ha : ∀ i, i < l.length → 0 < n i → t.least ≤ (l.getD i k0).age + y) : ∀ L, L ≤ l.length →
    sumF (tmB l t y u D) L ≤ u * sumF (tmC l n) L - (D.getD 0 0 * sumF (pV l n) L + sumF (fun i => pV l n i * sumF (tmI D t (l.getD i k0)) t.T.length) L)
  | 0, _ => by simp [sumF]
  | L + 1, h => by
    have ih := sum_tmB hn ha L (by omega)
    have h1 : tmB l t y u D L ≤ n L * (u * (l.getD L k0).cost - carF t D (l.getD L k0)) := by
      obtain ⟨h2, h3⟩ := hn L (by omega)
      unfold tmB
      generalize u * (l.getD L k0).cost - carF t D (l.getD L k0) = x
      split
      · rename_i hg
        have : n L = 0 := by
          have := ha L (by omega)
          omega
        rw [this]; simp
      · rcases Int.le_total 0 x with hx | hx
        · have := Int.mul_nonneg h2 hx
          omega
        · have := Int.mul_le_mul_of_nonpos_right h3 hx
          omega
    have h2 : n L * (u * (l.getD L k0).cost - carF t D (l.getD L k0)) = u * tmC l n L - (D.getD 0 0 * pV l n L + pV l n L * sumF (tmI D t (l.getD L k0)) t.T.length) := by
      unfold carF tmC pV
      grind
    show sumF (tmB l t y u D) L + tmB l t y u D L ≤ u * (sumF (tmC l n) L + tmC l n L) - (D.getD 0 0 * (sumF (pV l n) L + pV l n L) + (sumF (fun i => pV l n i * sumF (tmI D t (l.getD i k0)) t.T.length) L + pV l n L * sumF (tmI D t (l.getD L k0)) t.T.length))
    rw [h2] at h1
    have e1 := Int.mul_add u (sumF (tmC l n) L) (tmC l n L)
    have e2 := Int.mul_add (D.getD 0 0) (sumF (pV l n) L) (pV l n L)
    omega

/-- The bound holds for each choice that meets the need. -/
theorem bnd_sound (hh : bC l t y u D) (hm : 0 ≤ m) (hn : ∀ i, i < l.length → 0 ≤ n i ∧ n i ≤ (l.getD i k0).casks) (hk : m ≠ 0 → (vtF l t n y).k = true ∧ m ≤ volF l n) (h0 : m = 0 → volF l n = 0) : bndN l t y m u D ≤ u * costF l n := by
  obtain ⟨hl, hp, ht, hw, hy, hu⟩ := hh
  have hw0 := hw.2 0 (by have := hw.1; omega)
  by_cases e : m = 0
  · have hv := h0 e
    have hz : ∀ i, i < l.length → n i = 0 := by
      have key : ∀ K, K ≤ l.length → 0 ≤ sumF (pV l n) K ∧ (sumF (pV l n) K = 0 → ∀ i, i < K → n i = 0) := fun K => by
        induction K with
        | zero => exact fun _ => ⟨Int.le_refl _, fun _ i hi => by omega⟩
        | succ K ih =>
          intro hK
          obtain ⟨i1, i2⟩ := ih (by omega)
          obtain ⟨h2, h3⟩ := hn K (by omega)
          have hv := (hl.2 K (by omega)).2.1
          have hp0 : 0 ≤ pV l n K := Int.mul_nonneg h2 (by omega)
          have hs : sumF (pV l n) (K + 1) = sumF (pV l n) K + pV l n K := rfl
          refine ⟨by omega, fun hz i hi => ?_⟩
          by_cases e : i = K
          · subst e
            have hpz : pV l n i = 0 := by omega
            rcases Int.mul_eq_zero.1 (show n i * (l.getD i k0).vol = 0 from hpz) with h | h
            · exact h
            · omega
          · exact i2 (by omega) i (by omega)
      exact (key _ (Nat.le_refl _)).2 hv
    have hs := sum_tmB (t := t) (y := y) (u := u) (D := D) hn (fun i hi h => by rw [hz i hi] at h; omega) _ (Nat.le_refl _)
    have hP : sumF (pV l n) l.length = 0 := hv
    have hA := sum_all (l := l) (t := t) (n := n) l.length D t.T.length
    have hz2 : sumF (fun i => pV l n i * sumF (tmI D t (l.getD i k0)) t.T.length) l.length = 0 := by
      rw [sumF_congr l.length (g := fun _ => 0) (fun i hi => by show n i * _ * _ = 0; rw [hz i hi]; simp)]
      have : ∀ K, sumF (fun _ => (0 : Int)) K = 0 := fun K => by
        induction K with
        | zero => rfl
        | succ K ih => show sumF (fun _ => (0 : Int)) K + 0 = 0; rw [ih]; rfl
      exact this _
    rw [hP, hz2] at hs
    unfold bndN
    rw [e]
    show D.getD 0 0 * 0 + _ ≤ u * sumF (tmC l n) l.length
    simp only [Int.mul_zero] at hs ⊢
    omega
  · obtain ⟨hkk, hv⟩ := hk e
    obtain ⟨hb, hok⟩ := KF_all (show KF l t n _ t.T.length = true from hkk)
    simp only [Bool.and_eq_true, decide_eq_true_eq] at hb
    obtain ⟨hvp, hag⟩ := hb
    have hs := sum_tmB (t := t) (y := y) (u := u) (D := D) hn (fun i hi h => by
      have := (ageF_le (n := n) hl hy l.length (Nat.le_refl _)).2 i hi h
      omega) _ (Nat.le_refl _)
    rw [sum_all] at hs
    have hS := sumF_nn (f := fun k => D.getD (2 * k + 1) 0 * ((t.T.getD k 0 + t.far) * sumF (pV l n) l.length - sumF (tmH l n k) l.length) + D.getD (2 * k + 2) 0 * (sumF (tmL l n k) l.length - (t.T.getD k 0 - t.far) * sumF (pV l n) l.length)) t.T.length (fun k hk => by
      have h1 := hok k hk
      unfold okF at h1
      simp only [Bool.and_eq_true, Bool.not_eq_true', decide_eq_false_iff_not] at h1
      obtain ⟨h2, h3⟩ := h1
      have w1 := hw.2 (2 * k + 1) (by have := hw.1; omega)
      have w2 := hw.2 (2 * k + 2) (by have := hw.1; omega)
      have x1 : 0 ≤ (t.T.getD k 0 + t.far) * sumF (pV l n) l.length - sumF (tmH l n k) l.length := by
        have : ¬ (t.T.getD k 0 + t.far) * volF l n < hiF l n k := h2
        show 0 ≤ (t.T.getD k 0 + t.far) * volF l n - hiF l n k
        omega
      have x2 : 0 ≤ sumF (tmL l n k) l.length - (t.T.getD k 0 - t.far) * sumF (pV l n) l.length := by
        have : ¬ loF l n k < (t.T.getD k 0 - t.far) * volF l n := h3
        show 0 ≤ loF l n k - (t.T.getD k 0 - t.far) * volF l n
        omega
      have := Int.mul_nonneg w1.1 x1
      have := Int.mul_nonneg w2.1 x2
      omega)
    have hv2 : D.getD 0 0 * m ≤ D.getD 0 0 * sumF (pV l n) l.length := Int.mul_le_mul_of_nonneg_left hv hw0.1
    unfold bndN
    show _ ≤ u * sumF (tmC l n) l.length
    omega
end
end Go.Sx.Bln

/- blend: the law BlendProof. -/

namespace Go.Sx.Bln
open Go Go.Sx Go.Proofs
set_option maxRecDepth 1000000

section
variable {l : List Stk} {t : Tst} {y m u e n : Int} {D B : List Int}

theorem lPr_ok : LSound Try.prog true (.block 0 (.loop (loopB 0 (bodyOf Try.prog 12)))) (ntOf Try.prog 12) (lPr l t y m u e n D B) := by
  by_cases hl : lB l
  · have hl6 := hl.1
    have hbd : ∀ i, i < l.length → 0 ≤ tmA l i ∧ tmA l i ≤ 6291456 := fun i hi => by
      obtain ⟨h1, _, _, h4⟩ := hl.2 i hi
      exact mul_bd h1 h4
    refine loop_row hmix good0 (un := 10) (ds := dsPr) (ns := [0]) (nx := 1) (fun i : Nat => VPr l t y m u e n D B i (sumF (tmA l) i)) (fun _ => BR t) (fun i => i ≤ l.length) (fun i => l.length - i) (fun _ ex vs bs => ex = .exit 0 ∧ bs = BR t ∧ vs = VPr l t y m u e n D B l.length (sumF (tmA l) l.length)) noL_ok ?_ ?_
    · rintro i h0
      refine cast (prl_ev l t y m u e n D B i _ _).symm ?_
      by_cases hlt : i < l.length
      · have hb := sumF_bd (f := tmA l) (M := 6291456) i (fun j hj => hbd j (by omega))
        have hc := hbd i hlt
        unfold tmA at hc
        have hi6 : ((i : Nat) : Int) * 6291456 ≤ 6 * 6291456 := Int.mul_le_mul_of_nonneg_right (by omega) (by decide)
        rw [show (i : Int).toNat = i by omega]
        exact cond_dk (by omega) (cond_dk ⟨by omega, by omega⟩ (cond_r (by omega) (cond_r (by omega) (cond_r (by omega) ⟨i + 1, by omega, by dsimp only; omega, rfl, fitBs_refl _, fun _ _ _ h => h⟩))))
      · obtain rfl : i = l.length := by omega
        exact cond_d (fun h => by omega) (fun _ => ⟨rfl, rfl, rfl⟩)
    · rintro lock tt h K ⟨hf, _, k1⟩
      refine ⟨0, hf, Nat.zero_le _, ?_⟩
      rintro ex vs bs ⟨rfl, rfl, rfl⟩
      exact k1
  · rintro lock tt h K ⟨hf, hc, _⟩
    exact (hl hc).elim

theorem grR_ok (l : List Stk) (t : Tst) : SpOk Try.prog (grR l t).1 (grR l t).2 := by
  intro lock args h K hK
  simp only [grR] at hK
  split at hK
  · exact greatT_ok lock _ h K ⟨l, t, hK⟩
  · exact hK.elim
theorem bnR_ok (l : List Stk) (t : Tst) (D : List Int) : SpOk Try.prog (bnR l t D).1 (bnR l t D).2 := by
  intro lock args h K hK
  simp only [bnR] at hK
  split at hK
  · exact bndT_ok lock _ h K ⟨l, t, D, hK⟩
  · exact hK.elim
theorem chA_ok (l : List Stk) (t : Tst) : SpOk Try.prog (chA l t).1 (chA l t).2 := by
  intro lock args h K hK
  simp only [chA] at hK
  split at hK
  · exact cheapA_ok lock _ h K ⟨l, t, hK⟩
  · exact hK.elim
theorem smB_ok (l : List Stk) (B : List Int) : SpOk Try.prog (smB l B).1 (smB l B).2 := by
  intro lock args h K hK
  simp only [smB] at hK
  split at hK
  · exact someT_ok lock _ h K ⟨l, B, hK⟩
  · exact hK.elim
theorem lmR_ok (l : List Stk) (t : Tst) : SpOk Try.prog (lmR l t).1 (lmR l t).2 := by
  intro lock args h K hK
  simp only [lmR] at hK
  split at hK
  · obtain ⟨h1, h2, D, h3, hK⟩ := hK
    exact lmT_ok lock _ h K ⟨l, t, D, h1, h2, h3, hK⟩
  · exact hK.elim

theorem bestF_meets : ∀ {j : Nat} {c : Nat → Int}, bestF l t y m j = some c → meetsF l t c y m = true
  | 0, _, h => by cases h
  | j + 1, c, h => by
    unfold bestF stepC at h
    cases hb : bestF l t y m j with
    | none =>
      rw [hb] at h
      dsimp only at h
      split at h
      · rename_i g; cases h; exact g
      · cases h
    | some d =>
      rw [hb] at h
      dsimp only at h
      have hd := hb
      split at h
      · rename_i g; cases h; exact g.2
      · cases h; exact bestF_meets hd

theorem bndV_le (hu : 1 ≤ u) {c : Int} (h0 : 0 ≤ c) (h : bndN l t y m u D ≤ u * c) : bndV l t y m u D ≤ c := by
  unfold bndV
  split
  · have hq : quoZ (bndN l t y m u D + u - 1) u ≤ c := by
      rcases Int.lt_or_le (bndN l t y m u D + u - 1) 0 with g | g
      · have := (quoZ_bd (a := bndN l t y m u D + u - 1) hu).2 g
        omega
      · rw [quoZ_nn g]
        have := Int.ediv_lt_of_lt_mul (show 0 < u by omega) (show bndN l t y m u D + u - 1 < (c + 1) * u by
          have : (c + 1) * u = u * c + u := by grind
          omega)
        omega
    omega
  · exact h0
theorem bndV_nn : 0 ≤ bndV l t y m u D := by
  unfold bndV
  split <;> omega

theorem bndE_0 (h : bndE l t y m u D = 0) : okAll l t = true ∧ bndR t y m u D := by
  unfold bndE at h
  split at h
  · cases h
  · rename_i h1
    split at h
    · cases h
    · rename_i h2
      exact ⟨Classical.not_not.1 h1, Classical.not_not.1 h2⟩

end
end Go.Sx.Bln

/- blend: the law BlendProof holds. -/

namespace Go.Sx.Bln
open Go Go.Sx Go.Proofs
set_option maxRecDepth 1000000

section
variable {l : List Stk} {t : Tst} {y m u : Int} {D B : List Int}

theorem bnd_meets (h0 : bndE l t y m u D = 0) {n : Nat → Int} (hn : ∀ i, i < l.length → 0 ≤ n i ∧ n i ≤ (l.getD i k0).casks) (hc : 0 ≤ costF l n) (hm : meetsF l t n y m = true) : bndV l t y m u D ≤ costF l n := by
  obtain ⟨ho, hr⟩ := bndE_0 h0
  obtain ⟨hl, hp, ht, _⟩ := okAll_l ho
  have hh : bC l t y u D := ⟨hl, hp, okT_tB ht, anyW_wB hr.2.1 hr.2.2.1, by have := hr.1; omega, by have := hr.2.2.2; omega⟩
  refine bndV_le hr.2.2.2.1 hc (bnd_sound hh hr.1.2.1 hn (fun hz => ?_) (fun hz => ?_))
  · unfold meetsF at hm
    rw [if_neg hz] at hm
    simp only [Bool.and_eq_true, Bool.not_eq_true', decide_eq_false_iff_not] at hm
    exact ⟨hm.2, by omega⟩
  · unfold meetsF at hm
    rw [if_pos hz] at hm
    exact of_decide_eq_true hm

theorem sumF_mono {f g : Nat → Int} : ∀ K : Nat, (∀ k, k < K → f k ≤ g k) → sumF f K ≤ sumF g K
  | 0, _ => Int.le_refl _
  | K + 1, h => by
    have := sumF_mono (f := f) (g := g) K (fun k hk => h k (by omega))
    have := h K (by omega)
    show sumF f K + f K ≤ sumF g K + g K
    omega
theorem cost_all (hl : lB l) {n : Nat → Int} (hn : ∀ i, i < l.length → 0 ≤ n i ∧ n i ≤ (l.getD i k0).casks) : 0 ≤ costF l n ∧ costF l n ≤ sumF (tmA l) l.length :=
  ⟨sumF_nn _ (fun i hi => Int.mul_nonneg (hn i hi).1 (hl.2 i hi).2.2.2.1), sumF_mono _ (fun i hi => Int.mul_le_mul_of_nonneg_right (hn i hi).2 (hl.2 i hi).2.2.2.1)⟩

theorem chp_mem (hl : lB l) {c : Nat → Int} (h : chpF l t y m = some c) : (∀ i, i < l.length → 0 ≤ c i ∧ c i ≤ (l.getD i k0).casks) ∧ meetsF l t c y m = true := by
  refine ⟨?_, bestF_meets h⟩
  obtain ⟨j, hj, rfl⟩ := bestF_mem h
  exact ((all_mem (fun i _ => (mostF_bd hl i).1)).1 (chAt_mem hj)).1

theorem some_ge {i : Nat} (h : l.length ≤ i) : someF l B i = 0 := by
  unfold someF
  rw [show (l.getD i k0) = k0 by rw [List.getD_eq_getElem?_getD, List.getElem?_eq_none h]; rfl]
  exact Int.emod_one _

theorem okCh_of {c : Nat → Int} (hn : ∀ i, i < l.length → 0 ≤ c i ∧ c i ≤ (l.getD i k0).casks) : okCh l (dC l c) = true := by
  unfold okCh
  rw [List.all_eq_true]
  intro i hi
  have hi := List.mem_range.1 hi
  unfold okC
  rw [dC_get hi]
  exact decide_eq_true (hn i hi)

theorem bldE_of (ho : okAll l t = true) (hy : 0 ≤ y ∧ y ≤ 100) {c : Nat → Int} (hn : ∀ i, i < l.length → 0 ≤ c i ∧ c i ≤ (l.getD i k0).casks) : bldE l t y (dC l c) = 0 := by
  unfold bldE
  rw [if_neg (by rw [ho]; simp), if_neg (fun h => h ⟨hy, dC_len⟩), okCh_of hn]
  rfl

theorem lm_meets {c : Nat → Int} (hg : ∀ i, l.length ≤ i → c i = 0) (h : lmF l t y m (dC l c) = true) : meetsF l t c y m = true := by
  unfold lmF at h
  rw [chD_dC hg] at h
  simp only [Bool.and_eq_true] at h
  obtain ⟨_, h⟩ := h
  unfold meetsF
  split at h
  · rename_i g; rw [if_pos g]; exact h
  · rename_i g
    rw [if_neg g]
    simp only [Bool.and_eq_true, decide_eq_true_eq] at h
    rw [decide_eq_false (by omega), h.1]
    rfl

theorem isD_own {h : VH} {c : Nat → Int} {n k : Nat} (hm : h.at n = .vec l.length (chG c) 1 3) : isD h (k + 1) (.sl n l.length) (inD (dC l c)) :=
  ⟨dC_len, by decide, _, _, hm, fun j hj => by unfold dG chG; rw [dC_get hj]⟩

theorem prp_tab : ∀ f T, tabS [grR l t, bnR l t D, rsR l t, chA l t, smB l B, bldR l t, lmR l t, alT] f = some T → SpOk Try.prog f T := tab_ok _ (fun x hx => by
  simp only [List.mem_cons, List.not_mem_nil, or_false] at hx
  rcases hx with rfl | rfl | rfl | rfl | rfl | rfl | rfl | rfl
  · exact grR_ok l t
  · exact bnR_ok l t D
  · exact rsR_ok l t
  · exact chA_ok l t
  · exact smB_ok l B
  · exact bldR_ok l t
  · exact lmR_ok l t
  · exact alT_ok)

theorem prp_v (hB : ∀ i, 0 ≤ B.getD i 0 ∧ B.getD i 0 ≤ 255) : ∃ h', CallsV Try.prog 12 [stD l, .agg (tsL t), I y, I m, inD D, I u, byD B] ⟨0, []⟩ (.ret (.bool true)) h' := by
  have hall : LoopsOk Try.prog 12 [(0, lPr l t y m u (bndE l t y m u D) (bndV l t y m u D) D B)] := fun x hx => by
    simp only [List.mem_singleton] at hx
    subst hx
    exact ⟨by kernel_rfl, lPr_ok⟩
  obtain ⟨r, h', rfl, hc⟩ := of_callN (callL_good hmix (prp_tab (l := l) (t := t) (D := D) (B := B)) hall (un := 10) 20) (f := 12) (args := [stD l, .agg (tsL t), I y, I m, inD D, I u, byD B]) (h := ⟨0, []⟩) (K := fun r _ => r = .ret (.bool true)) (by
    refine cast (prp_ev l t y m u D B _).symm ⟨isD_l, isD_t, cond_i (fun _ => rfl) (fun hg => cond_d (fun _ => rfl) (fun hD => cond_d (fun _ => rfl) (fun hB0 => ⟨isD_l, isD_t, isD_d, by omega, cond_nd (fun he => cond_dk (by unfold bndV; rw [if_neg he]) rfl) (fun he => ?_)⟩)))⟩
    obtain ⟨hl8, ht6, _⟩ := great_len hg
    obtain ⟨ho, hr⟩ := bndE_0 he
    obtain ⟨hl, hp, ht, _⟩ := okAll_l ho
    have eall : okAll l t = (okT t && (decide (l.length ≤ 6) && !anyS l t)) := by unfold okAll; rw [Bool.and_assoc]
    have hst : (decide (l.length ≤ 6) && !anyS l t) = true := by
      rw [eall, Bool.and_eq_true] at ho
      exact ho.2
    have hu8 : u8B B := ⟨by omega, hB⟩
    have hsm : ∀ i, i < l.length → 0 ≤ someF l B i ∧ someF l B i ≤ (l.getD i k0).casks := fun i hi => some_bd hl hu8 hi
    have hsg : ∀ i, l.length ≤ i → someF l B i = 0 := fun i hi => some_ge hi
    have hbl : bldE l t y (dC l (someF l B)) = 0 := bldE_of ho hr.1.1 hsm
    have hco : (vtF l t (chD (dC l (someF l B))) y).c = costF l (someF l B) := by rw [chD_dC hsg]; rfl
    have hsc := cost_all hl hsm
    have hnn := bndV_nn (l := l) (t := t) (y := y) (m := m) (u := u) (D := D)
    have last : lmF l t y m (dC l (someF l B)) = true → bndV l t y m u D ≤ costF l (someF l B) := fun h => bnd_meets he hsm hsc.1 (lm_meets hsg h)
    have e1 : chpE l t y m = if chpF l t y m = none then 4 else 0 := by unfold chpE; rw [if_neg (by rw [ho]; simp), if_neg (fun h => h hr.1)]
    refine ⟨isD_l, isD_t, ⟨by omega, by omega⟩, cond_i (fun h => by rw [hst] at h; cases h) (fun _ => cond_d (fun h => by omega) (fun _ => ⟨fitP_self rfl, hl, isD_l, isD_t, cond_d (fun e0 => ?_) (fun e0 => ?_)⟩))⟩
    · have hch : ∃ c, chpF l t y m = some c ∧ chpC l t y m = costF l c := by
        cases hb : chpF l t y m with
        | none => rw [e1, if_pos hb] at e0; cases e0
        | some c =>
          refine ⟨c, rfl, ?_⟩
          unfold chpC
          rw [if_neg (fun h => h e0), hb]
      obtain ⟨c, hb, hcc⟩ := hch
      obtain ⟨c1, c2⟩ := chp_mem hl hb
      have c3 := cost_all hl c1
      have c4 := bnd_meets he c1 c3.1 c2
      refine cond_d (fun h => by omega) (fun _ => cond_d (fun h => by omega) (fun _ => cond_nd (fun h => (h e0).elim) (fun _ => ?_)))
      refine ⟨isD_l, ⟨rfl, rfl, fun _ _ => rfl⟩, ⟨hl, hu8⟩, isD_l, isD_t, dC l (someF l B), isD_own rfl, fun h => (h hbl).elim, ?_⟩
      rintro _ V rfl
      refine ⟨isD_l, isD_t, dC l (someF l B), isD_own rfl, cond_i (fun _ => rfl) (fun h => cond_dk ?_ rfl)⟩
      rw [hco]
      exact last (Bool.not_eq_false' _ ▸ h)
    · have e4 : chpE l t y m = 4 := by
        rw [e1] at e0 ⊢
        split at e0
        · rename_i g; rw [if_pos g]
        · exact (e0 rfl).elim
      refine cond_nd (fun _ => cond_nd (fun h => (h e4).elim) (fun _ => ?_)) (fun h => (e0 h).elim)
      refine ⟨isD_l, ⟨rfl, rfl, fun _ _ => rfl⟩, ⟨hl, hu8⟩, isD_l, isD_t, dC l (someF l B), isD_own rfl, fun h => (h hbl).elim, ?_⟩
      rintro _ V rfl
      refine ⟨isD_l, isD_t, dC l (someF l B), isD_own rfl, cond_i (fun _ => rfl) (fun h => cond_dk ?_ rfl)⟩
      rw [hco]
      exact last (Bool.not_eq_false' _ ▸ h))
  exact ⟨h', hc⟩
end
end Go.Sx.Bln
