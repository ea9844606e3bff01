/- stream: Ck2 Cl1 Dc1 Dd1 Dd2 Dd3 De1 Dc2 Df1 Df2 Df3 Dg1 Dg2 Ea1 Ea2 Eb1 Eb2 Eb3 Eb4 La1 Ce1, in one text. -/
import Derived.Test.YtlboglkgbhjpeaaWW3
import Derived.Test.YtlboglkgbhjpeaaWW2
import Derived.Test.YtlboglkgbhjpeaaSxTt
/- blend: alive. -/

namespace Go.Sx.Bln
open Go Go.Sx Go.Proofs
set_option maxRecDepth 1000000

theorem ok0 : okAll L0 T0 = true := by decide +kernel
theorem okP0 : okPaths P0 = true := by decide +kernel
theorem chp0 : (chpF L0 T0 0 300).map (fun c => (c 0, c 1, c 2, costF L0 c)) = some (2, 1, 0, 130) := by decide +kernel
theorem pln0 : (planF L0 T0 P0 2 2 3 (mostF L0)).map (fun x => [x 0 0 0, x 0 0 1, x 0 0 2, x 0 1 0, x 0 1 1, x 0 1 2, x 1 0 0, x 1 0 1, x 1 0 2, x 1 1 0, x 1 1 1, x 1 1 2]) = some [1, 1, 0, 1, 1, 0, 1, 1, 0, 0, 0, 0] := by decide +kernel

theorem smR_ok : SpOk Try.prog smR.1 smR.2 := by
  intro lock args h K hK
  simp only [smR] at hK
  split at hK
  · obtain ⟨h', hc⟩ := sample_v
    exact ⟨_, h, hK, lockP_refl _ _, calls_lift0 hc rfl rfl⟩
  · exact hK.elim

theorem cfg0 : Cfg L0 T0 P0 2 := by
  obtain ⟨hl, hp, ht, _⟩ := okAll_l ok0
  refine ⟨hl, hp, okT_tB ht, by decide, by decide, fun i hi => ?_, fun i j => ?_⟩
  · have hi : i < 2 := hi
    match i, hi with
    | 0, _ => rfl
    | 1, _ => rfl
    | _ + 2, hi => omega
  · match i, j with
    | 0, 0 => exact ⟨by decide, by decide⟩
    | 0, 1 => exact ⟨by decide, by decide⟩
    | 0, _ + 2 => exact (show (0 : Int) ≤ 0 ∧ (0 : Int) ≤ 1048576 from ⟨by decide, by decide⟩)
    | 1, 0 => exact ⟨by decide, by decide⟩
    | 1, 1 => exact ⟨by decide, by decide⟩
    | 1, _ + 2 => exact (show (0 : Int) ≤ 0 ∧ (0 : Int) ≤ 1048576 from ⟨by decide, by decide⟩)
    | _ + 2, _ => exact (show (0 : Int) ≤ 0 ∧ (0 : Int) ≤ 1048576 from ⟨by decide, by decide⟩)
theorem pthB0 : pthB P0 := by
  refine ⟨⟨by decide, by decide⟩, fun i => ?_⟩
  match i with
  | 0 => decide
  | 1 => decide
  | _ + 2 => exact (show 0 ≤ 100000 by decide)

/-- A list among the arguments that is told as data ahead of the call. -/
theorem plA_ok : SpOk Try.prog plA.1 plA.2 := by
  intro lock args h K hK
  simp only [plA] at hK
  split at hK
  · rename_i a b m L nx bs
    obtain ⟨rfl, rfl, ⟨rfl, rfl, g, ty, hm, hg⟩, hK⟩ := hK
    obtain ⟨r, h', hc, hk⟩ := pln22_v (l := L0) (t := T0) (d00 := 150) (d01 := 150) (d10 := 150) (d11 := 0) ok0 okP0 cfg0 pthB0
    rcases pln_tell hc hk with ⟨hn, _⟩ | ⟨x, h2, hx, hc2⟩
    · have := pln0
      rw [show planF L0 T0 P0 2 2 3 (mostF L0) = none from hn] at this
      cases this
    · have hc3 : CallsV Try.prog 17 [stD L0, .agg (tsL T0), pthD P0] ⟨nx, (m, .gone) :: bs⟩ (.ret (.tup [plnD 3 2 2 x, I 0])) ⟨nx, (m, .gone) :: bs⟩ := calls_lift0 hc2 rfl rfl
      have hc4 : CallsV Try.prog 17 [stD L0, .agg (tsL T0), .tl 2 1 g] ⟨nx, (m, .gone) :: bs⟩ (.ret (.tup [plnD 3 2 2 x, I 0])) ⟨nx, (m, .gone) :: bs⟩ := calls_args hc3 (fun R xs hx => by
        obtain ⟨y0, _, k0, ⟨y1, _, k1, ⟨y2, _, k2, k3, rfl⟩, rfl⟩, rfl⟩ := hx
        obtain ⟨_, _, u1, _, e1⟩ := (tl_weak (L := 2) (L' := 2) (s := 1) (g := g) (g' := pthG P0) rfl hg).1 R [y2] ⟨y2, [], k2, rfl, rfl⟩
        cases e1
        exact ⟨_, _, k0, ⟨_, _, k1, ⟨_, _, u1, k3, rfl⟩, rfl⟩, rfl⟩)
      refine ⟨_, _, hK x hx, lock0 _ _, calls_told (h := ⟨nx, bs⟩) (m := m) (L := 2) (s := 1) (g := g) (t := ty) hc4 hm (fun R R' xs hle hv hxs => ?_)⟩
      obtain ⟨y0, _, k0, ⟨y1, _, k1, ⟨y2, _, k2, k3, rfl⟩, rfl⟩, rfl⟩ := hxs
      exact ⟨_, _, VRel.mono hle _ _ k0, ⟨_, _, VRel.mono hle _ _ k1, ⟨_, _, hv y2 k2, VRelL.mono hle _ _ k3, rfl⟩, rfl⟩, rfl⟩
  · exact hK.elim

theorem wk_lit3 {a b c : Int} {n : Nat → Int} (h0 : n 0 = a) (h1 : n 1 = b) (h2 : n 2 = c) : wkL [.tl 3 1 (fun j => List.take 1 (List.drop (j * 1) [I a, I b, I c]))] [d1 3 n] := tl_weak rfl (fun j hj => by
  subst h0; subst h1; subst h2
  match j, hj with
  | 0, _ => exact wkL_refl _
  | 1, _ => exact wkL_refl _
  | 2, _ => exact wkL_refl _
  | _ + 3, hj => omega)

theorem chpE0 : chpE L0 T0 0 300 = 0 := by
  unfold chpE
  rw [if_neg (by rw [ok0]; simp), if_neg (by omega), if_neg (fun h => by have := chp0; rw [h] at this; cases this)]

theorem al_tab : ∀ f T, tabS [smR, cheapR L0 T0, plA, inR, spR] f = some T → SpOk Try.prog f T := tab_ok _ (fun x hx => by
  simp only [List.mem_cons, List.not_mem_nil, or_false] at hx
  rcases hx with rfl | rfl | rfl | rfl | rfl
  · exact smR_ok
  · exact cheapR_ok L0 T0
  · exact plA_ok
  · exact inR_ok
  · exact spR_ok)
theorem alive_v : ∃ h', CallsV Try.prog 16 [] ⟨0, []⟩ (.ret (.bool true)) h' := by
  obtain ⟨r, h', rfl, hc⟩ := of_callN (noL_good al_tab) (f := 16) (args := []) (h := ⟨0, []⟩) (K := fun r _ => r = .ret (.bool true)) (by
    refine cast (al_ev _).symm ⟨rfl, rfl, fun h => (h chpE0).elim, fun _ c hc => ?_⟩
    have h0 := chp0
    rw [hc] at h0
    have h0 : (c 0, c 1, c 2, costF L0 c) = (2, 1, 0, 130) := by simpa using h0
    simp only [Prod.mk.injEq] at h0
    obtain ⟨c0, c1, c2, c3⟩ := h0
    refine ⟨rfl, rfl, ⟨rfl, rfl, _, _, rfl, ?_⟩, fun x hx => ?_⟩
    · intro i hi
      have hi : i < 2 := hi
      have key : ∀ a b : Int, wkL [.tl 2 1 (fun j => List.take 1 (List.drop (j * 1) [I a, I b]))] [inD [a, b]] := fun a b => tl_weak rfl (fun j hj => by
        match j, hj with
        | 0, _ => exact wkL_refl _
        | 1, _ => exact wkL_refl _
        | _ + 2, hj => exact absurd hj (by show ¬ _ + 2 < 2; omega))
      match i, hi with
      | 0, _ => exact key 150 150
      | 1, _ => exact key 150 0
      | _ + 2, hi => omega
    · have h1 := pln0
      rw [hx] at h1
      have h1 : [x 0 0 0, x 0 0 1, x 0 0 2, x 0 1 0, x 0 1 1, x 0 1 2, x 1 0 0, x 1 0 1, x 1 0 2, x 1 1 0, x 1 1 1, x 1 1 2] = [1, 1, 0, 1, 1, 0, 1, 1, 0, 0, 0, 0] := by simpa using h1
      simp only [List.cons.injEq, and_true] at h1
      obtain ⟨e1, e2, e3, e4, e5, e6, e7, e8, e9, ea, eb, ec⟩ := h1
      refine ⟨3, c, ⟨rfl, rfl, fun _ _ => rfl⟩, ⟨rfl, Nat.le_refl _, _, _, rfl, fun j hj => ?_⟩, by omega, cond_dk c3 ?_⟩
      · match j, hj with
        | 0, _ => exact congrArg (fun n => [I n]) c0.symm
        | 1, _ => exact congrArg (fun n => [I n]) c1.symm
        | 2, _ => exact congrArg (fun n => [I n]) c2.symm
        | _ + 3, hj => omega
      · refine ⟨.tl 2 1 (plnG 3 2 x), .tl 2 1 _, 2, fun _ => 2, fun _ _ => 3, x, ⟨rfl, rfl, fun _ _ => rfl⟩, ⟨rfl, Nat.le_refl _, _, _, rfl, fun _ _ => rfl⟩, ⟨wkL_refl _, tl_weak rfl (fun i hi => ?_)⟩, ⟨by omega, fun _ => (show 2 ≤ 100000 by omega), fun _ _ => (show 3 ≤ 100000 by omega)⟩, rfl⟩
        match i, hi with
        | 0, _ =>
          refine tl_weak rfl (fun y hy => ?_)
          match y, hy with
          | 0, _ => exact wk_lit3 e1 e2 e3
          | 1, _ => exact wk_lit3 e4 e5 e6
          | _ + 2, hy => exact absurd hy (by show ¬ _ + 2 < 2; omega)
        | 1, _ =>
          refine tl_weak rfl (fun y hy => ?_)
          match y, hy with
          | 0, _ => exact wk_lit3 e7 e8 e9
          | 1, _ => exact wk_lit3 ea eb ec
          | _ + 2, hy => exact absurd hy (by show ¬ _ + 2 < 2; omega)
        | _ + 2, hi => exact absurd hi (by show ¬ _ + 2 < 2; omega))
  exact ⟨h', hc⟩
theorem alT_ok : SpOk Try.prog alT.1 alT.2 := by
  intro lock args h K hK
  simp only [alT] at hK
  split at hK
  · obtain ⟨h', hc⟩ := alive_v
    exact ⟨_, h, hK, lockP_refl _ _, calls_lift0 hc rfl rfl⟩
  · exact hK.elim
end Go.Sx.Bln

/- blend: the law BlendMade. -/

namespace Go.Sx.Bln
open Go Go.Sx Go.Proofs
set_option maxRecDepth 1000000

end Go.Sx.Bln

/- blend: the document's casks, Meets, evaluated. -/

namespace Go.Sx.Bln
open Go Go.Sx Go.Proofs
set_option maxRecDepth 1000000

end Go.Sx.Bln

/- blend: the document's choices, evaluated. -/

namespace Go.Sx.Bln
open Go Go.Sx Go.Proofs
set_option maxRecDepth 1000000

end Go.Sx.Bln

/- blend: the document's choices. -/

namespace Go.Sx
open Go
section
variable {P : Program}

end
end Go.Sx

namespace Go.Sx.Bln
open Go Go.Sx Go.Proofs
set_option maxRecDepth 1000000

section
variable {D : List Int}

end
end Go.Sx.Bln

/- blend: the document's choices: the outer loop, and the row. -/

namespace Go.Sx.Bln
open Go Go.Sx Go.Proofs
set_option maxRecDepth 1000000

section
variable {D : List Int}

end
end Go.Sx.Bln

/- blend: the document's choices are all choices, in their order. -/

namespace Go.Sx.Bln
open Go Go.Sx Go.Proofs
set_option maxRecDepth 100000

section
variable {D : List Int} {most : Nat → Int}

end

end Go.Sx.Bln

/- blend: the document's casks and Meets. -/

namespace Go.Sx.Bln
open Go Go.Sx Go.Proofs
set_option maxRecDepth 1000000

section
variable {l : List Stk} {t : Tst} {y m : Int} {D : List Int}

end

end Go.Sx.Bln

/- blend: the document's Cheapest, evaluated. -/

namespace Go.Sx.Bln
open Go Go.Sx Go.Proofs
set_option maxRecDepth 1000000

end Go.Sx.Bln

/- blend: the document's Cheapest. -/

namespace Go.Sx.Bln
open Go Go.Sx Go.Proofs
set_option maxRecDepth 1000000

section
variable {l : List Stk} {t : Tst} {y m : Int}

end
end Go.Sx.Bln

/- blend: the document's Cheapest, as a row. -/

namespace Go.Sx.Bln
open Go Go.Sx Go.Proofs
set_option maxRecDepth 1000000

section
variable (l : List Stk) (t : Tst) (y m : Int)

end
end Go.Sx.Bln

/- blend: the law BlendCheapest, evaluated. -/

namespace Go.Sx.Bln
open Go Go.Sx Go.Proofs
set_option maxRecDepth 1000000

end Go.Sx.Bln

/- blend: the law BlendCheapest. -/

namespace Go.Sx.Bln
open Go Go.Sx Go.Proofs
set_option maxRecDepth 1000000

end Go.Sx.Bln

/- blend: a choice by remainders (some), the law's meets, evaluated. -/

namespace Go.Sx.Bln
open Go Go.Sx Go.Proofs
set_option maxRecDepth 1000000

end Go.Sx.Bln

/- blend: a choice by remainders (some), the law's meets, as rows. -/

namespace Go.Sx.Bln
open Go Go.Sx Go.Proofs
set_option maxRecDepth 1000000

section
variable {l : List Stk} {t : Tst} {y m : Int} {D B : List Int}

end

end Go.Sx.Bln

/- blend: the law BlendProof, evaluated. -/

namespace Go.Sx.Bln
open Go Go.Sx Go.Proofs
set_option maxRecDepth 1000000

end Go.Sx.Bln

/- blend: no choice that meets a need costs less than the bound (plain). -/

namespace Go.Sx.Bln
open Go Go.Sx Go.Proofs
set_option maxRecDepth 100000

section
variable {l : List Stk} {t : Tst} {y m u : Int} {D : List Int} {n : Nat → Int}

end
end Go.Sx.Bln

/- blend: the law BlendProof. -/

namespace Go.Sx.Bln
open Go Go.Sx Go.Proofs
set_option maxRecDepth 1000000

section
variable {l : List Stk} {t : Tst} {y m u e n : Int} {D B : List Int}

end
end Go.Sx.Bln

/- blend: the law BlendProof holds. -/

namespace Go.Sx.Bln
open Go Go.Sx Go.Proofs
set_option maxRecDepth 1000000

section
variable {l : List Stk} {t : Tst} {y m u : Int} {D B : List Int}

end
end Go.Sx.Bln

/- blend: Plan's errors, and Lasts, evaluated. -/

namespace Go.Sx.Bln
open Go Go.Sx Go.Proofs
set_option maxRecDepth 1000000

def asK (l : List Stk) (t : Tst) (b : Bool) : FuncId × Spec1 := (38, fun _ args h K => match args with
  | [x, y] => isD h 2 x (stD l) ∧ isD h 2 y (.agg (tsL t)) ∧ okAll l t = b ∧ K (.ret (.bool b)) h
  | _ => False)
def apK (p : List (List Int)) (b : Bool) : FuncId × Spec1 := (39, fun _ args h K => match args with
  | [x] => isD h 4 x (pthD p) ∧ (pthB p ∧ okPaths p = b) ∧ K (.ret (.bool b)) h
  | _ => False)
theorem ple1_ev (l : List Stk) (t : Tst) (p : List (List Int)) (Q : VRes → VH → Prop) : callN Try.prog (tabS [asK l t false]) noL 10 20 0 (.fn 17) [stD l, .agg (tsL t), pthD p] ⟨0, []⟩ (fun r h => Q r h) =
  (isD (VH.mk (2) [(1, VB.cells [VV.tl p.length 1 (pthG p)] 26), (0, VB.cells (tsL t) 25)]) 2 (stD l) (stD l) ∧ isD (VH.mk (2) [(1, VB.cells [VV.tl p.length 1 (pthG p)] 26), (0, VB.cells (tsL t) 25)]) 2 (VV.agg (tsL t)) (VV.agg (tsL t)) ∧ okAll l t = false ∧ Q (VRes.ret (VV.tup [VV.nils, I 1])) (VH.mk (2) [(1, VB.cells [VV.tl p.length 1 (pthG p)] 26), (0, VB.cells (tsL t) 25)])) := by kernel_rfl

theorem ple2_ev (l : List Stk) (t : Tst) (p : List (List Int)) (Q : VRes → VH → Prop) : callN Try.prog (tabS [asK l t true, apK p false]) noL 10 20 0 (.fn 17) [stD l, .agg (tsL t), pthD p] ⟨0, []⟩ (fun r h => Q r h) =
  (isD (VH.mk (2) [(1, VB.cells [VV.tl p.length 1 (pthG p)] 26), (0, VB.cells (tsL t) 25)]) 2 (stD l) (stD l) ∧ isD (VH.mk (2) [(1, VB.cells [VV.tl p.length 1 (pthG p)] 26), (0, VB.cells (tsL t) 25)]) 2 (VV.agg (tsL t)) (VV.agg (tsL t)) ∧ okAll l t = true ∧ isD (VH.mk (2) [(1, VB.cells [VV.tl p.length 1 (pthG p)] 26), (0, VB.cells (tsL t) 25)]) 4 (VV.tl p.length 1 (pthG p)) (pthD p) ∧ (pthB p ∧ okPaths p = false) ∧ Q (VRes.ret (VV.tup [VV.nils, I 2])) (VH.mk (2) [(1, VB.cells [VV.tl p.length 1 (pthG p)] 26), (0, VB.cells (tsL t) 25)])) := by kernel_rfl

/-- What Plan tells: an error's number, or 0. -/
def plE (l : List Stk) (t : Tst) (p : List (List Int)) : Int := if okAll l t = false then 1 else if okPaths p = false then 2 else match planF l t p (p.getD 0 []).length (p.getD 0 []).length (2 ^ p.length - 1) (mostF l) with
  | none => 4
  | some _ => 0
/-- Plan of one path, but for the plan. -/
def plR1 (l : List Stk) (t : Tst) : FuncId × Spec1 := (17, fun _ args h K => match args with
  | [x, z, w] => isD h 4 x (stD l) ∧ isD h 4 z (.agg (tsL t)) ∧ ∃ d : List Int, isD h 4 w (pthD [d]) ∧ d.length ≤ 100000 ∧ ∀ e : Int, e = plE l t [d] → K (.ret (.tup [.any, I e])) h
  | _ => False)
theorem la1_ev (l : List Stk) (t : Tst) (m : Int) (Q : VRes → Prop) : callN Try.prog (tabS [asK l t false]) noL 10 20 0 (.fn 22) [stD l, .agg (tsL t), I m] ⟨0, []⟩ (fun r _ => Q r) =
  (isD (VH.mk (0 + 1) [(0, VB.cells (tsL t) 25)]) 2 (stD l) (stD l) ∧ isD (VH.mk (0 + 1) [(0, VB.cells (tsL t) 25)]) 2 (VV.agg (tsL t)) (VV.agg (tsL t)) ∧ okAll l t = false ∧ Q (VRes.ret (VV.tup [I 0, I 1]))) := by kernel_rfl

theorem la_ev (l : List Stk) (t : Tst) (m : Int) (Q : VRes → Prop) : callN Try.prog (tabS [asK l t true, plR1 l t]) noL 10 20 0 (.fn 22) [stD l, .agg (tsL t), I m] ⟨0, []⟩ (fun r _ => Q r) =
  (isD (VH.mk (0 + 1) [(0, VB.cells (tsL t) 25)]) 2 (stD l) (stD l) ∧ isD (VH.mk (0 + 1) [(0, VB.cells (tsL t) 25)]) 2 (VV.agg (tsL t)) (VV.agg (tsL t)) ∧ okAll l t = true ∧ bif decide ((0 : Int) ≤ m) then
 bif !decide (m ≤ (1048576 : Int)) then
 Q (VRes.ret (VV.tup [I 0, I 2]))
 else isD (VH.mk (4) [(3, VB.cells [VV.sl (2) 1] 23), (2, VB.vec 1 (fun (j : Nat) => List.take (1) (List.drop (j * (1)) [I m])) (1) 3), (1, VB.vec 1 (fun (j : Nat) => List.take (1) (List.drop (j * (1)) [I m])) (1) 3), (0, VB.cells (tsL t) 25)]) 4 (stD l) (stD l) ∧ isD (VH.mk (4) [(3, VB.cells [VV.sl (2) 1] 23), (2, VB.vec 1 (fun (j : Nat) => List.take (1) (List.drop (j * (1)) [I m])) (1) 3), (1, VB.vec 1 (fun (j : Nat) => List.take (1) (List.drop (j * (1)) [I m])) (1) 3), (0, VB.cells (tsL t) 25)]) 4 (VV.agg (tsL t)) (VV.agg (tsL t)) ∧ ∃ (d : List Int), isD (VH.mk (4) [(3, VB.cells [VV.sl (2) 1] 23), (2, VB.vec 1 (fun (j : Nat) => List.take (1) (List.drop (j * (1)) [I m])) (1) 3), (1, VB.vec 1 (fun (j : Nat) => List.take (1) (List.drop (j * (1)) [I m])) (1) 3), (0, VB.cells (tsL t) 25)]) 4 (VV.slice (VA.own (3) 0) 1 1) (pthD [d]) ∧ d.length ≤ 100000 ∧ ∀ (e : Int), e = plE l t [d] → bif !decide (e = (0 : Int)) then
 Q (VRes.ret (VV.tup [I 0, I 0]))
 else isD (VH.mk (6) [(5, VB.cells [VV.sl (2) (1 + 1)] 23), (2, VB.vec (1 + 1) (catG 1 (fun (j : Nat) => List.take (1) (List.drop (j * (1)) [I m])) fun (j : Nat) => List.take (1) (List.drop (j * (1)) [I m])) (1) 3), (4, VB.vec 1 (fun (j : Nat) => List.take (1) (List.drop (j * (1)) [I m])) (1) 3), (3, VB.cells [VV.sl (2) 1] 23), (2, VB.vec 1 (fun (j : Nat) => List.take (1) (List.drop (j * (1)) [I m])) (1) 3), (1, VB.vec 1 (fun (j : Nat) => List.take (1) (List.drop (j * (1)) [I m])) (1) 3), (0, VB.cells (tsL t) 25)]) 4 (stD l) (stD l) ∧ isD (VH.mk (6) [(5, VB.cells [VV.sl (2) (1 + 1)] 23), (2, VB.vec (1 + 1) (catG 1 (fun (j : Nat) => List.take (1) (List.drop (j * (1)) [I m])) fun (j : Nat) => List.take (1) (List.drop (j * (1)) [I m])) (1) 3), (4, VB.vec 1 (fun (j : Nat) => List.take (1) (List.drop (j * (1)) [I m])) (1) 3), (3, VB.cells [VV.sl (2) 1] 23), (2, VB.vec 1 (fun (j : Nat) => List.take (1) (List.drop (j * (1)) [I m])) (1) 3), (1, VB.vec 1 (fun (j : Nat) => List.take (1) (List.drop (j * (1)) [I m])) (1) 3), (0, VB.cells (tsL t) 25)]) 4 (VV.agg (tsL t)) (VV.agg (tsL t)) ∧ ∃ (d : List Int), isD (VH.mk (6) [(5, VB.cells [VV.sl (2) (1 + 1)] 23), (2, VB.vec (1 + 1) (catG 1 (fun (j : Nat) => List.take (1) (List.drop (j * (1)) [I m])) fun (j : Nat) => List.take (1) (List.drop (j * (1)) [I m])) (1) 3), (4, VB.vec 1 (fun (j : Nat) => List.take (1) (List.drop (j * (1)) [I m])) (1) 3), (3, VB.cells [VV.sl (2) 1] 23), (2, VB.vec 1 (fun (j : Nat) => List.take (1) (List.drop (j * (1)) [I m])) (1) 3), (1, VB.vec 1 (fun (j : Nat) => List.take (1) (List.drop (j * (1)) [I m])) (1) 3), (0, VB.cells (tsL t) 25)]) 4 (VV.slice (VA.own (5) 0) 1 1) (pthD [d]) ∧ d.length ≤ 100000 ∧ ∀ (e : Int), e = plE l t [d] → bif !decide (e = (0 : Int)) then
 Q (VRes.ret (VV.tup [I ((0 : Int) + (1 : Int)), I 0]))
 else isD (VH.mk (8) [(7, VB.cells [VV.sl (2) (1 + 1 + 1)] 23), (2, VB.vec (1 + 1 + 1) (catG (1 + 1) (catG 1 (fun (j : Nat) => List.take (1) (List.drop (j * (1)) [I m])) fun (j : Nat) => List.take (1) (List.drop (j * (1)) [I m])) fun (j : Nat) => List.take (1) (List.drop (j * (1)) [I m])) (1) 3), (6, VB.vec 1 (fun (j : Nat) => List.take (1) (List.drop (j * (1)) [I m])) (1) 3), (5, VB.cells [VV.sl (2) (1 + 1)] 23), (2, VB.vec (1 + 1) (catG 1 (fun (j : Nat) => List.take (1) (List.drop (j * (1)) [I m])) fun (j : Nat) => List.take (1) (List.drop (j * (1)) [I m])) (1) 3), (4, VB.vec 1 (fun (j : Nat) => List.take (1) (List.drop (j * (1)) [I m])) (1) 3), (3, VB.cells [VV.sl (2) 1] 23), (2, VB.vec 1 (fun (j : Nat) => List.take (1) (List.drop (j * (1)) [I m])) (1) 3), (1, VB.vec 1 (fun (j : Nat) => List.take (1) (List.drop (j * (1)) [I m])) (1) 3), (0, VB.cells (tsL t) 25)]) 4 (stD l) (stD l) ∧ isD (VH.mk (8) [(7, VB.cells [VV.sl (2) (1 + 1 + 1)] 23), (2, VB.vec (1 + 1 + 1) (catG (1 + 1) (catG 1 (fun (j : Nat) => List.take (1) (List.drop (j * (1)) [I m])) fun (j : Nat) => List.take (1) (List.drop (j * (1)) [I m])) fun (j : Nat) => List.take (1) (List.drop (j * (1)) [I m])) (1) 3), (6, VB.vec 1 (fun (j : Nat) => List.take (1) (List.drop (j * (1)) [I m])) (1) 3), (5, VB.cells [VV.sl (2) (1 + 1)] 23), (2, VB.vec (1 + 1) (catG 1 (fun (j : Nat) => List.take (1) (List.drop (j * (1)) [I m])) fun (j : Nat) => List.take (1) (List.drop (j * (1)) [I m])) (1) 3), (4, VB.vec 1 (fun (j : Nat) => List.take (1) (List.drop (j * (1)) [I m])) (1) 3), (3, VB.cells [VV.sl (2) 1] 23), (2, VB.vec 1 (fun (j : Nat) => List.take (1) (List.drop (j * (1)) [I m])) (1) 3), (1, VB.vec 1 (fun (j : Nat) => List.take (1) (List.drop (j * (1)) [I m])) (1) 3), (0, VB.cells (tsL t) 25)]) 4 (VV.agg (tsL t)) (VV.agg (tsL t)) ∧ ∃ (d : List Int), isD (VH.mk (8) [(7, VB.cells [VV.sl (2) (1 + 1 + 1)] 23), (2, VB.vec (1 + 1 + 1) (catG (1 + 1) (catG 1 (fun (j : Nat) => List.take (1) (List.drop (j * (1)) [I m])) fun (j : Nat) => List.take (1) (List.drop (j * (1)) [I m])) fun (j : Nat) => List.take (1) (List.drop (j * (1)) [I m])) (1) 3), (6, VB.vec 1 (fun (j : Nat) => List.take (1) (List.drop (j * (1)) [I m])) (1) 3), (5, VB.cells [VV.sl (2) (1 + 1)] 23), (2, VB.vec (1 + 1) (catG 1 (fun (j : Nat) => List.take (1) (List.drop (j * (1)) [I m])) fun (j : Nat) => List.take (1) (List.drop (j * (1)) [I m])) (1) 3), (4, VB.vec 1 (fun (j : Nat) => List.take (1) (List.drop (j * (1)) [I m])) (1) 3), (3, VB.cells [VV.sl (2) 1] 23), (2, VB.vec 1 (fun (j : Nat) => List.take (1) (List.drop (j * (1)) [I m])) (1) 3), (1, VB.vec 1 (fun (j : Nat) => List.take (1) (List.drop (j * (1)) [I m])) (1) 3), (0, VB.cells (tsL t) 25)]) 4 (VV.slice (VA.own (7) 0) 1 1) (pthD [d]) ∧ d.length ≤ 100000 ∧ ∀ (e : Int), e = plE l t [d] → bif !decide (e = (0 : Int)) then
 Q (VRes.ret (VV.tup [I ((0 : Int) + (1 : Int) + (1 : Int)), I 0]))
 else isD (VH.mk (10) [(9, VB.cells [VV.sl (2) (1 + 1 + 1 + 1)] 23), (2, VB.vec (1 + 1 + 1 + 1) (catG (1 + 1 + 1) (catG (1 + 1) (catG 1 (fun (j : Nat) => List.take (1) (List.drop (j * (1)) [I m])) fun (j : Nat) => List.take (1) (List.drop (j * (1)) [I m])) fun (j : Nat) => List.take (1) (List.drop (j * (1)) [I m])) fun (j : Nat) => List.take (1) (List.drop (j * (1)) [I m])) (1) 3), (8, VB.vec 1 (fun (j : Nat) => List.take (1) (List.drop (j * (1)) [I m])) (1) 3), (7, VB.cells [VV.sl (2) (1 + 1 + 1)] 23), (2, VB.vec (1 + 1 + 1) (catG (1 + 1) (catG 1 (fun (j : Nat) => List.take (1) (List.drop (j * (1)) [I m])) fun (j : Nat) => List.take (1) (List.drop (j * (1)) [I m])) fun (j : Nat) => List.take (1) (List.drop (j * (1)) [I m])) (1) 3), (6, VB.vec 1 (fun (j : Nat) => List.take (1) (List.drop (j * (1)) [I m])) (1) 3), (5, VB.cells [VV.sl (2) (1 + 1)] 23), (2, VB.vec (1 + 1) (catG 1 (fun (j : Nat) => List.take (1) (List.drop (j * (1)) [I m])) fun (j : Nat) => List.take (1) (List.drop (j * (1)) [I m])) (1) 3), (4, VB.vec 1 (fun (j : Nat) => List.take (1) (List.drop (j * (1)) [I m])) (1) 3), (3, VB.cells [VV.sl (2) 1] 23), (2, VB.vec 1 (fun (j : Nat) => List.take (1) (List.drop (j * (1)) [I m])) (1) 3), (1, VB.vec 1 (fun (j : Nat) => List.take (1) (List.drop (j * (1)) [I m])) (1) 3), (0, VB.cells (tsL t) 25)]) 4 (stD l) (stD l) ∧ isD (VH.mk (10) [(9, VB.cells [VV.sl (2) (1 + 1 + 1 + 1)] 23), (2, VB.vec (1 + 1 + 1 + 1) (catG (1 + 1 + 1) (catG (1 + 1) (catG 1 (fun (j : Nat) => List.take (1) (List.drop (j * (1)) [I m])) fun (j : Nat) => List.take (1) (List.drop (j * (1)) [I m])) fun (j : Nat) => List.take (1) (List.drop (j * (1)) [I m])) fun (j : Nat) => List.take (1) (List.drop (j * (1)) [I m])) (1) 3), (8, VB.vec 1 (fun (j : Nat) => List.take (1) (List.drop (j * (1)) [I m])) (1) 3), (7, VB.cells [VV.sl (2) (1 + 1 + 1)] 23), (2, VB.vec (1 + 1 + 1) (catG (1 + 1) (catG 1 (fun (j : Nat) => List.take (1) (List.drop (j * (1)) [I m])) fun (j : Nat) => List.take (1) (List.drop (j * (1)) [I m])) fun (j : Nat) => List.take (1) (List.drop (j * (1)) [I m])) (1) 3), (6, VB.vec 1 (fun (j : Nat) => List.take (1) (List.drop (j * (1)) [I m])) (1) 3), (5, VB.cells [VV.sl (2) (1 + 1)] 23), (2, VB.vec (1 + 1) (catG 1 (fun (j : Nat) => List.take (1) (List.drop (j * (1)) [I m])) fun (j : Nat) => List.take (1) (List.drop (j * (1)) [I m])) (1) 3), (4, VB.vec 1 (fun (j : Nat) => List.take (1) (List.drop (j * (1)) [I m])) (1) 3), (3, VB.cells [VV.sl (2) 1] 23), (2, VB.vec 1 (fun (j : Nat) => List.take (1) (List.drop (j * (1)) [I m])) (1) 3), (1, VB.vec 1 (fun (j : Nat) => List.take (1) (List.drop (j * (1)) [I m])) (1) 3), (0, VB.cells (tsL t) 25)]) 4 (VV.agg (tsL t)) (VV.agg (tsL t)) ∧ ∃ (d : List Int), isD (VH.mk (10) [(9, VB.cells [VV.sl (2) (1 + 1 + 1 + 1)] 23), (2, VB.vec (1 + 1 + 1 + 1) (catG (1 + 1 + 1) (catG (1 + 1) (catG 1 (fun (j : Nat) => List.take (1) (List.drop (j * (1)) [I m])) fun (j : Nat) => List.take (1) (List.drop (j * (1)) [I m])) fun (j : Nat) => List.take (1) (List.drop (j * (1)) [I m])) fun (j : Nat) => List.take (1) (List.drop (j * (1)) [I m])) (1) 3), (8, VB.vec 1 (fun (j : Nat) => List.take (1) (List.drop (j * (1)) [I m])) (1) 3), (7, VB.cells [VV.sl (2) (1 + 1 + 1)] 23), (2, VB.vec (1 + 1 + 1) (catG (1 + 1) (catG 1 (fun (j : Nat) => List.take (1) (List.drop (j * (1)) [I m])) fun (j : Nat) => List.take (1) (List.drop (j * (1)) [I m])) fun (j : Nat) => List.take (1) (List.drop (j * (1)) [I m])) (1) 3), (6, VB.vec 1 (fun (j : Nat) => List.take (1) (List.drop (j * (1)) [I m])) (1) 3), (5, VB.cells [VV.sl (2) (1 + 1)] 23), (2, VB.vec (1 + 1) (catG 1 (fun (j : Nat) => List.take (1) (List.drop (j * (1)) [I m])) fun (j : Nat) => List.take (1) (List.drop (j * (1)) [I m])) (1) 3), (4, VB.vec 1 (fun (j : Nat) => List.take (1) (List.drop (j * (1)) [I m])) (1) 3), (3, VB.cells [VV.sl (2) 1] 23), (2, VB.vec 1 (fun (j : Nat) => List.take (1) (List.drop (j * (1)) [I m])) (1) 3), (1, VB.vec 1 (fun (j : Nat) => List.take (1) (List.drop (j * (1)) [I m])) (1) 3), (0, VB.cells (tsL t) 25)]) 4 (VV.slice (VA.own (9) 0) 1 1) (pthD [d]) ∧ d.length ≤ 100000 ∧ ∀ (e : Int), e = plE l t [d] → bif !decide (e = (0 : Int)) then
 Q (VRes.ret (VV.tup [I ((0 : Int) + (1 : Int) + (1 : Int) + (1 : Int)), I 0]))
 else Q (VRes.ret (VV.tup [I 4, I 0]))
 else Q (VRes.ret (VV.tup [I 0, I 2]))) := by kernel_rfl

end Go.Sx.Bln

/- blend: Plan's closures with 1 paths, evaluated. -/

namespace Go.Sx.Bln
open Go Go.Sx Go.Proofs
set_option maxRecDepth 1000000

def BP1 (l : List Stk) (t : Tst) (P : List (List Int)) (Y : Nat) (M : Mde) (es : Lst) : List VB := [.cells (tsL t) 25, .cells [pthD P] 26, .cells (stD l :: tsL t) 74, .cells [.ptr (.own 2 0)] 72, .cells [I Y] 3, .cells [sFa 7 Y] 76, .cells [.slice (.own 5 0) 1 1] 75, .fam [] (Y * 6) (M 0) 80,
  .map kS .bool es, .cells [.mp 8] 77, .cells [.func 44 [] [.ptr (.own 4 0), .ptr (.own 9 0), .ptr (.own 1 0), .ptr (.own 11 0)]] 78, .cells [.func 40 [] [.ptr (.own 3 0), .ptr (.own 10 0), .ptr (.own 1 0), .ptr (.own 6 0)]] 88]
def nsB1 : List Nat := [0, 1, 2, 3, 4, 5, 6, 7, 8, 9, 10, 11]
/-- 'find', as a row. -/
def findR1 (l : List Stk) (t : Tst) (P : List (List Int)) (Y k : Nat) : FuncId × Spec1 := (44, fun lock args h K => match args, h with
  | [.agg (.int .i64 y :: .int .i64 S :: ns), x1, x2, x3, x4], ⟨nx, bs⟩ => ∃ (S' : Nat) (a : Nat → Int) (M : Mde) (es : Lst), (x1 = .ptr (.own 4 0) ∧ x2 = .ptr (.own 9 0) ∧ x3 = .ptr (.own 1 0) ∧ x4 = .ptr (.own 11 0)) ∧ (lock = 0 ∧ 12 ≤ nx) ∧ atL nsB1 (BP1 l t P Y M es) ⟨nx, bs⟩ ∧ (y = (Y : Int) - k ∧ S = S' ∧ ns = nL a) ∧ PreF l t P Y k S' a es ∧
      ∀ (b : Bool) (s : St), PostF l t P Y k S' a M b s → K (.ret (.bool b)) ⟨nx, (7, .fam [] (Y * 6) (s.M 0) 80) :: (8, .map kS .bool s.es) :: bs⟩
  | _, _ => False)
/-- 'follow', as a row. -/
def folR1 (l : List Stk) (t : Tst) (P : List (List Int)) (Y k : Nat) : FuncId × Spec1 := (40, fun lock args h K => match args, h with
  | [.agg (.int .i64 y :: .int .i64 S :: ns), .int .i64 o, .int .i64 d, x1, x2, x3, x4], ⟨nx, bs⟩ => ∃ (S' O : Nat) (a : Nat → Int) (M : Mde) (es : Lst), (x1 = .ptr (.own 3 0) ∧ x2 = .ptr (.own 10 0) ∧ x3 = .ptr (.own 1 0) ∧ x4 = .ptr (.own 6 0)) ∧ (lock = 0 ∧ 12 ≤ nx) ∧ atL nsB1 (BP1 l t P Y M es) ⟨nx, bs⟩ ∧ (y = (Y : Int) - (k + 1 : Nat) ∧ S = S' ∧ o = O ∧ ns = nL a) ∧ PreW l t P Y k O a es ∧
      ∀ (b : Bool) (s : St), PostW l t P Y k O d a M b s → K (.ret (.bool b)) ⟨nx, (7, .fam [] (Y * 6) (s.M 0) 80) :: (8, .map kS .bool s.es) :: bs⟩
  | _, _ => False)
def slFo1 (y S own need : Int) (a : Nat → Int) : Slots := [(16, VV.func 74 [] [.ptr (.own 16 0), .ptr (.own 17 0)]), (15, VV.agg (nL a)), (14, VV.ptr (VA.own 12 2)), (13, .ptr (.own 2 0)), (10, .ptr (.own 15 0)), (9, .ptr (.own 14 0)), (8, .ptr (.own 13 0)), (7, .ptr (.own 12 0)), (0, VV.agg (I y :: I S :: nL a)), (1, I own), (2, I need), (3, .ptr (.own 3 0)), (4, .ptr (.own 10 0)), (5, .ptr (.own 1 0)), (6, .ptr (.own 6 0))]
def VFo1 : List VV := [.ptr (.own 19 0), .yld 18, .ptr (.own 16 0), .ptr (.own 17 0)]
def VFi1 (i : Int) : List VV := I i :: VFo1
def nsFo1 : List Nat := [0, 1, 2, 3, 4, 5, 6, 7, 8, 9, 10, 11, 12, 13, 14, 15, 16, 17, 18, 19]
noncomputable def BFo1 (l : List Stk) (t : Tst) (P : List (List Int)) (Y : Nat) (y S own need : Int) (a : Nat → Int) (M : Mde) (es : Lst) (n : Nat → Int) : List VB := BP1 l t P Y M es ++ [faS y S a, .cells [I own] 3, .cells [I need] 3, .cells [.bool false] 4, .cells [.ptr (.own 2 0)] 72, faN a, .loop true none (slFo1 y S own need a) 58 [17] asFo bdFo, .fam [] 6 n 80]
theorem ino1_ev (l : List Stk) (t : Tst) (P : List (List Int)) (Y : Nat) (y S own need i : Int) (a : Nat → Int) (M : Mde) (es : Lst) (n : Nat → Int) (X : VEx → List VV → List VB → Prop) : codeE Try.prog (callN Try.prog noSpec noL 10 20) (fun _ => none) true 10 (ntOf Try.prog 74) 0 (loopB 2 (bodyOf Try.prog 74)) (dsI.zip (VFi1 i)) ⟨21, nsFo1.zip (BFo1 l t P Y y S own need a M es n)⟩ (obs 21 dsI nsFo1 X) =
  (bif decide (i ≥ (0 : Int)) then
 bif decide ((0 : Int) ≤ i ∧ i < (↑6 : Int)) then
 bif decide (i.toNat * (1) < 6) then
 bif decide ((0 : Int) ≤ i ∧ i < (↑6 : Int)) then
 bif decide (i.toNat * (1) < 6) then
 bif decide (n (i.toNat * (1)) = (fun (k : Nat) => (ch a).getD k (0 : Int)) (i.toNat * (1))) then
 bif decide ((0 : Int) ≤ i ∧ i < (↑6 : Int)) then
 bif decide (i.toNat * (1) + (1) ≤ 6) then
 bif inK IntKind.i64 (i - (1 : Int)) then
 X VEx.normal [I (i - (1 : Int)), VV.ptr (VA.own 19 0), VV.yld 18, VV.ptr (VA.own 16 0), VV.ptr (VA.own 17 0)] [VB.cells [VV.tl t.T.length 1 (dG t.T), I t.far, I t.least] (25 : TypeId), VB.cells [VV.tl P.length 1 (pthG P)] (26 : TypeId), VB.cells [VV.tl l.length 5 (stG l), VV.tl t.T.length 1 (dG t.T), I t.far, I t.least] (74 : TypeId), VB.cells [VV.ptr (VA.own 2 0)] (72 : TypeId), VB.cells [I (↑Y : Int)] (3 : TypeId), VB.cells [VV.slice (VA.fa 7 0 0) Y Y] (76 : TypeId), VB.cells [VV.slice (VA.own 5 0) 1 1] (75 : TypeId), VB.fam [] (Y * 6) (M 0) (80 : TypeId), VB.map [PK.int IntKind.i64, PK.int IntKind.i64, PK.int IntKind.i64, PK.int IntKind.i64, PK.int IntKind.i64, PK.int IntKind.i64, PK.int IntKind.i64, PK.int IntKind.i64] PK.bool es, VB.cells [VV.mp 8] (77 : TypeId), VB.cells [VV.func (44 : FuncId) [] [VV.ptr (VA.own 4 0), VV.ptr (VA.own 9 0), VV.ptr (VA.own 1 0), VV.ptr (VA.own 11 0)]] (78 : TypeId), VB.cells [VV.func (40 : FuncId) [] [VV.ptr (VA.own 3 0), VV.ptr (VA.own 10 0), VV.ptr (VA.own 1 0), VV.ptr (VA.own 6 0)]] (88 : TypeId), VB.fam [I y, I S] 6 (fun (k : Nat) => (ch a).getD k (0 : Int)) (82 : TypeId), VB.cells [I own] (3 : TypeId), VB.cells [I need] (3 : TypeId), VB.cells [VV.bool false] (4 : TypeId), VB.cells [VV.ptr (VA.own 2 0)] (72 : TypeId), VB.fam [] 6 (fun (k : Nat) => (ch a).getD k (0 : Int)) (80 : TypeId), VB.loop true none (slFo1 y S own need a) 58 [17] asFo bdFo, VB.fam [] 6 (setF n (i.toNat * (1)) [(0 : Int)]) (80 : TypeId)]
 else False
 else False
 else False
 else X (VEx.exit 2) [I i, VV.ptr (VA.own 19 0), VV.yld 18, VV.ptr (VA.own 16 0), VV.ptr (VA.own 17 0)] [VB.cells [VV.tl t.T.length 1 (dG t.T), I t.far, I t.least] (25 : TypeId), VB.cells [VV.tl P.length 1 (pthG P)] (26 : TypeId), VB.cells [VV.tl l.length 5 (stG l), VV.tl t.T.length 1 (dG t.T), I t.far, I t.least] (74 : TypeId), VB.cells [VV.ptr (VA.own 2 0)] (72 : TypeId), VB.cells [I (↑Y : Int)] (3 : TypeId), VB.cells [VV.slice (VA.fa 7 0 0) Y Y] (76 : TypeId), VB.cells [VV.slice (VA.own 5 0) 1 1] (75 : TypeId), VB.fam [] (Y * 6) (M 0) (80 : TypeId), VB.map [PK.int IntKind.i64, PK.int IntKind.i64, PK.int IntKind.i64, PK.int IntKind.i64, PK.int IntKind.i64, PK.int IntKind.i64, PK.int IntKind.i64, PK.int IntKind.i64] PK.bool es, VB.cells [VV.mp 8] (77 : TypeId), VB.cells [VV.func (44 : FuncId) [] [VV.ptr (VA.own 4 0), VV.ptr (VA.own 9 0), VV.ptr (VA.own 1 0), VV.ptr (VA.own 11 0)]] (78 : TypeId), VB.cells [VV.func (40 : FuncId) [] [VV.ptr (VA.own 3 0), VV.ptr (VA.own 10 0), VV.ptr (VA.own 1 0), VV.ptr (VA.own 6 0)]] (88 : TypeId), VB.fam [I y, I S] 6 (fun (k : Nat) => (ch a).getD k (0 : Int)) (82 : TypeId), VB.cells [I own] (3 : TypeId), VB.cells [I need] (3 : TypeId), VB.cells [VV.bool false] (4 : TypeId), VB.cells [VV.ptr (VA.own 2 0)] (72 : TypeId), VB.fam [] 6 (fun (k : Nat) => (ch a).getD k (0 : Int)) (80 : TypeId), VB.loop true none (slFo1 y S own need a) 58 [17] asFo bdFo, VB.fam [] 6 n (80 : TypeId)]
 else False
 else False
 else False
 else False
 else X (VEx.exit 2) [I i, VV.ptr (VA.own 19 0), VV.yld 18, VV.ptr (VA.own 16 0), VV.ptr (VA.own 17 0)] [VB.cells [VV.tl t.T.length 1 (dG t.T), I t.far, I t.least] (25 : TypeId), VB.cells [VV.tl P.length 1 (pthG P)] (26 : TypeId), VB.cells [VV.tl l.length 5 (stG l), VV.tl t.T.length 1 (dG t.T), I t.far, I t.least] (74 : TypeId), VB.cells [VV.ptr (VA.own 2 0)] (72 : TypeId), VB.cells [I (↑Y : Int)] (3 : TypeId), VB.cells [VV.slice (VA.fa 7 0 0) Y Y] (76 : TypeId), VB.cells [VV.slice (VA.own 5 0) 1 1] (75 : TypeId), VB.fam [] (Y * 6) (M 0) (80 : TypeId), VB.map [PK.int IntKind.i64, PK.int IntKind.i64, PK.int IntKind.i64, PK.int IntKind.i64, PK.int IntKind.i64, PK.int IntKind.i64, PK.int IntKind.i64, PK.int IntKind.i64] PK.bool es, VB.cells [VV.mp 8] (77 : TypeId), VB.cells [VV.func (44 : FuncId) [] [VV.ptr (VA.own 4 0), VV.ptr (VA.own 9 0), VV.ptr (VA.own 1 0), VV.ptr (VA.own 11 0)]] (78 : TypeId), VB.cells [VV.func (40 : FuncId) [] [VV.ptr (VA.own 3 0), VV.ptr (VA.own 10 0), VV.ptr (VA.own 1 0), VV.ptr (VA.own 6 0)]] (88 : TypeId), VB.fam [I y, I S] 6 (fun (k : Nat) => (ch a).getD k (0 : Int)) (82 : TypeId), VB.cells [I own] (3 : TypeId), VB.cells [I need] (3 : TypeId), VB.cells [VV.bool false] (4 : TypeId), VB.cells [VV.ptr (VA.own 2 0)] (72 : TypeId), VB.fam [] 6 (fun (k : Nat) => (ch a).getD k (0 : Int)) (80 : TypeId), VB.loop true none (slFo1 y S own need a) 58 [17] asFo bdFo, VB.fam [] 6 n (80 : TypeId)]) := by kernel_rfl

noncomputable def lIo1 (l : List Stk) (t : Tst) (P : List (List Int)) (Y : Nat) (y S own need : Int) (a : Nat → Int) : LT := fun lock tt h K =>
  ∃ M es n, FitP lock h tt ⟨21, nsFo1.zip (BFo1 l t P Y y S own need a M es n)⟩ (dsI.zip (VFi1 (l.length - 1))) ∧ l.length ≤ 6 ∧ ∀ (k : Nat) (n' : Nat → Int), scanC a l.length n = (k, n') → K .normal (dsI.zip (VFi1 (k - 1))) ⟨21, nsFo1.zip (BFo1 l t P Y y S own need a M es n')⟩
theorem fr1_ev (l : List Stk) (t : Tst) (D0 : List Int) (Y k : Nat) (M : Mde) (es : Lst) (y S need : Int) (O : Nat) (a n : Nat → Int) (X : VEx → List VV → List VB → Prop) : codeE Try.prog (callN Try.prog (tabS [meetsR l t, lessT, findR1 l t [D0] Y k]) noL 10 20) (tabB [(2, lIo1 l t [D0] Y y S O need a)]) true 10 (ntOf Try.prog 74) 0 (loopB 0 (bodyOf Try.prog 74)) (dsC.zip VFo1) ⟨20, nsFo1.zip (BFo1 l t [D0] Y y S O need a M es n)⟩ (obs 20 dsC nsFo1 X) =
  (∃ (n_1 : Nat → Int), isD (VH.mk (21) ((18, VB.gone) :: (20, VB.fam [] (6) (setF (fun (_ : Nat) => (0 : Int)) 0 [n (0 + 0), n (0 + 1), n (0 + 2), n (0 + 3), n (0 + 4), n (0 + 5)]) 80) :: (20, VB.fam [] (6) (fun (_ : Nat) => (0 : Int)) 80) :: nsFo1.zip (BFo1 l t [D0] Y y S (↑O : Int) need a M es n))) 4 (VV.ptr (VA.own 2 0)) (VV.tp (stD l :: tsL t)) ∧ [I (setF (fun (_ : Nat) => (0 : Int)) 0 [n (0 + 0), n (0 + 1), n (0 + 2), n (0 + 3), n (0 + 4), n (0 + 5)] (0 + 0)), I (setF (fun (_ : Nat) => (0 : Int)) 0 [n (0 + 0), n (0 + 1), n (0 + 2), n (0 + 3), n (0 + 4), n (0 + 5)] (0 + 1)), I (setF (fun (_ : Nat) => (0 : Int)) 0 [n (0 + 0), n (0 + 1), n (0 + 2), n (0 + 3), n (0 + 4), n (0 + 5)] (0 + 2)), I (setF (fun (_ : Nat) => (0 : Int)) 0 [n (0 + 0), n (0 + 1), n (0 + 2), n (0 + 3), n (0 + 4), n (0 + 5)] (0 + 3)), I (setF (fun (_ : Nat) => (0 : Int)) 0 [n (0 + 0), n (0 + 1), n (0 + 2), n (0 + 3), n (0 + 4), n (0 + 5)] (0 + 4)), I (setF (fun (_ : Nat) => (0 : Int)) 0 [n (0 + 0), n (0 + 1), n (0 + 2), n (0 + 3), n (0 + 4), n (0 + 5)] (0 + 5))] = nL n_1 ∧ (conB l t n_1 ∧ (0 : Int) ≤ y ∧ y ≤ (1000 : Int)) ∧ bif !meetsF l t n_1 y need then
 bif inK IntKind.i64 ((↑l.length : Int) - (1 : Int)) then
 ∃ (M_1 : Mde), ∃ (es_1 : Lst), ∃ (n_2 : Nat → Int), FitP 0 (VH.mk (21) ((18, VB.loop true none (slFo1 y S (↑O : Int) need a) 58 [17] asFo bdFo) :: (18, VB.gone) :: (20, VB.fam [] (6) (setF (fun (_ : Nat) => (0 : Int)) 0 [n (0 + 0), n (0 + 1), n (0 + 2), n (0 + 3), n (0 + 4), n (0 + 5)]) 80) :: (20, VB.fam [] (6) (fun (_ : Nat) => (0 : Int)) 80) :: nsFo1.zip (BFo1 l t [D0] Y y S (↑O : Int) need a M es n))) ((5, I ((↑l.length : Int) - (1 : Int))) :: (15, I ((↑l.length : Int) - (1 : Int))) :: (14, I (↑l.length : Int)) :: (13, VV.tl l.length 5 (stG l)) :: (12, VV.ptr (VA.own 2 0)) :: (11, VV.ptr (VA.own 2 0)) :: (10, VV.ptr (VA.own 2 0)) :: (9, VV.bool false) :: (9, VV.bool !true) :: (8, VV.bool true) :: (7, VV.agg [I (n (0 + 0)), I (n (0 + 1)), I (n (0 + 2)), I (n (0 + 3)), I (n (0 + 4)), I (n (0 + 5))]) :: (6, VV.yld 18) :: dsC.zip VFo1) (VH.mk 21 (nsFo1.zip (BFo1 l t [D0] Y y S (↑O : Int) need a M_1 es_1 n_2))) (dsI.zip (VFi1 ((↑l.length : Int) - (1 : Int)))) ∧ l.length ≤ 6 ∧ ∀ (k : Nat) (n' : Nat → Int), scanC a l.length n_2 = (k, n') → bif decide ((↑k : Int) - (1 : Int) < (0 : Int)) then
 X VEx.ret [VV.ptr (VA.own 19 0), VV.yld 18, VV.ptr (VA.own 16 0), VV.ptr (VA.own 17 0)] [VB.cells [VV.tl t.T.length 1 (dG t.T), I t.far, I t.least] (25 : TypeId), VB.cells [VV.tl [D0].length 1 (pthG [D0])] (26 : TypeId), VB.cells [VV.tl l.length 5 (stG l), VV.tl t.T.length 1 (dG t.T), I t.far, I t.least] (74 : TypeId), VB.cells [VV.ptr (VA.own 2 0)] (72 : TypeId), VB.cells [I (↑Y : Int)] (3 : TypeId), VB.cells [VV.slice (VA.fa 7 0 0) Y Y] (76 : TypeId), VB.cells [VV.slice (VA.own 5 0) 1 1] (75 : TypeId), VB.fam [] (Y * 6) (M_1 0) (80 : TypeId), VB.map [PK.int IntKind.i64, PK.int IntKind.i64, PK.int IntKind.i64, PK.int IntKind.i64, PK.int IntKind.i64, PK.int IntKind.i64, PK.int IntKind.i64, PK.int IntKind.i64] PK.bool es_1, VB.cells [VV.mp 8] (77 : TypeId), VB.cells [VV.func (44 : FuncId) [] [VV.ptr (VA.own 4 0), VV.ptr (VA.own 9 0), VV.ptr (VA.own 1 0), VV.ptr (VA.own 11 0)]] (78 : TypeId), VB.cells [VV.func (40 : FuncId) [] [VV.ptr (VA.own 3 0), VV.ptr (VA.own 10 0), VV.ptr (VA.own 1 0), VV.ptr (VA.own 6 0)]] (88 : TypeId), VB.fam [I y, I S] 6 (fun (k : Nat) => (ch a).getD k (0 : Int)) (82 : TypeId), VB.cells [I (↑O : Int)] (3 : TypeId), VB.cells [I need] (3 : TypeId), VB.cells [VV.bool false] (4 : TypeId), VB.cells [VV.ptr (VA.own 2 0)] (72 : TypeId), VB.fam [] 6 (fun (k : Nat) => (ch a).getD k (0 : Int)) (80 : TypeId), VB.loop true none (slFo1 y S (↑O : Int) need a) 58 [17] asFo bdFo, VB.fam [] 6 n' (80 : TypeId)]
 else bif decide ((0 : Int) ≤ (↑k : Int) - (1 : Int) ∧ (↑k : Int) - (1 : Int) < (↑6 : Int)) then
 bif decide (((↑k : Int) - (1 : Int)).toNat * (1) < 6) then
 bif inK IntKind.i64 (n' (((↑k : Int) - (1 : Int)).toNat * (1)) + (1 : Int)) then
 bif decide ((0 : Int) ≤ (↑k : Int) - (1 : Int) ∧ (↑k : Int) - (1 : Int) < (↑6 : Int)) then
 bif decide (((↑k : Int) - (1 : Int)).toNat * (1) + (1) ≤ 6) then
 X VEx.normal [VV.ptr (VA.own 19 0), VV.yld 18, VV.ptr (VA.own 16 0), VV.ptr (VA.own 17 0)] [VB.cells [VV.tl t.T.length 1 (dG t.T), I t.far, I t.least] (25 : TypeId), VB.cells [VV.tl [D0].length 1 (pthG [D0])] (26 : TypeId), VB.cells [VV.tl l.length 5 (stG l), VV.tl t.T.length 1 (dG t.T), I t.far, I t.least] (74 : TypeId), VB.cells [VV.ptr (VA.own 2 0)] (72 : TypeId), VB.cells [I (↑Y : Int)] (3 : TypeId), VB.cells [VV.slice (VA.fa 7 0 0) Y Y] (76 : TypeId), VB.cells [VV.slice (VA.own 5 0) 1 1] (75 : TypeId), VB.fam [] (Y * 6) (M_1 0) (80 : TypeId), VB.map [PK.int IntKind.i64, PK.int IntKind.i64, PK.int IntKind.i64, PK.int IntKind.i64, PK.int IntKind.i64, PK.int IntKind.i64, PK.int IntKind.i64, PK.int IntKind.i64] PK.bool es_1, VB.cells [VV.mp 8] (77 : TypeId), VB.cells [VV.func (44 : FuncId) [] [VV.ptr (VA.own 4 0), VV.ptr (VA.own 9 0), VV.ptr (VA.own 1 0), VV.ptr (VA.own 11 0)]] (78 : TypeId), VB.cells [VV.func (40 : FuncId) [] [VV.ptr (VA.own 3 0), VV.ptr (VA.own 10 0), VV.ptr (VA.own 1 0), VV.ptr (VA.own 6 0)]] (88 : TypeId), VB.fam [I y, I S] 6 (fun (k : Nat) => (ch a).getD k (0 : Int)) (82 : TypeId), VB.cells [I (↑O : Int)] (3 : TypeId), VB.cells [I need] (3 : TypeId), VB.cells [VV.bool false] (4 : TypeId), VB.cells [VV.ptr (VA.own 2 0)] (72 : TypeId), VB.fam [] 6 (fun (k : Nat) => (ch a).getD k (0 : Int)) (80 : TypeId), VB.loop true none (slFo1 y S (↑O : Int) need a) 58 [17] asFo bdFo, VB.fam [] 6 (setF n' (((↑k : Int) - (1 : Int)).toNat * (1)) [n' (((↑k : Int) - (1 : Int)).toNat * (1)) + (1 : Int)]) (80 : TypeId)]
 else False
 else False
 else False
 else False
 else False
 else False
 else bif inK IntKind.i64 (y + (1 : Int)) then
 ∃ (a_1 : Nat → Int), ∃ (b : Nat → Int), [I ((fun (k : Nat) => (ch a).getD k (0 : Int)) (0 + 0)), I ((fun (k : Nat) => (ch a).getD k (0 : Int)) (0 + 1)), I ((fun (k : Nat) => (ch a).getD k (0 : Int)) (0 + 2)), I ((fun (k : Nat) => (ch a).getD k (0 : Int)) (0 + 3)), I ((fun (k : Nat) => (ch a).getD k (0 : Int)) (0 + 4)), I ((fun (k : Nat) => (ch a).getD k (0 : Int)) (0 + 5))] = nL a_1 ∧ [I (setF (fun (_ : Nat) => (0 : Int)) 0 [n (0 + 0), n (0 + 1), n (0 + 2), n (0 + 3), n (0 + 4), n (0 + 5)] (0 + 0)), I (setF (fun (_ : Nat) => (0 : Int)) 0 [n (0 + 0), n (0 + 1), n (0 + 2), n (0 + 3), n (0 + 4), n (0 + 5)] (0 + 1)), I (setF (fun (_ : Nat) => (0 : Int)) 0 [n (0 + 0), n (0 + 1), n (0 + 2), n (0 + 3), n (0 + 4), n (0 + 5)] (0 + 2)), I (setF (fun (_ : Nat) => (0 : Int)) 0 [n (0 + 0), n (0 + 1), n (0 + 2), n (0 + 3), n (0 + 4), n (0 + 5)] (0 + 3)), I (setF (fun (_ : Nat) => (0 : Int)) 0 [n (0 + 0), n (0 + 1), n (0 + 2), n (0 + 3), n (0 + 4), n (0 + 5)] (0 + 4)), I (setF (fun (_ : Nat) => (0 : Int)) 0 [n (0 + 0), n (0 + 1), n (0 + 2), n (0 + 3), n (0 + 4), n (0 + 5)] (0 + 5))] = nL b ∧ bdL a_1 b ∧ ∃ (S' : Nat), ∃ (a_2 : Nat → Int), ∃ (M_1 : Mde), ∃ (es_1 : Lst), (VV.ptr (VA.own 4 0) = VV.ptr (VA.own 4 0) ∧ VV.ptr (VA.own 9 0) = VV.ptr (VA.own 9 0) ∧ VV.ptr (VA.own 1 0) = VV.ptr (VA.own 1 0) ∧ VV.ptr (VA.own 11 0) = VV.ptr (VA.own 11 0)) ∧ (0 = 0 ∧ 12 ≤ 21) ∧ atL nsB1 (BP1 l t [D0] Y M_1 es_1) (VH.mk (21) ((18, VB.gone) :: (20, VB.fam [] (6) (setF (fun (_ : Nat) => (0 : Int)) 0 [n (0 + 0), n (0 + 1), n (0 + 2), n (0 + 3), n (0 + 4), n (0 + 5)]) 80) :: (20, VB.fam [] (6) (fun (_ : Nat) => (0 : Int)) 80) :: nsFo1.zip (BFo1 l t [D0] Y y S (↑O : Int) need a M es n))) ∧ (y + (1 : Int) = (↑Y : Int) - (↑k : Int) ∧ (↑O : Int) = (↑S' : Int) ∧ [I (lsF a_1 b 6 0), I (lsF a_1 b 6 1), I (lsF a_1 b 6 2), I (lsF a_1 b 6 3), I (lsF a_1 b 6 4), I (lsF a_1 b 6 5)] = nL a_2) ∧ PreF l t [D0] Y k S' a_2 es_1 ∧ ∀ (b : Bool) (s : St), PostF l t [D0] Y k S' a_2 M_1 b s → bif !b then
 bif inK IntKind.i64 ((↑l.length : Int) - (1 : Int)) then
 ∃ (M_2 : Mde), ∃ (es_2 : Lst), ∃ (n_2 : Nat → Int), FitP 0 (VH.mk (21) ((18, VB.loop true none (slFo1 y S (↑O : Int) need a) 58 [17] asFo bdFo) :: (7, VB.fam [] (Y * 6) (s.M 0) (80 : TypeId)) :: (8, VB.map kS PK.bool s.es) :: (18, VB.gone) :: (20, VB.fam [] (6) (setF (fun (_ : Nat) => (0 : Int)) 0 [n (0 + 0), n (0 + 1), n (0 + 2), n (0 + 3), n (0 + 4), n (0 + 5)]) 80) :: (20, VB.fam [] (6) (fun (_ : Nat) => (0 : Int)) 80) :: nsFo1.zip (BFo1 l t [D0] Y y S (↑O : Int) need a M es n))) ((5, I ((↑l.length : Int) - (1 : Int))) :: (15, I ((↑l.length : Int) - (1 : Int))) :: (14, I (↑l.length : Int)) :: (13, VV.tl l.length 5 (stG l)) :: (12, VV.ptr (VA.own 2 0)) :: (11, VV.ptr (VA.own 2 0)) :: (10, VV.ptr (VA.own 2 0)) :: (9, VV.bool false) :: (9, VV.bool !true) :: (8, VV.bool true) :: (7, VV.agg [I (n (0 + 0)), I (n (0 + 1)), I (n (0 + 2)), I (n (0 + 3)), I (n (0 + 4)), I (n (0 + 5))]) :: (6, VV.yld 18) :: dsC.zip VFo1) (VH.mk 21 (nsFo1.zip (BFo1 l t [D0] Y y S (↑O : Int) need a M_2 es_2 n_2))) (dsI.zip (VFi1 ((↑l.length : Int) - (1 : Int)))) ∧ l.length ≤ 6 ∧ ∀ (k : Nat) (n' : Nat → Int), scanC a l.length n_2 = (k, n') → bif decide ((↑k : Int) - (1 : Int) < (0 : Int)) then
 X VEx.ret [VV.ptr (VA.own 19 0), VV.yld 18, VV.ptr (VA.own 16 0), VV.ptr (VA.own 17 0)] [VB.cells [VV.tl t.T.length 1 (dG t.T), I t.far, I t.least] (25 : TypeId), VB.cells [VV.tl [D0].length 1 (pthG [D0])] (26 : TypeId), VB.cells [VV.tl l.length 5 (stG l), VV.tl t.T.length 1 (dG t.T), I t.far, I t.least] (74 : TypeId), VB.cells [VV.ptr (VA.own 2 0)] (72 : TypeId), VB.cells [I (↑Y : Int)] (3 : TypeId), VB.cells [VV.slice (VA.fa 7 0 0) Y Y] (76 : TypeId), VB.cells [VV.slice (VA.own 5 0) 1 1] (75 : TypeId), VB.fam [] (Y * 6) (M_2 0) (80 : TypeId), VB.map [PK.int IntKind.i64, PK.int IntKind.i64, PK.int IntKind.i64, PK.int IntKind.i64, PK.int IntKind.i64, PK.int IntKind.i64, PK.int IntKind.i64, PK.int IntKind.i64] PK.bool es_2, VB.cells [VV.mp 8] (77 : TypeId), VB.cells [VV.func (44 : FuncId) [] [VV.ptr (VA.own 4 0), VV.ptr (VA.own 9 0), VV.ptr (VA.own 1 0), VV.ptr (VA.own 11 0)]] (78 : TypeId), VB.cells [VV.func (40 : FuncId) [] [VV.ptr (VA.own 3 0), VV.ptr (VA.own 10 0), VV.ptr (VA.own 1 0), VV.ptr (VA.own 6 0)]] (88 : TypeId), VB.fam [I y, I S] 6 (fun (k : Nat) => (ch a).getD k (0 : Int)) (82 : TypeId), VB.cells [I (↑O : Int)] (3 : TypeId), VB.cells [I need] (3 : TypeId), VB.cells [VV.bool false] (4 : TypeId), VB.cells [VV.ptr (VA.own 2 0)] (72 : TypeId), VB.fam [] 6 (fun (k : Nat) => (ch a).getD k (0 : Int)) (80 : TypeId), VB.loop true none (slFo1 y S (↑O : Int) need a) 58 [17] asFo bdFo, VB.fam [] 6 n' (80 : TypeId)]
 else bif decide ((0 : Int) ≤ (↑k : Int) - (1 : Int) ∧ (↑k : Int) - (1 : Int) < (↑6 : Int)) then
 bif decide (((↑k : Int) - (1 : Int)).toNat * (1) < 6) then
 bif inK IntKind.i64 (n' (((↑k : Int) - (1 : Int)).toNat * (1)) + (1 : Int)) then
 bif decide ((0 : Int) ≤ (↑k : Int) - (1 : Int) ∧ (↑k : Int) - (1 : Int) < (↑6 : Int)) then
 bif decide (((↑k : Int) - (1 : Int)).toNat * (1) + (1) ≤ 6) then
 X VEx.normal [VV.ptr (VA.own 19 0), VV.yld 18, VV.ptr (VA.own 16 0), VV.ptr (VA.own 17 0)] [VB.cells [VV.tl t.T.length 1 (dG t.T), I t.far, I t.least] (25 : TypeId), VB.cells [VV.tl [D0].length 1 (pthG [D0])] (26 : TypeId), VB.cells [VV.tl l.length 5 (stG l), VV.tl t.T.length 1 (dG t.T), I t.far, I t.least] (74 : TypeId), VB.cells [VV.ptr (VA.own 2 0)] (72 : TypeId), VB.cells [I (↑Y : Int)] (3 : TypeId), VB.cells [VV.slice (VA.fa 7 0 0) Y Y] (76 : TypeId), VB.cells [VV.slice (VA.own 5 0) 1 1] (75 : TypeId), VB.fam [] (Y * 6) (M_2 0) (80 : TypeId), VB.map [PK.int IntKind.i64, PK.int IntKind.i64, PK.int IntKind.i64, PK.int IntKind.i64, PK.int IntKind.i64, PK.int IntKind.i64, PK.int IntKind.i64, PK.int IntKind.i64] PK.bool es_2, VB.cells [VV.mp 8] (77 : TypeId), VB.cells [VV.func (44 : FuncId) [] [VV.ptr (VA.own 4 0), VV.ptr (VA.own 9 0), VV.ptr (VA.own 1 0), VV.ptr (VA.own 11 0)]] (78 : TypeId), VB.cells [VV.func (40 : FuncId) [] [VV.ptr (VA.own 3 0), VV.ptr (VA.own 10 0), VV.ptr (VA.own 1 0), VV.ptr (VA.own 6 0)]] (88 : TypeId), VB.fam [I y, I S] 6 (fun (k : Nat) => (ch a).getD k (0 : Int)) (82 : TypeId), VB.cells [I (↑O : Int)] (3 : TypeId), VB.cells [I need] (3 : TypeId), VB.cells [VV.bool false] (4 : TypeId), VB.cells [VV.ptr (VA.own 2 0)] (72 : TypeId), VB.fam [] 6 (fun (k : Nat) => (ch a).getD k (0 : Int)) (80 : TypeId), VB.loop true none (slFo1 y S (↑O : Int) need a) 58 [17] asFo bdFo, VB.fam [] 6 (setF n' (((↑k : Int) - (1 : Int)).toNat * (1)) [n' (((↑k : Int) - (1 : Int)).toNat * (1)) + (1 : Int)]) (80 : TypeId)]
 else False
 else False
 else False
 else False
 else False
 else False
 else bif decide (IntKind.i64.wrap (↑(BitVec.ofInt IntKind.i64.bits ((↑O : Int).fdiv ((2 : Int) ^ min (Int.toNat (0 : Int)) IntKind.i64.bits)) &&& BitVec.ofInt IntKind.i64.bits (1 : Int)).toNat : Int) = (1 : Int)) then
 bif decide ((0 : Int) ≤ y ∧ y < (↑Y : Int)) then
 bif decide (0 + y.toNat * (6) + (6) ≤ Y * 6) then
 X VEx.ret [VV.ptr (VA.own 19 0), VV.yld 18, VV.ptr (VA.own 16 0), VV.ptr (VA.own 17 0)] [VB.cells [VV.tl t.T.length 1 (dG t.T), I t.far, I t.least] (25 : TypeId), VB.cells [VV.tl [D0].length 1 (pthG [D0])] (26 : TypeId), VB.cells [VV.tl l.length 5 (stG l), VV.tl t.T.length 1 (dG t.T), I t.far, I t.least] (74 : TypeId), VB.cells [VV.ptr (VA.own 2 0)] (72 : TypeId), VB.cells [I (↑Y : Int)] (3 : TypeId), VB.cells [VV.slice (VA.fa 7 0 0) Y Y] (76 : TypeId), VB.cells [VV.slice (VA.own 5 0) 1 1] (75 : TypeId), VB.fam [] (Y * 6) (setF (s.M 0) (0 + y.toNat * (6)) [setF (fun (_ : Nat) => (0 : Int)) 0 [n (0 + 0), n (0 + 1), n (0 + 2), n (0 + 3), n (0 + 4), n (0 + 5)] (0 + 0), setF (fun (_ : Nat) => (0 : Int)) 0 [n (0 + 0), n (0 + 1), n (0 + 2), n (0 + 3), n (0 + 4), n (0 + 5)] (0 + 1), setF (fun (_ : Nat) => (0 : Int)) 0 [n (0 + 0), n (0 + 1), n (0 + 2), n (0 + 3), n (0 + 4), n (0 + 5)] (0 + 2), setF (fun (_ : Nat) => (0 : Int)) 0 [n (0 + 0), n (0 + 1), n (0 + 2), n (0 + 3), n (0 + 4), n (0 + 5)] (0 + 3), setF (fun (_ : Nat) => (0 : Int)) 0 [n (0 + 0), n (0 + 1), n (0 + 2), n (0 + 3), n (0 + 4), n (0 + 5)] (0 + 4), setF (fun (_ : Nat) => (0 : Int)) 0 [n (0 + 0), n (0 + 1), n (0 + 2), n (0 + 3), n (0 + 4), n (0 + 5)] (0 + 5)]) (80 : TypeId), VB.map [PK.int IntKind.i64, PK.int IntKind.i64, PK.int IntKind.i64, PK.int IntKind.i64, PK.int IntKind.i64, PK.int IntKind.i64, PK.int IntKind.i64, PK.int IntKind.i64] PK.bool s.es, VB.cells [VV.mp 8] (77 : TypeId), VB.cells [VV.func (44 : FuncId) [] [VV.ptr (VA.own 4 0), VV.ptr (VA.own 9 0), VV.ptr (VA.own 1 0), VV.ptr (VA.own 11 0)]] (78 : TypeId), VB.cells [VV.func (40 : FuncId) [] [VV.ptr (VA.own 3 0), VV.ptr (VA.own 10 0), VV.ptr (VA.own 1 0), VV.ptr (VA.own 6 0)]] (88 : TypeId), VB.fam [I y, I S] 6 (fun (k : Nat) => (ch a).getD k (0 : Int)) (82 : TypeId), VB.cells [I (↑O : Int)] (3 : TypeId), VB.cells [I need] (3 : TypeId), VB.cells [VV.bool true] (4 : TypeId), VB.cells [VV.ptr (VA.own 2 0)] (72 : TypeId), VB.fam [] 6 (fun (k : Nat) => (ch a).getD k (0 : Int)) (80 : TypeId), VB.loop false (some VEx.ret) (slFo1 y S (↑O : Int) need a) 58 [17] asFo bdFo, VB.fam [] 6 n (80 : TypeId)]
 else False
 else False
 else X VEx.ret [VV.ptr (VA.own 19 0), VV.yld 18, VV.ptr (VA.own 16 0), VV.ptr (VA.own 17 0)] [VB.cells [VV.tl t.T.length 1 (dG t.T), I t.far, I t.least] (25 : TypeId), VB.cells [VV.tl [D0].length 1 (pthG [D0])] (26 : TypeId), VB.cells [VV.tl l.length 5 (stG l), VV.tl t.T.length 1 (dG t.T), I t.far, I t.least] (74 : TypeId), VB.cells [VV.ptr (VA.own 2 0)] (72 : TypeId), VB.cells [I (↑Y : Int)] (3 : TypeId), VB.cells [VV.slice (VA.fa 7 0 0) Y Y] (76 : TypeId), VB.cells [VV.slice (VA.own 5 0) 1 1] (75 : TypeId), VB.fam [] (Y * 6) (s.M 0) (80 : TypeId), VB.map [PK.int IntKind.i64, PK.int IntKind.i64, PK.int IntKind.i64, PK.int IntKind.i64, PK.int IntKind.i64, PK.int IntKind.i64, PK.int IntKind.i64, PK.int IntKind.i64] PK.bool s.es, VB.cells [VV.mp 8] (77 : TypeId), VB.cells [VV.func (44 : FuncId) [] [VV.ptr (VA.own 4 0), VV.ptr (VA.own 9 0), VV.ptr (VA.own 1 0), VV.ptr (VA.own 11 0)]] (78 : TypeId), VB.cells [VV.func (40 : FuncId) [] [VV.ptr (VA.own 3 0), VV.ptr (VA.own 10 0), VV.ptr (VA.own 1 0), VV.ptr (VA.own 6 0)]] (88 : TypeId), VB.fam [I y, I S] 6 (fun (k : Nat) => (ch a).getD k (0 : Int)) (82 : TypeId), VB.cells [I (↑O : Int)] (3 : TypeId), VB.cells [I need] (3 : TypeId), VB.cells [VV.bool true] (4 : TypeId), VB.cells [VV.ptr (VA.own 2 0)] (72 : TypeId), VB.fam [] 6 (fun (k : Nat) => (ch a).getD k (0 : Int)) (80 : TypeId), VB.loop false (some VEx.ret) (slFo1 y S (↑O : Int) need a) 58 [17] asFo bdFo, VB.fam [] 6 n (80 : TypeId)]
 else False) := by kernel_rfl

noncomputable def BFoT1 (l : List Stk) (t : Tst) (P : List (List Int)) (Y : Nat) (y S own need : Int) (a : Nat → Int) (M : Mde) (es : Lst) (n : Nat → Int) : List VB := BP1 l t P Y M es ++ [faS y S a, .cells [I own] 3, .cells [I need] 3, .cells [.bool true] 4, .cells [.ptr (.own 2 0)] 72, faN a, .loop false (some .ret) (slFo1 y S own need a) 58 [17] asFo bdFo, .fam [] 6 n 80]
noncomputable def lFo1 (l : List Stk) (t : Tst) (P : List (List Int)) (Y k : Nat) (y S d : Int) (O : Nat) (a : Nat → Int) : LT := fun lock tt h K =>
  ∃ M es, FitP lock h tt ⟨20, nsFo1.zip (BFo1 l t P Y y S O d a M es fun _ => 0)⟩ (dsC.zip VFo1) ∧ (y = (Y : Int) - (k + 1 : Nat) ∧ Cfg l t P Y ∧ PreW l t P Y k O a es) ∧ (∀ s n', PostW l t P Y k O d a M false s → K .ret (dsC.zip VFo1) ⟨20, nsFo1.zip (BFo1 l t P Y y S O d a s.M s.es n')⟩) ∧
    ∀ s n', PostW l t P Y k O d a M true s → K .ret (dsC.zip VFo1) ⟨20, nsFo1.zip (BFoT1 l t P Y y S O d a s.M s.es n')⟩
theorem fob1_ev (l : List Stk) (t : Tst) (D0 : List Int) (Y k : Nat) (M : Mde) (es : Lst) (y S d : Int) (O : Nat) (a : Nat → Int) (Q : VRes → VH → Prop) : callN Try.prog noSpec (atF 74 [(0, lFo1 l t [D0] Y k y S d O a)]) 10 20 0 (.fn 40) [.agg (I y :: I S :: nL a), I O, I d, .ptr (.own 3 0), .ptr (.own 10 0), .ptr (.own 1 0), .ptr (.own 6 0)] ⟨12, nsB1.zip (BP1 l t [D0] Y M es)⟩ (fun r h => Q r h) =
  (∃ (M_1 : Mde), ∃ (es_1 : Lst), FitP 0 (VH.mk (20) ((19, VB.fam [] (6) (fun (_ : Nat) => (0 : Int)) 80) :: (18, VB.loop true none [(16, VV.func 74 [] [VV.ptr (VA.own (16) 0), VV.ptr (VA.own (17) 0)]), (15, VV.agg [I ((fun (k : Nat) => [a 0, a 1, a 2, a 3, a 4, a 5].getD k (0 : Int)) (0 + 0)), I ((fun (k : Nat) => [a 0, a 1, a 2, a 3, a 4, a 5].getD k (0 : Int)) (0 + 1)), I ((fun (k : Nat) => [a 0, a 1, a 2, a 3, a 4, a 5].getD k (0 : Int)) (0 + 2)), I ((fun (k : Nat) => [a 0, a 1, a 2, a 3, a 4, a 5].getD k (0 : Int)) (0 + 3)), I ((fun (k : Nat) => [a 0, a 1, a 2, a 3, a 4, a 5].getD k (0 : Int)) (0 + 4)), I ((fun (k : Nat) => [a 0, a 1, a 2, a 3, a 4, a 5].getD k (0 : Int)) (0 + 5))]), (14, VV.ptr (VA.own (12) (2))), (13, VV.ptr (VA.own 2 0)), (10, VV.ptr (VA.own (15) 0)), (9, VV.ptr (VA.own (14) 0)), (8, VV.ptr (VA.own (13) 0)), (7, VV.ptr (VA.own (12) 0)), (0, VV.agg (I y :: I S :: nL a)), (1, I (↑O : Int)), (2, I d), (3, VV.ptr (VA.own 3 0)), (4, VV.ptr (VA.own 10 0)), (5, VV.ptr (VA.own 1 0)), (6, VV.ptr (VA.own 6 0))] (58) #[17].toList (Code.region 2 #[Oper.mk (some 11) (Op.alloc 80) 0 "plan.go:53" #[] none, Oper.mk none (Op.store 80 (Operand.tmp 11) (Operand.tmp 17)) 0 "plan.go:53" #[Edge.mk 0 Ground.data, Edge.mk 0 Ground.phase] none] false) (Code.block 1 (((Code.region 3 #[Oper.mk (some 18) (Op.load 72 (Operand.tmp 3)) 72 "plan.go:54" #[] none, Oper.mk (some 19) (Op.load 80 (Operand.tmp 11)) 80 "plan.go:54" #[] none, Oper.mk (some 20) (Op.fieldAddr 82 (Operand.tmp 7) 0) 0 "plan.go:54" #[] none, Oper.mk (some 21) (Op.load 3 (Operand.tmp 20)) 3 "plan.go:54" #[Edge.mk 2 Ground.data] none, Oper.mk (some 22) (Op.load 3 (Operand.tmp 9)) 3 "plan.go:54" #[] none, Oper.mk (some 23) (Op.call (Call.mk (Callee.value (Operand.func 42)) #[Operand.tmp 18, Operand.tmp 19, Operand.tmp 21, Operand.tmp 22] #[72, 80, 3, 3])) 4 "plan.go:54" #[Edge.mk 0 Ground.data, Edge.mk 1 Ground.data, Edge.mk 3 Ground.data, Edge.mk 4 Ground.data] none, Oper.mk (some 24) (Op.unOp UnOp.not 4 (Operand.tmp 23)) 4 "plan.go:54" #[Edge.mk 5 Ground.data] none, Oper.mk (some 25) (Op.move (Operand.tmp 24)) 4 "plan.go:54" #[Edge.mk 6 Ground.data, Edge.mk 5 Ground.chain] none, Oper.mk (some 26) (Op.load 78 (Operand.tmp 4)) 78 "plan.go:54" #[Edge.mk 7 Ground.guard] (some (7, false)), Oper.mk (some 27) (Op.fieldAddr 82 (Operand.tmp 7) 0) 0 "plan.go:54" #[Edge.mk 7 Ground.guard] (some (7, false)), Oper.mk (some 28) (Op.load 3 (Operand.tmp 27)) 3 "plan.go:54" #[Edge.mk 9 Ground.data, Edge.mk 7 Ground.guard] (some (7, false)), Oper.mk (some 29) (Op.binOp BinOp.add 3 (Operand.tmp 28) (Operand.const (Value.int IntKind.i64 (1 : Int))) 3) 3 "plan.go:54" #[Edge.mk 10 Ground.data, Edge.mk 7 Ground.guard] (some (7, false)), Oper.mk (some 30) (Op.load 3 (Operand.tmp 8)) 3 "plan.go:54" #[Edge.mk 7 Ground.guard] (some (7, false)), Oper.mk (some 31) (Op.fieldAddr 82 (Operand.tmp 7) 2) 0 "plan.go:54" #[Edge.mk 7 Ground.guard] (some (7, false)), Oper.mk (some 32) (Op.load 80 (Operand.tmp 31)) 80 "plan.go:54" #[Edge.mk 13 Ground.data, Edge.mk 7 Ground.guard] (some (7, false)), Oper.mk (some 33) (Op.load 80 (Operand.tmp 11)) 80 "plan.go:54" #[Edge.mk 7 Ground.guard] (some (7, false)), Oper.mk (some 34) (Op.call (Call.mk (Callee.value (Operand.func 43)) #[Operand.tmp 32, Operand.tmp 33] #[80, 80])) 80 "plan.go:54" #[Edge.mk 14 Ground.data, Edge.mk 15 Ground.data, Edge.mk 7 Ground.chain, Edge.mk 7 Ground.guard] (some (7, false)), Oper.mk (some 35) (Op.build 82 #[(0, Operand.tmp 29), (1, Operand.tmp 30), (2, Operand.tmp 34)]) 82 "plan.go:54" #[Edge.mk 11 Ground.data, Edge.mk 12 Ground.data, Edge.mk 16 Ground.data, Edge.mk 7 Ground.guard] (some (7, false)), Oper.mk (some 36) (Op.call (Call.mk (Callee.value (Operand.tmp 26)) #[Operand.tmp 35] #[82])) 4 "plan.go:54" #[Edge.mk 8 Ground.data, Edge.mk 17 Ground.data, Edge.mk 16 Ground.chain, Edge.mk 7 Ground.guard] (some (7, false)), Oper.mk (some 37) (Op.unOp UnOp.not 4 (Operand.tmp 36)) 4 "plan.go:54" #[Edge.mk 18 Ground.data, Edge.mk 7 Ground.guard] (some (7, false)), Oper.mk (some 38) (Op.pick (Operand.tmp 25) (Operand.const (Value.bool true)) (Operand.tmp 37)) 4 "plan.go:54" #[Edge.mk 7 Ground.data, Edge.mk 19 Ground.data] none] true).seq (Code.cond (Operand.tmp 38) (Code.exit 1) Code.skip)).seq (((Code.region 4 #[Oper.mk (some 39) (Op.load 26 (Operand.tmp 5)) 26 "plan.go:57" #[] none, Oper.mk (some 40) (Op.call (Call.mk (Callee.builtin Builtin.len) #[Operand.tmp 39] #[26])) 3 "plan.go:57" #[Edge.mk 0 Ground.data] none, Oper.mk (some 41) (Op.move (Operand.const (Value.int IntKind.i64 (0 : Int)))) 3 "plan.go:57" #[] none] false).seq (Code.block 2 ((Code.region 5 #[Oper.mk (some 42) (Op.binOp BinOp.lss 3 (Operand.tmp 41) (Operand.tmp 40) 3) 0 "plan.go:57" #[] none] false).seq ((Code.cond (Operand.tmp 42) Code.skip (Code.exit 2)).seq ((Code.block 3 ((Code.region 6 #[Oper.mk (some 43) (Op.move (Operand.tmp 41)) 3 "plan.go:57" #[] none, Oper.mk (some 12) (Op.assign (Operand.tmp 43)) 3 "plan.go:57" #[Edge.mk 0 Ground.data, Edge.mk 0 Ground.phase] none] false).seq ((Code.region 7 #[Oper.mk (some 44) (Op.load 3 (Operand.tmp 8)) 3 "plan.go:58" #[] none, Oper.mk (some 45) (Op.move (Operand.tmp 12)) 3 "plan.go:58" #[] none, Oper.mk (some 46) (Op.binOp BinOp.shr 3 (Operand.tmp 44) (Operand.tmp 45) 3) 3 "plan.go:58" #[Edge.mk 0 Ground.data, Edge.mk 1 Ground.data] none, Oper.mk (some 47) (Op.binOp BinOp.and 3 (Operand.tmp 46) (Operand.const (Value.int IntKind.i64 (1 : Int))) 3) 3 "plan.go:58" #[Edge.mk 2 Ground.data] none, Oper.mk (some 48) (Op.binOp BinOp.eql 3 (Operand.tmp 47) (Operand.const (Value.int IntKind.i64 (1 : Int))) 3) 4 "plan.go:58" #[Edge.mk 3 Ground.data] none] false).seq (Code.cond (Operand.tmp 48) (Code.region 8 #[Oper.mk (some 49) (Op.load 75 (Operand.tmp 6)) 75 "plan.go:59" #[] none, Oper.mk (some 50) (Op.move (Operand.tmp 12)) 3 "plan.go:59" #[] none, Oper.mk (some 51) (Op.indexAddr 75 (Operand.tmp 49) (Operand.tmp 50)) 0 "plan.go:59" #[Edge.mk 0 Ground.data, Edge.mk 1 Ground.data] none, Oper.mk (some 52) (Op.load 76 (Operand.tmp 51)) 76 "plan.go:59" #[Edge.mk 2 Ground.data] none, Oper.mk (some 53) (Op.fieldAddr 82 (Operand.tmp 7) 0) 0 "plan.go:59" #[] none, Oper.mk (some 54) (Op.load 3 (Operand.tmp 53)) 3 "plan.go:59" #[Edge.mk 4 Ground.data] none, Oper.mk (some 55) (Op.load 80 (Operand.tmp 11)) 80 "plan.go:59" #[] none, Oper.mk (some 56) (Op.indexAddr 76 (Operand.tmp 52) (Operand.tmp 54)) 0 "plan.go:59" #[Edge.mk 3 Ground.data, Edge.mk 5 Ground.data, Edge.mk 0 Ground.phase, Edge.mk 1 Ground.phase, Edge.mk 2 Ground.phase, Edge.mk 3 Ground.phase, Edge.mk 4 Ground.phase, Edge.mk 5 Ground.phase, Edge.mk 6 Ground.phase] none, Oper.mk none (Op.store 80 (Operand.tmp 56) (Operand.tmp 55)) 0 "plan.go:59" #[Edge.mk 7 Ground.data, Edge.mk 6 Ground.data, Edge.mk 0 Ground.phase, Edge.mk 1 Ground.phase, Edge.mk 2 Ground.phase, Edge.mk 3 Ground.phase, Edge.mk 4 Ground.phase, Edge.mk 5 Ground.phase, Edge.mk 6 Ground.phase] none] true) Code.skip)))).seq (Code.region 9 #[Oper.mk (some 57) (Op.binOp BinOp.add 3 (Operand.tmp 41) (Operand.const (Value.int IntKind.i64 (1 : Int))) 3) 3 "plan.go:57" #[] none, Oper.mk (some 41) (Op.move (Operand.tmp 57)) 3 "plan.go:57" #[Edge.mk 0 Ground.data] none] false)))).loop)).seq ((Code.region 10 #[Oper.mk none (Op.store 4 (Operand.tmp 10) (Operand.const (Value.bool true))) 0 "plan.go:62" #[] none] false).seq Code.ret))))) :: (17, VB.fam [] (6) (fun (k : Nat) => [(fun (k : Nat) => [a 0, a 1, a 2, a 3, a 4, a 5].getD k (0 : Int)) (0 + 0), (fun (k : Nat) => [a 0, a 1, a 2, a 3, a 4, a 5].getD k (0 : Int)) (0 + 1), (fun (k : Nat) => [a 0, a 1, a 2, a 3, a 4, a 5].getD k (0 : Int)) (0 + 2), (fun (k : Nat) => [a 0, a 1, a 2, a 3, a 4, a 5].getD k (0 : Int)) (0 + 3), (fun (k : Nat) => [a 0, a 1, a 2, a 3, a 4, a 5].getD k (0 : Int)) (0 + 4), (fun (k : Nat) => [a 0, a 1, a 2, a 3, a 4, a 5].getD k (0 : Int)) (0 + 5)].getD k (0 : Int)) 80) :: (16, VB.cells [VV.ptr (VA.own 2 0)] 72) :: (15, VB.cells [VV.bool false] 4) :: (14, VB.cells [I d] 3) :: (13, VB.cells [I (↑O : Int)] 3) :: (12, VB.fam [I y, I S] (6) (fun (k : Nat) => [a 0, a 1, a 2, a 3, a 4, a 5].getD k (0 : Int)) 82) :: nsB1.zip (BP1 l t [D0] Y M es))) [(4, VV.ptr (VA.own (19) 0)), (0, VV.yld (18)), (1, VV.ptr (VA.own (16) 0)), (2, VV.ptr (VA.own (17) 0))] (VH.mk 20 (nsFo1.zip (BFo1 l t [D0] Y y S (↑O : Int) d a M_1 es_1 fun (_ : Nat) => (0 : Int)))) (dsC.zip VFo1) ∧ (y = (↑Y : Int) - (↑(k + 1) : Int) ∧ Cfg l t [D0] Y ∧ PreW l t [D0] Y k O a es_1) ∧ (∀ (s : St) (n' : Nat → Int), PostW l t [D0] Y k O d a M_1 false s → Q (VRes.ret (VV.bool false)) (VH.mk 20 [(15, VB.cells [VV.bool false] (4 : TypeId)), (18, VB.gone), (0, VB.cells [VV.tl t.T.length 1 (dG t.T), I t.far, I t.least] (25 : TypeId)), (1, VB.cells [VV.tl [D0].length 1 (pthG [D0])] (26 : TypeId)), (2, VB.cells [VV.tl l.length 5 (stG l), VV.tl t.T.length 1 (dG t.T), I t.far, I t.least] (74 : TypeId)), (3, VB.cells [VV.ptr (VA.own 2 0)] (72 : TypeId)), (4, VB.cells [I (↑Y : Int)] (3 : TypeId)), (5, VB.cells [VV.slice (VA.fa 7 0 0) Y Y] (76 : TypeId)), (6, VB.cells [VV.slice (VA.own 5 0) 1 1] (75 : TypeId)), (7, VB.fam [] (Y * 6) (s.M 0) (80 : TypeId)), (8, VB.map [PK.int IntKind.i64, PK.int IntKind.i64, PK.int IntKind.i64, PK.int IntKind.i64, PK.int IntKind.i64, PK.int IntKind.i64, PK.int IntKind.i64, PK.int IntKind.i64] PK.bool s.es), (9, VB.cells [VV.mp 8] (77 : TypeId)), (10, VB.cells [VV.func (44 : FuncId) [] [VV.ptr (VA.own 4 0), VV.ptr (VA.own 9 0), VV.ptr (VA.own 1 0), VV.ptr (VA.own 11 0)]] (78 : TypeId)), (11, VB.cells [VV.func (40 : FuncId) [] [VV.ptr (VA.own 3 0), VV.ptr (VA.own 10 0), VV.ptr (VA.own 1 0), VV.ptr (VA.own 6 0)]] (88 : TypeId)), (12, VB.fam [I y, I S] 6 (fun (k : Nat) => (ch a).getD k (0 : Int)) (82 : TypeId)), (13, VB.cells [I (↑O : Int)] (3 : TypeId)), (14, VB.cells [I d] (3 : TypeId)), (15, VB.cells [VV.bool false] (4 : TypeId)), (16, VB.cells [VV.ptr (VA.own 2 0)] (72 : TypeId)), (17, VB.fam [] 6 (fun (k : Nat) => (ch a).getD k (0 : Int)) (80 : TypeId)), (18, VB.loop true none (slFo1 y S (↑O : Int) d a) 58 [17] asFo bdFo), (19, VB.fam [] 6 n' (80 : TypeId))])) ∧ ∀ (s : St) (n' : Nat → Int), PostW l t [D0] Y k O d a M_1 true s → Q (VRes.ret (VV.bool true)) (VH.mk 20 [(18, VB.gone), (0, VB.cells [VV.tl t.T.length 1 (dG t.T), I t.far, I t.least] (25 : TypeId)), (1, VB.cells [VV.tl [D0].length 1 (pthG [D0])] (26 : TypeId)), (2, VB.cells [VV.tl l.length 5 (stG l), VV.tl t.T.length 1 (dG t.T), I t.far, I t.least] (74 : TypeId)), (3, VB.cells [VV.ptr (VA.own 2 0)] (72 : TypeId)), (4, VB.cells [I (↑Y : Int)] (3 : TypeId)), (5, VB.cells [VV.slice (VA.fa 7 0 0) Y Y] (76 : TypeId)), (6, VB.cells [VV.slice (VA.own 5 0) 1 1] (75 : TypeId)), (7, VB.fam [] (Y * 6) (s.M 0) (80 : TypeId)), (8, VB.map [PK.int IntKind.i64, PK.int IntKind.i64, PK.int IntKind.i64, PK.int IntKind.i64, PK.int IntKind.i64, PK.int IntKind.i64, PK.int IntKind.i64, PK.int IntKind.i64] PK.bool s.es), (9, VB.cells [VV.mp 8] (77 : TypeId)), (10, VB.cells [VV.func (44 : FuncId) [] [VV.ptr (VA.own 4 0), VV.ptr (VA.own 9 0), VV.ptr (VA.own 1 0), VV.ptr (VA.own 11 0)]] (78 : TypeId)), (11, VB.cells [VV.func (40 : FuncId) [] [VV.ptr (VA.own 3 0), VV.ptr (VA.own 10 0), VV.ptr (VA.own 1 0), VV.ptr (VA.own 6 0)]] (88 : TypeId)), (12, VB.fam [I y, I S] 6 (fun (k : Nat) => (ch a).getD k (0 : Int)) (82 : TypeId)), (13, VB.cells [I (↑O : Int)] (3 : TypeId)), (14, VB.cells [I d] (3 : TypeId)), (15, VB.cells [VV.bool true] (4 : TypeId)), (16, VB.cells [VV.ptr (VA.own 2 0)] (72 : TypeId)), (17, VB.fam [] 6 (fun (k : Nat) => (ch a).getD k (0 : Int)) (80 : TypeId)), (18, VB.loop false (some VEx.ret) (slFo1 y S (↑O : Int) d a) 58 [17] asFo bdFo), (19, VB.fam [] 6 n' (80 : TypeId))])) := by kernel_rfl

def dsF1 : List Nat := [7, 6, 5, 0, 1, 2, 3, 4]
def VF1 (y S : Int) (a : Nat → Int) (r : Int) : List VV := [I r, .bool false, .ptr (.own 12 0), .agg (I y :: I S :: nL a), .ptr (.own 4 0), .ptr (.own 9 0), .ptr (.own 1 0), .ptr (.own 11 0)]
def nsF1 : List Nat := [0, 1, 2, 3, 4, 5, 6, 7, 8, 9, 10, 11, 12]
def BF1 (l : List Stk) (t : Tst) (P : List (List Int)) (Y : Nat) (y S : Int) (a : Nat → Int) (M : Mde) (es : Lst) : List VB := BP1 l t P Y M es ++ [faS y S a]
def dsG1 : List Nat := [25, 24, 23, 9, 8] ++ dsF1
def VG1 (P : List (List Int)) (y S : Int) (a : Nat → Int) (r i d o : Int) : List VV := [I i, I P.length, pthD P, I d, I o] ++ VF1 y S a r
theorem gi1_ev (l : List Stk) (t : Tst) (P : List (List Int)) (Y : Nat) (M : Mde) (es : Lst) (y S i d : Int) (o r : Nat) (a : Nat → Int) (X : VEx → List VV → List VB → Prop) : codeE Try.prog (callN Try.prog noSpec noL 10 20) (fun _ => none) true 10 (ntOf Try.prog 44) 0 (loopB 2 (bodyOf Try.prog 44)) (dsG1.zip (VG1 P y S a r i d o)) ⟨13, nsF1.zip (BF1 l t P Y y S a M es)⟩ (obs 13 dsG1 nsF1 X) =
  (bif decide (i < (↑P.length : Int)) then
 bif decide ((0 : Int) ≤ i ∧ i < (↑P.length : Int)) then
 bif decide (i < (0 : Int)) then
 False
 else bif decide (IntKind.i64.wrap (↑(BitVec.ofInt IntKind.i64.bits ((↑r : Int).fdiv ((2 : Int) ^ min i.toNat IntKind.i64.bits)) &&& BitVec.ofInt IntKind.i64.bits (1 : Int)).toNat : Int) = (1 : Int)) then
 bif decide (d < (0 : Int)) then
 bif decide (i < (0 : Int)) then
 False
 else bif inK IntKind.i64 ((1 : Int) * (2 : Int) ^ min i.toNat IntKind.i64.bits) then
 bif decide ((0 : Int) ≤ y ∧ y < (↑(P.getD i.toNat []).length : Int)) then
 bif inK IntKind.i64 (i + (1 : Int)) then
 X VEx.normal [I (i + (1 : Int)), I (↑P.length : Int), VV.tl P.length 1 (pthG P), I ((P.getD i.toNat []).getD y.toNat (0 : Int)), I (IntKind.i64.wrap (↑(BitVec.ofInt IntKind.i64.bits (↑o : Int) ||| BitVec.ofInt IntKind.i64.bits ((1 : Int) * (2 : Int) ^ min i.toNat IntKind.i64.bits)).toNat : Int)), I (↑r : Int), VV.bool false, VV.ptr (VA.own 12 0), VV.agg [I y, I S, I (a 0), I (a 1), I (a 2), I (a 3), I (a 4), I (a 5)], VV.ptr (VA.own 4 0), VV.ptr (VA.own 9 0), VV.ptr (VA.own 1 0), VV.ptr (VA.own 11 0)] [VB.cells [VV.tl t.T.length 1 (dG t.T), I t.far, I t.least] (25 : TypeId), VB.cells [VV.tl P.length 1 (pthG P)] (26 : TypeId), VB.cells [VV.tl l.length 5 (stG l), VV.tl t.T.length 1 (dG t.T), I t.far, I t.least] (74 : TypeId), VB.cells [VV.ptr (VA.own 2 0)] (72 : TypeId), VB.cells [I (↑Y : Int)] (3 : TypeId), VB.cells [VV.slice (VA.fa 7 0 0) Y Y] (76 : TypeId), VB.cells [VV.slice (VA.own 5 0) 1 1] (75 : TypeId), VB.fam [] (Y * 6) (M 0) (80 : TypeId), VB.map [PK.int IntKind.i64, PK.int IntKind.i64, PK.int IntKind.i64, PK.int IntKind.i64, PK.int IntKind.i64, PK.int IntKind.i64, PK.int IntKind.i64, PK.int IntKind.i64] PK.bool es, VB.cells [VV.mp 8] (77 : TypeId), VB.cells [VV.func (44 : FuncId) [] [VV.ptr (VA.own 4 0), VV.ptr (VA.own 9 0), VV.ptr (VA.own 1 0), VV.ptr (VA.own 11 0)]] (78 : TypeId), VB.cells [VV.func (40 : FuncId) [] [VV.ptr (VA.own 3 0), VV.ptr (VA.own 10 0), VV.ptr (VA.own 1 0), VV.ptr (VA.own 6 0)]] (88 : TypeId), VB.fam [I y, I S] 6 (fun (k : Nat) => (ch a).getD k (0 : Int)) (82 : TypeId)]
 else False
 else False
 else False
 else bif decide ((0 : Int) ≤ y ∧ y < (↑(P.getD i.toNat []).length : Int)) then
 bif decide ((P.getD i.toNat []).getD y.toNat (0 : Int) = d) then
 bif decide (i < (0 : Int)) then
 False
 else bif inK IntKind.i64 ((1 : Int) * (2 : Int) ^ min i.toNat IntKind.i64.bits) then
 bif decide ((0 : Int) ≤ y ∧ y < (↑(P.getD i.toNat []).length : Int)) then
 bif inK IntKind.i64 (i + (1 : Int)) then
 X VEx.normal [I (i + (1 : Int)), I (↑P.length : Int), VV.tl P.length 1 (pthG P), I ((P.getD i.toNat []).getD y.toNat (0 : Int)), I (IntKind.i64.wrap (↑(BitVec.ofInt IntKind.i64.bits (↑o : Int) ||| BitVec.ofInt IntKind.i64.bits ((1 : Int) * (2 : Int) ^ min i.toNat IntKind.i64.bits)).toNat : Int)), I (↑r : Int), VV.bool false, VV.ptr (VA.own 12 0), VV.agg [I y, I S, I (a 0), I (a 1), I (a 2), I (a 3), I (a 4), I (a 5)], VV.ptr (VA.own 4 0), VV.ptr (VA.own 9 0), VV.ptr (VA.own 1 0), VV.ptr (VA.own 11 0)] [VB.cells [VV.tl t.T.length 1 (dG t.T), I t.far, I t.least] (25 : TypeId), VB.cells [VV.tl P.length 1 (pthG P)] (26 : TypeId), VB.cells [VV.tl l.length 5 (stG l), VV.tl t.T.length 1 (dG t.T), I t.far, I t.least] (74 : TypeId), VB.cells [VV.ptr (VA.own 2 0)] (72 : TypeId), VB.cells [I (↑Y : Int)] (3 : TypeId), VB.cells [VV.slice (VA.fa 7 0 0) Y Y] (76 : TypeId), VB.cells [VV.slice (VA.own 5 0) 1 1] (75 : TypeId), VB.fam [] (Y * 6) (M 0) (80 : TypeId), VB.map [PK.int IntKind.i64, PK.int IntKind.i64, PK.int IntKind.i64, PK.int IntKind.i64, PK.int IntKind.i64, PK.int IntKind.i64, PK.int IntKind.i64, PK.int IntKind.i64] PK.bool es, VB.cells [VV.mp 8] (77 : TypeId), VB.cells [VV.func (44 : FuncId) [] [VV.ptr (VA.own 4 0), VV.ptr (VA.own 9 0), VV.ptr (VA.own 1 0), VV.ptr (VA.own 11 0)]] (78 : TypeId), VB.cells [VV.func (40 : FuncId) [] [VV.ptr (VA.own 3 0), VV.ptr (VA.own 10 0), VV.ptr (VA.own 1 0), VV.ptr (VA.own 6 0)]] (88 : TypeId), VB.fam [I y, I S] 6 (fun (k : Nat) => (ch a).getD k (0 : Int)) (82 : TypeId)]
 else False
 else False
 else False
 else bif inK IntKind.i64 (i + (1 : Int)) then
 X VEx.normal [I (i + (1 : Int)), I (↑P.length : Int), VV.tl P.length 1 (pthG P), I d, I (↑o : Int), I (↑r : Int), VV.bool false, VV.ptr (VA.own 12 0), VV.agg [I y, I S, I (a 0), I (a 1), I (a 2), I (a 3), I (a 4), I (a 5)], VV.ptr (VA.own 4 0), VV.ptr (VA.own 9 0), VV.ptr (VA.own 1 0), VV.ptr (VA.own 11 0)] [VB.cells [VV.tl t.T.length 1 (dG t.T), I t.far, I t.least] (25 : TypeId), VB.cells [VV.tl P.length 1 (pthG P)] (26 : TypeId), VB.cells [VV.tl l.length 5 (stG l), VV.tl t.T.length 1 (dG t.T), I t.far, I t.least] (74 : TypeId), VB.cells [VV.ptr (VA.own 2 0)] (72 : TypeId), VB.cells [I (↑Y : Int)] (3 : TypeId), VB.cells [VV.slice (VA.fa 7 0 0) Y Y] (76 : TypeId), VB.cells [VV.slice (VA.own 5 0) 1 1] (75 : TypeId), VB.fam [] (Y * 6) (M 0) (80 : TypeId), VB.map [PK.int IntKind.i64, PK.int IntKind.i64, PK.int IntKind.i64, PK.int IntKind.i64, PK.int IntKind.i64, PK.int IntKind.i64, PK.int IntKind.i64, PK.int IntKind.i64] PK.bool es, VB.cells [VV.mp 8] (77 : TypeId), VB.cells [VV.func (44 : FuncId) [] [VV.ptr (VA.own 4 0), VV.ptr (VA.own 9 0), VV.ptr (VA.own 1 0), VV.ptr (VA.own 11 0)]] (78 : TypeId), VB.cells [VV.func (40 : FuncId) [] [VV.ptr (VA.own 3 0), VV.ptr (VA.own 10 0), VV.ptr (VA.own 1 0), VV.ptr (VA.own 6 0)]] (88 : TypeId), VB.fam [I y, I S] 6 (fun (k : Nat) => (ch a).getD k (0 : Int)) (82 : TypeId)]
 else False
 else False
 else bif inK IntKind.i64 (i + (1 : Int)) then
 X VEx.normal [I (i + (1 : Int)), I (↑P.length : Int), VV.tl P.length 1 (pthG P), I d, I (↑o : Int), I (↑r : Int), VV.bool false, VV.ptr (VA.own 12 0), VV.agg [I y, I S, I (a 0), I (a 1), I (a 2), I (a 3), I (a 4), I (a 5)], VV.ptr (VA.own 4 0), VV.ptr (VA.own 9 0), VV.ptr (VA.own 1 0), VV.ptr (VA.own 11 0)] [VB.cells [VV.tl t.T.length 1 (dG t.T), I t.far, I t.least] (25 : TypeId), VB.cells [VV.tl P.length 1 (pthG P)] (26 : TypeId), VB.cells [VV.tl l.length 5 (stG l), VV.tl t.T.length 1 (dG t.T), I t.far, I t.least] (74 : TypeId), VB.cells [VV.ptr (VA.own 2 0)] (72 : TypeId), VB.cells [I (↑Y : Int)] (3 : TypeId), VB.cells [VV.slice (VA.fa 7 0 0) Y Y] (76 : TypeId), VB.cells [VV.slice (VA.own 5 0) 1 1] (75 : TypeId), VB.fam [] (Y * 6) (M 0) (80 : TypeId), VB.map [PK.int IntKind.i64, PK.int IntKind.i64, PK.int IntKind.i64, PK.int IntKind.i64, PK.int IntKind.i64, PK.int IntKind.i64, PK.int IntKind.i64, PK.int IntKind.i64] PK.bool es, VB.cells [VV.mp 8] (77 : TypeId), VB.cells [VV.func (44 : FuncId) [] [VV.ptr (VA.own 4 0), VV.ptr (VA.own 9 0), VV.ptr (VA.own 1 0), VV.ptr (VA.own 11 0)]] (78 : TypeId), VB.cells [VV.func (40 : FuncId) [] [VV.ptr (VA.own 3 0), VV.ptr (VA.own 10 0), VV.ptr (VA.own 1 0), VV.ptr (VA.own 6 0)]] (88 : TypeId), VB.fam [I y, I S] 6 (fun (k : Nat) => (ch a).getD k (0 : Int)) (82 : TypeId)]
 else False
 else False
 else X (VEx.exit 2) [I i, I (↑P.length : Int), VV.tl P.length 1 (pthG P), I d, I (↑o : Int), I (↑r : Int), VV.bool false, VV.ptr (VA.own 12 0), VV.agg [I y, I S, I (a 0), I (a 1), I (a 2), I (a 3), I (a 4), I (a 5)], VV.ptr (VA.own 4 0), VV.ptr (VA.own 9 0), VV.ptr (VA.own 1 0), VV.ptr (VA.own 11 0)] [VB.cells [VV.tl t.T.length 1 (dG t.T), I t.far, I t.least] (25 : TypeId), VB.cells [VV.tl P.length 1 (pthG P)] (26 : TypeId), VB.cells [VV.tl l.length 5 (stG l), VV.tl t.T.length 1 (dG t.T), I t.far, I t.least] (74 : TypeId), VB.cells [VV.ptr (VA.own 2 0)] (72 : TypeId), VB.cells [I (↑Y : Int)] (3 : TypeId), VB.cells [VV.slice (VA.fa 7 0 0) Y Y] (76 : TypeId), VB.cells [VV.slice (VA.own 5 0) 1 1] (75 : TypeId), VB.fam [] (Y * 6) (M 0) (80 : TypeId), VB.map [PK.int IntKind.i64, PK.int IntKind.i64, PK.int IntKind.i64, PK.int IntKind.i64, PK.int IntKind.i64, PK.int IntKind.i64, PK.int IntKind.i64, PK.int IntKind.i64] PK.bool es, VB.cells [VV.mp 8] (77 : TypeId), VB.cells [VV.func (44 : FuncId) [] [VV.ptr (VA.own 4 0), VV.ptr (VA.own 9 0), VV.ptr (VA.own 1 0), VV.ptr (VA.own 11 0)]] (78 : TypeId), VB.cells [VV.func (40 : FuncId) [] [VV.ptr (VA.own 3 0), VV.ptr (VA.own 10 0), VV.ptr (VA.own 1 0), VV.ptr (VA.own 6 0)]] (88 : TypeId), VB.fam [I y, I S] 6 (fun (k : Nat) => (ch a).getD k (0 : Int)) (82 : TypeId)]) := by kernel_rfl

def lG1 (l : List Stk) (t : Tst) (P : List (List Int)) (Y k : Nat) (y S : Int) (a : Nat → Int) (r : Nat) : LT := fun lock tt h K =>
  ∃ M es, FitP lock h tt ⟨13, nsF1.zip (BF1 l t P Y y S a M es)⟩ (dsG1.zip (VG1 P y S a r 0 (-1) 0)) ∧ (y = ((Y - (k + 1) : Nat) : Int) ∧ k + 1 ≤ Y ∧ Cfg l t P Y ∧ r < 16) ∧ ∀ o d, grpF P (Y - (k + 1)) r P.length = (o, d) → K .normal (dsG1.zip (VG1 P y S a r P.length d o)) ⟨13, nsF1.zip (BF1 l t P Y y S a M es)⟩
theorem gm1_ev (l : List Stk) (t : Tst) (D0 : List Int) (Y k : Nat) (M : Mde) (es : Lst) (y : Int) (S r : Nat) (a : Nat → Int) (X : VEx → List VV → List VB → Prop) : codeE Try.prog (callN Try.prog (tabS [folR1 l t [D0] Y k]) noL 10 20) (tabB [(2, lG1 l t [D0] Y k y S a r)]) true 10 (ntOf Try.prog 44) 0 (loopB 0 (bodyOf Try.prog 44)) (dsF1.zip (VF1 y S a r)) ⟨13, nsF1.zip (BF1 l t [D0] Y y S a M es)⟩ (obs 13 dsF1 nsF1 X) =
  (bif decide ((↑r : Int) > (0 : Int)) then
 ∃ (M_1 : Mde), ∃ (es_1 : Lst), FitP 0 (VH.mk 13 (nsF1.zip (BF1 l t [D0] Y y (↑S : Int) a M es))) ((25, I 0) :: (24, I (↑[D0].length : Int)) :: (23, VV.tl [D0].length 1 (pthG [D0])) :: (9, I (-1)) :: (8, I 0) :: (22, VV.bool true) :: (22, VV.bool (decide ((↑r : Int) > (0 : Int)))) :: (21, I (↑r : Int)) :: dsF1.zip (VF1 y (↑S : Int) a (↑r : Int))) (VH.mk 13 (nsF1.zip (BF1 l t [D0] Y y (↑S : Int) a M_1 es_1))) (dsG1.zip (VG1 [D0] y (↑S : Int) a (↑r : Int) (0 : Int) (-1 : Int) (0 : Int))) ∧ (y = (↑(Y - (k + 1)) : Int) ∧ k + 1 ≤ Y ∧ Cfg l t [D0] Y ∧ r < 16) ∧ ∀ (o : Nat) (d : Int), grpF [D0] (Y - (k + 1)) r [D0].length = (o, d) → ∃ (S' : Nat), ∃ (O : Nat), ∃ (a_2 : Nat → Int), ∃ (M : Mde), ∃ (es : Lst), (VV.ptr (VA.own 3 0) = VV.ptr (VA.own 3 0) ∧ VV.ptr (VA.own 10 0) = VV.ptr (VA.own 10 0) ∧ VV.ptr (VA.own 1 0) = VV.ptr (VA.own 1 0) ∧ VV.ptr (VA.own 6 0) = VV.ptr (VA.own 6 0)) ∧ (0 = 0 ∧ 12 ≤ 13) ∧ atL nsB1 (BP1 l t [D0] Y M es) (VH.mk 13 (nsF1.zip (BF1 l t [D0] Y y (↑S : Int) a M_1 es_1))) ∧ (y = (↑Y : Int) - (↑(k + 1) : Int) ∧ (↑S : Int) = (↑S' : Int) ∧ (↑o : Int) = (↑O : Int) ∧ [I ((fun (k : Nat) => (ch a).getD k (0 : Int)) (0 + 0)), I ((fun (k : Nat) => (ch a).getD k (0 : Int)) (0 + 1)), I ((fun (k : Nat) => (ch a).getD k (0 : Int)) (0 + 2)), I ((fun (k : Nat) => (ch a).getD k (0 : Int)) (0 + 3)), I ((fun (k : Nat) => (ch a).getD k (0 : Int)) (0 + 4)), I ((fun (k : Nat) => (ch a).getD k (0 : Int)) (0 + 5))] = nL a_2) ∧ PreW l t [D0] Y k O a_2 es ∧ ∀ (b : Bool) (s : St), PostW l t [D0] Y k O d a_2 M b s → bif !b then
 KeyLaw Try.prog 82 kS ∧ X VEx.ret [I (↑r : Int), VV.bool false, VV.ptr (VA.own 12 0), VV.agg [I y, I (↑S : Int), I (a 0), I (a 1), I (a 2), I (a 3), I (a 4), I (a 5)], VV.ptr (VA.own 4 0), VV.ptr (VA.own 9 0), VV.ptr (VA.own 1 0), VV.ptr (VA.own 11 0)] [VB.cells [VV.tl t.T.length 1 (dG t.T), I t.far, I t.least] (25 : TypeId), VB.cells [VV.tl [D0].length 1 (pthG [D0])] (26 : TypeId), VB.cells [VV.tl l.length 5 (stG l), VV.tl t.T.length 1 (dG t.T), I t.far, I t.least] (74 : TypeId), VB.cells [VV.ptr (VA.own 2 0)] (72 : TypeId), VB.cells [I (↑Y : Int)] (3 : TypeId), VB.cells [VV.slice (VA.fa 7 0 0) Y Y] (76 : TypeId), VB.cells [VV.slice (VA.own 5 0) 1 1] (75 : TypeId), VB.fam [] (Y * 6) (s.M 0) (80 : TypeId), VB.map [PK.int IntKind.i64, PK.int IntKind.i64, PK.int IntKind.i64, PK.int IntKind.i64, PK.int IntKind.i64, PK.int IntKind.i64, PK.int IntKind.i64, PK.int IntKind.i64] PK.bool (setE s.es [y, (↑S : Int), (fun (k : Nat) => (ch a).getD k (0 : Int)) (0 + 0), (fun (k : Nat) => (ch a).getD k (0 : Int)) (0 + 1), (fun (k : Nat) => (ch a).getD k (0 : Int)) (0 + 2), (fun (k : Nat) => (ch a).getD k (0 : Int)) (0 + 3), (fun (k : Nat) => (ch a).getD k (0 : Int)) (0 + 4), (fun (k : Nat) => (ch a).getD k (0 : Int)) (0 + 5)] (bif true then
 (1 : Int)
 else (0 : Int))), VB.cells [VV.mp 8] (77 : TypeId), VB.cells [VV.func (44 : FuncId) [] [VV.ptr (VA.own 4 0), VV.ptr (VA.own 9 0), VV.ptr (VA.own 1 0), VV.ptr (VA.own 11 0)]] (78 : TypeId), VB.cells [VV.func (40 : FuncId) [] [VV.ptr (VA.own 3 0), VV.ptr (VA.own 10 0), VV.ptr (VA.own 1 0), VV.ptr (VA.own 6 0)]] (88 : TypeId), VB.fam [I y, I (↑S : Int)] 6 (fun (k : Nat) => (ch a).getD k (0 : Int)) (82 : TypeId)]
 else X VEx.normal [I (IntKind.i64.wrap (↑(BitVec.ofInt IntKind.i64.bits (↑r : Int) &&& ~~~BitVec.ofInt IntKind.i64.bits (↑o : Int)).toNat : Int)), VV.bool false, VV.ptr (VA.own 12 0), VV.agg [I y, I (↑S : Int), I (a 0), I (a 1), I (a 2), I (a 3), I (a 4), I (a 5)], VV.ptr (VA.own 4 0), VV.ptr (VA.own 9 0), VV.ptr (VA.own 1 0), VV.ptr (VA.own 11 0)] [VB.cells [VV.tl t.T.length 1 (dG t.T), I t.far, I t.least] (25 : TypeId), VB.cells [VV.tl [D0].length 1 (pthG [D0])] (26 : TypeId), VB.cells [VV.tl l.length 5 (stG l), VV.tl t.T.length 1 (dG t.T), I t.far, I t.least] (74 : TypeId), VB.cells [VV.ptr (VA.own 2 0)] (72 : TypeId), VB.cells [I (↑Y : Int)] (3 : TypeId), VB.cells [VV.slice (VA.fa 7 0 0) Y Y] (76 : TypeId), VB.cells [VV.slice (VA.own 5 0) 1 1] (75 : TypeId), VB.fam [] (Y * 6) (s.M 0) (80 : TypeId), VB.map [PK.int IntKind.i64, PK.int IntKind.i64, PK.int IntKind.i64, PK.int IntKind.i64, PK.int IntKind.i64, PK.int IntKind.i64, PK.int IntKind.i64, PK.int IntKind.i64] PK.bool s.es, VB.cells [VV.mp 8] (77 : TypeId), VB.cells [VV.func (44 : FuncId) [] [VV.ptr (VA.own 4 0), VV.ptr (VA.own 9 0), VV.ptr (VA.own 1 0), VV.ptr (VA.own 11 0)]] (78 : TypeId), VB.cells [VV.func (40 : FuncId) [] [VV.ptr (VA.own 3 0), VV.ptr (VA.own 10 0), VV.ptr (VA.own 1 0), VV.ptr (VA.own 6 0)]] (88 : TypeId), VB.fam [I y, I (↑S : Int)] 6 (fun (k : Nat) => (ch a).getD k (0 : Int)) (82 : TypeId)]
 else X (VEx.exit 0) [I (↑r : Int), VV.bool false, VV.ptr (VA.own 12 0), VV.agg [I y, I (↑S : Int), I (a 0), I (a 1), I (a 2), I (a 3), I (a 4), I (a 5)], VV.ptr (VA.own 4 0), VV.ptr (VA.own 9 0), VV.ptr (VA.own 1 0), VV.ptr (VA.own 11 0)] [VB.cells [VV.tl t.T.length 1 (dG t.T), I t.far, I t.least] (25 : TypeId), VB.cells [VV.tl [D0].length 1 (pthG [D0])] (26 : TypeId), VB.cells [VV.tl l.length 5 (stG l), VV.tl t.T.length 1 (dG t.T), I t.far, I t.least] (74 : TypeId), VB.cells [VV.ptr (VA.own 2 0)] (72 : TypeId), VB.cells [I (↑Y : Int)] (3 : TypeId), VB.cells [VV.slice (VA.fa 7 0 0) Y Y] (76 : TypeId), VB.cells [VV.slice (VA.own 5 0) 1 1] (75 : TypeId), VB.fam [] (Y * 6) (M 0) (80 : TypeId), VB.map [PK.int IntKind.i64, PK.int IntKind.i64, PK.int IntKind.i64, PK.int IntKind.i64, PK.int IntKind.i64, PK.int IntKind.i64, PK.int IntKind.i64, PK.int IntKind.i64] PK.bool es, VB.cells [VV.mp 8] (77 : TypeId), VB.cells [VV.func (44 : FuncId) [] [VV.ptr (VA.own 4 0), VV.ptr (VA.own 9 0), VV.ptr (VA.own 1 0), VV.ptr (VA.own 11 0)]] (78 : TypeId), VB.cells [VV.func (40 : FuncId) [] [VV.ptr (VA.own 3 0), VV.ptr (VA.own 10 0), VV.ptr (VA.own 1 0), VV.ptr (VA.own 6 0)]] (88 : TypeId), VB.fam [I y, I (↑S : Int)] 6 (fun (k : Nat) => (ch a).getD k (0 : Int)) (82 : TypeId)]) := by kernel_rfl

def lFi1 (l : List Stk) (t : Tst) (P : List (List Int)) (Y k : Nat) (y : Int) (S : Nat) (a : Nat → Int) : LT := fun lock tt h K =>
  ∃ M es, FitP lock h tt ⟨13, nsF1.zip (BF1 l t P Y y S a M es)⟩ (dsF1.zip (VF1 y S a S)) ∧ (y = (Y : Int) - (k + 1 : Nat) ∧ Cfg l t P Y ∧ PreF l t P Y (k + 1) S a es) ∧ (∀ s, PostF l t P Y (k + 1) S a M true s → K .normal (dsF1.zip (VF1 y S a 0)) ⟨13, nsF1.zip (BF1 l t P Y y S a s.M s.es)⟩) ∧
    ∀ s (r : Int), PostF l t P Y (k + 1) S a M false s → K .ret (dsF1.zip (VF1 y S a r)) ⟨13, nsF1.zip (BF1 l t P Y y S a s.M s.es)⟩
theorem fib1_ev (l : List Stk) (t : Tst) (D0 : List Int) (Y k : Nat) (M : Mde) (es : Lst) (y : Int) (S : Nat) (a : Nat → Int) (Q : VRes → VH → Prop) : callN Try.prog noSpec (atF 44 [(0, lFi1 l t [D0] Y k y S a)]) 10 20 0 (.fn 44) [.agg (I y :: I S :: nL a), .ptr (.own 4 0), .ptr (.own 9 0), .ptr (.own 1 0), .ptr (.own 11 0)] ⟨12, nsB1.zip (BP1 l t [D0] Y M es)⟩ (fun r h => Q r h) =
  (bif decide (y = (↑Y : Int)) then
 Q (VRes.ret (VV.bool true)) (VH.mk (13) [(12, VB.fam [I y, I (↑S : Int)] (6) (fun (k : Nat) => [a 0, a 1, a 2, a 3, a 4, a 5].getD k (0 : Int)) 82), (0, VB.cells [VV.tl t.T.length 1 (dG t.T), I t.far, I t.least] (25 : TypeId)), (1, VB.cells [VV.tl [D0].length 1 (pthG [D0])] (26 : TypeId)), (2, VB.cells [VV.tl l.length 5 (stG l), VV.tl t.T.length 1 (dG t.T), I t.far, I t.least] (74 : TypeId)), (3, VB.cells [VV.ptr (VA.own 2 0)] (72 : TypeId)), (4, VB.cells [I (↑Y : Int)] (3 : TypeId)), (5, VB.cells [VV.slice (VA.fa 7 0 0) Y Y] (76 : TypeId)), (6, VB.cells [VV.slice (VA.own 5 0) 1 1] (75 : TypeId)), (7, VB.fam [] (Y * 6) (M 0) (80 : TypeId)), (8, VB.map [PK.int IntKind.i64, PK.int IntKind.i64, PK.int IntKind.i64, PK.int IntKind.i64, PK.int IntKind.i64, PK.int IntKind.i64, PK.int IntKind.i64, PK.int IntKind.i64] PK.bool es), (9, VB.cells [VV.mp 8] (77 : TypeId)), (10, VB.cells [VV.func (44 : FuncId) [] [VV.ptr (VA.own 4 0), VV.ptr (VA.own 9 0), VV.ptr (VA.own 1 0), VV.ptr (VA.own 11 0)]] (78 : TypeId)), (11, VB.cells [VV.func (40 : FuncId) [] [VV.ptr (VA.own 3 0), VV.ptr (VA.own 10 0), VV.ptr (VA.own 1 0), VV.ptr (VA.own 6 0)]] (88 : TypeId))])
 else KeyLaw Try.prog 82 kS ∧ bif decide (valOf es [y, (↑S : Int), (fun (k : Nat) => [a 0, a 1, a 2, a 3, a 4, a 5].getD k (0 : Int)) (0 + 0), (fun (k : Nat) => [a 0, a 1, a 2, a 3, a 4, a 5].getD k (0 : Int)) (0 + 1), (fun (k : Nat) => [a 0, a 1, a 2, a 3, a 4, a 5].getD k (0 : Int)) (0 + 2), (fun (k : Nat) => [a 0, a 1, a 2, a 3, a 4, a 5].getD k (0 : Int)) (0 + 3), (fun (k : Nat) => [a 0, a 1, a 2, a 3, a 4, a 5].getD k (0 : Int)) (0 + 4), (fun (k : Nat) => [a 0, a 1, a 2, a 3, a 4, a 5].getD k (0 : Int)) (0 + 5)] = (1 : Int)) then
 Q (VRes.ret (VV.bool false)) (VH.mk (13) [(12, VB.fam [I y, I (↑S : Int)] (6) (fun (k : Nat) => [a 0, a 1, a 2, a 3, a 4, a 5].getD k (0 : Int)) 82), (0, VB.cells [VV.tl t.T.length 1 (dG t.T), I t.far, I t.least] (25 : TypeId)), (1, VB.cells [VV.tl [D0].length 1 (pthG [D0])] (26 : TypeId)), (2, VB.cells [VV.tl l.length 5 (stG l), VV.tl t.T.length 1 (dG t.T), I t.far, I t.least] (74 : TypeId)), (3, VB.cells [VV.ptr (VA.own 2 0)] (72 : TypeId)), (4, VB.cells [I (↑Y : Int)] (3 : TypeId)), (5, VB.cells [VV.slice (VA.fa 7 0 0) Y Y] (76 : TypeId)), (6, VB.cells [VV.slice (VA.own 5 0) 1 1] (75 : TypeId)), (7, VB.fam [] (Y * 6) (M 0) (80 : TypeId)), (8, VB.map [PK.int IntKind.i64, PK.int IntKind.i64, PK.int IntKind.i64, PK.int IntKind.i64, PK.int IntKind.i64, PK.int IntKind.i64, PK.int IntKind.i64, PK.int IntKind.i64] PK.bool es), (9, VB.cells [VV.mp 8] (77 : TypeId)), (10, VB.cells [VV.func (44 : FuncId) [] [VV.ptr (VA.own 4 0), VV.ptr (VA.own 9 0), VV.ptr (VA.own 1 0), VV.ptr (VA.own 11 0)]] (78 : TypeId)), (11, VB.cells [VV.func (40 : FuncId) [] [VV.ptr (VA.own 3 0), VV.ptr (VA.own 10 0), VV.ptr (VA.own 1 0), VV.ptr (VA.own 6 0)]] (88 : TypeId))])
 else ∃ (M_1 : Mde), ∃ (es_1 : Lst), FitP 0 (VH.mk (13) ((12, VB.fam [I y, I (↑S : Int)] (6) (fun (k : Nat) => [a 0, a 1, a 2, a 3, a 4, a 5].getD k (0 : Int)) 82) :: nsB1.zip (BP1 l t [D0] Y M es))) [(7, I (↑S : Int)), (20, I (↑S : Int)), (19, VV.ptr (VA.own (12) (1))), (18, VV.bool false), (18, VV.bool (decide (valOf es [y, (↑S : Int), (fun (k : Nat) => [a 0, a 1, a 2, a 3, a 4, a 5].getD k (0 : Int)) (0 + 0), (fun (k : Nat) => [a 0, a 1, a 2, a 3, a 4, a 5].getD k (0 : Int)) (0 + 1), (fun (k : Nat) => [a 0, a 1, a 2, a 3, a 4, a 5].getD k (0 : Int)) (0 + 2), (fun (k : Nat) => [a 0, a 1, a 2, a 3, a 4, a 5].getD k (0 : Int)) (0 + 3), (fun (k : Nat) => [a 0, a 1, a 2, a 3, a 4, a 5].getD k (0 : Int)) (0 + 4), (fun (k : Nat) => [a 0, a 1, a 2, a 3, a 4, a 5].getD k (0 : Int)) (0 + 5)] = (1 : Int)))), (17, VV.agg [I y, I (↑S : Int), I ((fun (k : Nat) => [a 0, a 1, a 2, a 3, a 4, a 5].getD k (0 : Int)) (0 + 0)), I ((fun (k : Nat) => [a 0, a 1, a 2, a 3, a 4, a 5].getD k (0 : Int)) (0 + 1)), I ((fun (k : Nat) => [a 0, a 1, a 2, a 3, a 4, a 5].getD k (0 : Int)) (0 + 2)), I ((fun (k : Nat) => [a 0, a 1, a 2, a 3, a 4, a 5].getD k (0 : Int)) (0 + 3)), I ((fun (k : Nat) => [a 0, a 1, a 2, a 3, a 4, a 5].getD k (0 : Int)) (0 + 4)), I ((fun (k : Nat) => [a 0, a 1, a 2, a 3, a 4, a 5].getD k (0 : Int)) (0 + 5))]), (16, VV.mp 8), (15, VV.bool false), (15, VV.bool (decide (y = (↑Y : Int)))), (14, I (↑Y : Int)), (13, I y), (12, VV.ptr (VA.own (12) 0)), (6, VV.bool false), (5, VV.ptr (VA.own (12) 0)), (0, VV.agg (I y :: I (↑S : Int) :: nL a)), (1, VV.ptr (VA.own 4 0)), (2, VV.ptr (VA.own 9 0)), (3, VV.ptr (VA.own 1 0)), (4, VV.ptr (VA.own 11 0))] (VH.mk 13 (nsF1.zip (BF1 l t [D0] Y y (↑S : Int) a M_1 es_1))) (dsF1.zip (VF1 y (↑S : Int) a (↑S : Int))) ∧ (y = (↑Y : Int) - (↑(k + 1) : Int) ∧ Cfg l t [D0] Y ∧ PreF l t [D0] Y (k + 1) S a es_1) ∧ (∀ (s : St), PostF l t [D0] Y (k + 1) S a M_1 true s → Q (VRes.ret (VV.bool true)) (VH.mk 13 [(0, VB.cells [VV.tl t.T.length 1 (dG t.T), I t.far, I t.least] (25 : TypeId)), (1, VB.cells [VV.tl [D0].length 1 (pthG [D0])] (26 : TypeId)), (2, VB.cells [VV.tl l.length 5 (stG l), VV.tl t.T.length 1 (dG t.T), I t.far, I t.least] (74 : TypeId)), (3, VB.cells [VV.ptr (VA.own 2 0)] (72 : TypeId)), (4, VB.cells [I (↑Y : Int)] (3 : TypeId)), (5, VB.cells [VV.slice (VA.fa 7 0 0) Y Y] (76 : TypeId)), (6, VB.cells [VV.slice (VA.own 5 0) 1 1] (75 : TypeId)), (7, VB.fam [] (Y * 6) (s.M 0) (80 : TypeId)), (8, VB.map [PK.int IntKind.i64, PK.int IntKind.i64, PK.int IntKind.i64, PK.int IntKind.i64, PK.int IntKind.i64, PK.int IntKind.i64, PK.int IntKind.i64, PK.int IntKind.i64] PK.bool s.es), (9, VB.cells [VV.mp 8] (77 : TypeId)), (10, VB.cells [VV.func (44 : FuncId) [] [VV.ptr (VA.own 4 0), VV.ptr (VA.own 9 0), VV.ptr (VA.own 1 0), VV.ptr (VA.own 11 0)]] (78 : TypeId)), (11, VB.cells [VV.func (40 : FuncId) [] [VV.ptr (VA.own 3 0), VV.ptr (VA.own 10 0), VV.ptr (VA.own 1 0), VV.ptr (VA.own 6 0)]] (88 : TypeId)), (12, VB.fam [I y, I (↑S : Int)] 6 (fun (k : Nat) => (ch a).getD k (0 : Int)) (82 : TypeId))])) ∧ ∀ (s : St) (r : Int), PostF l t [D0] Y (k + 1) S a M_1 false s → Q (VRes.ret (VV.bool false)) (VH.mk 13 [(0, VB.cells [VV.tl t.T.length 1 (dG t.T), I t.far, I t.least] (25 : TypeId)), (1, VB.cells [VV.tl [D0].length 1 (pthG [D0])] (26 : TypeId)), (2, VB.cells [VV.tl l.length 5 (stG l), VV.tl t.T.length 1 (dG t.T), I t.far, I t.least] (74 : TypeId)), (3, VB.cells [VV.ptr (VA.own 2 0)] (72 : TypeId)), (4, VB.cells [I (↑Y : Int)] (3 : TypeId)), (5, VB.cells [VV.slice (VA.fa 7 0 0) Y Y] (76 : TypeId)), (6, VB.cells [VV.slice (VA.own 5 0) 1 1] (75 : TypeId)), (7, VB.fam [] (Y * 6) (s.M 0) (80 : TypeId)), (8, VB.map [PK.int IntKind.i64, PK.int IntKind.i64, PK.int IntKind.i64, PK.int IntKind.i64, PK.int IntKind.i64, PK.int IntKind.i64, PK.int IntKind.i64, PK.int IntKind.i64] PK.bool s.es), (9, VB.cells [VV.mp 8] (77 : TypeId)), (10, VB.cells [VV.func (44 : FuncId) [] [VV.ptr (VA.own 4 0), VV.ptr (VA.own 9 0), VV.ptr (VA.own 1 0), VV.ptr (VA.own 11 0)]] (78 : TypeId)), (11, VB.cells [VV.func (40 : FuncId) [] [VV.ptr (VA.own 3 0), VV.ptr (VA.own 10 0), VV.ptr (VA.own 1 0), VV.ptr (VA.own 6 0)]] (88 : TypeId)), (12, VB.fam [I y, I (↑S : Int)] 6 (fun (k : Nat) => (ch a).getD k (0 : Int)) (82 : TypeId))])) := by kernel_rfl

theorem fiz1_ev (l : List Stk) (t : Tst) (D0 : List Int) (Y : Nat) (M : Mde) (es : Lst) (y : Int) (S : Nat) (a : Nat → Int) (Q : VRes → VH → Prop) : callN Try.prog noSpec (atF 44 [(0, lZ)]) 10 20 0 (.fn 44) [.agg (I y :: I S :: nL a), .ptr (.own 4 0), .ptr (.own 9 0), .ptr (.own 1 0), .ptr (.own 11 0)] ⟨12, nsB1.zip (BP1 l t [D0] Y M es)⟩ (fun r h => Q r h) =
  (bif decide (y = (↑Y : Int)) then
 Q (VRes.ret (VV.bool true)) (VH.mk (13) [(12, VB.fam [I y, I (↑S : Int)] (6) (fun (k : Nat) => [a 0, a 1, a 2, a 3, a 4, a 5].getD k (0 : Int)) 82), (0, VB.cells [VV.tl t.T.length 1 (dG t.T), I t.far, I t.least] (25 : TypeId)), (1, VB.cells [VV.tl [D0].length 1 (pthG [D0])] (26 : TypeId)), (2, VB.cells [VV.tl l.length 5 (stG l), VV.tl t.T.length 1 (dG t.T), I t.far, I t.least] (74 : TypeId)), (3, VB.cells [VV.ptr (VA.own 2 0)] (72 : TypeId)), (4, VB.cells [I (↑Y : Int)] (3 : TypeId)), (5, VB.cells [VV.slice (VA.fa 7 0 0) Y Y] (76 : TypeId)), (6, VB.cells [VV.slice (VA.own 5 0) 1 1] (75 : TypeId)), (7, VB.fam [] (Y * 6) (M 0) (80 : TypeId)), (8, VB.map [PK.int IntKind.i64, PK.int IntKind.i64, PK.int IntKind.i64, PK.int IntKind.i64, PK.int IntKind.i64, PK.int IntKind.i64, PK.int IntKind.i64, PK.int IntKind.i64] PK.bool es), (9, VB.cells [VV.mp 8] (77 : TypeId)), (10, VB.cells [VV.func (44 : FuncId) [] [VV.ptr (VA.own 4 0), VV.ptr (VA.own 9 0), VV.ptr (VA.own 1 0), VV.ptr (VA.own 11 0)]] (78 : TypeId)), (11, VB.cells [VV.func (40 : FuncId) [] [VV.ptr (VA.own 3 0), VV.ptr (VA.own 10 0), VV.ptr (VA.own 1 0), VV.ptr (VA.own 6 0)]] (88 : TypeId))])
 else KeyLaw Try.prog 82 kS ∧ bif decide (valOf es [y, (↑S : Int), (fun (k : Nat) => [a 0, a 1, a 2, a 3, a 4, a 5].getD k (0 : Int)) (0 + 0), (fun (k : Nat) => [a 0, a 1, a 2, a 3, a 4, a 5].getD k (0 : Int)) (0 + 1), (fun (k : Nat) => [a 0, a 1, a 2, a 3, a 4, a 5].getD k (0 : Int)) (0 + 2), (fun (k : Nat) => [a 0, a 1, a 2, a 3, a 4, a 5].getD k (0 : Int)) (0 + 3), (fun (k : Nat) => [a 0, a 1, a 2, a 3, a 4, a 5].getD k (0 : Int)) (0 + 4), (fun (k : Nat) => [a 0, a 1, a 2, a 3, a 4, a 5].getD k (0 : Int)) (0 + 5)] = (1 : Int)) then
 Q (VRes.ret (VV.bool false)) (VH.mk (13) [(12, VB.fam [I y, I (↑S : Int)] (6) (fun (k : Nat) => [a 0, a 1, a 2, a 3, a 4, a 5].getD k (0 : Int)) 82), (0, VB.cells [VV.tl t.T.length 1 (dG t.T), I t.far, I t.least] (25 : TypeId)), (1, VB.cells [VV.tl [D0].length 1 (pthG [D0])] (26 : TypeId)), (2, VB.cells [VV.tl l.length 5 (stG l), VV.tl t.T.length 1 (dG t.T), I t.far, I t.least] (74 : TypeId)), (3, VB.cells [VV.ptr (VA.own 2 0)] (72 : TypeId)), (4, VB.cells [I (↑Y : Int)] (3 : TypeId)), (5, VB.cells [VV.slice (VA.fa 7 0 0) Y Y] (76 : TypeId)), (6, VB.cells [VV.slice (VA.own 5 0) 1 1] (75 : TypeId)), (7, VB.fam [] (Y * 6) (M 0) (80 : TypeId)), (8, VB.map [PK.int IntKind.i64, PK.int IntKind.i64, PK.int IntKind.i64, PK.int IntKind.i64, PK.int IntKind.i64, PK.int IntKind.i64, PK.int IntKind.i64, PK.int IntKind.i64] PK.bool es), (9, VB.cells [VV.mp 8] (77 : TypeId)), (10, VB.cells [VV.func (44 : FuncId) [] [VV.ptr (VA.own 4 0), VV.ptr (VA.own 9 0), VV.ptr (VA.own 1 0), VV.ptr (VA.own 11 0)]] (78 : TypeId)), (11, VB.cells [VV.func (40 : FuncId) [] [VV.ptr (VA.own 3 0), VV.ptr (VA.own 10 0), VV.ptr (VA.own 1 0), VV.ptr (VA.own 6 0)]] (88 : TypeId))])
 else False) := by kernel_rfl

end Go.Sx.Bln
