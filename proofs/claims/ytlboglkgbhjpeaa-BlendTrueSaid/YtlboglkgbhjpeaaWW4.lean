/- stream: Ck2 Cl1 Dc1 Dd1 Dd2 Dd3 De1 Dc2 Df1 Df2 Df3 Dg1 Dg2 Ea1 Ea2 Eb1 Eb2 Eb3 Eb4 Ga1 CxRu Ga2 Ga3 Ga4, in one text. -/
import Derived.Test.YtlboglkgbhjpeaaWW3
import Derived.Test.YtlboglkgbhjpeaaWW2
import Derived.Test.YtlboglkgbhjpeaaSxTt
/- blend: alive. -/

namespace Go.Sx.Bln
open Go Go.Sx Go.Proofs
set_option maxRecDepth 1000000

theorem ok0 : okAll L0 T0 = true := by decide +kernel
theorem okP0 : okPaths P0 = true := by decide +kernel
theorem chp0 : (chpF L0 T0 0 300).map (fun c => (c 0, c 1, c 2, costF L0 c)) = some (2, 1, 0, 130) := by decide +kernel
theorem pln0 : (planF L0 T0 P0 2 2 3 (mostF L0)).map (fun x => [x 0 0 0, x 0 0 1, x 0 0 2, x 0 1 0, x 0 1 1, x 0 1 2, x 1 0 0, x 1 0 1, x 1 0 2, x 1 1 0, x 1 1 1, x 1 1 2]) = some [1, 1, 0, 1, 1, 0, 1, 1, 0, 0, 0, 0] := by decide +kernel

theorem smR_ok : SpOk Try.prog smR.1 smR.2 := by
  intro lock args h K hK
  simp only [smR] at hK
  split at hK
  · obtain ⟨h', hc⟩ := sample_v
    exact ⟨_, h, hK, lockP_refl _ _, calls_lift0 hc rfl rfl⟩
  · exact hK.elim

theorem cfg0 : Cfg L0 T0 P0 2 := by
  obtain ⟨hl, hp, ht, _⟩ := okAll_l ok0
  refine ⟨hl, hp, okT_tB ht, by decide, by decide, fun i hi => ?_, fun i j => ?_⟩
  · have hi : i < 2 := hi
    match i, hi with
    | 0, _ => rfl
    | 1, _ => rfl
    | _ + 2, hi => omega
  · match i, j with
    | 0, 0 => exact ⟨by decide, by decide⟩
    | 0, 1 => exact ⟨by decide, by decide⟩
    | 0, _ + 2 => exact (show (0 : Int) ≤ 0 ∧ (0 : Int) ≤ 1048576 from ⟨by decide, by decide⟩)
    | 1, 0 => exact ⟨by decide, by decide⟩
    | 1, 1 => exact ⟨by decide, by decide⟩
    | 1, _ + 2 => exact (show (0 : Int) ≤ 0 ∧ (0 : Int) ≤ 1048576 from ⟨by decide, by decide⟩)
    | _ + 2, _ => exact (show (0 : Int) ≤ 0 ∧ (0 : Int) ≤ 1048576 from ⟨by decide, by decide⟩)
theorem pthB0 : pthB P0 := by
  refine ⟨⟨by decide, by decide⟩, fun i => ?_⟩
  match i with
  | 0 => decide
  | 1 => decide
  | _ + 2 => exact (show 0 ≤ 100000 by decide)

/-- A list among the arguments that is told as data ahead of the call. -/
theorem plA_ok : SpOk Try.prog plA.1 plA.2 := by
  intro lock args h K hK
  simp only [plA] at hK
  split at hK
  · rename_i a b m L nx bs
    obtain ⟨rfl, rfl, ⟨rfl, rfl, g, ty, hm, hg⟩, hK⟩ := hK
    obtain ⟨r, h', hc, hk⟩ := pln22_v (l := L0) (t := T0) (d00 := 150) (d01 := 150) (d10 := 150) (d11 := 0) ok0 okP0 cfg0 pthB0
    rcases pln_tell hc hk with ⟨hn, _⟩ | ⟨x, h2, hx, hc2⟩
    · have := pln0
      rw [show planF L0 T0 P0 2 2 3 (mostF L0) = none from hn] at this
      cases this
    · have hc3 : CallsV Try.prog 17 [stD L0, .agg (tsL T0), pthD P0] ⟨nx, (m, .gone) :: bs⟩ (.ret (.tup [plnD 3 2 2 x, I 0])) ⟨nx, (m, .gone) :: bs⟩ := calls_lift0 hc2 rfl rfl
      have hc4 : CallsV Try.prog 17 [stD L0, .agg (tsL T0), .tl 2 1 g] ⟨nx, (m, .gone) :: bs⟩ (.ret (.tup [plnD 3 2 2 x, I 0])) ⟨nx, (m, .gone) :: bs⟩ := calls_args hc3 (fun R xs hx => by
        obtain ⟨y0, _, k0, ⟨y1, _, k1, ⟨y2, _, k2, k3, rfl⟩, rfl⟩, rfl⟩ := hx
        obtain ⟨_, _, u1, _, e1⟩ := (tl_weak (L := 2) (L' := 2) (s := 1) (g := g) (g' := pthG P0) rfl hg).1 R [y2] ⟨y2, [], k2, rfl, rfl⟩
        cases e1
        exact ⟨_, _, k0, ⟨_, _, k1, ⟨_, _, u1, k3, rfl⟩, rfl⟩, rfl⟩)
      refine ⟨_, _, hK x hx, lock0 _ _, calls_told (h := ⟨nx, bs⟩) (m := m) (L := 2) (s := 1) (g := g) (t := ty) hc4 hm (fun R R' xs hle hv hxs => ?_)⟩
      obtain ⟨y0, _, k0, ⟨y1, _, k1, ⟨y2, _, k2, k3, rfl⟩, rfl⟩, rfl⟩ := hxs
      exact ⟨_, _, VRel.mono hle _ _ k0, ⟨_, _, VRel.mono hle _ _ k1, ⟨_, _, hv y2 k2, VRelL.mono hle _ _ k3, rfl⟩, rfl⟩, rfl⟩
  · exact hK.elim

theorem wk_lit3 {a b c : Int} {n : Nat → Int} (h0 : n 0 = a) (h1 : n 1 = b) (h2 : n 2 = c) : wkL [.tl 3 1 (fun j => List.take 1 (List.drop (j * 1) [I a, I b, I c]))] [d1 3 n] := tl_weak rfl (fun j hj => by
  subst h0; subst h1; subst h2
  match j, hj with
  | 0, _ => exact wkL_refl _
  | 1, _ => exact wkL_refl _
  | 2, _ => exact wkL_refl _
  | _ + 3, hj => omega)

theorem chpE0 : chpE L0 T0 0 300 = 0 := by
  unfold chpE
  rw [if_neg (by rw [ok0]; simp), if_neg (by omega), if_neg (fun h => by have := chp0; rw [h] at this; cases this)]

theorem al_tab : ∀ f T, tabS [smR, cheapR L0 T0, plA, inR, spR] f = some T → SpOk Try.prog f T := tab_ok _ (fun x hx => by
  simp only [List.mem_cons, List.not_mem_nil, or_false] at hx
  rcases hx with rfl | rfl | rfl | rfl | rfl
  · exact smR_ok
  · exact cheapR_ok L0 T0
  · exact plA_ok
  · exact inR_ok
  · exact spR_ok)
theorem alive_v : ∃ h', CallsV Try.prog 16 [] ⟨0, []⟩ (.ret (.bool true)) h' := by
  obtain ⟨r, h', rfl, hc⟩ := of_callN (noL_good al_tab) (f := 16) (args := []) (h := ⟨0, []⟩) (K := fun r _ => r = .ret (.bool true)) (by
    refine cast (al_ev _).symm ⟨rfl, rfl, fun h => (h chpE0).elim, fun _ c hc => ?_⟩
    have h0 := chp0
    rw [hc] at h0
    have h0 : (c 0, c 1, c 2, costF L0 c) = (2, 1, 0, 130) := by simpa using h0
    simp only [Prod.mk.injEq] at h0
    obtain ⟨c0, c1, c2, c3⟩ := h0
    refine ⟨rfl, rfl, ⟨rfl, rfl, _, _, rfl, ?_⟩, fun x hx => ?_⟩
    · intro i hi
      have hi : i < 2 := hi
      have key : ∀ a b : Int, wkL [.tl 2 1 (fun j => List.take 1 (List.drop (j * 1) [I a, I b]))] [inD [a, b]] := fun a b => tl_weak rfl (fun j hj => by
        match j, hj with
        | 0, _ => exact wkL_refl _
        | 1, _ => exact wkL_refl _
        | _ + 2, hj => exact absurd hj (by show ¬ _ + 2 < 2; omega))
      match i, hi with
      | 0, _ => exact key 150 150
      | 1, _ => exact key 150 0
      | _ + 2, hi => omega
    · have h1 := pln0
      rw [hx] at h1
      have h1 : [x 0 0 0, x 0 0 1, x 0 0 2, x 0 1 0, x 0 1 1, x 0 1 2, x 1 0 0, x 1 0 1, x 1 0 2, x 1 1 0, x 1 1 1, x 1 1 2] = [1, 1, 0, 1, 1, 0, 1, 1, 0, 0, 0, 0] := by simpa using h1
      simp only [List.cons.injEq, and_true] at h1
      obtain ⟨e1, e2, e3, e4, e5, e6, e7, e8, e9, ea, eb, ec⟩ := h1
      refine ⟨3, c, ⟨rfl, rfl, fun _ _ => rfl⟩, ⟨rfl, Nat.le_refl _, _, _, rfl, fun j hj => ?_⟩, by omega, cond_dk c3 ?_⟩
      · match j, hj with
        | 0, _ => exact congrArg (fun n => [I n]) c0.symm
        | 1, _ => exact congrArg (fun n => [I n]) c1.symm
        | 2, _ => exact congrArg (fun n => [I n]) c2.symm
        | _ + 3, hj => omega
      · refine ⟨.tl 2 1 (plnG 3 2 x), .tl 2 1 _, 2, fun _ => 2, fun _ _ => 3, x, ⟨rfl, rfl, fun _ _ => rfl⟩, ⟨rfl, Nat.le_refl _, _, _, rfl, fun _ _ => rfl⟩, ⟨wkL_refl _, tl_weak rfl (fun i hi => ?_)⟩, ⟨by omega, fun _ => (show 2 ≤ 100000 by omega), fun _ _ => (show 3 ≤ 100000 by omega)⟩, rfl⟩
        match i, hi with
        | 0, _ =>
          refine tl_weak rfl (fun y hy => ?_)
          match y, hy with
          | 0, _ => exact wk_lit3 e1 e2 e3
          | 1, _ => exact wk_lit3 e4 e5 e6
          | _ + 2, hy => exact absurd hy (by show ¬ _ + 2 < 2; omega)
        | 1, _ =>
          refine tl_weak rfl (fun y hy => ?_)
          match y, hy with
          | 0, _ => exact wk_lit3 e7 e8 e9
          | 1, _ => exact wk_lit3 ea eb ec
          | _ + 2, hy => exact absurd hy (by show ¬ _ + 2 < 2; omega)
        | _ + 2, hi => exact absurd hi (by show ¬ _ + 2 < 2; omega))
  exact ⟨h', hc⟩
theorem alT_ok : SpOk Try.prog alT.1 alT.2 := by
  intro lock args h K hK
  simp only [alT] at hK
  split at hK
  · obtain ⟨h', hc⟩ := alive_v
    exact ⟨_, h, hK, lockP_refl _ _, calls_lift0 hc rfl rfl⟩
  · exact hK.elim
end Go.Sx.Bln

/- blend: the law BlendMade. -/

namespace Go.Sx.Bln
open Go Go.Sx Go.Proofs
set_option maxRecDepth 1000000

theorem PF_len6 {l : List Stk} {t : Tst} {n : Nat → Int} {y : Int} : (vtF l t n y).P.length = t.T.length := PF_len _

end Go.Sx.Bln

/- blend: the document's casks, Meets, evaluated. -/

namespace Go.Sx.Bln
open Go Go.Sx Go.Proofs
set_option maxRecDepth 1000000

end Go.Sx.Bln

/- blend: the document's choices, evaluated. -/

namespace Go.Sx.Bln
open Go Go.Sx Go.Proofs
set_option maxRecDepth 1000000

end Go.Sx.Bln

/- blend: the document's choices. -/

namespace Go.Sx
open Go
section
variable {P : Program}

end
end Go.Sx

namespace Go.Sx.Bln
open Go Go.Sx Go.Proofs
set_option maxRecDepth 1000000

section
variable {D : List Int}

end
end Go.Sx.Bln

/- blend: the document's choices: the outer loop, and the row. -/

namespace Go.Sx.Bln
open Go Go.Sx Go.Proofs
set_option maxRecDepth 1000000

section
variable {D : List Int}

end
end Go.Sx.Bln

/- blend: the document's choices are all choices, in their order. -/

namespace Go.Sx.Bln
open Go Go.Sx Go.Proofs
set_option maxRecDepth 100000

section
variable {D : List Int} {most : Nat → Int}

end

end Go.Sx.Bln

/- blend: the document's casks and Meets. -/

namespace Go.Sx.Bln
open Go Go.Sx Go.Proofs
set_option maxRecDepth 1000000

section
variable {l : List Stk} {t : Tst} {y m : Int} {D : List Int}

end

end Go.Sx.Bln

/- blend: the document's Cheapest, evaluated. -/

namespace Go.Sx.Bln
open Go Go.Sx Go.Proofs
set_option maxRecDepth 1000000

end Go.Sx.Bln

/- blend: the document's Cheapest. -/

namespace Go.Sx.Bln
open Go Go.Sx Go.Proofs
set_option maxRecDepth 1000000

section
variable {l : List Stk} {t : Tst} {y m : Int}

end
end Go.Sx.Bln

/- blend: the document's Cheapest, as a row. -/

namespace Go.Sx.Bln
open Go Go.Sx Go.Proofs
set_option maxRecDepth 1000000

section
variable (l : List Stk) (t : Tst) (y m : Int)

end
end Go.Sx.Bln

/- blend: the law BlendCheapest, evaluated. -/

namespace Go.Sx.Bln
open Go Go.Sx Go.Proofs
set_option maxRecDepth 1000000

end Go.Sx.Bln

/- blend: the law BlendCheapest. -/

namespace Go.Sx.Bln
open Go Go.Sx Go.Proofs
set_option maxRecDepth 1000000

end Go.Sx.Bln

/- blend: a choice by remainders (some), the law's meets, evaluated. -/

namespace Go.Sx.Bln
open Go Go.Sx Go.Proofs
set_option maxRecDepth 1000000

end Go.Sx.Bln

/- blend: a choice by remainders (some), the law's meets, as rows. -/

namespace Go.Sx.Bln
open Go Go.Sx Go.Proofs
set_option maxRecDepth 1000000

section
variable {l : List Stk} {t : Tst} {y m : Int} {D B : List Int}

end

end Go.Sx.Bln

/- blend: the law BlendProof, evaluated. -/

namespace Go.Sx.Bln
open Go Go.Sx Go.Proofs
set_option maxRecDepth 1000000

end Go.Sx.Bln

/- blend: no choice that meets a need costs less than the bound (plain). -/

namespace Go.Sx.Bln
open Go Go.Sx Go.Proofs
set_option maxRecDepth 100000

theorem KF_all {l : List Stk} {t : Tst} {n : Nat → Int} {b : Bool} : ∀ {K : Nat}, KF l t n b K = true → b = true ∧ ∀ k, k < K → okF l t n k = true
  | 0, h => ⟨h, fun k hk => by omega⟩
  | K + 1, h => by
    unfold KF at h
    simp only [Bool.and_eq_true] at h
    obtain ⟨h1, h2⟩ := h
    obtain ⟨h3, h4⟩ := KF_all h1
    refine ⟨h3, fun k hk => ?_⟩
    by_cases e : k = K
    · subst e; exact h2
    · exact h4 k (by omega)

theorem ageF_le {l : List Stk} {n : Nat → Int} {y : Int} (hl : lB l) (hy : 0 ≤ y ∧ y ≤ 1000) : ∀ K, K ≤ l.length → (-1 ≤ ageF l n y K) ∧ ∀ i, i < K → 0 < n i → 0 ≤ ageF l n y K ∧ ageF l n y K ≤ (l.getD i k0).age + y
  | 0, _ => ⟨by unfold ageF; omega, fun i hi => by omega⟩
  | K + 1, h => by
    obtain ⟨h0, h1⟩ := ageF_le hl hy K (by omega)
    have h3 := (hl.2 K (by omega)).2.2.1
    refine ⟨by unfold ageF; split <;> omega, fun i hi hn => ?_⟩
    by_cases e : i = K
    · subst e
      unfold ageF
      split <;> omega
    · have := h1 i (by omega) hn
      unfold ageF
      split <;> omega

section
variable {l : List Stk} {t : Tst} {y m u : Int} {D : List Int} {n : Nat → Int}

end
end Go.Sx.Bln

/- blend: the law BlendProof. -/

namespace Go.Sx.Bln
open Go Go.Sx Go.Proofs
set_option maxRecDepth 1000000

section
variable {l : List Stk} {t : Tst} {y m u e n : Int} {D B : List Int}

end
end Go.Sx.Bln

/- blend: the law BlendProof holds. -/

namespace Go.Sx.Bln
open Go Go.Sx Go.Proofs
set_option maxRecDepth 1000000

section
variable {l : List Stk} {t : Tst} {y m u : Int} {D B : List Int}

end
end Go.Sx.Bln

/- blend: the law BlendTrue, evaluated. -/

namespace Go.Sx.Bln
open Go Go.Sx Go.Proofs
set_option maxRecDepth 1000000

def yG (B : List Int) (j : Nat) : List VV := [.int .u32 (B.getD j 0)]
def yD (B : List Int) : VV := .tl B.length 1 (yG B)
def rcY (l : List Stk) (D : List Int) : FuncId × Spec1 := (29, fun _ args h K => match args with
  | [x, z] => isD h 3 x (stD l) ∧ isD h 3 z (inD D) ∧ l.length ≤ 100000 ∧ (D.length = l.length ∧ okCh l D = true) ∧ K (.ret (.bool true)) h
  | _ => False)
def rtYG (t : Tst) : FuncId × Spec1 := (27, fun _ args h K => match args with
  | [x] => isD h 3 x (.agg (tsL t)) ∧ (t.T.length ≤ 100000 ∧ okT t = true) ∧ K (.ret (.bool true)) h
  | _ => False)
def rsYG (l : List Stk) (t : Tst) : FuncId × Spec1 := (28, fun _ args h K => match args with
  | [x, y] => isD h 3 x (stD l) ∧ isD h 3 y (.agg (tsL t)) ∧ (l.length ≤ 100000 ∧ t.T.length ≤ 100000 ∧ (decide (l.length ≤ 6) && !anyS l t) = true) ∧ K (.ret (.bool true)) h
  | _ => False)
def blV (l : List Stk) (t : Tst) (V : Vt) : FuncId × Spec1 := (24, fun _ args h K => match args with
  | [x, z, .int .i64 y, w] => isD h 4 x (stD l) ∧ isD h 4 z (.agg (tsL t)) ∧ ∃ D, isD h 4 w (inD D) ∧ bldE l t y D = 0 ∧ V = vtF l t (chD D) y ∧ K (.ret (.tup [vtV V h.nx, I 0])) (h.new (vtB V))
  | _ => False)
def grKG (l : List Stk) (t : Tst) (b : Bool) : FuncId × Spec1 := (14, fun _ args h K => match args with
  | [x, z, .int .i64 m] => isD h 4 x (stD l) ∧ isD h 4 z (.agg (tsL t)) ∧ greatF l t m = b ∧ K (.ret (.bool b)) h
  | _ => False)
def dsT0 : List Nat := [89, 88, 87, 14, 13, 12, 11, 10, 6, 0, 1, 2, 3, 4]
def VT0 (l : List Stk) (t : Tst) (y : Int) (D B : List Int) (i : Nat) (a b : Int) : List VV := [I i, I l.length, stD l, I b, I a, I 0, .ptr (.own 2 0), .bool false, .ptr (.own 0 0), stD l, .agg (tsL t), I y, inD D, yD B]
def BT0 (t : Tst) (V : Vt) : List VB := [.cells (tsL t) 25, vtB V, .cells [I V.v, I V.c, I V.a, .sl 1 V.P.length, .bool V.k] 49]
theorem tl0_ev (l : List Stk) (t : Tst) (y : Int) (D B : List Int) (V : Vt) (i : Nat) (a b : Int) (X : VEx → List VV → List VB → Prop) : codeE Try.prog (callN Try.prog noSpec noL 10 20) (fun _ => none) true 10 (ntOf Try.prog 7) 0 (loopB 0 (bodyOf Try.prog 7)) (dsT0.zip (VT0 l t y D B i a b)) ⟨3, [0, 1, 2].zip (BT0 t V)⟩ (obs 3 dsT0 [0, 1, 2] X) =
  (bif decide ((↑i : Int) < (↑l.length : Int)) then
 bif decide ((0 : Int) ≤ (↑i : Int) ∧ (↑i : Int) < (↑l.length : Int)) then
 bif decide ((0 : Int) ≤ (↑i : Int) ∧ (↑i : Int) < (↑D.length : Int)) then
 bif inK IntKind.i64 (D.getD (↑i : Int).toNat (0 : Int) * (l.getD (↑i : Int).toNat k0).vol) then
 bif inK IntKind.i64 (a + D.getD (↑i : Int).toNat (0 : Int) * (l.getD (↑i : Int).toNat k0).vol) then
 bif decide ((0 : Int) ≤ (↑i : Int) ∧ (↑i : Int) < (↑D.length : Int)) then
 bif inK IntKind.i64 (D.getD (↑i : Int).toNat (0 : Int) * (l.getD (↑i : Int).toNat k0).cost) then
 bif inK IntKind.i64 (b + D.getD (↑i : Int).toNat (0 : Int) * (l.getD (↑i : Int).toNat k0).cost) then
 bif decide ((0 : Int) ≤ (↑i : Int) ∧ (↑i : Int) < (↑D.length : Int)) then
 bif decide (D.getD (↑i : Int).toNat (0 : Int) > (0 : Int)) then
 bif inK IntKind.i64 ((l.getD (↑i : Int).toNat k0).age + y) then
 bif decide (V.a > (l.getD (↑i : Int).toNat k0).age + y) then
 X VEx.ret [I (↑i : Int), I (↑l.length : Int), stD l, I (b + D.getD (↑i : Int).toNat (0 : Int) * (l.getD (↑i : Int).toNat k0).cost), I (a + D.getD (↑i : Int).toNat (0 : Int) * (l.getD (↑i : Int).toNat k0).vol), I 0, VV.ptr (VA.own 2 0), VV.bool false, VV.ptr (VA.own 0 0), stD l, VV.agg (tsL t), I y, VV.tl D.length 1 (dG D), VV.tl B.length 1 (yG B)] [VB.cells (tsL t) (25 : TypeId), VB.vec V.P.length (spG V.P) 2 (34 : TypeId), VB.cells [I V.v, I V.c, I V.a, VV.sl 1 V.P.length, VV.bool V.k] (49 : TypeId)]
 else bif V.k then
 bif inK IntKind.i64 ((l.getD (↑i : Int).toNat k0).age + y) then
 bif decide ((l.getD (↑i : Int).toNat k0).age + y < t.least) then
 X VEx.ret [I (↑i : Int), I (↑l.length : Int), stD l, I (b + D.getD (↑i : Int).toNat (0 : Int) * (l.getD (↑i : Int).toNat k0).cost), I (a + D.getD (↑i : Int).toNat (0 : Int) * (l.getD (↑i : Int).toNat k0).vol), I 0, VV.ptr (VA.own 2 0), VV.bool false, VV.ptr (VA.own 0 0), stD l, VV.agg (tsL t), I y, VV.tl D.length 1 (dG D), VV.tl B.length 1 (yG B)] [VB.cells (tsL t) (25 : TypeId), VB.vec V.P.length (spG V.P) 2 (34 : TypeId), VB.cells [I V.v, I V.c, I V.a, VV.sl 1 V.P.length, VV.bool V.k] (49 : TypeId)]
 else bif inK IntKind.i64 ((↑i : Int) + (1 : Int)) then
 X VEx.normal [I ((↑i : Int) + (1 : Int)), I (↑l.length : Int), stD l, I (b + D.getD (↑i : Int).toNat (0 : Int) * (l.getD (↑i : Int).toNat k0).cost), I (a + D.getD (↑i : Int).toNat (0 : Int) * (l.getD (↑i : Int).toNat k0).vol), I 0, VV.ptr (VA.own 2 0), VV.bool false, VV.ptr (VA.own 0 0), stD l, VV.agg (tsL t), I y, VV.tl D.length 1 (dG D), VV.tl B.length 1 (yG B)] [VB.cells (tsL t) (25 : TypeId), VB.vec V.P.length (spG V.P) 2 (34 : TypeId), VB.cells [I V.v, I V.c, I V.a, VV.sl 1 V.P.length, VV.bool V.k] (49 : TypeId)]
 else False
 else False
 else bif inK IntKind.i64 ((↑i : Int) + (1 : Int)) then
 X VEx.normal [I ((↑i : Int) + (1 : Int)), I (↑l.length : Int), stD l, I (b + D.getD (↑i : Int).toNat (0 : Int) * (l.getD (↑i : Int).toNat k0).cost), I (a + D.getD (↑i : Int).toNat (0 : Int) * (l.getD (↑i : Int).toNat k0).vol), I 0, VV.ptr (VA.own 2 0), VV.bool false, VV.ptr (VA.own 0 0), stD l, VV.agg (tsL t), I y, VV.tl D.length 1 (dG D), VV.tl B.length 1 (yG B)] [VB.cells (tsL t) (25 : TypeId), VB.vec V.P.length (spG V.P) 2 (34 : TypeId), VB.cells [I V.v, I V.c, I V.a, VV.sl 1 V.P.length, VV.bool V.k] (49 : TypeId)]
 else False
 else False
 else bif inK IntKind.i64 ((↑i : Int) + (1 : Int)) then
 X VEx.normal [I ((↑i : Int) + (1 : Int)), I (↑l.length : Int), stD l, I (b + D.getD (↑i : Int).toNat (0 : Int) * (l.getD (↑i : Int).toNat k0).cost), I (a + D.getD (↑i : Int).toNat (0 : Int) * (l.getD (↑i : Int).toNat k0).vol), I 0, VV.ptr (VA.own 2 0), VV.bool false, VV.ptr (VA.own 0 0), stD l, VV.agg (tsL t), I y, VV.tl D.length 1 (dG D), VV.tl B.length 1 (yG B)] [VB.cells (tsL t) (25 : TypeId), VB.vec V.P.length (spG V.P) 2 (34 : TypeId), VB.cells [I V.v, I V.c, I V.a, VV.sl 1 V.P.length, VV.bool V.k] (49 : TypeId)]
 else False
 else False
 else False
 else False
 else False
 else False
 else False
 else False
 else False
 else X (VEx.exit 0) [I (↑i : Int), I (↑l.length : Int), stD l, I b, I a, I 0, VV.ptr (VA.own 2 0), VV.bool false, VV.ptr (VA.own 0 0), stD l, VV.agg (tsL t), I y, VV.tl D.length 1 (dG D), VV.tl B.length 1 (yG B)] [VB.cells (tsL t) (25 : TypeId), VB.vec V.P.length (spG V.P) 2 (34 : TypeId), VB.cells [I V.v, I V.c, I V.a, VV.sl 1 V.P.length, VV.bool V.k] (49 : TypeId)]) := by kernel_rfl

/-- Nothing in it is younger than the blend says. -/
def agO (l : List Stk) (t : Tst) (y : Int) (D : List Int) (V : Vt) : Prop := ∀ i, i < l.length → 0 < D.getD i 0 → V.a ≤ (l.getD i k0).age + y ∧ (V.k = true → t.least ≤ (l.getD i k0).age + y)
def lT0 (l : List Stk) (t : Tst) (y : Int) (D B : List Int) (V : Vt) : LT := fun lock tt h K =>
  FitP lock h tt ⟨3, [0, 1, 2].zip (BT0 t V)⟩ (dsT0.zip (VT0 l t y D B 0 0 0)) ∧ (lB l ∧ (0 ≤ y ∧ y ≤ 100) ∧ D.length = l.length ∧ okCh l D = true ∧ agO l t y D V) ∧ ∀ a b : Int, a = volF l (chD D) ∧ b = costF l (chD D) → K .normal (dsT0.zip (VT0 l t y D B l.length a b)) ⟨3, [0, 1, 2].zip (BT0 t V)⟩
def dsT2 : List Nat := [161, 160, 17, 13, 11, 10, 6, 0, 1, 2, 3, 4]
def VT2 (l : List Stk) (t : Tst) (y : Int) (D B : List Int) (vo : Int) (k : Nat) (tn : Int) : List VV := [I k, I t.T.length, I tn, I vo, .ptr (.own 2 0), .bool false, .ptr (.own 0 0), stD l, .agg (tsL t), I y, inD D, yD B]
def dsT4 : List Nat := [166, 165, 164, 19, 18, 161, 160, 17, 13, 11, 10, 6, 0, 1, 2, 3, 4]
def VT4 (l : List Stk) (t : Tst) (y : Int) (D B : List Int) (vo : Int) (k i : Nat) (tn su : Int) : List VV := [I i, I l.length, stD l, I su, I k, I k, I t.T.length, I tn, I vo, .ptr (.own 2 0), .bool false, .ptr (.own 0 0), stD l, .agg (tsL t), I y, inD D, yD B]
def dsT6 : List Nat := [175, 174, 21, 166, 165, 164, 19, 18, 161, 160, 17, 13, 11, 10, 6, 0, 1, 2, 3, 4]
def VT6 (l : List Stk) (t : Tst) (y : Int) (D B : List Int) (vo : Int) (k i : Nat) (c tn su : Int) : List VV := [I c, I (D.getD i 0), .ptr (.own 3 0), I i, I l.length, stD l, I su, I k, I k, I t.T.length, I tn, I vo, .ptr (.own 2 0), .bool false, .ptr (.own 0 0), stD l, .agg (tsL t), I y, inD D, yD B]
def BT6 (l : List Stk) (t : Tst) (V : Vt) (i : Nat) : List VB := [.cells (tsL t) 25, vtB V, .cells [I V.v, I V.c, I V.a, .sl 1 V.P.length, .bool V.k] 49, .cells [I (l.getD i k0).casks, I (l.getD i k0).vol, I (l.getD i k0).age, I (l.getD i k0).cost, .tl (l.getD i k0).prof.length 2 (spG (l.getD i k0).prof)] 32]
theorem tj_ev (l : List Stk) (t : Tst) (y : Int) (D B : List Int) (V : Vt) (vo : Int) (k i : Nat) (c tn su : Int) (X : VEx → List VV → List VB → Prop) : codeE Try.prog (callN Try.prog noSpec noL 10 20) (fun _ => none) true 10 (ntOf Try.prog 7) 0 (loopB 6 (bodyOf Try.prog 7)) (dsT6.zip (VT6 l t y D B vo k i c tn su)) ⟨4, [0, 1, 2, 3].zip (BT6 l t V i)⟩ (obs 4 dsT6 [0, 1, 2, 3] X) =
  (bif decide (c < D.getD i (0 : Int)) then
 bif inK IntKind.i64 (tn + (1 : Int)) then
 bif decide ((0 : Int) ≤ (↑k : Int) ∧ (↑k : Int) < (↑(l.getD i k0).prof.length : Int)) then
 bif decide ((↑B.length : Int) = (0 : Int)) then
 False
 else bif decide ((0 : Int) ≤ remZ (tn + (1 : Int)) (↑B.length : Int) ∧ remZ (tn + (1 : Int)) (↑B.length : Int) < (↑B.length : Int)) then
 bif inK IntKind.u32 (tn + (1 : Int)) then
 bif inK IntKind.i64 (wr32 (B.getD (remZ (tn + (1 : Int)) (↑B.length : Int)).toNat (0 : Int) + (tn + (1 : Int)))) then
 bif inK IntKind.i64 (((l.getD i k0).prof.getD (↑k : Int).toNat s0).hi - ((l.getD i k0).prof.getD (↑k : Int).toNat s0).lo) then
 bif inK IntKind.i64 (((l.getD i k0).prof.getD (↑k : Int).toNat s0).hi - ((l.getD i k0).prof.getD (↑k : Int).toNat s0).lo + (1 : Int)) then
 bif decide (((l.getD i k0).prof.getD (↑k : Int).toNat s0).hi - ((l.getD i k0).prof.getD (↑k : Int).toNat s0).lo + (1 : Int) = (0 : Int)) then
 False
 else bif inK IntKind.i64 (((l.getD i k0).prof.getD (↑k : Int).toNat s0).lo + remZ (wr32 (B.getD (remZ (tn + (1 : Int)) (↑B.length : Int)).toNat (0 : Int) + (tn + (1 : Int)))) (((l.getD i k0).prof.getD (↑k : Int).toNat s0).hi - ((l.getD i k0).prof.getD (↑k : Int).toNat s0).lo + (1 : Int))) then
 bif inK IntKind.i64 ((l.getD i k0).vol * (((l.getD i k0).prof.getD (↑k : Int).toNat s0).lo + remZ (wr32 (B.getD (remZ (tn + (1 : Int)) (↑B.length : Int)).toNat (0 : Int) + (tn + (1 : Int)))) (((l.getD i k0).prof.getD (↑k : Int).toNat s0).hi - ((l.getD i k0).prof.getD (↑k : Int).toNat s0).lo + (1 : Int)))) then
 bif inK IntKind.i64 (su + (l.getD i k0).vol * (((l.getD i k0).prof.getD (↑k : Int).toNat s0).lo + remZ (wr32 (B.getD (remZ (tn + (1 : Int)) (↑B.length : Int)).toNat (0 : Int) + (tn + (1 : Int)))) (((l.getD i k0).prof.getD (↑k : Int).toNat s0).hi - ((l.getD i k0).prof.getD (↑k : Int).toNat s0).lo + (1 : Int)))) then
 bif inK IntKind.i64 (c + (1 : Int)) then
 X VEx.normal [I (c + (1 : Int)), I (D.getD i (0 : Int)), VV.ptr (VA.own 3 0), I (↑i : Int), I (↑l.length : Int), stD l, I (su + (l.getD i k0).vol * (((l.getD i k0).prof.getD (↑k : Int).toNat s0).lo + remZ (wr32 (B.getD (remZ (tn + (1 : Int)) (↑B.length : Int)).toNat (0 : Int) + (tn + (1 : Int)))) (((l.getD i k0).prof.getD (↑k : Int).toNat s0).hi - ((l.getD i k0).prof.getD (↑k : Int).toNat s0).lo + (1 : Int)))), I (↑k : Int), I (↑k : Int), I (↑t.T.length : Int), I (tn + (1 : Int)), I vo, VV.ptr (VA.own 2 0), VV.bool false, VV.ptr (VA.own 0 0), stD l, VV.agg (tsL t), I y, VV.tl D.length 1 (dG D), VV.tl B.length 1 (yG B)] [VB.cells (tsL t) (25 : TypeId), VB.vec V.P.length (spG V.P) 2 (34 : TypeId), VB.cells [I V.v, I V.c, I V.a, VV.sl 1 V.P.length, VV.bool V.k] (49 : TypeId), VB.cells [I (l.getD i k0).casks, I (l.getD i k0).vol, I (l.getD i k0).age, I (l.getD i k0).cost, VV.tl (l.getD i k0).prof.length 2 (spG (l.getD i k0).prof)] (32 : TypeId)]
 else False
 else False
 else False
 else False
 else False
 else False
 else False
 else False
 else False
 else False
 else False
 else X (VEx.exit 6) [I c, I (D.getD i (0 : Int)), VV.ptr (VA.own 3 0), I (↑i : Int), I (↑l.length : Int), stD l, I su, I (↑k : Int), I (↑k : Int), I (↑t.T.length : Int), I tn, I vo, VV.ptr (VA.own 2 0), VV.bool false, VV.ptr (VA.own 0 0), stD l, VV.agg (tsL t), I y, VV.tl D.length 1 (dG D), VV.tl B.length 1 (yG B)] [VB.cells (tsL t) (25 : TypeId), VB.vec V.P.length (spG V.P) 2 (34 : TypeId), VB.cells [I V.v, I V.c, I V.a, VV.sl 1 V.P.length, VV.bool V.k] (49 : TypeId), VB.cells [I (l.getD i k0).casks, I (l.getD i k0).vol, I (l.getD i k0).age, I (l.getD i k0).cost, VV.tl (l.getD i k0).prof.length 2 (spG (l.getD i k0).prof)] (32 : TypeId)]) := by kernel_rfl

def gdT (l : List Stk) (t : Tst) (D B : List Int) : Prop := lB l ∧ pB l t.T.length ∧ t.T.length ≤ 4 ∧ D.length = l.length ∧ okCh l D = true ∧ 0 < B.length
def lT6 (l : List Stk) (t : Tst) (y : Int) (D B : List Int) (V : Vt) (vo : Int) (k i : Nat) (tn su : Int) : LT := fun lock tt h K =>
  FitP lock h tt ⟨4, [0, 1, 2, 3].zip (BT6 l t V i)⟩ (dsT6.zip (VT6 l t y D B vo k i 0 tn su)) ∧ (gdT l t D B ∧ k < t.T.length ∧ i < l.length ∧ (0 ≤ tn ∧ tn ≤ 1000) ∧ 0 ≤ su ∧ su ≤ 1000000000000) ∧ ∀ su' : Int, su + tmL l (chD D) k i ≤ su' ∧ su' ≤ su + tmH l (chD D) k i → K .normal (dsT6.zip (VT6 l t y D B vo k i (D.getD i 0) (tn + D.getD i 0) su')) ⟨4, [0, 1, 2, 3].zip (BT6 l t V i)⟩
theorem ti_ev (l : List Stk) (t : Tst) (y : Int) (D B : List Int) (V : Vt) (vo : Int) (k i : Nat) (tn su : Int) (X : VEx → List VV → List VB → Prop) : codeE Try.prog (callN Try.prog noSpec noL 10 20) (tabB [(6, lT6 l t y D B V vo k i tn su)]) true 10 (ntOf Try.prog 7) 0 (loopB 4 (bodyOf Try.prog 7)) (dsT4.zip (VT4 l t y D B vo k i tn su)) ⟨3, [0, 1, 2].zip (BT0 t V)⟩ (obs 3 dsT4 [0, 1, 2] X) =
  (bif decide ((↑i : Int) < (↑l.length : Int)) then
 bif decide ((0 : Int) ≤ (↑i : Int) ∧ (↑i : Int) < (↑l.length : Int)) then
 bif decide ((0 : Int) ≤ (↑i : Int) ∧ (↑i : Int) < (↑D.length : Int)) then
 FitP 0 (VH.mk 4 ([0, 1, 2, 3].zip (BT6 l t V i))) (dsT6.zip (VT6 l t y D B vo k i (0 : Int) tn su)) (VH.mk 4 ([0, 1, 2, 3].zip (BT6 l t V i))) (dsT6.zip (VT6 l t y D B vo k i (0 : Int) tn su)) ∧ (gdT l t D B ∧ k < t.T.length ∧ i < l.length ∧ ((0 : Int) ≤ tn ∧ tn ≤ (1000 : Int)) ∧ (0 : Int) ≤ su ∧ su ≤ (1000000000000 : Int)) ∧ ∀ (su' : Int), su + tmL l (chD D) k i ≤ su' ∧ su' ≤ su + tmH l (chD D) k i → bif inK IntKind.i64 ((↑i : Int) + (1 : Int)) then
 X VEx.normal [I ((↑i : Int) + (1 : Int)), I (↑l.length : Int), stD l, I su', I (↑k : Int), I (↑k : Int), I (↑t.T.length : Int), I (tn + D.getD i (0 : Int)), I vo, VV.ptr (VA.own 2 0), VV.bool false, VV.ptr (VA.own 0 0), stD l, VV.agg (tsL t), I y, VV.tl D.length 1 (dG D), VV.tl B.length 1 (yG B)] [VB.cells (tsL t) (25 : TypeId), VB.vec V.P.length (spG V.P) 2 (34 : TypeId), VB.cells [I V.v, I V.c, I V.a, VV.sl 1 V.P.length, VV.bool V.k] (49 : TypeId)]
 else False
 else False
 else False
 else X (VEx.exit 4) [I (↑i : Int), I (↑l.length : Int), stD l, I su, I (↑k : Int), I (↑k : Int), I (↑t.T.length : Int), I tn, I vo, VV.ptr (VA.own 2 0), VV.bool false, VV.ptr (VA.own 0 0), stD l, VV.agg (tsL t), I y, VV.tl D.length 1 (dG D), VV.tl B.length 1 (yG B)] [VB.cells (tsL t) (25 : TypeId), VB.vec V.P.length (spG V.P) 2 (34 : TypeId), VB.cells [I V.v, I V.c, I V.a, VV.sl 1 V.P.length, VV.bool V.k] (49 : TypeId)]) := by kernel_rfl

def lT4 (l : List Stk) (t : Tst) (y : Int) (D B : List Int) (V : Vt) (vo : Int) (k : Nat) (tn : Int) : LT := fun lock tt h K =>
  FitP lock h tt ⟨3, [0, 1, 2].zip (BT0 t V)⟩ (dsT4.zip (VT4 l t y D B vo k 0 tn 0)) ∧ (gdT l t D B ∧ k < t.T.length ∧ 0 ≤ tn ∧ tn ≤ 500) ∧ ∀ su : Int, loF l (chD D) k ≤ su ∧ su ≤ hiF l (chD D) k → ∀ tn' : Int, tn' = tn + sumF (chD D) l.length → K .normal (dsT4.zip (VT4 l t y D B vo k l.length tn' su)) ⟨3, [0, 1, 2].zip (BT0 t V)⟩
theorem tk_ev (l : List Stk) (t : Tst) (y : Int) (D B : List Int) (V : Vt) (vo : Int) (k : Nat) (tn : Int) (X : VEx → List VV → List VB → Prop) : codeE Try.prog (callN Try.prog noSpec noL 10 20) (tabB [(4, lT4 l t y D B V vo k tn)]) true 10 (ntOf Try.prog 7) 0 (loopB 2 (bodyOf Try.prog 7)) (dsT2.zip (VT2 l t y D B vo k tn)) ⟨3, [0, 1, 2].zip (BT0 t V)⟩ (obs 3 dsT2 [0, 1, 2] X) =
  (bif decide ((↑k : Int) < (↑t.T.length : Int)) then
 FitP 0 (VH.mk 3 ([0, 1, 2].zip (BT0 t V))) (dsT4.zip (VT4 l t y D B vo k 0 tn (0 : Int))) (VH.mk 3 ([0, 1, 2].zip (BT0 t V))) (dsT4.zip (VT4 l t y D B vo k 0 tn (0 : Int))) ∧ (gdT l t D B ∧ k < t.T.length ∧ (0 : Int) ≤ tn ∧ tn ≤ (500 : Int)) ∧ ∀ (su : Int), loF l (chD D) k ≤ su ∧ su ≤ hiF l (chD D) k → ∀ (tn' : Int), tn' = tn + sumF (chD D) l.length → bif decide (vo > (0 : Int)) then
 bif decide ((0 : Int) ≤ (↑k : Int) ∧ (↑k : Int) < (↑V.P.length : Int)) then
 bif V.P.length.beq V.P.length && Nat.ble 1 Try.prog.types[34].size then
 bif V.P.length.beq V.P.length then
 bif inK IntKind.i64 ((V.P.getD (↑k : Int).toNat s0).lo * vo) then
 bif decide (su < (V.P.getD (↑k : Int).toNat s0).lo * vo) then
 X VEx.ret [I (↑k : Int), I (↑t.T.length : Int), I tn', I vo, VV.ptr (VA.own 2 0), VV.bool false, VV.ptr (VA.own 0 0), stD l, VV.agg (tsL t), I y, VV.tl D.length 1 (dG D), VV.tl B.length 1 (yG B)] [VB.cells (tsL t) (25 : TypeId), VB.vec V.P.length (spG V.P) 2 (34 : TypeId), VB.cells [I V.v, I V.c, I V.a, VV.sl 1 V.P.length, VV.bool V.k] (49 : TypeId)]
 else bif decide ((0 : Int) ≤ (↑k : Int) ∧ (↑k : Int) < (↑V.P.length : Int)) then
 bif V.P.length.beq V.P.length && Nat.ble 1 Try.prog.types[34].size then
 bif V.P.length.beq V.P.length then
 bif inK IntKind.i64 ((V.P.getD (↑k : Int).toNat s0).hi * vo) then
 bif decide (su > (V.P.getD (↑k : Int).toNat s0).hi * vo) then
 X VEx.ret [I (↑k : Int), I (↑t.T.length : Int), I tn', I vo, VV.ptr (VA.own 2 0), VV.bool false, VV.ptr (VA.own 0 0), stD l, VV.agg (tsL t), I y, VV.tl D.length 1 (dG D), VV.tl B.length 1 (yG B)] [VB.cells (tsL t) (25 : TypeId), VB.vec V.P.length (spG V.P) 2 (34 : TypeId), VB.cells [I V.v, I V.c, I V.a, VV.sl 1 V.P.length, VV.bool V.k] (49 : TypeId)]
 else bif V.k then
 bif decide ((0 : Int) ≤ (↑k : Int) ∧ (↑k : Int) < (↑t.T.length : Int)) then
 bif inK IntKind.i64 (t.T.getD (↑k : Int).toNat (0 : Int) + t.far) then
 bif inK IntKind.i64 ((t.T.getD (↑k : Int).toNat (0 : Int) + t.far) * vo) then
 bif decide (su > (t.T.getD (↑k : Int).toNat (0 : Int) + t.far) * vo) then
 X VEx.ret [I (↑k : Int), I (↑t.T.length : Int), I tn', I vo, VV.ptr (VA.own 2 0), VV.bool false, VV.ptr (VA.own 0 0), stD l, VV.agg (tsL t), I y, VV.tl D.length 1 (dG D), VV.tl B.length 1 (yG B)] [VB.cells (tsL t) (25 : TypeId), VB.vec V.P.length (spG V.P) 2 (34 : TypeId), VB.cells [I V.v, I V.c, I V.a, VV.sl 1 V.P.length, VV.bool V.k] (49 : TypeId)]
 else bif decide ((0 : Int) ≤ (↑k : Int) ∧ (↑k : Int) < (↑t.T.length : Int)) then
 bif inK IntKind.i64 (t.T.getD (↑k : Int).toNat (0 : Int) - t.far) then
 bif inK IntKind.i64 ((t.T.getD (↑k : Int).toNat (0 : Int) - t.far) * vo) then
 bif decide (su < (t.T.getD (↑k : Int).toNat (0 : Int) - t.far) * vo) then
 X VEx.ret [I (↑k : Int), I (↑t.T.length : Int), I tn', I vo, VV.ptr (VA.own 2 0), VV.bool false, VV.ptr (VA.own 0 0), stD l, VV.agg (tsL t), I y, VV.tl D.length 1 (dG D), VV.tl B.length 1 (yG B)] [VB.cells (tsL t) (25 : TypeId), VB.vec V.P.length (spG V.P) 2 (34 : TypeId), VB.cells [I V.v, I V.c, I V.a, VV.sl 1 V.P.length, VV.bool V.k] (49 : TypeId)]
 else bif inK IntKind.i64 ((↑k : Int) + (1 : Int)) then
 X VEx.normal [I ((↑k : Int) + (1 : Int)), I (↑t.T.length : Int), I tn', I vo, VV.ptr (VA.own 2 0), VV.bool false, VV.ptr (VA.own 0 0), stD l, VV.agg (tsL t), I y, VV.tl D.length 1 (dG D), VV.tl B.length 1 (yG B)] [VB.cells (tsL t) (25 : TypeId), VB.vec V.P.length (spG V.P) 2 (34 : TypeId), VB.cells [I V.v, I V.c, I V.a, VV.sl 1 V.P.length, VV.bool V.k] (49 : TypeId)]
 else False
 else False
 else False
 else False
 else False
 else False
 else False
 else bif inK IntKind.i64 ((↑k : Int) + (1 : Int)) then
 X VEx.normal [I ((↑k : Int) + (1 : Int)), I (↑t.T.length : Int), I tn', I vo, VV.ptr (VA.own 2 0), VV.bool false, VV.ptr (VA.own 0 0), stD l, VV.agg (tsL t), I y, VV.tl D.length 1 (dG D), VV.tl B.length 1 (yG B)] [VB.cells (tsL t) (25 : TypeId), VB.vec V.P.length (spG V.P) 2 (34 : TypeId), VB.cells [I V.v, I V.c, I V.a, VV.sl 1 V.P.length, VV.bool V.k] (49 : TypeId)]
 else False
 else False
 else False
 else False
 else False
 else False
 else False
 else False
 else False
 else bif V.k then
 bif decide ((0 : Int) ≤ (↑k : Int) ∧ (↑k : Int) < (↑t.T.length : Int)) then
 bif inK IntKind.i64 (t.T.getD (↑k : Int).toNat (0 : Int) + t.far) then
 bif inK IntKind.i64 ((t.T.getD (↑k : Int).toNat (0 : Int) + t.far) * vo) then
 bif decide (su > (t.T.getD (↑k : Int).toNat (0 : Int) + t.far) * vo) then
 X VEx.ret [I (↑k : Int), I (↑t.T.length : Int), I tn', I vo, VV.ptr (VA.own 2 0), VV.bool false, VV.ptr (VA.own 0 0), stD l, VV.agg (tsL t), I y, VV.tl D.length 1 (dG D), VV.tl B.length 1 (yG B)] [VB.cells (tsL t) (25 : TypeId), VB.vec V.P.length (spG V.P) 2 (34 : TypeId), VB.cells [I V.v, I V.c, I V.a, VV.sl 1 V.P.length, VV.bool V.k] (49 : TypeId)]
 else bif decide ((0 : Int) ≤ (↑k : Int) ∧ (↑k : Int) < (↑t.T.length : Int)) then
 bif inK IntKind.i64 (t.T.getD (↑k : Int).toNat (0 : Int) - t.far) then
 bif inK IntKind.i64 ((t.T.getD (↑k : Int).toNat (0 : Int) - t.far) * vo) then
 bif decide (su < (t.T.getD (↑k : Int).toNat (0 : Int) - t.far) * vo) then
 X VEx.ret [I (↑k : Int), I (↑t.T.length : Int), I tn', I vo, VV.ptr (VA.own 2 0), VV.bool false, VV.ptr (VA.own 0 0), stD l, VV.agg (tsL t), I y, VV.tl D.length 1 (dG D), VV.tl B.length 1 (yG B)] [VB.cells (tsL t) (25 : TypeId), VB.vec V.P.length (spG V.P) 2 (34 : TypeId), VB.cells [I V.v, I V.c, I V.a, VV.sl 1 V.P.length, VV.bool V.k] (49 : TypeId)]
 else bif inK IntKind.i64 ((↑k : Int) + (1 : Int)) then
 X VEx.normal [I ((↑k : Int) + (1 : Int)), I (↑t.T.length : Int), I tn', I vo, VV.ptr (VA.own 2 0), VV.bool false, VV.ptr (VA.own 0 0), stD l, VV.agg (tsL t), I y, VV.tl D.length 1 (dG D), VV.tl B.length 1 (yG B)] [VB.cells (tsL t) (25 : TypeId), VB.vec V.P.length (spG V.P) 2 (34 : TypeId), VB.cells [I V.v, I V.c, I V.a, VV.sl 1 V.P.length, VV.bool V.k] (49 : TypeId)]
 else False
 else False
 else False
 else False
 else False
 else False
 else False
 else bif inK IntKind.i64 ((↑k : Int) + (1 : Int)) then
 X VEx.normal [I ((↑k : Int) + (1 : Int)), I (↑t.T.length : Int), I tn', I vo, VV.ptr (VA.own 2 0), VV.bool false, VV.ptr (VA.own 0 0), stD l, VV.agg (tsL t), I y, VV.tl D.length 1 (dG D), VV.tl B.length 1 (yG B)] [VB.cells (tsL t) (25 : TypeId), VB.vec V.P.length (spG V.P) 2 (34 : TypeId), VB.cells [I V.v, I V.c, I V.a, VV.sl 1 V.P.length, VV.bool V.k] (49 : TypeId)]
 else False
 else X (VEx.exit 2) [I (↑k : Int), I (↑t.T.length : Int), I tn, I vo, VV.ptr (VA.own 2 0), VV.bool false, VV.ptr (VA.own 0 0), stD l, VV.agg (tsL t), I y, VV.tl D.length 1 (dG D), VV.tl B.length 1 (yG B)] [VB.cells (tsL t) (25 : TypeId), VB.vec V.P.length (spG V.P) 2 (34 : TypeId), VB.cells [I V.v, I V.c, I V.a, VV.sl 1 V.P.length, VV.bool V.k] (49 : TypeId)]) := by kernel_rfl

/-- The sums of the true numbers are within the blend's. -/
def prO (l : List Stk) (t : Tst) (D : List Int) (V : Vt) (vo : Int) : Prop := (0 ≤ vo ∧ vo ≤ 2359296) ∧ V.P.length = t.T.length ∧ ∀ k, k < t.T.length → (0 ≤ loF l (chD D) k ∧ hiF l (chD D) k ≤ 1000000000000) ∧ (0 < vo → (0 ≤ (V.P.getD k s0).lo * vo ∧ (V.P.getD k s0).lo * vo ≤ loF l (chD D) k) ∧ hiF l (chD D) k ≤ (V.P.getD k s0).hi * vo ∧ (V.P.getD k s0).hi * vo ≤ hiF l (chD D) k + vo) ∧ (V.k = true → hiF l (chD D) k ≤ (t.T.getD k 0 + t.far) * vo ∧ (t.T.getD k 0 - t.far) * vo ≤ loF l (chD D) k)
def lT2 (l : List Stk) (t : Tst) (y : Int) (D B : List Int) (V : Vt) : LT := fun lock tt h K =>
  ∃ vo : Int, FitP lock h tt ⟨3, [0, 1, 2].zip (BT0 t V)⟩ (dsT2.zip (VT2 l t y D B vo 0 0)) ∧ (gdT l t D B ∧ tB t ∧ prO l t D V vo) ∧ ∀ tn : Int, K .normal (dsT2.zip (VT2 l t y D B vo t.T.length tn)) ⟨3, [0, 1, 2].zip (BT0 t V)⟩
theorem tr_ev (l : List Stk) (t : Tst) (y : Int) (D B : List Int) (V : Vt) (Q : VRes → Prop) : callN Try.prog (tabS [grKG l t false, rtYG t, rsYG l t, rcY l D, blV l t V, alT]) (atF 7 [(0, lT0 l t y D B V), (2, lT2 l t y D B V)]) 10 20 0 (.fn 7) [stD l, .agg (tsL t), I y, inD D, yD B] ⟨0, []⟩ (fun r _ => Q r) =
  (isD (VH.mk (0 + 1) [(0, VB.cells (tsL t) 25)]) 4 (stD l) (stD l) ∧ isD (VH.mk (0 + 1) [(0, VB.cells (tsL t) 25)]) 4 (VV.agg (tsL t)) (VV.agg (tsL t)) ∧ greatF l t (1073741824 : Int) = false ∧ bif decide ((↑D.length : Int) > (10 : Int)) then
 Q (VRes.ret (VV.bool true))
 else bif decide ((↑B.length : Int) = (0 : Int)) then
 Q (VRes.ret (VV.bool true))
 else isD (VH.mk (0 + 1) [(0, VB.cells (tsL t) 25)]) 4 (stD l) (stD l) ∧ isD (VH.mk (0 + 1) [(0, VB.cells (tsL t) 25)]) 4 (VV.agg (tsL t)) (VV.agg (tsL t)) ∧ ∃ (D_1 : List Int), isD (VH.mk (0 + 1) [(0, VB.cells (tsL t) 25)]) 4 (VV.tl D.length 1 (dG D)) (inD D_1) ∧ bldE l t y D_1 = (0 : Int) ∧ V = vtF l t (chD D_1) y ∧ isD (VH.mk (3) ((2, VB.cells [I V.v, I V.c, I V.a, VV.sl (VH.mk (0 + 1) [(0, VB.cells (tsL t) 25)]).nx V.P.length, VV.bool V.k] 49) :: (2, VB.cells [I 0, I 0, I 0, VV.nils, VV.bool false] 49) :: ((VH.mk (0 + 1) [(0, VB.cells (tsL t) 25)]).nx, vtB V) :: (VH.mk (0 + 1) [(0, VB.cells (tsL t) 25)]).bs)) 3 (VV.agg (tsL t)) (VV.agg (tsL t)) ∧ (t.T.length ≤ 100000 ∧ okT t = true) ∧ isD (VH.mk (3) ((2, VB.cells [I V.v, I V.c, I V.a, VV.sl (VH.mk (0 + 1) [(0, VB.cells (tsL t) 25)]).nx V.P.length, VV.bool V.k] 49) :: (2, VB.cells [I 0, I 0, I 0, VV.nils, VV.bool false] 49) :: ((VH.mk (0 + 1) [(0, VB.cells (tsL t) 25)]).nx, vtB V) :: (VH.mk (0 + 1) [(0, VB.cells (tsL t) 25)]).bs)) 3 (stD l) (stD l) ∧ isD (VH.mk (3) ((2, VB.cells [I V.v, I V.c, I V.a, VV.sl (VH.mk (0 + 1) [(0, VB.cells (tsL t) 25)]).nx V.P.length, VV.bool V.k] 49) :: (2, VB.cells [I 0, I 0, I 0, VV.nils, VV.bool false] 49) :: ((VH.mk (0 + 1) [(0, VB.cells (tsL t) 25)]).nx, vtB V) :: (VH.mk (0 + 1) [(0, VB.cells (tsL t) 25)]).bs)) 3 (VV.agg (tsL t)) (VV.agg (tsL t)) ∧ (l.length ≤ 100000 ∧ t.T.length ≤ 100000 ∧ (decide (l.length ≤ 6) && !anyS l t) = true) ∧ isD (VH.mk (3) ((2, VB.cells [I V.v, I V.c, I V.a, VV.sl (VH.mk (0 + 1) [(0, VB.cells (tsL t) 25)]).nx V.P.length, VV.bool V.k] 49) :: (2, VB.cells [I 0, I 0, I 0, VV.nils, VV.bool false] 49) :: ((VH.mk (0 + 1) [(0, VB.cells (tsL t) 25)]).nx, vtB V) :: (VH.mk (0 + 1) [(0, VB.cells (tsL t) 25)]).bs)) 3 (stD l) (stD l) ∧ isD (VH.mk (3) ((2, VB.cells [I V.v, I V.c, I V.a, VV.sl (VH.mk (0 + 1) [(0, VB.cells (tsL t) 25)]).nx V.P.length, VV.bool V.k] 49) :: (2, VB.cells [I 0, I 0, I 0, VV.nils, VV.bool false] 49) :: ((VH.mk (0 + 1) [(0, VB.cells (tsL t) 25)]).nx, vtB V) :: (VH.mk (0 + 1) [(0, VB.cells (tsL t) 25)]).bs)) 3 (VV.tl D.length 1 (dG D)) (inD D) ∧ l.length ≤ 100000 ∧ (D.length = l.length ∧ okCh l D = true) ∧ bif !decide ((↑V.P.length : Int) = (↑t.T.length : Int)) then
 Q (VRes.ret (VV.bool false))
 else FitP 0 (VH.mk 3 ([0, 1, 2].zip (BT0 t V))) (dsT0.zip (VT0 l t y D B 0 (0 : Int) (0 : Int))) (VH.mk 3 ([0, 1, 2].zip (BT0 t V))) (dsT0.zip (VT0 l t y D B 0 (0 : Int) (0 : Int))) ∧ (lB l ∧ ((0 : Int) ≤ y ∧ y ≤ (100 : Int)) ∧ D.length = l.length ∧ okCh l D = true ∧ agO l t y D V) ∧ ∀ (a b : Int), a = volF l (chD D) ∧ b = costF l (chD D) → bif !decide (V.v = a) then
 Q (VRes.ret (VV.bool false))
 else bif !decide (V.c = b) then
 Q (VRes.ret (VV.bool false))
 else bif V.k then
 bif decide (a = (0 : Int)) then
 Q (VRes.ret (VV.bool false))
 else ∃ (vo : Int), FitP 0 (VH.mk 3 ([0, 1, 2].zip (BT0 t V))) ((161, I 0) :: (160, I (↑t.T.length : Int)) :: (159, VV.tl t.T.length 1 (dG t.T)) :: (158, VV.ptr (VA.own 0 0)) :: (17, I 0) :: (157, VV.bool false) :: (157, VV.bool (decide (a = (0 : Int)))) :: (156, VV.bool (decide (a = (0 : Int)))) :: (150, VV.bool false) :: (155, VV.bool (decide (a = (0 : Int)))) :: (153, VV.bool true) :: (154, I a) :: (153, VV.bool true) :: (153, VV.bool V.k) :: (150, VV.bool false) :: (152, VV.bool V.k) :: (150, VV.bool false) :: (151, VV.ptr (VA.own 2 (4))) :: (150, VV.bool false) :: (150, VV.bool !decide (V.c = b)) :: (149, VV.bool !decide (V.c = b)) :: (148, VV.bool !decide (V.c = b)) :: (144, VV.bool false) :: (147, I b) :: (144, VV.bool false) :: (146, I V.c) :: (144, VV.bool false) :: (145, VV.ptr (VA.own 2 (1))) :: (144, VV.bool false) :: (144, VV.bool !decide (V.v = a)) :: (143, VV.bool !decide (V.v = a)) :: (142, I a) :: (141, I V.v) :: (140, VV.ptr (VA.own 2 0)) :: dsT0.zip (VT0 l t y D B l.length a b)) (VH.mk 3 ([0, 1, 2].zip (BT0 t V))) (dsT2.zip (VT2 l t y D B vo 0 (0 : Int))) ∧ (gdT l t D B ∧ tB t ∧ prO l t D V vo) ∧ ∀ (tn : Int), Q (VRes.ret (VV.bool true))
 else ∃ (vo : Int), FitP 0 (VH.mk 3 ([0, 1, 2].zip (BT0 t V))) ((161, I 0) :: (160, I (↑t.T.length : Int)) :: (159, VV.tl t.T.length 1 (dG t.T)) :: (158, VV.ptr (VA.own 0 0)) :: (17, I 0) :: (157, VV.bool false) :: (157, VV.bool false) :: (156, VV.bool false) :: (150, VV.bool false) :: (155, udf) :: (153, VV.bool false) :: (154, udf) :: (153, VV.bool false) :: (153, VV.bool V.k) :: (150, VV.bool false) :: (152, VV.bool V.k) :: (150, VV.bool false) :: (151, VV.ptr (VA.own 2 (4))) :: (150, VV.bool false) :: (150, VV.bool !decide (V.c = b)) :: (149, VV.bool !decide (V.c = b)) :: (148, VV.bool !decide (V.c = b)) :: (144, VV.bool false) :: (147, I b) :: (144, VV.bool false) :: (146, I V.c) :: (144, VV.bool false) :: (145, VV.ptr (VA.own 2 (1))) :: (144, VV.bool false) :: (144, VV.bool !decide (V.v = a)) :: (143, VV.bool !decide (V.v = a)) :: (142, I a) :: (141, I V.v) :: (140, VV.ptr (VA.own 2 0)) :: dsT0.zip (VT0 l t y D B l.length a b)) (VH.mk 3 ([0, 1, 2].zip (BT0 t V))) (dsT2.zip (VT2 l t y D B vo 0 (0 : Int))) ∧ (gdT l t D B ∧ tB t ∧ prO l t D V vo) ∧ ∀ (tn : Int), Q (VRes.ret (VV.bool true))) := by kernel_rfl

/-- Blend: it is none. -/
def blN (l : List Stk) (t : Tst) (E : Int) : FuncId × Spec1 := (24, fun _ args h K => match args with
  | [x, z, .int .i64 y, w] => isD h 4 x (stD l) ∧ isD h 4 z (.agg (tsL t)) ∧ ∃ D, isD h 4 w (inD D) ∧ bldE l t y D = E ∧ K (.ret (.tup [zV, I E])) h
  | _ => False)
theorem tn1_ev (l : List Stk) (t : Tst) (y : Int) (D B : List Int) (Q : VRes → Prop) : callN Try.prog (tabS [grKG l t false, blN l t 1, alT]) noL 10 20 0 (.fn 7) [stD l, .agg (tsL t), I y, inD D, yD B] ⟨0, []⟩ (fun r _ => Q r) =
  (isD (VH.mk (0 + 1) [(0, VB.cells (tsL t) 25)]) 4 (stD l) (stD l) ∧ isD (VH.mk (0 + 1) [(0, VB.cells (tsL t) 25)]) 4 (VV.agg (tsL t)) (VV.agg (tsL t)) ∧ greatF l t (1073741824 : Int) = false ∧ bif decide ((↑D.length : Int) > (10 : Int)) then
 Q (VRes.ret (VV.bool true))
 else bif decide ((↑B.length : Int) = (0 : Int)) then
 Q (VRes.ret (VV.bool true))
 else isD (VH.mk (0 + 1) [(0, VB.cells (tsL t) 25)]) 4 (stD l) (stD l) ∧ isD (VH.mk (0 + 1) [(0, VB.cells (tsL t) 25)]) 4 (VV.agg (tsL t)) (VV.agg (tsL t)) ∧ ∃ (D_1 : List Int), isD (VH.mk (0 + 1) [(0, VB.cells (tsL t) 25)]) 4 (VV.tl D.length 1 (dG D)) (inD D_1) ∧ bldE l t y D_1 = (1 : Int) ∧ Q (VRes.ret (VV.bool true))) := by kernel_rfl

theorem tn2_ev (l : List Stk) (t : Tst) (y : Int) (D B : List Int) (Q : VRes → Prop) : callN Try.prog (tabS [grKG l t false, blN l t 2, alT]) noL 10 20 0 (.fn 7) [stD l, .agg (tsL t), I y, inD D, yD B] ⟨0, []⟩ (fun r _ => Q r) =
  (isD (VH.mk (0 + 1) [(0, VB.cells (tsL t) 25)]) 4 (stD l) (stD l) ∧ isD (VH.mk (0 + 1) [(0, VB.cells (tsL t) 25)]) 4 (VV.agg (tsL t)) (VV.agg (tsL t)) ∧ greatF l t (1073741824 : Int) = false ∧ bif decide ((↑D.length : Int) > (10 : Int)) then
 Q (VRes.ret (VV.bool true))
 else bif decide ((↑B.length : Int) = (0 : Int)) then
 Q (VRes.ret (VV.bool true))
 else isD (VH.mk (0 + 1) [(0, VB.cells (tsL t) 25)]) 4 (stD l) (stD l) ∧ isD (VH.mk (0 + 1) [(0, VB.cells (tsL t) 25)]) 4 (VV.agg (tsL t)) (VV.agg (tsL t)) ∧ ∃ (D_1 : List Int), isD (VH.mk (0 + 1) [(0, VB.cells (tsL t) 25)]) 4 (VV.tl D.length 1 (dG D)) (inD D_1) ∧ bldE l t y D_1 = (2 : Int) ∧ Q (VRes.ret (VV.bool true))) := by kernel_rfl

theorem tg_ev (l : List Stk) (t : Tst) (y : Int) (D B : List Int) (Q : VRes → Prop) : callN Try.prog (tabS [grKG l t true, alT]) noL 10 20 0 (.fn 7) [stD l, .agg (tsL t), I y, inD D, yD B] ⟨0, []⟩ (fun r _ => Q r) =
  (isD (VH.mk (0 + 1) [(0, VB.cells (tsL t) 25)]) 4 (stD l) (stD l) ∧ isD (VH.mk (0 + 1) [(0, VB.cells (tsL t) 25)]) 4 (VV.agg (tsL t)) (VV.agg (tsL t)) ∧ greatF l t (1073741824 : Int) = true ∧ Q (VRes.ret (VV.bool true))) := by kernel_rfl

end Go.Sx.Bln

/- blend: a list of uint32 among a law's arguments, read. -/

namespace Go.Sx.Bln
open Go Go.Sx Go.Proofs Go.ChangeShapes Go.WideShapes Go.RowKit
set_option maxRecDepth 100000

theorem leavesPU : leavesT Try.prog 5 59 = some [59] := by kernel_rfl
theorem undPU : Try.prog.underlying 59 = some (.int .u32) := by kernel_rfl
theorem undP54 : Try.prog.underlying 54 = some (.slice 59) := by kernel_rfl
theorem cellsPU : Try.prog.cellsOf 59 = 1 := by kernel_rfl

section
variable {H : Type} {enc : TypeId × Value → H} {w : World} {b0 base : Nat} {spare : Nat → Bool} {held : Bool} {d : DataW H} {p : List MemPlace} {v : Value} {fuel : Nat} {y : DataW H × List MemPlace}

abbrev U32 := {n : Int // 0 ≤ n ∧ n ≤ 4294967295}
theorem leafU {v : Value} (h : ∃ m v' y, some v = some v' ∧ DataW.trod enc Try.prog w base spare held m 59 [v'] = some y) : ∃ n : U32, v = .int .u32 n.1 := by
  obtain ⟨m, v', y, e, h⟩ := h
  cases e
  obtain ⟨n, rfl, hn⟩ := leaf_int undPU h
  have h2 : 0 ≤ n ∧ n ≤ 4294967295 := by
    simp only [Lit.wf, Bool.and_eq_true, decide_eq_true_eq] at hn
    exact hn
  exact ⟨⟨n, h2⟩, rfl⟩

theorem u32s_rd (h : DataW.trod enc Try.prog w base spare held fuel 54 [v] = some y) : ∃ B : List Int, VRel (dataR w) (yD B) v ∧ ∀ i, 0 ≤ B.getD i 0 ∧ B.getD i 0 ≤ 4294967295 := by
  obtain ⟨l, hl⟩ := read_list (α := U32) (f := fun n => [.int .u32 n.1]) (d0 := ⟨0, by decide⟩) undP54 leavesPU cellsPU (by decide) (fun _ => rfl) (fun xs hx hc => by
    obtain ⟨a, rfl⟩ := len1 hx
    obtain ⟨n, rfl⟩ := leafU (hc 0 59 rfl)
    exact ⟨n, _, _, rfl, rfl, rfl⟩) h
  have e : ∀ j, (l.map Subtype.val).getD j 0 = (l.getD j ⟨0, by decide⟩).1 := fun j => by
    rw [List.getD_eq_getElem?_getD, List.getD_eq_getElem?_getD, List.getElem?_map]
    cases l[j]? <;> rfl
  refine ⟨l.map Subtype.val, ?_, fun i => by rw [e]; exact (l.getD i ⟨0, by decide⟩).2⟩
  have e2 : yD (l.map Subtype.val) = .tl l.length 1 (fun j => [.int .u32 (l.getD j ⟨0, by decide⟩).1]) := by
    unfold yD yG
    rw [List.length_map]
    congr 1
    funext j
    rw [e]
  rw [e2]
  exact hl
theorem u32s_in (s : Value.okWide Try.prog w .any b0 54 v) (h : DataW.Trod enc Try.prog w base spare held 54 v d p) : ∃ B : List Int, VRel (dataR w) (yD B) v ∧ ∀ i, 0 ≤ B.getD i 0 ∧ B.getD i 0 ≤ 4294967295 := by
  obtain ⟨_, _, h⟩ := open_list undP54 s h
  exact u32s_rd h
end
end Go.Sx.Bln

/- blend: the rows and the loops of the law BlendTrue. -/

namespace Go.Sx.Bln
open Go Go.Sx Go.Proofs
set_option maxRecDepth 1000000

theorem grKG_ok (l : List Stk) (t : Tst) (b : Bool) : SpOk Try.prog (grKG l t b).1 (grKG l t b).2 := by
  intro lock args h K hK
  simp only [grKG] at hK
  split at hK
  · obtain ⟨h1, h2, rfl, hK⟩ := hK
    exact greatT_ok lock _ h K ⟨l, t, h1, h2, hK⟩
  · exact hK.elim
theorem rtYG_ok (t : Tst) : SpOk Try.prog (rtYG t).1 (rtYG t).2 := by
  intro lock args h K hK
  simp only [rtYG] at hK
  split at hK
  · obtain ⟨h1, ⟨h2, h3⟩, hK⟩ := hK
    exact rtT_ok lock _ h K ⟨t, h1, h2, by rw [h3]; exact hK⟩
  · exact hK.elim
theorem rsYG_ok (l : List Stk) (t : Tst) : SpOk Try.prog (rsYG l t).1 (rsYG l t).2 := by
  intro lock args h K hK
  simp only [rsYG] at hK
  split at hK
  · obtain ⟨h1, h2, ⟨h3, h4, h5⟩, hK⟩ := hK
    exact rsT_ok lock _ h K ⟨l, t, h1, h2, ⟨h3, h4⟩, by rw [h5]; exact hK⟩
  · exact hK.elim
theorem rcY_ok (l : List Stk) (D : List Int) : SpOk Try.prog (rcY l D).1 (rcY l D).2 := by
  intro lock args h K hK
  simp only [rcY] at hK
  split at hK
  · obtain ⟨h1, h2, h3, ⟨h4, h5⟩, hK⟩ := hK
    exact rcT_ok lock _ h K ⟨l, D, h1, h2, h3, by rw [h5, decide_eq_true h4]; exact hK⟩
  · exact hK.elim
theorem blV_ok (l : List Stk) (t : Tst) (V : Vt) : SpOk Try.prog (blV l t V).1 (blV l t V).2 := by
  intro lock args h K hK
  simp only [blV] at hK
  split at hK
  · obtain ⟨h1, h2, D, h3, h4, h5, hK⟩ := hK
    exact bldT_ok lock _ h K ⟨l, t, D, h1, h2, h3, fun h => (h h4).elim, fun _ V' hV => by rw [hV, ← h5]; exact hK⟩
  · exact hK.elim
theorem blN_ok (l : List Stk) (t : Tst) {E : Int} (hE : E ≠ 0) : SpOk Try.prog (blN l t E).1 (blN l t E).2 := by
  intro lock args h K hK
  simp only [blN] at hK
  split at hK
  · obtain ⟨h1, h2, D, h3, h4, hK⟩ := hK
    exact bldT_ok lock _ h K ⟨l, t, D, h1, h2, h3, fun _ => by rw [h4]; exact hK, fun h => (hE (h4.symm.trans h)).elim⟩
  · exact hK.elim

section
variable {l : List Stk} {t : Tst} {y vo : Int} {D B : List Int} {V : Vt}

theorem inK_u32 {n : Int} (h : 0 ≤ n ∧ n ≤ 4294967295) : inK .u32 n = true := by
  show inU 4294967295 n = true
  rw [inU_iff]
  exact h
theorem okCh_get (h : okCh l D = true) {i : Nat} (hi : i < l.length) : 0 ≤ D.getD i 0 ∧ D.getD i 0 ≤ (l.getD i k0).casks := by
  unfold okCh at h
  rw [List.all_eq_true] at h
  have := h i (List.mem_range.2 hi)
  unfold okC at this
  exact of_decide_eq_true this

theorem lT0_ok : LSound Try.prog true (.block 0 (.loop (loopB 0 (bodyOf Try.prog 7)))) (ntOf Try.prog 7) (lT0 l t y D B V) := by
  by_cases hh : lB l ∧ (0 ≤ y ∧ y ≤ 100) ∧ D.length = l.length ∧ okCh l D = true ∧ agO l t y D V
  · obtain ⟨hl, hy, hD, hc, ha⟩ := hh
    have hl6 := hl.1
    have hbv : ∀ i, i < l.length → 0 ≤ tmV l (chD D) i ∧ tmV l (chD D) i ≤ 393216 := fun i hi => by
      have h1 : 0 ≤ chD D i ∧ chD D i ≤ (l.getD i k0).casks := okCh_get hc hi
      obtain ⟨h2, h3, _⟩ := hl.2 i hi
      exact mul_bd (A := 6) (B := 65536) ⟨h1.1, by omega⟩ ⟨by omega, h3.2⟩
    have hbc : ∀ i, i < l.length → 0 ≤ tmC l (chD D) i ∧ tmC l (chD D) i ≤ 6291456 := fun i hi => by
      have h1 : 0 ≤ chD D i ∧ chD D i ≤ (l.getD i k0).casks := okCh_get hc hi
      obtain ⟨h2, _, _, h3⟩ := hl.2 i hi
      exact mul_bd (A := 6) (B := 1048576) ⟨h1.1, by omega⟩ h3
    refine loop_row hmix good0 (un := 10) (ds := dsT0) (ns := [0, 1, 2]) (nx := 3) (fun i : Nat => VT0 l t y D B i (sumF (tmV l (chD D)) i) (sumF (tmC l (chD D)) i)) (fun _ => BT0 t V) (fun i => i ≤ l.length) (fun i => l.length - i) (fun _ ex vs bs => ex = .exit 0 ∧ bs = BT0 t V ∧ vs = VT0 l t y D B l.length (volF l (chD D)) (costF l (chD D))) noL_ok ?_ ?_
    · rintro i h0
      refine cast (tl0_ev l t y D B V i _ _ _).symm ?_
      rw [show (i : Int).toNat = i by omega]
      by_cases hlt : i < l.length
      · have h1 := sumF_bd (f := tmV l (chD D)) (M := 393216) i (fun j hj => hbv j (by omega))
        have h2 := sumF_bd (f := tmC l (chD D)) (M := 6291456) i (fun j hj => hbc j (by omega))
        have h3 := hbv i hlt
        have h4 := hbc i hlt
        have h5 := ha i hlt
        have h6 := (hl.2 i hlt).2.2.1
        simp only [tmV, tmC, chD] at h3 h4
        have nxt : ∀ {p : Prop}, p → (bif inK .i64 ((i : Int) + 1) then p else False) := fun hp => cond_r (by omega) hp
        refine cond_dk (by omega) (cond_dk (by omega) (cond_dk (by omega) (cond_r (by omega) (cond_r (by omega) (cond_dk (by omega) (cond_r (by omega) (cond_r (by omega) (cond_dk (by omega) (cond_d (fun hn => ?_) (fun _ => ?_))))))))))
        · obtain ⟨h7, h8⟩ := h5 hn
          refine cond_r (by omega) (cond_d (fun h => by omega) (fun _ => cond_i (fun hk => cond_r (by omega) (cond_d (fun h => by have := h8 hk; omega) (fun _ => nxt ?_))) (fun _ => nxt ?_)))
          · exact ⟨i + 1, by show i + 1 ≤ _; omega, by dsimp only; omega, rfl, fitBs_refl _, fun _ _ _ h => h⟩
          · exact ⟨i + 1, by show i + 1 ≤ _; omega, by dsimp only; omega, rfl, fitBs_refl _, fun _ _ _ h => h⟩
        · exact nxt ⟨i + 1, by show i + 1 ≤ _; omega, by dsimp only; omega, rfl, fitBs_refl _, fun _ _ _ h => h⟩
      · obtain rfl : i = l.length := by omega
        exact cond_d (fun h => by omega) (fun _ => ⟨rfl, rfl, rfl⟩)
    · rintro lock tt h K ⟨hf, _, k1⟩
      refine ⟨0, hf, Nat.zero_le _, ?_⟩
      rintro ex vs bs ⟨rfl, rfl, rfl⟩
      exact k1 _ _ ⟨rfl, rfl⟩
  · rintro lock tt h K ⟨hf, hc, _⟩
    exact (hh hc).elim

theorem lT6_ok {k i : Nat} {tn su : Int} : LSound Try.prog true (.block 6 (.loop (loopB 6 (bodyOf Try.prog 7)))) (ntOf Try.prog 7) (lT6 l t y D B V vo k i tn su) := by
  by_cases hh : gdT l t D B ∧ k < t.T.length ∧ i < l.length ∧ (0 ≤ tn ∧ tn ≤ 1000) ∧ 0 ≤ su ∧ su ≤ 1000000000000
  · obtain ⟨⟨hl, hp, hT, hD, hc, hB⟩, hk, hi, ht, hs⟩ := hh
    have h1 := okCh_get hc hi
    obtain ⟨h2, h3, _⟩ := hl.2 i hi
    obtain ⟨hpl, hpk⟩ := hp i hi
    obtain ⟨q1, q2, q3⟩ := hpk k hk
    have kb : ((l.getD i k0).prof.getD k s0).lo ≤ ((l.getD i k0).prof.getD k s0).hi := q2
    have hvl : 0 ≤ (l.getD i k0).vol * ((l.getD i k0).prof.getD k s0).lo := Int.mul_nonneg (by omega) q1
    have hvh := mul_bd (a := (l.getD i k0).vol) (b := ((l.getD i k0).prof.getD k s0).hi) (A := 65536) (B := 1000) ⟨by omega, h3.2⟩ ⟨by omega, q3⟩
    refine loop_row hmix good0 (un := 10) (ds := dsT6) (ns := [0, 1, 2, 3]) (nx := 4) (fun s : Nat × Int => VT6 l t y D B vo k i s.1 (tn + s.1) s.2) (fun _ => BT6 l t V i) (fun s => (s.1 : Int) ≤ D.getD i 0 ∧ su + s.1 * ((l.getD i k0).vol * ((l.getD i k0).prof.getD k s0).lo) ≤ s.2 ∧ s.2 ≤ su + s.1 * ((l.getD i k0).vol * ((l.getD i k0).prof.getD k s0).hi)) (fun s => (D.getD i 0).toNat - s.1) (fun _ ex vs bs => ex = .exit 6 ∧ bs = BT6 l t V i ∧ ∃ su', (su + tmL l (chD D) k i ≤ su' ∧ su' ≤ su + tmH l (chD D) k i) ∧ vs = VT6 l t y D B vo k i (D.getD i 0) (tn + D.getD i 0) su') noL_ok ?_ ?_
    · rintro ⟨j, s⟩ ⟨g0, g1, g2⟩
      dsimp only at g0 g1 g2
      refine cast (tj_ev l t y D B V vo k i j _ _ _).symm ?_
      rw [show (k : Int).toNat = k by omega]
      by_cases hlt : (j : Int) < D.getD i 0
      · have hr : 0 ≤ remZ (tn + j + 1) B.length ∧ remZ (tn + j + 1) B.length < B.length := by
          rw [remZ_nn (by omega)]
          exact ⟨Int.emod_nonneg _ (by omega), Int.emod_lt_of_pos _ (by omega)⟩
        obtain ⟨w1, w2⟩ := wr32_bd (n := B.getD (remZ (tn + j + 1) B.length).toNat 0 + (tn + j + 1))
        generalize hw : wr32 (B.getD (remZ (tn + j + 1) B.length).toNat 0 + (tn + j + 1)) = w at w1 w2 ⊢
        have hx : 0 ≤ remZ w (((l.getD i k0).prof.getD k s0).hi - ((l.getD i k0).prof.getD k s0).lo + 1) ∧ remZ w (((l.getD i k0).prof.getD k s0).hi - ((l.getD i k0).prof.getD k s0).lo + 1) < ((l.getD i k0).prof.getD k s0).hi - ((l.getD i k0).prof.getD k s0).lo + 1 := by
          rw [remZ_nn w1]
          exact ⟨Int.emod_nonneg _ (by omega), Int.emod_lt_of_pos _ (by omega)⟩
        generalize hz : remZ w (((l.getD i k0).prof.getD k s0).hi - ((l.getD i k0).prof.getD k s0).lo + 1) = z at hx ⊢
        have e1 : (l.getD i k0).vol * ((l.getD i k0).prof.getD k s0).lo ≤ (l.getD i k0).vol * (((l.getD i k0).prof.getD k s0).lo + z) := Int.mul_le_mul_of_nonneg_left (by omega) (by omega)
        have e2 : (l.getD i k0).vol * (((l.getD i k0).prof.getD k s0).lo + z) ≤ (l.getD i k0).vol * ((l.getD i k0).prof.getD k s0).hi := Int.mul_le_mul_of_nonneg_left (by omega) (by omega)
        have e3 : ((j + 1 : Nat) : Int) * ((l.getD i k0).vol * ((l.getD i k0).prof.getD k s0).lo) = j * ((l.getD i k0).vol * ((l.getD i k0).prof.getD k s0).lo) + (l.getD i k0).vol * ((l.getD i k0).prof.getD k s0).lo := by push_cast; rw [Int.add_mul, Int.one_mul]
        have e4 : ((j + 1 : Nat) : Int) * ((l.getD i k0).vol * ((l.getD i k0).prof.getD k s0).hi) = j * ((l.getD i k0).vol * ((l.getD i k0).prof.getD k s0).hi) + (l.getD i k0).vol * ((l.getD i k0).prof.getD k s0).hi := by push_cast; rw [Int.add_mul, Int.one_mul]
        have e5 := mul_bd (a := (j : Int)) (b := (l.getD i k0).vol * ((l.getD i k0).prof.getD k s0).hi) (A := 6) (B := 65536000) ⟨by omega, by omega⟩ ⟨hvh.1, by omega⟩
        have e6 : 0 ≤ (j : Int) * ((l.getD i k0).vol * ((l.getD i k0).prof.getD k s0).lo) := Int.mul_nonneg (by omega) hvl
        generalize hP : (l.getD i k0).vol * (((l.getD i k0).prof.getD k s0).lo + z) = P at e1 e2 ⊢
        refine cond_dk hlt (cond_r (by omega) (cond_dk (by omega) (cond_d (fun h => by omega) (fun _ => cond_dk hr (cond_k (inK_u32 (by omega)) (cond_r (by omega) (cond_r (by omega) (cond_r (by omega) (cond_d (fun h => by omega) (fun _ => cond_r (by omega) (cond_r (by omega) (cond_r (by omega) (cond_r (by omega) ⟨(j + 1, s + P), ⟨by dsimp only; omega, ?_, ?_⟩, by dsimp only; omega, ?_, fitBs_refl _, fun _ _ _ h => h⟩)))))))))))))
        · dsimp only; rw [e3]; omega
        · dsimp only; rw [e4]; omega
        · dsimp only
          have : tn + ((j + 1 : Nat) : Int) = tn + j + 1 := by omega
          unfold VT6
          rw [this]
          rfl
      · refine cond_d (fun h => absurd h hlt) (fun _ => ⟨rfl, rfl, s, ⟨?_, ?_⟩, ?_⟩)
        · have : (j : Int) = D.getD i 0 := by omega
          rw [this] at g1
          have e : tmL l (chD D) k i = D.getD i 0 * ((l.getD i k0).vol * ((l.getD i k0).prof.getD k s0).lo) := Int.mul_assoc _ _ _
          rw [e]; exact g1
        · have : (j : Int) = D.getD i 0 := by omega
          rw [this] at g2
          have e : tmH l (chD D) k i = D.getD i 0 * ((l.getD i k0).vol * ((l.getD i k0).prof.getD k s0).hi) := Int.mul_assoc _ _ _
          rw [e]; exact g2
        · have : (j : Int) = D.getD i 0 := by omega
          dsimp only
          rw [this]
          rfl
    · rintro lock tt h K ⟨hf, _, k1⟩
      refine ⟨(0, su), by simpa using hf, ⟨by simpa using h1.1, by simp, by simp⟩, ?_⟩
      rintro ex vs bs ⟨rfl, rfl, su', hs', rfl⟩
      exact k1 su' hs'
  · rintro lock tt h K ⟨hf, hc, _⟩
    exact (hh hc).elim
end
end Go.Sx.Bln

/- blend: the outer loops of the law BlendTrue. -/

namespace Go.Sx.Bln
open Go Go.Sx Go.Proofs
set_option maxRecDepth 1000000

section
variable {l : List Stk} {t : Tst} {y vo : Int} {D B : List Int} {V : Vt}

theorem lsp_T6 {k i : Nat} {tn su : Int} : ∀ id T, tabB [(6, lT6 l t y D B V vo k i tn su)] id = some T → ∀ b' ∈ blocksOf id (loopB 4 (bodyOf Try.prog 7)), LSound Try.prog true (.block id b') (ntOf Try.prog 7) T := by
  intro id T hT b' hb
  simp only [tabB] at hT
  cases hid : Nat.beq id 6 with
  | false => rw [hid] at hT; cases hT
  | true =>
    rw [hid] at hT
    have := Nat.eq_of_beq_eq_true hid
    subst this
    cases hT
    have h2 : blocksOf 6 (loopB 4 (bodyOf Try.prog 7)) = [.loop (loopB 6 (bodyOf Try.prog 7))] := by kernel_rfl
    rw [h2] at hb
    simp only [List.mem_singleton] at hb
    subst hb
    exact lT6_ok

theorem lT4_ok {k : Nat} {tn : Int} : LSound Try.prog true (.block 4 (.loop (loopB 4 (bodyOf Try.prog 7)))) (ntOf Try.prog 7) (lT4 l t y D B V vo k tn) := by
  by_cases hh : gdT l t D B ∧ k < t.T.length ∧ 0 ≤ tn ∧ tn ≤ 500
  · obtain ⟨hg, hk, ht⟩ := hh
    obtain ⟨hl, hp, hT, hD, hc, hB⟩ := id hg
    have hl6 := hl.1
    have hbD : ∀ i, i < l.length → 0 ≤ chD D i ∧ chD D i ≤ 6 := fun i hi => by
      have h1 : 0 ≤ chD D i ∧ chD D i ≤ (l.getD i k0).casks := okCh_get hc hi
      have := (hl.2 i hi).1
      omega
    have hbL : ∀ i, i < l.length → 0 ≤ tmL l (chD D) k i ∧ tmL l (chD D) k i ≤ 393216000 := fun i hi => by
      obtain ⟨_, h3, _⟩ := hl.2 i hi
      obtain ⟨q1, q2, q3⟩ := (hp i hi).2 k hk
      have h5 := mul_bd (A := 6) (B := 65536) (hbD i hi) (show 0 ≤ (l.getD i k0).vol ∧ (l.getD i k0).vol ≤ 65536 by omega)
      exact mul_bd (A := 393216) (B := 1000) h5 ⟨q1, by omega⟩
    have hbH : ∀ i, i < l.length → 0 ≤ tmH l (chD D) k i ∧ tmH l (chD D) k i ≤ 393216000 := fun i hi => by
      obtain ⟨_, h3, _⟩ := hl.2 i hi
      obtain ⟨q1, q2, q3⟩ := (hp i hi).2 k hk
      have h5 := mul_bd (A := 6) (B := 65536) (hbD i hi) (show 0 ≤ (l.getD i k0).vol ∧ (l.getD i k0).vol ≤ 65536 by omega)
      exact mul_bd (A := 393216) (B := 1000) h5 ⟨by omega, q3⟩
    refine loop_rowD hmix good0 (un := 10) (ds := dsT4) (ns := [0, 1, 2]) (nx := 3) (lsp := fun s : Nat × Int => tabB [(6, lT6 l t y D B V vo k s.1 (tn + sumF (chD D) s.1) s.2)]) (fun s : Nat × Int => VT4 l t y D B vo k s.1 (tn + sumF (chD D) s.1) s.2) (fun _ => BT0 t V) (fun s => s.1 ≤ l.length ∧ sumF (tmL l (chD D) k) s.1 ≤ s.2 ∧ s.2 ≤ sumF (tmH l (chD D) k) s.1) (fun s => l.length - s.1) (fun _ ex vs bs => ex = .exit 4 ∧ bs = BT0 t V ∧ ∃ su, (loF l (chD D) k ≤ su ∧ su ≤ hiF l (chD D) k) ∧ vs = VT4 l t y D B vo k l.length (tn + sumF (chD D) l.length) su) (fun _ _ => lsp_T6) ?_ ?_
    · rintro ⟨i, su⟩ ⟨h0, h1, h2⟩
      dsimp only at h0 h1 h2
      refine cast (ti_ev l t y D B V vo k i _ _ _).symm ?_
      dsimp only
      by_cases hlt : i < l.length
      · have g1 := sumF_bd (f := chD D) (M := 6) i (fun j hj => hbD j (by omega))
        have g2 := sumF_bd (f := tmL l (chD D) k) (M := 393216000) i (fun j hj => hbL j (by omega))
        have g3 := sumF_bd (f := tmH l (chD D) k) (M := 393216000) i (fun j hj => hbH j (by omega))
        have g4 := hbD i hlt
        refine cond_dk (by omega) (cond_dk (by omega) (cond_dk (by omega) ⟨fitP_self rfl, ⟨hg, hk, hlt, by omega, by omega⟩, fun su' hs' => cond_r (by omega) ⟨(i + 1, su'), ⟨by dsimp only; omega, ?_, ?_⟩, by dsimp only; omega, ?_, fitBs_refl _, fun _ _ _ h => h⟩⟩))
        · show sumF (tmL l (chD D) k) i + tmL l (chD D) k i ≤ su'
          omega
        · show su' ≤ sumF (tmH l (chD D) k) i + tmH l (chD D) k i
          omega
        · dsimp only
          have e : tn + sumF (chD D) (i + 1) = tn + sumF (chD D) i + D.getD i 0 := (Int.add_assoc _ _ _).symm
          rw [e]
          rfl
      · obtain rfl : i = l.length := by omega
        exact cond_d (fun h => by omega) (fun _ => ⟨rfl, rfl, su, ⟨h1, h2⟩, rfl⟩)
    · rintro lock tt h K ⟨hf, _, k1⟩
      refine ⟨(0, 0), by simpa [sumF] using hf, ⟨Nat.zero_le _, Int.le_refl _, Int.le_refl _⟩, ?_⟩
      rintro ex vs bs ⟨rfl, rfl, su, hs, rfl⟩
      exact k1 su hs _ rfl
  · rintro lock tt h K ⟨hf, hc, _⟩
    exact (hh hc).elim

theorem lsp_T4 {k : Nat} {tn : Int} : ∀ id T, tabB [(4, lT4 l t y D B V vo k tn)] id = some T → ∀ b' ∈ blocksOf id (loopB 2 (bodyOf Try.prog 7)), LSound Try.prog true (.block id b') (ntOf Try.prog 7) T := by
  intro id T hT b' hb
  simp only [tabB] at hT
  cases hid : Nat.beq id 4 with
  | false => rw [hid] at hT; cases hT
  | true =>
    rw [hid] at hT
    have := Nat.eq_of_beq_eq_true hid
    subst this
    cases hT
    have h2 : blocksOf 4 (loopB 2 (bodyOf Try.prog 7)) = [.loop (loopB 4 (bodyOf Try.prog 7))] := by kernel_rfl
    rw [h2] at hb
    simp only [List.mem_singleton] at hb
    subst hb
    exact lT4_ok

theorem lT2_ok : LSound Try.prog true (.block 2 (.loop (loopB 2 (bodyOf Try.prog 7)))) (ntOf Try.prog 7) (lT2 l t y D B V) := by
  rintro lock tt h K ⟨vo, hf, ⟨hg, htB, hvo, hPl, hpr⟩, k1⟩
  obtain ⟨hl, hp, hT, hD, hc, hB⟩ := id hg
  have hl6 := hl.1
  have b1 : (V.P.length.beq V.P.length && Nat.ble 1 Try.prog.types[34].size) = true := Bool.and_eq_true_iff.2 ⟨Nat.beq_refl _, by kernel_rfl⟩
  have b2 : V.P.length.beq V.P.length = true := Nat.beq_refl _
  have hbD : ∀ i, i < l.length → 0 ≤ chD D i ∧ chD D i ≤ 6 := fun i hi => by
    have h1 : 0 ≤ chD D i ∧ chD D i ≤ (l.getD i k0).casks := okCh_get hc hi
    have := (hl.2 i hi).1
    omega
  have hbs := sumF_bd (f := chD D) (M := 6) l.length hbD
  have hrow : LSound Try.prog true (.block 2 (.loop (loopB 2 (bodyOf Try.prog 7)))) (ntOf Try.prog 7) (fun lock tt h K => FitP lock h tt ⟨3, [0, 1, 2].zip (BT0 t V)⟩ (dsT2.zip (VT2 l t y D B vo 0 0)) ∧ ∀ tn : Int, K .normal (dsT2.zip (VT2 l t y D B vo t.T.length tn)) ⟨3, [0, 1, 2].zip (BT0 t V)⟩) := by
    refine loop_rowD hmix good0 (un := 10) (ds := dsT2) (ns := [0, 1, 2]) (nx := 3) (lsp := fun s : Nat × Int => tabB [(4, lT4 l t y D B V vo s.1 s.2)]) (fun s : Nat × Int => VT2 l t y D B vo s.1 s.2) (fun _ => BT0 t V) (fun s => s.1 ≤ t.T.length ∧ 0 ≤ s.2 ∧ s.2 ≤ 36 * s.1) (fun s => t.T.length - s.1) (fun _ ex vs bs => ex = .exit 2 ∧ bs = BT0 t V ∧ ∃ tn, vs = VT2 l t y D B vo t.T.length tn) (fun _ _ => lsp_T4) ?_ ?_
    · rintro ⟨k, tn⟩ ⟨h0, h1, h2⟩
      dsimp only at h0 h1 h2
      refine cast (tk_ev l t y D B V vo k _ _).symm ?_
      dsimp only
      rw [show (k : Int).toNat = k by omega]
      by_cases hlt : k < t.T.length
      · obtain ⟨p1, p2, p3⟩ := hpr k hlt
        obtain ⟨t1, t2, t3, _⟩ := htB
        have t4 := t2 k hlt
        refine cond_dk (by omega) ⟨fitP_self rfl, ⟨hg, hlt, by omega, by omega⟩, fun su hs tn' htn' => ?_⟩
        have m1 := mul_bd (a := t.T.getD k 0 + t.far) (b := vo) (A := 2000) (B := 2359296) ⟨by omega, by omega⟩ hvo
        have m2 : (t.T.getD k 0 - t.far) * vo ≤ 1000 * vo := Int.mul_le_mul_of_nonneg_right (by omega) hvo.1
        have m3 : (-1000) * vo ≤ (t.T.getD k 0 - t.far) * vo := Int.mul_le_mul_of_nonneg_right (by omega) hvo.1
        have nxt : (bif inK IntKind.i64 ((k : Int) + 1) then RoundQ (fun s : Nat × Int => VT2 l t y D B vo s.1 s.2) (fun _ => BT0 t V) (fun s => s.1 ≤ t.T.length ∧ 0 ≤ s.2 ∧ s.2 ≤ 36 * s.1) (fun s => t.T.length - s.1) (fun _ ex vs bs => ex = .exit 2 ∧ bs = BT0 t V ∧ ∃ tn, vs = VT2 l t y D B vo t.T.length tn) (k, tn) .normal (VT2 l t y D B vo (k + 1 : Nat) tn') (BT0 t V) else False) :=
          cond_r (by omega) ⟨(k + 1, tn'), ⟨by dsimp only; omega, by dsimp only; omega, by dsimp only; omega⟩, by dsimp only; omega, rfl, fitBs_refl _, fun _ _ _ h => h⟩
        have hin : 0 ≤ (k : Int) ∧ (k : Int) < (t.T.length : Int) := by omega
        have hin2 : 0 ≤ (k : Int) ∧ (k : Int) < (V.P.length : Int) := by omega
        refine cond_d (fun hv => ?_) (fun hv => ?_)
        · obtain ⟨⟨p4, p5⟩, p6, p7⟩ := p2 hv
          refine cond_dk hin2 (cond_k b1 (cond_k b2 (cond_r (by omega) (cond_d (fun h => by omega) (fun _ => cond_dk hin2 (cond_k b1 (cond_k b2 (cond_r (by omega) (cond_d (fun h => by omega) (fun _ => cond_i (fun hk => ?_) (fun _ => nxt)))))))))))
          obtain ⟨p8, p9⟩ := p3 hk
          exact cond_dk hin (cond_r (by omega) (cond_r (by omega) (cond_d (fun h => by omega) (fun _ => cond_dk hin (cond_r (by omega) (cond_r (by omega) (cond_d (fun h => by omega) (fun _ => nxt))))))))
        · refine cond_i (fun hk => ?_) (fun _ => nxt)
          obtain ⟨p8, p9⟩ := p3 hk
          exact cond_dk hin (cond_r (by omega) (cond_r (by omega) (cond_d (fun h => by omega) (fun _ => cond_dk hin (cond_r (by omega) (cond_r (by omega) (cond_d (fun h => by omega) (fun _ => nxt))))))))
      · obtain rfl : k = t.T.length := by omega
        exact cond_d (fun h => by omega) (fun _ => ⟨rfl, rfl, tn, rfl⟩)
    · rintro lock tt h K ⟨hf, k1⟩
      refine ⟨(0, 0), hf, ⟨Nat.zero_le _, Int.le_refl _, Int.le_refl _⟩, ?_⟩
      rintro ex vs bs ⟨rfl, rfl, tn, rfl⟩
      exact k1 tn
  exact hrow lock tt h K ⟨hf, k1⟩
end
end Go.Sx.Bln

/- blend: the law BlendTrue holds. -/

namespace Go.Sx.Bln
open Go Go.Sx Go.Proofs
set_option maxRecDepth 1000000

section
variable {l : List Stk} {t : Tst} {y : Int} {D B : List Int}

theorem PF_own {n : Nat → Int} : ∀ {K k : Nat}, k < K → (PF l n K).getD k s0 = ownF l n k
  | 0, k, h => by omega
  | K + 1, k, h => by
    unfold PF
    rw [List.getD_eq_getElem?_getD]
    by_cases e : k = K
    · subst e
      rw [List.getElem?_append_right (by rw [PF_len]; omega), PF_len, Nat.sub_self]
      rfl
    · rw [List.getElem?_append_left (by rw [PF_len]; omega), ← List.getD_eq_getElem?_getD]
      exact PF_own (by omega)

theorem ag_ok (hl : lB l) (hy : 0 ≤ y ∧ y ≤ 100) : agO l t y D (vtF l t (chD D) y) := by
  intro i hi hn
  obtain ⟨_, h⟩ := ageF_le (n := chD D) hl (show 0 ≤ y ∧ y ≤ 1000 by omega) l.length (Nat.le_refl _)
  obtain ⟨h1, h2⟩ := h i hi hn
  refine ⟨by show max 0 _ ≤ _; omega, fun hk => ?_⟩
  obtain ⟨h3, _⟩ := KF_all (show KF l t (chD D) _ t.T.length = true from hk)
  simp only [Bool.and_eq_true, decide_eq_true_eq] at h3
  omega

theorem pr_ok (hn : nB (chD D)) (hl : lB l) (hp : pB l t.T.length) : prO l t D (vtF l t (chD D) y) (volF l (chD D)) := by
  have hv := vol_bd hn hl
  refine ⟨hv, PF_len _, fun k hk => ?_⟩
  obtain ⟨⟨n1, n2⟩, n3, n4⟩ := note_bd hn hl hp hk
  refine ⟨⟨n1, by omega⟩, fun h0 => ?_, fun hkk => ?_⟩
  · have e : (vtF l t (chD D) y).P.getD k s0 = ownF l (chD D) k := PF_own hk
    rw [e]
    generalize hlo : loF l (chD D) k = lo at *
    generalize hhi : hiF l (chD D) k = hi at *
    generalize hvo : volF l (chD D) = v at *
    have e1 : (ownF l (chD D) k).lo = lo / v := by
      unfold ownF
      rw [hvo, if_pos h0, hlo]
      exact quoZ_nn n1
    have e2 : (ownF l (chD D) k).hi = (hi + v - 1) / v := by
      unfold ownF
      rw [hvo, if_pos h0, hhi]
      exact quoZ_nn (by omega)
    rw [e1, e2]
    have q1 := Int.ediv_mul_le lo (show v ≠ 0 by omega)
    have q2 := Int.ediv_mul_le (hi + v - 1) (show v ≠ 0 by omega)
    have q3 := Int.lt_ediv_add_one_mul_self (hi + v - 1) h0
    rw [Int.add_mul, Int.one_mul] at q3
    exact ⟨⟨Int.mul_nonneg (Int.ediv_nonneg n1 hv.1) hv.1, q1⟩, by omega, by omega⟩
  · obtain ⟨_, h2⟩ := KF_all (show KF l t (chD D) _ t.T.length = true from hkk)
    have h3 := h2 k hk
    unfold okF at h3
    simp only [Bool.and_eq_true, Bool.not_eq_true', decide_eq_false_iff_not] at h3
    omega

theorem bldE_vals : bldE l t y D = 1 ∨ bldE l t y D = 2 ∨ bldE l t y D = 0 := by
  unfold bldE
  split
  · exact .inl rfl
  · split
    · exact .inr (.inl rfl)
    · split
      · exact .inr (.inl rfl)
      · exact .inr (.inr rfl)

theorem tru_v : ∃ h', CallsV Try.prog 7 [stD l, .agg (tsL t), I y, inD D, yD B] ⟨0, []⟩ (.ret (.bool true)) h' := by
  cases hg : greatF l t 1073741824 with
  | true =>
    have htab : ∀ f T, tabS [grKG l t true, alT] f = some T → SpOk Try.prog f T := tab_ok _ (fun x hx => by
      simp only [List.mem_cons, List.not_mem_nil, or_false] at hx
      rcases hx with rfl | rfl
      · exact grKG_ok l t true
      · exact alT_ok)
    obtain ⟨r, h', rfl, hc⟩ := of_callN (noL_good htab) (f := 7) (args := [stD l, .agg (tsL t), I y, inD D, yD B]) (h := ⟨0, []⟩) (K := fun r _ => r = .ret (.bool true)) (by
      exact cast (tg_ev l t y D B _).symm ⟨isD_l, isD_t, hg, rfl⟩)
    exact ⟨h', hc⟩
  | false =>
    rcases bldE_vals (l := l) (t := t) (y := y) (D := D) with he | he | he
    · have htab : ∀ f T, tabS [grKG l t false, blN l t 1, alT] f = some T → SpOk Try.prog f T := tab_ok _ (fun x hx => by
        simp only [List.mem_cons, List.not_mem_nil, or_false] at hx
        rcases hx with rfl | rfl | rfl
        · exact grKG_ok l t false
        · exact blN_ok l t (by decide)
        · exact alT_ok)
      obtain ⟨r, h', rfl, hc⟩ := of_callN (noL_good htab) (f := 7) (args := [stD l, .agg (tsL t), I y, inD D, yD B]) (h := ⟨0, []⟩) (K := fun r _ => r = .ret (.bool true)) (by
        exact cast (tn1_ev l t y D B _).symm ⟨isD_l, isD_t, hg, cond_d (fun _ => rfl) (fun _ => cond_d (fun _ => rfl) (fun _ => ⟨isD_l, isD_t, D, isD_d, he, rfl⟩))⟩)
      exact ⟨h', hc⟩
    · have htab : ∀ f T, tabS [grKG l t false, blN l t 2, alT] f = some T → SpOk Try.prog f T := tab_ok _ (fun x hx => by
        simp only [List.mem_cons, List.not_mem_nil, or_false] at hx
        rcases hx with rfl | rfl | rfl
        · exact grKG_ok l t false
        · exact blN_ok l t (by decide)
        · exact alT_ok)
      obtain ⟨r, h', rfl, hc⟩ := of_callN (noL_good htab) (f := 7) (args := [stD l, .agg (tsL t), I y, inD D, yD B]) (h := ⟨0, []⟩) (K := fun r _ => r = .ret (.bool true)) (by
        exact cast (tn2_ev l t y D B _).symm ⟨isD_l, isD_t, hg, cond_d (fun _ => rfl) (fun _ => cond_d (fun _ => rfl) (fun _ => ⟨isD_l, isD_t, D, isD_d, he, rfl⟩))⟩)
      exact ⟨h', hc⟩
    · obtain ⟨⟨hn, hl, hp, htB⟩, hy0, hy1, hD, ho, hc⟩ := bld_con he
      obtain ⟨_, _, ht, hT1, hT4⟩ := okAll_l ho
      have hl6 := hl.1
      have hst : (decide (l.length ≤ 6) && !anyS l t) = true := by
        have e : okAll l t = (okT t && (decide (l.length ≤ 6) && !anyS l t)) := by unfold okAll; rw [Bool.and_assoc]
        rw [e, Bool.and_eq_true] at ho
        exact ho.2
      have htab : ∀ f T, tabS [grKG l t false, rtYG t, rsYG l t, rcY l D, blV l t (vtF l t (chD D) y), alT] f = some T → SpOk Try.prog f T := tab_ok _ (fun x hx => by
        simp only [List.mem_cons, List.not_mem_nil, or_false] at hx
        rcases hx with rfl | rfl | rfl | rfl | rfl | rfl
        · exact grKG_ok l t false
        · exact rtYG_ok t
        · exact rsYG_ok l t
        · exact rcY_ok l D
        · exact blV_ok l t _
        · exact alT_ok)
      have hall : LoopsOk Try.prog 7 [(0, lT0 l t y D B (vtF l t (chD D) y)), (2, lT2 l t y D B (vtF l t (chD D) y))] := fun x hx => by
        simp only [List.mem_cons, List.not_mem_nil, or_false] at hx
        rcases hx with rfl | rfl
        · exact ⟨by kernel_rfl, lT0_ok⟩
        · exact ⟨by kernel_rfl, lT2_ok⟩
      have hag := ag_ok (t := t) (D := D) hl ⟨hy0, hy1⟩
      have hpr := pr_ok (t := t) (y := y) hn hl hp
      obtain ⟨r, h', rfl, hcl⟩ := of_callN (callL_good hmix htab hall (un := 10) 20) (f := 7) (args := [stD l, .agg (tsL t), I y, inD D, yD B]) (h := ⟨0, []⟩) (K := fun r _ => r = .ret (.bool true)) (by
        refine cast (tr_ev l t y D B _ _).symm ⟨isD_l, isD_t, hg, cond_d (fun _ => rfl) (fun _ => cond_d (fun _ => rfl) (fun hB0 => ⟨isD_l, isD_t, D, isD_d, he, rfl, isD_t, ⟨by omega, ht⟩, isD_l, isD_t, ⟨by omega, by omega, hst⟩, isD_l, isD_d, by omega, ⟨hD, hc⟩, cond_nd (fun h => (h (by rw [PF_len6])).elim) (fun _ => ⟨fitP_self rfl, ⟨hl, ⟨hy0, hy1⟩, hD, hc, hag⟩, ?_⟩)⟩))⟩
        have hgd : gdT l t D B := ⟨hl, hp, hT4, hD, hc, by omega⟩
        rintro a b ⟨rfl, rfl⟩
        refine cond_nd (fun h => (h rfl).elim) (fun _ => cond_nd (fun h => (h rfl).elim) (fun _ => cond_i (fun hk => cond_d (fun h => ?_) (fun _ => ?_)) (fun _ => ?_)))
        · exfalso
          obtain ⟨h3, _⟩ := KF_all (show KF l t (chD D) _ t.T.length = true from hk)
          simp only [Bool.and_eq_true, decide_eq_true_eq] at h3
          omega
        · exact ⟨_, ⟨⟨rfl, rfl, VB.fit_refl _, VB.fit_refl _, VB.fit_refl _, trivial⟩, rfl, rfl, rfl, rfl, rfl, rfl, rfl, rfl, rfl, rfl, rfl, rfl, trivial⟩, ⟨hgd, htB, hpr⟩, fun _ => rfl⟩
        · exact ⟨_, ⟨⟨rfl, rfl, VB.fit_refl _, VB.fit_refl _, VB.fit_refl _, trivial⟩, rfl, rfl, rfl, rfl, rfl, rfl, rfl, rfl, rfl, rfl, rfl, rfl, trivial⟩, ⟨hgd, htB, hpr⟩, fun _ => rfl⟩)
      exact ⟨h', hcl⟩
end
end Go.Sx.Bln
