/- stream: Ck2 Cl1 Dc1 Dd1 Dd2 Dd3 De1 Dc2 Df1 Df2 Df3 Dg1 Dg2, in one text. -/
import Derived.Test.YtlboglkgbhjpeaaWW3
import Derived.Test.YtlboglkgbhjpeaaWW2
import Derived.Test.YtlboglkgbhjpeaaSxTt
/- blend: alive. -/

namespace Go.Sx.Bln
open Go Go.Sx Go.Proofs
set_option maxRecDepth 1000000

theorem ok0 : okAll L0 T0 = true := by decide +kernel
theorem okP0 : okPaths P0 = true := by decide +kernel
theorem chp0 : (chpF L0 T0 0 300).map (fun c => (c 0, c 1, c 2, costF L0 c)) = some (2, 1, 0, 130) := by decide +kernel
theorem pln0 : (planF L0 T0 P0 2 2 3 (mostF L0)).map (fun x => [x 0 0 0, x 0 0 1, x 0 0 2, x 0 1 0, x 0 1 1, x 0 1 2, x 1 0 0, x 1 0 1, x 1 0 2, x 1 1 0, x 1 1 1, x 1 1 2]) = some [1, 1, 0, 1, 1, 0, 1, 1, 0, 0, 0, 0] := by decide +kernel

theorem smR_ok : SpOk Try.prog smR.1 smR.2 := by
  intro lock args h K hK
  simp only [smR] at hK
  split at hK
  · obtain ⟨h', hc⟩ := sample_v
    exact ⟨_, h, hK, lockP_refl _ _, calls_lift0 hc rfl rfl⟩
  · exact hK.elim

theorem cfg0 : Cfg L0 T0 P0 2 := by
  obtain ⟨hl, hp, ht, _⟩ := okAll_l ok0
  refine ⟨hl, hp, okT_tB ht, by decide, by decide, fun i hi => ?_, fun i j => ?_⟩
  · have hi : i < 2 := hi
    match i, hi with
    | 0, _ => rfl
    | 1, _ => rfl
    | _ + 2, hi => omega
  · match i, j with
    | 0, 0 => exact ⟨by decide, by decide⟩
    | 0, 1 => exact ⟨by decide, by decide⟩
    | 0, _ + 2 => exact (show (0 : Int) ≤ 0 ∧ (0 : Int) ≤ 1048576 from ⟨by decide, by decide⟩)
    | 1, 0 => exact ⟨by decide, by decide⟩
    | 1, 1 => exact ⟨by decide, by decide⟩
    | 1, _ + 2 => exact (show (0 : Int) ≤ 0 ∧ (0 : Int) ≤ 1048576 from ⟨by decide, by decide⟩)
    | _ + 2, _ => exact (show (0 : Int) ≤ 0 ∧ (0 : Int) ≤ 1048576 from ⟨by decide, by decide⟩)
theorem pthB0 : pthB P0 := by
  refine ⟨⟨by decide, by decide⟩, fun i => ?_⟩
  match i with
  | 0 => decide
  | 1 => decide
  | _ + 2 => exact (show 0 ≤ 100000 by decide)

/-- A list among the arguments that is told as data ahead of the call. -/
theorem plA_ok : SpOk Try.prog plA.1 plA.2 := by
  intro lock args h K hK
  simp only [plA] at hK
  split at hK
  · rename_i a b m L nx bs
    obtain ⟨rfl, rfl, ⟨rfl, rfl, g, ty, hm, hg⟩, hK⟩ := hK
    obtain ⟨r, h', hc, hk⟩ := pln22_v (l := L0) (t := T0) (d00 := 150) (d01 := 150) (d10 := 150) (d11 := 0) ok0 okP0 cfg0 pthB0
    rcases pln_tell hc hk with ⟨hn, _⟩ | ⟨x, h2, hx, hc2⟩
    · have := pln0
      rw [show planF L0 T0 P0 2 2 3 (mostF L0) = none from hn] at this
      cases this
    · have hc3 : CallsV Try.prog 17 [stD L0, .agg (tsL T0), pthD P0] ⟨nx, (m, .gone) :: bs⟩ (.ret (.tup [plnD 3 2 2 x, I 0])) ⟨nx, (m, .gone) :: bs⟩ := calls_lift0 hc2 rfl rfl
      have hc4 : CallsV Try.prog 17 [stD L0, .agg (tsL T0), .tl 2 1 g] ⟨nx, (m, .gone) :: bs⟩ (.ret (.tup [plnD 3 2 2 x, I 0])) ⟨nx, (m, .gone) :: bs⟩ := calls_args hc3 (fun R xs hx => by
        obtain ⟨y0, _, k0, ⟨y1, _, k1, ⟨y2, _, k2, k3, rfl⟩, rfl⟩, rfl⟩ := hx
        obtain ⟨_, _, u1, _, e1⟩ := (tl_weak (L := 2) (L' := 2) (s := 1) (g := g) (g' := pthG P0) rfl hg).1 R [y2] ⟨y2, [], k2, rfl, rfl⟩
        cases e1
        exact ⟨_, _, k0, ⟨_, _, k1, ⟨_, _, u1, k3, rfl⟩, rfl⟩, rfl⟩)
      refine ⟨_, _, hK x hx, lock0 _ _, calls_told (h := ⟨nx, bs⟩) (m := m) (L := 2) (s := 1) (g := g) (t := ty) hc4 hm (fun R R' xs hle hv hxs => ?_)⟩
      obtain ⟨y0, _, k0, ⟨y1, _, k1, ⟨y2, _, k2, k3, rfl⟩, rfl⟩, rfl⟩ := hxs
      exact ⟨_, _, VRel.mono hle _ _ k0, ⟨_, _, VRel.mono hle _ _ k1, ⟨_, _, hv y2 k2, VRelL.mono hle _ _ k3, rfl⟩, rfl⟩, rfl⟩
  · exact hK.elim

theorem wk_lit3 {a b c : Int} {n : Nat → Int} (h0 : n 0 = a) (h1 : n 1 = b) (h2 : n 2 = c) : wkL [.tl 3 1 (fun j => List.take 1 (List.drop (j * 1) [I a, I b, I c]))] [d1 3 n] := tl_weak rfl (fun j hj => by
  subst h0; subst h1; subst h2
  match j, hj with
  | 0, _ => exact wkL_refl _
  | 1, _ => exact wkL_refl _
  | 2, _ => exact wkL_refl _
  | _ + 3, hj => omega)

theorem chpE0 : chpE L0 T0 0 300 = 0 := by
  unfold chpE
  rw [if_neg (by rw [ok0]; simp), if_neg (by omega), if_neg (fun h => by have := chp0; rw [h] at this; cases this)]

theorem al_tab : ∀ f T, tabS [smR, cheapR L0 T0, plA, inR, spR] f = some T → SpOk Try.prog f T := tab_ok _ (fun x hx => by
  simp only [List.mem_cons, List.not_mem_nil, or_false] at hx
  rcases hx with rfl | rfl | rfl | rfl | rfl
  · exact smR_ok
  · exact cheapR_ok L0 T0
  · exact plA_ok
  · exact inR_ok
  · exact spR_ok)
theorem alive_v : ∃ h', CallsV Try.prog 16 [] ⟨0, []⟩ (.ret (.bool true)) h' := by
  obtain ⟨r, h', rfl, hc⟩ := of_callN (noL_good al_tab) (f := 16) (args := []) (h := ⟨0, []⟩) (K := fun r _ => r = .ret (.bool true)) (by
    refine cast (al_ev _).symm ⟨rfl, rfl, fun h => (h chpE0).elim, fun _ c hc => ?_⟩
    have h0 := chp0
    rw [hc] at h0
    have h0 : (c 0, c 1, c 2, costF L0 c) = (2, 1, 0, 130) := by simpa using h0
    simp only [Prod.mk.injEq] at h0
    obtain ⟨c0, c1, c2, c3⟩ := h0
    refine ⟨rfl, rfl, ⟨rfl, rfl, _, _, rfl, ?_⟩, fun x hx => ?_⟩
    · intro i hi
      have hi : i < 2 := hi
      have key : ∀ a b : Int, wkL [.tl 2 1 (fun j => List.take 1 (List.drop (j * 1) [I a, I b]))] [inD [a, b]] := fun a b => tl_weak rfl (fun j hj => by
        match j, hj with
        | 0, _ => exact wkL_refl _
        | 1, _ => exact wkL_refl _
        | _ + 2, hj => exact absurd hj (by show ¬ _ + 2 < 2; omega))
      match i, hi with
      | 0, _ => exact key 150 150
      | 1, _ => exact key 150 0
      | _ + 2, hi => omega
    · have h1 := pln0
      rw [hx] at h1
      have h1 : [x 0 0 0, x 0 0 1, x 0 0 2, x 0 1 0, x 0 1 1, x 0 1 2, x 1 0 0, x 1 0 1, x 1 0 2, x 1 1 0, x 1 1 1, x 1 1 2] = [1, 1, 0, 1, 1, 0, 1, 1, 0, 0, 0, 0] := by simpa using h1
      simp only [List.cons.injEq, and_true] at h1
      obtain ⟨e1, e2, e3, e4, e5, e6, e7, e8, e9, ea, eb, ec⟩ := h1
      refine ⟨3, c, ⟨rfl, rfl, fun _ _ => rfl⟩, ⟨rfl, Nat.le_refl _, _, _, rfl, fun j hj => ?_⟩, by omega, cond_dk c3 ?_⟩
      · match j, hj with
        | 0, _ => exact congrArg (fun n => [I n]) c0.symm
        | 1, _ => exact congrArg (fun n => [I n]) c1.symm
        | 2, _ => exact congrArg (fun n => [I n]) c2.symm
        | _ + 3, hj => omega
      · refine ⟨.tl 2 1 (plnG 3 2 x), .tl 2 1 _, 2, fun _ => 2, fun _ _ => 3, x, ⟨rfl, rfl, fun _ _ => rfl⟩, ⟨rfl, Nat.le_refl _, _, _, rfl, fun _ _ => rfl⟩, ⟨wkL_refl _, tl_weak rfl (fun i hi => ?_)⟩, ⟨by omega, fun _ => (show 2 ≤ 100000 by omega), fun _ _ => (show 3 ≤ 100000 by omega)⟩, rfl⟩
        match i, hi with
        | 0, _ =>
          refine tl_weak rfl (fun y hy => ?_)
          match y, hy with
          | 0, _ => exact wk_lit3 e1 e2 e3
          | 1, _ => exact wk_lit3 e4 e5 e6
          | _ + 2, hy => exact absurd hy (by show ¬ _ + 2 < 2; omega)
        | 1, _ =>
          refine tl_weak rfl (fun y hy => ?_)
          match y, hy with
          | 0, _ => exact wk_lit3 e7 e8 e9
          | 1, _ => exact wk_lit3 ea eb ec
          | _ + 2, hy => exact absurd hy (by show ¬ _ + 2 < 2; omega)
        | _ + 2, hi => exact absurd hi (by show ¬ _ + 2 < 2; omega))
  exact ⟨h', hc⟩
theorem alT_ok : SpOk Try.prog alT.1 alT.2 := by
  intro lock args h K hK
  simp only [alT] at hK
  split at hK
  · obtain ⟨h', hc⟩ := alive_v
    exact ⟨_, h, hK, lockP_refl _ _, calls_lift0 hc rfl rfl⟩
  · exact hK.elim
end Go.Sx.Bln

/- blend: the law BlendMade. -/

namespace Go.Sx.Bln
open Go Go.Sx Go.Proofs
set_option maxRecDepth 1000000

theorem great_len {l : List Stk} {t : Tst} {m : Int} (h : greatF l t m = false) : l.length ≤ 8 ∧ t.T.length ≤ 6 ∧ anyG l = false ∧ pF l l.length ≤ m := by
  unfold greatF at h
  simp only [Bool.or_eq_false_iff, decide_eq_false_iff_not] at h
  obtain ⟨⟨h1, h2⟩, h3⟩ := h
  exact ⟨by omega, by omega, h2, by omega⟩
theorem isD_ts {h : VH} {t : Tst} : isD h 4 (.agg [.tl t.T.length 1 (dG t.T), I t.far, I t.least]) (.agg (tsL t)) := ⟨⟨rfl, rfl, fun _ _ => rfl⟩, ⟨rfl, rfl⟩, ⟨rfl, rfl⟩, trivial⟩
theorem isD_in {h : VH} {D : List Int} {k : Nat} : isD h (k + 1) (.tl D.length 1 (dG D)) (inD D) := ⟨rfl, rfl, fun _ _ => rfl⟩

end Go.Sx.Bln

/- blend: the document's casks, Meets, evaluated. -/

namespace Go.Sx.Bln
open Go Go.Sx Go.Proofs
set_option maxRecDepth 1000000

def dsK1 : List Nat := [4, 3, 0]
def VK1 (l : List Stk) (i : Nat) : List VV := [I i, .sl 0 i, stD l]
def BK1 (l : List Stk) (i : Nat) : List VB := [.vec i (chG (mostF l)) 1 3]
theorem k1_ev (l : List Stk) (i : Nat) (X : VEx → List VV → List VB → Prop) : codeE Try.prog (callN Try.prog noSpec noL 10 20) (fun _ => none) true 10 (ntOf Try.prog 51) 0 (loopB 0 (bodyOf Try.prog 51)) (dsK1.zip (VK1 l i)) ⟨1, [0].zip (BK1 l i)⟩ (obs 1 dsK1 [0] X) =
  (bif decide ((↑i : Int) < (↑l.length : Int)) then
 bif decide ((0 : Int) ≤ (↑i : Int) ∧ (↑i : Int) < (↑l.length : Int)) then
 bif i.beq i then
 bif roomB (i + 1) (8) then
 bif inK IntKind.i64 ((↑i : Int) + (1 : Int)) then
 X VEx.normal [I ((↑i : Int) + (1 : Int)), VV.sl 0 (i + 1), VV.tl l.length 5 (stG l)] [VB.vec (i + 1) (catG i (chG (mostF l)) fun (j : Nat) => List.take (1) (List.drop (j * (1)) [I (l.getD (↑i : Int).toNat k0).casks])) (1) 3]
 else False
 else False
 else False
 else False
 else X (VEx.exit 0) [I (↑i : Int), VV.sl 0 i, VV.tl l.length 5 (stG l)] [VB.vec i (chG (mostF l)) 1 (3 : TypeId)]) := by kernel_rfl

def lK1 (l : List Stk) : LT := fun lock tt h K =>
  FitP lock h tt ⟨1, [0].zip (BK1 l 0)⟩ (dsK1.zip (VK1 l 0)) ∧ l.length ≤ 6 ∧ K .normal (dsK1.zip (VK1 l l.length)) ⟨1, [0].zip (BK1 l l.length)⟩
theorem kf_ev (l : List Stk) (Q : VRes → VH → Prop) : callN Try.prog noSpec (atF 51 [(0, lK1 l)]) 10 20 0 (.fn 51) [stD l] ⟨0, []⟩ (fun r h => Q r h) =
  (FitP 0 (VH.mk (0 + 1) [(0, VB.vec 0 (fun (j : Nat) => List.take (1) (List.drop (j * (1)) [])) (1) 3)]) [(4, I 0), (3, VV.sl 0 0), (5, VV.sl 0 0), (2, VV.nils), (0, stD l)] (VH.mk 1 ([0].zip (BK1 l 0))) (dsK1.zip (VK1 l 0)) ∧ l.length ≤ 6 ∧ Q (VRes.ret (VV.sl 0 l.length)) (VH.mk 1 [(0, VB.vec l.length (chG (mostF l)) 1 (3 : TypeId))])) := by kernel_rfl

def rblR (l : List Stk) (t : Tst) (D : List Int) : FuncId × Spec1 := (56, fun _ args h K => match args with
  | [x, z, .int .i64 y, w] => isD h 4 x (stD l) ∧ isD h 4 z (.agg (tsL t)) ∧ isD h 4 w (inD D) ∧ (conB l t (chD D) ∧ D.length = l.length ∧ 0 ≤ y ∧ y ≤ 1000) ∧ ∀ V, V = vtF l t (chD D) y → K (.ret (vtV V h.nx)) (h.new (vtB V))
  | _ => False)
theorem rm_ev (l : List Stk) (t : Tst) (y m : Int) (D : List Int) (Q : VRes → Prop) : callN Try.prog (tabS [rblR l t D]) noL 10 20 0 (.fn 58) [stD l, .agg (tsL t), I y, I m, inD D] ⟨0, []⟩ (fun r _ => Q r) =
  (isD (VH.mk (0 + 1) [(0, VB.cells [VV.tl t.T.length 1 (dG t.T), I t.far, I t.least] 25)]) 4 (VV.tl l.length 5 (stG l)) (stD l) ∧ isD (VH.mk (0 + 1) [(0, VB.cells [VV.tl t.T.length 1 (dG t.T), I t.far, I t.least] 25)]) 4 (VV.agg [VV.tl t.T.length 1 (dG t.T), I t.far, I t.least]) (VV.agg (tsL t)) ∧ isD (VH.mk (0 + 1) [(0, VB.cells [VV.tl t.T.length 1 (dG t.T), I t.far, I t.least] 25)]) 4 (VV.tl D.length 1 (dG D)) (inD D) ∧ (conB l t (chD D) ∧ D.length = l.length ∧ (0 : Int) ≤ y ∧ y ≤ (1000 : Int)) ∧ ∀ (V : Vt), V = vtF l t (chD D) y → bif decide (m = (0 : Int)) then
 Q (VRes.ret (VV.bool (decide (V.v = (0 : Int)))))
 else bif V.k then
 Q (VRes.ret (VV.bool (decide (V.v ≥ m))))
 else Q (VRes.ret (VV.bool false))) := by kernel_rfl

end Go.Sx.Bln

/- blend: the document's choices, evaluated. -/

namespace Go.Sx.Bln
open Go Go.Sx Go.Proofs
set_option maxRecDepth 1000000

def ouD (N r : Nat) (g : Nat → Nat → List VV) : VV := .tl N 1 (fun k => [.tl r 1 (g k)])
def dsQ4 : List Nat := [7, 6, 5, 4, 3, 0]
def VQ4 (D : List Int) (N r : Nat) (g : Nat → Nat → List VV) (i k n c : Nat) : List VV := [I n, I k, .sl 1 c, I i, ouD N r g, inD D]
def BQ (c : Nat) (F : Nat → List VV) : List VB := [.vec c F 1 23]
theorem q4_ev (D : List Int) (N r : Nat) (g : Nat → Nat → List VV) (i k n c : Nat) (F : Nat → List VV) (X : VEx → List VV → List VB → Prop) : codeE Try.prog (callN Try.prog noSpec noL 10 20) (fun _ => none) true 10 (ntOf Try.prog 57) 0 (loopB 4 (bodyOf Try.prog 57)) (dsQ4.zip (VQ4 D N r g i k n c)) ⟨2, [1].zip (BQ c F)⟩ (obs 2 dsQ4 [1] X) =
  (bif decide ((0 : Int) ≤ (↑i : Int) ∧ (↑i : Int) < (↑D.length : Int)) then
 bif decide ((↑n : Int) ≤ D.getD (↑i : Int).toNat (0 : Int)) then
 bif decide ((0 : Int) ≤ (↑k : Int) ∧ (↑k : Int) < (↑N : Int)) then
 bif roomB (0 + r) (8) then
 bif (0 + r).beq (0 + r) then
 bif roomB (0 + r + 1) (8) then
 bif (0 + r + 1).beq (0 + r + 1) && Nat.ble 1 (1) && (occN (2) [] ((38, VV.sl (2) (0 + r + 1)) :: (37, VV.sl (3) 1) :: (36, I (↑n : Int)) :: (35, VV.sl (2) (0 + r)) :: (34, VV.tl r 1 (g (↑k : Int).toNat)) :: (33, VV.tp [VV.tl r 1 (g (↑k : Int).toNat)]) :: (32, I (↑k : Int)) :: (31, VV.tl N 1 fun (k : Nat) => [VV.tl r 1 (g k)]) :: (30, VV.sl (2) 0) :: (29, VV.sl 1 c) :: (26, VV.bool true) :: (26, VV.bool (decide ((↑n : Int) ≤ D.getD (↑i : Int).toNat (0 : Int)))) :: (25, I (D.getD (↑i : Int).toNat (0 : Int))) :: (24, VV.tp [I (D.getD (↑i : Int).toNat (0 : Int))]) :: (23, I (↑i : Int)) :: (22, VV.tl D.length 1 (dG D)) :: (21, I (↑n : Int)) :: dsQ4.zip (VQ4 D N r g i k n c))).ble 1 then
 bif c.beq c then
 bif roomB (c + 1) (24) then
 bif inK IntKind.i64 ((↑n : Int) + (1 : Int)) then
 X VEx.normal [I ((↑n : Int) + (1 : Int)), I (↑k : Int), VV.sl 1 (c + 1), I (↑i : Int), VV.tl N 1 fun (k : Nat) => [VV.tl r 1 (g k)], VV.tl D.length 1 (dG D)] [VB.vec (c + 1) (catG c F fun (j : Nat) => List.take (1) (List.drop (j * (1)) [VV.tl (0 + r + 1) (1) (catG (0 + r) (catG 0 (fun (j : Nat) => List.take (1) (List.drop (j * (1)) [])) (g (↑k : Int).toNat)) fun (j : Nat) => List.take (1) (List.drop (j * (1)) [I (↑n : Int)]))])) (1) 23]
 else False
 else False
 else False
 else bif (0 + r + 1).beq (0 + r + 1) && Nat.ble 1 (1) && !(2).beq (4) then
 bif c.beq c then
 bif roomB (c + 1) (24) then
 bif inK IntKind.i64 ((↑n : Int) + (1 : Int)) then
 X VEx.normal [I ((↑n : Int) + (1 : Int)), I (↑k : Int), VV.sl 1 (c + 1), I (↑i : Int), VV.tl N 1 fun (k : Nat) => [VV.tl r 1 (g k)], VV.tl D.length 1 (dG D)] [VB.vec (c + 1) (catG c F fun (j : Nat) => List.take (1) (List.drop (j * (1)) (List.take (1 * (1)) (List.drop 0 [VV.tl (0 + r + 1) (1) (catG (0 + r) (catG 0 (fun (j : Nat) => List.take (1) (List.drop (j * (1)) [])) (g (↑k : Int).toNat)) fun (j : Nat) => List.take (1) (List.drop (j * (1)) [I (↑n : Int)]))])))) (1) 23]
 else False
 else False
 else False
 else False
 else False
 else False
 else False
 else False
 else X (VEx.exit 4) [I (↑n : Int), I (↑k : Int), VV.sl 1 c, I (↑i : Int), VV.tl N 1 fun (k : Nat) => [VV.tl r 1 (g k)], VV.tl D.length 1 (dG D)] [VB.vec c F 1 (23 : TypeId)]
 else False) := by kernel_rfl

/-- A choice with one number more, as data. -/
def xtG (r : Nat) (G : Nat → List VV) (n : Nat) : Nat → List VV := catG r (catG 0 (fun j => List.take 1 (List.drop (j * 1) [])) G) fun j => List.take 1 (List.drop (j * 1) [I n])
def nQ (D : List Int) (i : Nat) : Nat := (D.getD i 0).toNat + 1
def FQ (r m : Nat) (g : Nat → Nat → List VV) (q : Nat) : List VV := [.tl (r + 1) 1 (xtG r (g (q / m)) (q % m))]
def dB (D : List Int) : Prop := D.length ≤ 6 ∧ ∀ i, i < D.length → 0 ≤ D.getD i 0 ∧ D.getD i 0 ≤ 6
def lQ4 (D : List Int) : LT := fun lock tt h K =>
  ∃ (N r : Nat) (g : Nat → Nat → List VV) (i k c : Nat) (F : Nat → List VV), FitP lock h tt ⟨2, [1].zip (BQ c F)⟩ (dsQ4.zip (VQ4 D N r g i k 0 c)) ∧ (dB D ∧ i < D.length ∧ k < N ∧ N ≤ 200000 ∧ r ≤ 6 ∧ c ≤ 1200000) ∧ K .normal (dsQ4.zip (VQ4 D N r g i k (nQ D i) (c + nQ D i))) ⟨2, [1].zip (BQ (c + nQ D i) (catG c F fun n => [.tl (r + 1) 1 (xtG r (g k) n)]))⟩
def dsQ2 : List Nat := [6, 5, 4, 3, 0]
def VQ2 (D : List Int) (N r : Nat) (g : Nat → Nat → List VV) (i k c : Nat) : List VV := [I k, .sl 1 c, I i, ouD N r g, inD D]
theorem q2_ev (D : List Int) (N r : Nat) (g : Nat → Nat → List VV) (i k c : Nat) (F : Nat → List VV) (X : VEx → List VV → List VB → Prop) : codeE Try.prog (callN Try.prog noSpec noL 10 20) (tabB [(4, lQ4 D)]) true 10 (ntOf Try.prog 57) 0 (loopB 2 (bodyOf Try.prog 57)) (dsQ2.zip (VQ2 D N r g i k c)) ⟨2, [1].zip (BQ c F)⟩ (obs 2 dsQ2 [1] X) =
  (bif decide ((↑k : Int) < (↑N : Int)) then
 ∃ (N_1 : Nat), ∃ (r_1 : Nat), ∃ (g_1 : Nat → Nat → List VV), ∃ (i_1 : Nat), ∃ (k_1 : Nat), ∃ (c_1 : Nat), ∃ (F_1 : Nat → List VV), FitP 0 (VH.mk 2 ([1].zip (BQ c F))) ((7, I 0) :: (18, VV.bool true) :: (18, VV.bool (decide ((↑k : Int) < (↑N : Int)))) :: (17, I (↑N : Int)) :: (16, VV.tl N 1 fun (k : Nat) => [VV.tl r 1 (g k)]) :: (15, I (↑k : Int)) :: dsQ2.zip (VQ2 D N r g i k c)) (VH.mk 2 ([1].zip (BQ c_1 F_1))) (dsQ4.zip (VQ4 D N_1 r_1 g_1 i_1 k_1 0 c_1)) ∧ (dB D ∧ i_1 < D.length ∧ k_1 < N_1 ∧ N_1 ≤ 200000 ∧ r_1 ≤ 6 ∧ c_1 ≤ 1200000) ∧ bif inK IntKind.i64 ((↑k_1 : Int) + (1 : Int)) then
 X VEx.normal [I ((↑k_1 : Int) + (1 : Int)), VV.sl 1 (c_1 + nQ D i_1), I (↑i_1 : Int), VV.tl N_1 1 fun (k : Nat) => [VV.tl r_1 1 (g_1 k)], VV.tl D.length 1 (dG D)] [VB.vec (c_1 + nQ D i_1) (catG c_1 F_1 fun (n : Nat) => [VV.tl (r_1 + 1) 1 (xtG r_1 (g_1 k_1) n)]) 1 (23 : TypeId)]
 else False
 else X (VEx.exit 2) [I (↑k : Int), VV.sl 1 c, I (↑i : Int), VV.tl N 1 fun (k : Nat) => [VV.tl r 1 (g k)], VV.tl D.length 1 (dG D)] [VB.vec c F 1 (23 : TypeId)]) := by kernel_rfl

def lQ2s (D : List Int) : LT := fun lock tt h K =>
  ∃ (N r : Nat) (g : Nat → Nat → List VV) (i : Nat), FitP lock h tt ⟨2, [1].zip (BQ 0 (dG []))⟩ (dsQ2.zip (VQ2 D N r g i 0 0)) ∧ (dB D ∧ i < D.length ∧ N ≤ 150000 ∧ r ≤ 6) ∧ K .normal (dsQ2.zip (VQ2 D N r g i N (N * nQ D i))) ⟨2, [1].zip (BQ (N * nQ D i) (FQ r (nQ D i) g))⟩
def lQ2 (D : List Int) : LT := fun lock tt h K =>
  ∃ (N r : Nat) (g : Nat → Nat → List VV) (i : Nat), FitP lock h tt ⟨1, []⟩ (dsQ2.zip [I 0, .nils, I i, ouD N r g, inD D]) ∧ (dB D ∧ i < D.length ∧ N ≤ 150000 ∧ r ≤ 6) ∧ K .normal (dsQ2.zip (VQ2 D N r g i N (N * nQ D i))) ⟨2, [1].zip (BQ (N * nQ D i) (FQ r (nQ D i) g))⟩
def dsQ0 : List Nat := [4, 3, 0]
def VQ0 (D : List Int) (N r : Nat) (g : Nat → Nat → List VV) (i : Nat) : List VV := [I i, ouD N r g, inD D]
theorem q0_ev (D : List Int) (N r : Nat) (g : Nat → Nat → List VV) (i : Nat) (X : VEx → List VV → List VB → Prop) : codeE Try.prog (callN Try.prog noSpec noL 10 20) (tabB [(2, lQ2 D)]) true 10 (ntOf Try.prog 57) 0 (loopB 0 (bodyOf Try.prog 57)) (dsQ0.zip (VQ0 D N r g i)) ⟨1, ([] : List Nat).zip []⟩ (obsT [3] 1 dsQ0 [] X) =
  (bif decide ((↑i : Int) < (↑D.length : Int)) then
 ∃ (N_1 : Nat), ∃ (r_1 : Nat), ∃ (g_1 : Nat → Nat → List VV), ∃ (i_1 : Nat), FitP 0 (VH.mk 1 ([].zip [])) ((6, I 0) :: (5, VV.nils) :: (12, VV.bool true) :: (12, VV.bool (decide ((↑i : Int) < (↑D.length : Int)))) :: (11, I (↑D.length : Int)) :: (10, VV.tl D.length 1 (dG D)) :: (9, I (↑i : Int)) :: dsQ0.zip (VQ0 D N r g i)) (VH.mk 1 []) (dsQ2.zip [I 0, VV.nils, I (↑i_1 : Int), ouD N_1 r_1 g_1, inD D]) ∧ (dB D ∧ i_1 < D.length ∧ N_1 ≤ 150000 ∧ r_1 ≤ 6) ∧ bif inK IntKind.i64 ((↑i_1 : Int) + (1 : Int)) then
 bif (N_1 * nQ D i_1).beq (N_1 * nQ D i_1) && Nat.ble 1 1 then
 X VEx.normal [I ((↑i_1 : Int) + (1 : Int)), VV.tl (N_1 * nQ D i_1) 1 (FQ r_1 (nQ D i_1) g_1), VV.tl D.length 1 (dG D)] []
 else False
 else False
 else X (VEx.exit 0) [I (↑i : Int), VV.tl N 1 fun (k : Nat) => [VV.tl r 1 (g k)], VV.tl D.length 1 (dG D)] []) := by kernel_rfl

def nilG : Nat → List VV := fun j => List.take 1 (List.drop (j * 1) [VV.nils])
def nC (D : List Int) : Nat → Nat
  | 0 => 1
  | i + 1 => nC D i * nQ D i
def gC (D : List Int) : Nat → Nat → Nat → List VV
  | 0 => fun _ _ => []
  | i + 1 => fun q => xtG i (gC D i (q / nQ D i)) (q % nQ D i)
def lQ0 (D : List Int) : LT := fun lock tt h K =>
  FitP lock h tt ⟨1, [0].zip [.vec 1 nilG 1 23]⟩ (dsQ0.zip [I 0, .sl 0 1, inD D]) ∧ dB D ∧ K .normal (dsQ0.zip (VQ0 D (nC D D.length) D.length (gC D D.length) D.length)) ⟨1, ([] : List Nat).zip []⟩
theorem q_ev (D : List Int) (Q : VRes → VH → Prop) : callN Try.prog noSpec (atF 57 [(0, lQ0 D)]) 10 20 0 (.fn 57) [inD D] ⟨0, []⟩ (fun r h => Q r h) =
  (FitP 0 (VH.mk 1 ([0].zip [VB.vec 1 nilG 1 (23 : TypeId)])) (dsQ0.zip [I 0, VV.sl 0 1, inD D]) (VH.mk 1 ([0].zip [VB.vec 1 nilG 1 (23 : TypeId)])) (dsQ0.zip [I 0, VV.sl 0 1, inD D]) ∧ dB D ∧ Q (VRes.ret (VV.tl (nC D D.length) 1 fun (k : Nat) => [VV.tl D.length 1 (gC D D.length k)])) (VH.mk 1 [])) := by kernel_rfl

end Go.Sx.Bln

/- blend: the document's choices. -/

namespace Go.Sx
open Go
section
variable {P : Program}
/-- A slot's value told otherwise. -/
theorem told_weak {t : Slots} {h : VH} {d : Nat} {v v' : VV} (hd : look t d = v) (hv : ∀ R x, VRel R v x → VRel R v' x) : ToldT t h ((d, v') :: t) h := fun _ R a w e ht => ⟨R, Nxt.refl _ _ _ e.fresh, e, fun x => by
  rw [look_cons]
  by_cases hx : d = x
  · subst hx
    rw [if_pos rfl]
    have := ht d
    rw [hd] at this
    exact hv R _ this
  · rw [if_neg hx]
    exact ht x⟩

/-- A loop's row: some slots told as data behind each round, and the state told otherwise ahead of the loop. -/
theorem loop_rowW {σ : Type} (hmix : P.follows .mixedOrders = true) {call : CallT} (hg : Good P call) {lsp : σ → Nat → Option LT} {un n nx id : Nat} {zs : List Nat} {ds ns : List Nat} {b : Code} {T : LT} (V : σ → List VV) (Bk : σ → List VB) (Inv : σ → Prop) (μ : σ → Nat) (Out : σ → VEx → List VV → List VB → Prop)
    (hls : ∀ s, Inv s → ∀ id T, lsp s id = some T → ∀ b' ∈ blocksOf id b, LSound P true (.block id b') n T)
    (hr : ∀ s, Inv s → codeE P call (lsp s) true un n 0 b (ds.zip (V s)) ⟨nx, ns.zip (Bk s)⟩ (obsT zs nx ds ns (RoundQ V Bk Inv μ Out s)))
    (hT : ∀ lock t h K, T lock t h K → ∃ h0 t0, FitP lock h t h0 t0 ∧ ∃ t2 h2, ToldT t0 h0 t2 h2 ∧ ∃ s, FitP 0 h2 t2 ⟨nx, ns.zip (Bk s)⟩ (ds.zip (V s)) ∧ Inv s ∧ ∀ e vs bs, Out s e vs bs → K (exitOf id e) (ds.zip vs) ⟨nx, ns.zip bs⟩) :
    LSound P true (.block id (.loop b)) n T := by
  intro lock t h K hK
  obtain ⟨h0, t0, hf0, t2, h2, htd, s, hf, hi, hO⟩ := hT lock t h K hK
  have hl0 := hf0.1.1
  subst hl0
  obtain ⟨e, vs, bs, w1, w2, w3⟩ := loop_allT hmix hg V Bk Inv μ Out hls hr s hi
  refine ⟨_, _, _, hO e vs bs w1, lock0 _ _, sem_fit hf0 (sem_told htd (sem_fit hf (block_sound (loopTo_sound w3) ?_)))⟩
  cases e with
  | exit id' =>
    by_cases hid : id' = id
    · subst hid
      exact .inl ⟨rfl, by simp [exitOf]⟩
    · exact .inr ⟨by simpa using hid, by simp [exitOf, beq_f hid]⟩
  | _ => exact .inr ⟨by simp, rfl⟩
end
end Go.Sx

namespace Go.Sx.Bln
open Go Go.Sx Go.Proofs
set_option maxRecDepth 1000000

theorem catG_lt {L j : Nat} {f g : Nat → List VV} (h : j < L) : catG L f g j = f j := by
  unfold catG
  rw [show Nat.blt j L = true from Nat.blt_eq.mpr h]
  rfl
theorem catG_ge {L j : Nat} {f g : Nat → List VV} (h : L ≤ j) : catG L f g j = g (j - L) := by
  unfold catG
  rw [show Nat.blt j L = false from Bool.eq_false_iff.2 (fun hh => by have := Nat.blt_eq.mp hh; omega)]
  rfl
theorem room8 {n : Nat} (h : n ≤ 100) : roomB n 8 = true := by
  unfold roomB
  rw [Nat.ble_eq_true_of_le (by omega), Nat.ble_eq_true_of_le (by omega)]
  rfl
theorem room24 {n : Nat} (h : n ≤ 2000000) : roomB n 24 = true := by
  unfold roomB
  rw [Nat.ble_eq_true_of_le (by omega), Nat.ble_eq_true_of_le (by omega)]
  rfl

theorem fit_ext {L : Nat} {g g' : Nat → List VV} {s : Nat} {t : TypeId} {b : VB} (h : (VB.vec L g s t).fit b) (h2 : ∀ i, i < L → g' i = g i) : (VB.vec L g' s t).fit b := by
  obtain ⟨g'', rfl, h3⟩ := VB.fit_vec h
  exact ⟨rfl, rfl, rfl, fun i hi => (h3 i hi).trans (h2 i hi).symm⟩

section
variable {D : List Int}

theorem nQ_bd (h : dB D) {i : Nat} (hi : i < D.length) : 1 ≤ nQ D i ∧ nQ D i ≤ 7 := by
  have := h.2 i hi
  unfold nQ
  omega

structure SQ4 where
  N : Nat
  r : Nat
  g : Nat → Nat → List VV
  i : Nat
  k : Nat
  c : Nat
  F : Nat → List VV
  n : Nat
abbrev hQ4 (r : Nat) (g : Nat → Nat → List VV) (k : Nat) (n : Nat) : List VV := [.tl (r + 1) 1 (xtG r (g k) n)]

theorem lQ4_ok : LSound Try.prog true (.block 4 (.loop (loopB 4 (bodyOf Try.prog 57)))) (ntOf Try.prog 57) (lQ4 D) := by
  by_cases hD : dB D
  · refine loop_row hmix good0 (un := 10) (ds := dsQ4) (ns := [1]) (nx := 2) (fun s : SQ4 => VQ4 D s.N s.r s.g s.i s.k s.n (s.c + s.n)) (fun s => BQ (s.c + s.n) (catG s.c s.F (hQ4 s.r s.g s.k))) (fun s => s.i < D.length ∧ s.k < s.N ∧ s.N ≤ 200000 ∧ s.r ≤ 6 ∧ s.c ≤ 1200000 ∧ s.n ≤ nQ D s.i) (fun s => nQ D s.i - s.n) (fun s e vs bs => e = .exit 4 ∧ bs = BQ (s.c + nQ D s.i) (catG s.c s.F (hQ4 s.r s.g s.k)) ∧ vs = VQ4 D s.N s.r s.g s.i s.k (nQ D s.i) (s.c + nQ D s.i)) noL_ok ?_ ?_
    · rintro ⟨N, r, g, i, k, c, F, n⟩ ⟨hi, hk, hN, hr, hc, hn⟩
      dsimp only at hi hk hN hr hc hn ⊢
      refine cast (q4_ev D N r g i k n (c + n) _ _).symm ?_
      have h7 := nQ_bd hD hi
      have hdi := hD.2 i hi
      have hnq : nQ D i = (D.getD i 0).toNat + 1 := rfl
      generalize hRQ : RoundQ (σ := SQ4) _ _ _ _ _ _ = RQ
      rw [show (i : Int).toNat = i by omega, show (k : Int).toNat = k by omega, Nat.zero_add]
      by_cases hlt : n < nQ D i
      · have fin : ∀ G : Nat → List VV, (∀ q, q < c + n + 1 → G q = catG c F (hQ4 r g k) q) → RQ .normal [I ((n : Int) + 1), I k, .sl 1 (c + n + 1), I i, .tl N 1 fun (k : Nat) => [.tl r 1 (g k)], .tl D.length 1 (dG D)] [.vec (c + n + 1) G 1 23] := by
          intro G hG
          rw [← hRQ]
          refine ⟨⟨N, r, g, i, k, c, F, n + 1⟩, ⟨hi, hk, hN, hr, hc, by dsimp only; omega⟩, by dsimp only; omega, rfl, ⟨⟨rfl, rfl, rfl, hG⟩, trivial⟩, fun _ _ _ h => h⟩
        have fin2 : RQ .normal [I ((n : Int) + 1), I k, .sl 1 (c + n + 1), I i, .tl N 1 fun (k : Nat) => [.tl r 1 (g k)], .tl D.length 1 (dG D)] [.vec (c + n + 1) (catG (c + n) (catG c F (hQ4 r g k)) fun (j : Nat) => List.take 1 (List.drop (j * 1) [.tl (r + 1) 1 (xtG r (g k) n)])) 1 23] := by
          refine fin _ (fun q hq => ?_)
          by_cases hq2 : q < c + n
          · rw [catG_lt hq2]
          · obtain rfl : q = c + n := by omega
            rw [catG_ge (Nat.le_refl _), catG_ge (by omega), Nat.sub_self, show c + n - c = n by omega]
            rfl
        refine cond_dk ⟨by omega, by omega⟩ (cond_dk (by omega) (cond_dk ⟨by omega, by omega⟩ (cond_k (room8 (by omega)) (cond_k (Nat.beq_refl _) (cond_k (room8 (by omega)) ?_)))))
        refine cond_i (fun _ => cond_k (Nat.beq_refl _) (cond_k (room24 (by omega)) (cond_r (by omega) fin2))) (fun _ => cond_k (by rw [Nat.beq_refl]; rfl) (cond_k (Nat.beq_refl _) (cond_k (room24 (by omega)) (cond_r (by omega) fin2))))
      · obtain rfl : n = nQ D i := by omega
        refine cond_dk ⟨by omega, by omega⟩ (cond_d (fun h => by omega) (fun _ => ?_))
        rw [← hRQ]
        exact ⟨rfl, rfl, rfl⟩
    · rintro lock tt h K ⟨N, r, g, i, k, c, F, hf, ⟨_, h2, h3, h4, h5, h6⟩, k1⟩
      refine ⟨⟨N, r, g, i, k, c, F, 0⟩, ?_, ⟨h2, h3, h4, h5, h6, Nat.zero_le _⟩, ?_⟩
      · obtain ⟨⟨rfl, e1, e2, _⟩, e3⟩ := hf
        exact ⟨⟨rfl, e1, fit_ext e2 (fun q hq => catG_lt hq), trivial⟩, e3⟩
      rintro e vs bs ⟨rfl, rfl, rfl⟩
      exact k1
  · rintro lock tt h K ⟨_, _, _, _, _, _, _, hf, ⟨hc, _⟩, _⟩
    exact (hD hc).elim

structure SQ2 where
  N : Nat
  r : Nat
  g : Nat → Nat → List VV
  i : Nat
  k : Nat

theorem lQ2s_ok : LSound Try.prog true (.block 2 (.loop (loopB 2 (bodyOf Try.prog 57)))) (ntOf Try.prog 57) (lQ2s D) := by
  by_cases hD : dB D
  · refine loop_row hmix good0 (lsp := tabB [(4, lQ4 D)]) (un := 10) (ds := dsQ2) (ns := [1]) (nx := 2) (fun s : SQ2 => VQ2 D s.N s.r s.g s.i s.k (s.k * nQ D s.i)) (fun s => BQ (s.k * nQ D s.i) (FQ s.r (nQ D s.i) s.g)) (fun s => s.i < D.length ∧ s.N ≤ 150000 ∧ s.r ≤ 6 ∧ s.k ≤ s.N) (fun s => s.N - s.k) (fun s e vs bs => e = .exit 2 ∧ bs = BQ (s.N * nQ D s.i) (FQ s.r (nQ D s.i) s.g) ∧ vs = VQ2 D s.N s.r s.g s.i s.N (s.N * nQ D s.i)) (lsp_one (by kernel_rfl) lQ4_ok) ?_ ?_
    · rintro ⟨N, r, g, i, k⟩ ⟨hi, hN, hr, hk⟩
      dsimp only at hi hN hr hk ⊢
      refine cast (q2_ev D N r g i k (k * nQ D i) _ _).symm ?_
      have h7 := nQ_bd hD hi
      by_cases hlt : k < N
      · have hm : k * nQ D i ≤ N * 7 := Nat.mul_le_mul hk h7.2
        refine cond_dk (by omega) ⟨N, r, g, i, k, k * nQ D i, FQ r (nQ D i) g, ⟨⟨rfl, rfl, VB.fit_refl _, trivial⟩, rfl, rfl, rfl, rfl, rfl, rfl, trivial⟩, ⟨hD, hi, hlt, by omega, hr, by omega⟩, cond_r (by omega) ⟨⟨N, r, g, i, k + 1⟩, ⟨hi, hN, hr, by dsimp only; omega⟩, by dsimp only; omega, ?_, ⟨⟨?_, rfl, rfl, fun q hq => ?_⟩, trivial⟩, fun _ _ _ h => h⟩⟩
        · dsimp only
          rw [Nat.succ_mul]
          rfl
        · rw [Nat.succ_mul]
        · dsimp only at hq
          rw [Nat.succ_mul] at hq
          by_cases hq2 : q < k * nQ D i
          · rw [catG_lt hq2]
          · rw [catG_ge (by omega)]
            unfold FQ
            have hq3 : q = k * nQ D i + (q - k * nQ D i) := by omega
            have hlt2 : q - k * nQ D i < nQ D i := by omega
            generalize q - k * nQ D i = u at hq3 hlt2
            subst hq3
            have e1 : (k * nQ D i + u) / nQ D i = k := by
              rw [Nat.mul_comm, Nat.mul_add_div (by omega), Nat.div_eq_of_lt hlt2, Nat.add_zero]
            have e2 : (k * nQ D i + u) % nQ D i = u := by
              rw [Nat.mul_comm, Nat.mul_add_mod, Nat.mod_eq_of_lt hlt2]
            rw [e1, e2]
      · obtain rfl : k = N := by omega
        exact cond_d (fun h => by omega) (fun _ => ⟨rfl, rfl, rfl⟩)
    · rintro lock tt h K ⟨N, r, g, i, hf, ⟨_, h2, h3, h4⟩, k1⟩
      refine ⟨⟨N, r, g, i, 0⟩, ?_, ⟨h2, h3, h4, Nat.zero_le _⟩, ?_⟩
      · dsimp only
        rw [Nat.zero_mul]
        obtain ⟨⟨rfl, e1, e2, _⟩, e3⟩ := hf
        exact ⟨⟨rfl, e1, fit_ext e2 (fun q hq => by omega), trivial⟩, e3⟩
      rintro e vs bs ⟨rfl, rfl, rfl⟩
      exact k1
  · rintro lock tt h K ⟨_, _, _, _, hf, ⟨hc, _⟩, _⟩
    exact (hD hc).elim
end
end Go.Sx.Bln

/- blend: the document's choices: the outer loop, and the row. -/

namespace Go.Sx.Bln
open Go Go.Sx Go.Proofs
set_option maxRecDepth 1000000

section
variable {D : List Int}

theorem lQ2_ok : LSound Try.prog true (.block 2 (.loop (loopB 2 (bodyOf Try.prog 57)))) (ntOf Try.prog 57) (lQ2 D) := by
  rintro lock t h K ⟨N, r, g, i, hf, hc, k1⟩
  have key : LSound Try.prog true (.block 2 (.loop (loopB 2 (bodyOf Try.prog 57)))) (ntOf Try.prog 57) (fun lock t h K => FitP lock h t ⟨1, []⟩ (dsQ2.zip [I 0, .nils, I i, ouD N r g, inD D]) ∧ (dB D ∧ i < D.length ∧ N ≤ 150000 ∧ r ≤ 6) ∧ K .normal (dsQ2.zip (VQ2 D N r g i N (N * nQ D i))) ⟨2, [1].zip (BQ (N * nQ D i) (FQ r (nQ D i) g))⟩) :=
    ghost_row (d := 5) (nx := 1) (bs := []) (t0 := [6, 4, 3, 0].zip [I 0, I i, ouD N r g, inD D]) (dG []) 1 23 (lQ2s_ok (D := D)) (by
      rintro lock t h K ⟨hf, hc, k1⟩
      refine ⟨⟨hf.1, ?_⟩, N, r, g, i, ⟨⟨rfl, rfl, VB.fit_refl _, trivial⟩, rfl, rfl, rfl, rfl, rfl, trivial⟩, hc, k1⟩
      obtain ⟨h1, h2, h3⟩ := hf.2
      exact ⟨h2, h1, h3⟩)
  exact key lock t h K ⟨hf, hc, k1⟩

theorem nC_bd (hD : dB D) : ∀ i, i ≤ D.length → nC D i ≤ 7 ^ i
  | 0, _ => Nat.le_refl _
  | i + 1, h => by
    show nC D i * nQ D i ≤ 7 ^ i * 7
    exact Nat.mul_le_mul (nC_bd hD i (by omega)) (nQ_bd hD (by omega)).2
theorem nC_le (hD : dB D) {i : Nat} (h : i ≤ D.length) : nC D i ≤ 150000 := by
  have h1 := nC_bd hD i h
  have h2 : 7 ^ i ≤ 7 ^ 6 := Nat.pow_le_pow_right (by omega) (by have := hD.1; omega)
  have h3 : 7 ^ 6 = 117649 := rfl
  omega

theorem wk_one {R : Rn} {a b : VV} (h : wkL [a] [b]) (x : Value) (hx : VRel R a x) : VRel R b x := by
  obtain ⟨y, ys, h1, _, h3⟩ := h.1 R [x] ⟨x, [], hx, rfl, rfl⟩
  simp only [List.cons.injEq] at h3
  rw [h3.1]
  exact h1
theorem wk_nil {g : Nat → List VV} {s : Nat} : wkL [.nils] [.tl 0 s g] := by
  refine ⟨fun R xs hx => ?_, fun _ => rfl, rfl⟩
  obtain ⟨y, ys, h1, h2, rfl⟩ := hx
  simp only [VRel] at h1
  exact ⟨y, ys, ⟨none, 0, h1, ⟨Nat.le_refl _, fun _ => rfl⟩, fun i hi => absurd hi (by omega)⟩, h2, rfl⟩

theorem lQ0_ok : LSound Try.prog true (.block 0 (.loop (loopB 0 (bodyOf Try.prog 57)))) (ntOf Try.prog 57) (lQ0 D) := by
  by_cases hD : dB D
  · refine loop_rowW hmix good0 (lsp := fun _ => tabB [(2, lQ2 D)]) (un := 10) (zs := [3]) (ds := dsQ0) (ns := []) (nx := 1) (fun i : Nat => VQ0 D (nC D i) i (gC D i) i) (fun _ => []) (fun i => i ≤ D.length) (fun i => D.length - i) (fun _ e vs bs => e = .exit 0 ∧ bs = [] ∧ vs = VQ0 D (nC D D.length) D.length (gC D D.length) D.length) (fun _ _ => lsp_one (by kernel_rfl) lQ2_ok) ?_ ?_
    · rintro i h0
      refine cast (q0_ev D (nC D i) i (gC D i) i _).symm ?_
      have h6 := hD.1
      by_cases hlt : i < D.length
      · refine cond_dk (by omega) ⟨nC D i, i, gC D i, i, ⟨⟨rfl, rfl, trivial⟩, rfl, rfl, rfl, rfl, rfl, trivial⟩, ⟨hD, hlt, nC_le hD h0, by omega⟩, cond_r (by omega) (cond_k (by rw [Nat.beq_refl]; rfl) ⟨i + 1, by dsimp only; omega, by dsimp only; omega, rfl, trivial, fun _ _ _ h => h⟩)⟩
      · obtain rfl : i = D.length := by omega
        exact cond_d (fun h => by omega) (fun _ => ⟨rfl, rfl, rfl⟩)
    · rintro lock tt h K ⟨hf, _, k1⟩
      refine ⟨_, _, hf, _, _, (told_one (d := 3) (b := 0) (L := 1) (s := 1) (g := nilG) (ty := 23) rfl rfl).trans (told_weak (d := 3) (v := .tl 1 1 nilG) (v' := ouD 1 0 (gC D 0)) rfl fun R x hx => wk_one (tl_weak rfl fun i hi => ?_) x hx), 0, ⟨⟨rfl, rfl, trivial⟩, rfl, rfl, rfl, trivial⟩, Nat.zero_le _, ?_⟩
      · obtain rfl : i = 0 := by omega
        exact wk_nil
      · rintro e vs bs ⟨rfl, rfl, rfl⟩
        exact k1
  · rintro lock tt h K ⟨hf, hc, _⟩
    exact (hD hc).elim

theorem choices_v (hD : dB D) : ∃ h', CallsV Try.prog 57 [inD D] ⟨0, []⟩ (.ret (ouD (nC D D.length) D.length (gC D D.length))) h' := by
  have hall : LoopsOk Try.prog 57 [(0, lQ0 D)] := fun x hx => by
    simp only [List.mem_singleton] at hx
    subst hx
    exact ⟨by kernel_rfl, lQ0_ok⟩
  obtain ⟨r, h', rfl, hc⟩ := of_callN (callL_good hmix noSp hall (un := 10) 20) (f := 57) (args := [inD D]) (h := ⟨0, []⟩) (K := fun r _ => r = .ret (ouD (nC D D.length) D.length (gC D D.length))) (by
    refine cast (q_ev D _).symm ?_
    exact ⟨fitP_self rfl, hD, rfl⟩)
  exact ⟨h', hc⟩
end
end Go.Sx.Bln

/- blend: the document's choices are all choices, in their order. -/

namespace Go.Sx.Bln
open Go Go.Sx Go.Proofs
set_option maxRecDepth 100000

theorem flat_len {α β : Type} {m : Nat} {f : α → List β} : ∀ {L : List α}, (∀ a ∈ L, (f a).length = m) → (L.flatMap f).length = L.length * m
  | [], _ => by simp
  | a :: L, h => by
    rw [List.flatMap_cons, List.length_append, flat_len (fun b hb => h b (List.mem_cons_of_mem _ hb)), h a List.mem_cons_self, List.length_cons, Nat.succ_mul, Nat.add_comm]
theorem flat_get {α β : Type} {m : Nat} {f : α → List β} {d : β} (d0 : α) (hm : 0 < m) : ∀ {L : List α}, (∀ a ∈ L, (f a).length = m) → ∀ q, q < L.length * m → (L.flatMap f).getD q d = (f (L.getD (q / m) d0)).getD (q % m) d
  | [], _, q, hq => by simp at hq
  | a :: L, h, q, hq => by
    rw [List.flatMap_cons]
    by_cases hlt : q < m
    · rw [Nat.div_eq_of_lt hlt, Nat.mod_eq_of_lt hlt, List.getD_eq_getElem?_getD, List.getElem?_append_left (by rw [h a List.mem_cons_self]; exact hlt), ← List.getD_eq_getElem?_getD]
      rfl
    · have e : q = (q - m) + m := by omega
      rw [List.getD_eq_getElem?_getD, List.getElem?_append_right (by rw [h a List.mem_cons_self]; omega), ← List.getD_eq_getElem?_getD, h a List.mem_cons_self, flat_get d0 hm (fun b hb => h b (List.mem_cons_of_mem _ hb)) (q - m) (by rw [List.length_cons, Nat.succ_mul] at hq; omega)]
      have e1 : q / m = (q - m) / m + 1 := by
        conv => lhs; rw [e]
        exact Nat.add_div_right _ hm
      have e2 : q % m = (q - m) % m := by
        conv => lhs; rw [e]
        exact Nat.add_mod_right _ _
      rw [e1, e2]
      rfl

section
variable {D : List Int} {most : Nat → Int}

theorem rowC_len {k : Nat} (h : most k = D.getD k 0) (c : Nat → Int) : (rowC most k c).length = nQ D k := by
  unfold rowC nQ
  rw [List.length_map, List.length_range, h]
theorem allC_len (h : ∀ i, most i = D.getD i 0) : ∀ k, (allC most k).length = nC D k
  | 0 => rfl
  | k + 1 => by
    show ((allC most k).flatMap (rowC most k)).length = nC D k * nQ D k
    rw [flat_len (fun a _ => rowC_len (h k) a), allC_len h k]
theorem chAt_succ (h : ∀ i, most i = D.getD i 0) {k q : Nat} (hq : q < nC D (k + 1)) : chAt most (k + 1) q = setC (chAt most k (q / nQ D k)) k ((q % nQ D k : Nat) : Int) := by
  have hm : 0 < nQ D k := Nat.succ_pos _
  show ((allC most k).flatMap (rowC most k)).getD q (fun _ => 0) = _
  rw [flat_get (fun _ => 0) hm (fun a _ => rowC_len (h k) a) q (by rw [allC_len h]; exact hq)]
  have hlt : q % nQ D k < nQ D k := Nat.mod_lt _ hm
  unfold rowC chAt
  rw [List.getD_eq_getElem?_getD, List.getElem?_map, List.getElem?_range (by rw [h]; exact hlt)]
  rfl

theorem gC_eq (h : ∀ i, most i = D.getD i 0) : ∀ i q j, q < nC D i → j < i → gC D i q j = chG (chAt most i q) j
  | 0, _, _, _, hj => by omega
  | i + 1, q, j, hq, hj => by
    have hm : 0 < nQ D i := Nat.succ_pos _
    have hq2 : q / nQ D i < nC D i := (Nat.div_lt_iff_lt_mul hm).2 hq
    rw [chAt_succ h hq]
    show xtG i (gC D i (q / nQ D i)) (q % nQ D i) j = [I (setC (chAt most i (q / nQ D i)) i ((q % nQ D i : Nat) : Int) j)]
    unfold xtG
    by_cases hji : j < i
    · rw [catG_lt hji, catG_ge (Nat.zero_le _), Nat.sub_zero, gC_eq h i _ j hq2 hji, setC_get, if_neg (by omega)]
      rfl
    · obtain rfl : j = i := by omega
      rw [catG_ge (Nat.le_refl _), Nat.sub_self, setC_same]
      rfl

/-- All choices, as data. -/
def allD (most : Nat → Int) (k : Nat) : VV := .tl (allC most k).length 1 (fun j => [.tl k 1 (chG (chAt most k j))])

theorem choices_d (h : ∀ i, most i = D.getD i 0) (hD : dB D) : ∃ h', CallsV Try.prog 57 [inD D] ⟨0, []⟩ (.ret (allD most D.length)) h' := by
  obtain ⟨h', hc⟩ := choices_v hD
  refine ⟨h', calls_res hc (fun R x hx => wk_one (tl_weak (allC_len h _) fun q hq => ?_) x hx)⟩
  refine tl_weak rfl fun j hj => ?_
  rw [gC_eq h _ _ _ hq hj]
  exact wkL_refl _
end

/-- The document's choices over an own list, as a row. -/
def choT : FuncId × Spec1 := (57, fun lock args h K => match args, h with
  | [.sl m L], ⟨nx, bs⟩ => lock = 0 ∧ ∃ (D : List Int) (most : Nat → Int) (g : Nat → List VV) (ty : TypeId), (VH.mk nx bs).at m = .vec L g 1 ty ∧ D.length = L ∧ (∀ i, i < L → g i = dG D i) ∧ (∀ i, most i = D.getD i 0) ∧ dB D ∧ K (.ret (allD most L)) ⟨nx, (m, .gone) :: bs⟩
  | _, _ => False)
theorem choT_ok : SpOk Try.prog choT.1 choT.2 := by
  intro lock args h K hK
  simp only [choT] at hK
  split at hK
  · rename_i m L nx bs
    obtain ⟨rfl, D, most, g, ty, hm, rfl, hg, h1, h2, hK⟩ := hK
    obtain ⟨h', hc⟩ := choices_d h1 h2
    have hc3 : CallsV Try.prog 57 [inD D] ⟨nx, (m, .gone) :: bs⟩ (.ret (allD most D.length)) ⟨nx, (m, .gone) :: bs⟩ := calls_lift0 hc rfl rfl
    have hc4 : CallsV Try.prog 57 [.tl D.length 1 g] ⟨nx, (m, .gone) :: bs⟩ (.ret (allD most D.length)) ⟨nx, (m, .gone) :: bs⟩ := calls_args hc3 (fun R xs hx => by
      obtain ⟨y0, _, k0, k3, rfl⟩ := hx
      exact ⟨_, _, wk_one (tl_weak rfl fun i hi => by rw [hg i hi]; exact wkL_refl _) y0 k0, k3, rfl⟩)
    refine ⟨_, _, hK, lock0 _ _, calls_told (h := ⟨nx, bs⟩) (m := m) (L := D.length) (s := 1) (g := g) (t := ty) hc4 hm (fun R R' xs hle hv hxs => ?_)⟩
    obtain ⟨y0, _, k0, k3, rfl⟩ := hxs
    exact ⟨_, _, hv y0 k0, VRelL.mono hle _ _ k3, rfl⟩
  · exact hK.elim
end Go.Sx.Bln

/- blend: the document's casks and Meets. -/

namespace Go.Sx.Bln
open Go Go.Sx Go.Proofs
set_option maxRecDepth 1000000

section
variable {l : List Stk} {t : Tst} {y m : Int} {D : List Int}

theorem lK1_ok : LSound Try.prog true (.block 0 (.loop (loopB 0 (bodyOf Try.prog 51)))) (ntOf Try.prog 51) (lK1 l) := by
  by_cases hn : l.length ≤ 6
  · refine loop_row hmix good0 (un := 10) (ds := dsK1) (ns := [0]) (nx := 1) (fun i : Nat => VK1 l i) (fun i => BK1 l i) (fun i => i ≤ l.length) (fun i => l.length - i) (fun _ e vs bs => e = .exit 0 ∧ bs = BK1 l l.length ∧ vs = VK1 l l.length) noL_ok ?_ ?_
    · rintro i h0
      refine cast (k1_ev l i _).symm ?_
      by_cases hlt : i < l.length
      · refine cond_dk (by omega) (cond_dk ⟨by omega, by omega⟩ (cond_k (Nat.beq_refl _) (cond_k (room8 (by omega)) (cond_r (by omega) ⟨i + 1, by omega, by dsimp only; omega, rfl, ⟨⟨rfl, rfl, rfl, fun q hq => ?_⟩, trivial⟩, fun _ _ _ h => h⟩))))
        by_cases hq2 : q < i
        · rw [catG_lt hq2]
        · obtain rfl : q = i := by omega
          rw [catG_ge (Nat.le_refl _), Nat.sub_self, show (q : Int).toNat = q by omega]
          rfl
      · obtain rfl : i = l.length := by omega
        exact cond_d (fun h => by omega) (fun _ => ⟨rfl, rfl, rfl⟩)
    · rintro lock tt h K ⟨hf, _, k1⟩
      refine ⟨0, hf, Nat.zero_le _, ?_⟩
      rintro e vs bs ⟨rfl, rfl, rfl⟩
      exact k1
  · rintro lock tt h K ⟨hf, hc, _⟩
    exact (hn hc).elim

theorem casks_n (hn : l.length ≤ 6) : CallsV Try.prog 51 [stD l] ⟨0, []⟩ (.ret (.sl 0 l.length)) ⟨1, [(0, .vec l.length (chG (mostF l)) 1 3)]⟩ := by
  have hall : LoopsOk Try.prog 51 [(0, lK1 l)] := fun x hx => by
    simp only [List.mem_singleton] at hx
    subst hx
    exact ⟨by kernel_rfl, lK1_ok⟩
  obtain ⟨r, h', ⟨rfl, rfl⟩, hc⟩ := of_callN (callL_good hmix noSp hall (un := 10) 20) (f := 51) (args := [stD l]) (h := ⟨0, []⟩) (K := fun r h' => r = .ret (.sl 0 l.length) ∧ h' = ⟨1, [(0, .vec l.length (chG (mostF l)) 1 3)]⟩) (by
    refine cast (kf_ev l _).symm ⟨?_, hn, rfl, rfl⟩
    exact ⟨⟨rfl, rfl, ⟨rfl, rfl, rfl, fun i hi => by omega⟩, trivial⟩, rfl, rfl, rfl, trivial⟩)
  exact hc

theorem rblR_ok (l : List Stk) (t : Tst) (D : List Int) : SpOk Try.prog (rblR l t D).1 (rblR l t D).2 := by
  intro lock args h K hK
  simp only [rblR] at hK
  split at hK
  · obtain ⟨h1, h2, h3, h4, hK⟩ := hK
    exact rblT_ok lock _ h K ⟨l, t, D, h1, h2, h3, h4, hK⟩
  · exact hK.elim
theorem rmeets_v (hh : conB l t (chD D)) (hD : D.length = l.length) (hy : 0 ≤ y ∧ y ≤ 1000) : ∃ h', CallsV Try.prog 58 [stD l, .agg (tsL t), I y, I m, inD D] ⟨0, []⟩ (.ret (.bool (meetsF l t (chD D) y m))) h' := by
  obtain ⟨r, h', rfl, hc⟩ := of_callN (noL_good (tab1 (rblR_ok l t D))) (f := 58) (args := [stD l, .agg (tsL t), I y, I m, inD D]) (h := ⟨0, []⟩) (K := fun r _ => r = .ret (.bool (meetsF l t (chD D) y m))) (by
    refine cast (rm_ev l t y m D _).symm ⟨isD_l, isD_t, isD_d, ⟨hh, hD, hy⟩, ?_⟩
    rintro V rfl
    unfold meetsF
    have hv : (vtF l t (chD D) y).v = volF l (chD D) := rfl
    rw [hv]
    refine cond_d (fun h => by rw [if_pos h]) (fun h => ?_)
    rw [if_neg h]
    refine cond_i (fun h2 => ?_) (fun h2 => ?_)
    · rw [h2, Bool.and_true]
      by_cases h3 : volF l (chD D) < m
      · rw [decide_eq_true h3, decide_eq_false (by omega)]; rfl
      · rw [decide_eq_false h3, decide_eq_true (by omega)]; rfl
    · rw [h2, Bool.and_false])
  exact ⟨h', hc⟩
end

/-- The document's casks, and Meets, as rows. -/
def rckR (l : List Stk) : FuncId × Spec1 := (51, fun _ args h K => match args with
  | [x] => isD h 3 x (stD l) ∧ l.length ≤ 6 ∧ K (.ret (.sl h.nx l.length)) (h.new (.vec l.length (chG (mostF l)) 1 3))
  | _ => False)
theorem rckR_ok (l : List Stk) : SpOk Try.prog (rckR l).1 (rckR l).2 := by
  intro lock args h K hK
  simp only [rckR] at hK
  split at hK
  · rename_i x
    obtain ⟨hx, hn, hK⟩ := hK
    have := calls_lendDO (args' := [x]) (h := h) 3 0 (casks_n hn) rfl (fun i => rfl) rfl (fun i hi => rfl) ⟨hx, trivial⟩
    have e : (VRes.ret (.sl 0 l.length)).sh 0 h.nx = .ret (.sl h.nx l.length) := by simp [VRes.sh, VV.sh, shN]
    rw [e] at this
    exact ⟨_, _, hK, lockP_new _ _ _, this⟩
  · exact hK.elim
def rmeT : FuncId × Spec1 := (58, fun _ args h K => match args with
  | [x, z, .int .i64 y, .int .i64 m, w] => ∃ (l : List Stk) (t : Tst) (D : List Int), isD h 4 x (stD l) ∧ isD h 4 z (.agg (tsL t)) ∧ isD h 4 w (inD D) ∧ (conB l t (chD D) ∧ D.length = l.length ∧ 0 ≤ y ∧ y ≤ 1000) ∧ K (.ret (.bool (meetsF l t (chD D) y m))) h
  | _ => False)
theorem rmeT_ok : SpOk Try.prog rmeT.1 rmeT.2 := by
  intro lock args h K hK
  simp only [rmeT] at hK
  split at hK
  · obtain ⟨l, t, D, hx, hz, hw, ⟨h1, h2, h3⟩, hK⟩ := hK
    obtain ⟨h', hv⟩ := rmeets_v h1 h2 h3
    exact ⟨_, h, hK, lockP_refl _ _, calls_lendDP 4 hv rfl ⟨hx, hz, ⟨rfl, rfl⟩, ⟨rfl, rfl⟩, hw, trivial⟩⟩
  · exact hK.elim
end Go.Sx.Bln

/- blend: the document's Cheapest, evaluated. -/

namespace Go.Sx.Bln
open Go Go.Sx Go.Proofs
set_option maxRecDepth 1000000

def rbcR (l : List Stk) (t : Tst) : FuncId × Spec1 := (56, fun _ args h K => match args with
  | [x, z, .int .i64 y, w] => isD h 4 x (stD l) ∧ isD h 4 z (.agg (tsL t)) ∧ ∃ D : List Int, isD h 4 w (inD D) ∧ (conB l t (chD D) ∧ D.length = l.length ∧ 0 ≤ y ∧ y ≤ 1000) ∧ ∀ V, V = vtF l t (chD D) y → K (.ret (vtV V h.nx)) (h.new (vtB V))
  | _ => False)
def rmcR (l : List Stk) (t : Tst) : FuncId × Spec1 := (58, fun _ args h K => match args with
  | [x, z, .int .i64 y, .int .i64 m, w] => isD h 4 x (stD l) ∧ isD h 4 z (.agg (tsL t)) ∧ ∃ D : List Int, isD h 4 w (inD D) ∧ (conB l t (chD D) ∧ D.length = l.length ∧ 0 ≤ y ∧ y ≤ 1000) ∧ K (.ret (.bool (meetsF l t (chD D) y m))) h
  | _ => False)
def choR (l : List Stk) : FuncId × Spec1 := (57, fun lock args h K => match args, h with
  | [.sl m L], ⟨nx, bs⟩ => lock = 0 ∧ L = l.length ∧ (VH.mk nx bs).at m = .vec l.length (chG (mostF l)) 1 3 ∧ lB l ∧ K (.ret (allD (mostF l) l.length)) ⟨nx, (m, .gone) :: bs⟩
  | _, _ => False)
def dsP4 : List Nat := [14, 13, 12, 11, 10, 9, 8, 5, 0, 1, 2, 3]
def VP4 (l : List Stk) (t : Tst) (y m : Int) (i : Nat) (b : VV) (least : Int) : List VV := [I i, allD (mostF l) l.length, I least, b, I 0, I 0, .nils, .ptr (.own 0 0), stD l, .agg (tsL t), I y, I m]
theorem r34n_ev (l : List Stk) (t : Tst) (y m : Int) (i : Nat) (least : Int) (X : VEx → List VV → List VB → Prop) : codeE Try.prog (callN Try.prog (tabS [rbcR l t, rmcR l t]) noL 10 20) (fun _ => none) true 10 (ntOf Try.prog 34) 0 (loopB 0 (bodyOf Try.prog 34)) (dsP4.zip (VP4 l t y m i .nils least)) ⟨2, [0].zip (BR t)⟩ (obs 2 dsP4 [0] X) =
  (bif decide ((↑i : Int) < (↑(allC (mostF l) l.length).length : Int)) then
 bif decide ((0 : Int) ≤ (↑i : Int) ∧ (↑i : Int) < (↑(allC (mostF l) l.length).length : Int)) then
 isD (VH.mk 2 ([0].zip (BR t))) 4 (stD l) (stD l) ∧ isD (VH.mk 2 ([0].zip (BR t))) 4 (VV.agg (tsL t)) (VV.agg (tsL t)) ∧ ∃ (D : List Int), isD (VH.mk 2 ([0].zip (BR t))) 4 (VV.tl l.length 1 (chG (chAt (mostF l) l.length (↑i : Int).toNat))) (inD D) ∧ (conB l t (chD D) ∧ D.length = l.length ∧ (0 : Int) ≤ y ∧ y ≤ (1000 : Int)) ∧ ∀ (V : Vt), V = vtF l t (chD D) y → bif decide (least < (0 : Int)) then
 bif decide ((0 : Int) ≤ (↑i : Int) ∧ (↑i : Int) < (↑(allC (mostF l) l.length).length : Int)) then
 isD ((VH.mk 2 ([0].zip (BR t))).new (vtB V)) 4 (stD l) (stD l) ∧ isD ((VH.mk 2 ([0].zip (BR t))).new (vtB V)) 4 (VV.agg (tsL t)) (VV.agg (tsL t)) ∧ ∃ (D : List Int), isD ((VH.mk 2 ([0].zip (BR t))).new (vtB V)) 4 (VV.tl l.length 1 (chG (chAt (mostF l) l.length (↑i : Int).toNat))) (inD D) ∧ (conB l t (chD D) ∧ D.length = l.length ∧ (0 : Int) ≤ y ∧ y ≤ (1000 : Int)) ∧ bif meetsF l t (chD D) y m then
 bif decide ((0 : Int) ≤ (↑i : Int) ∧ (↑i : Int) < (↑(allC (mostF l) l.length).length : Int)) then
 bif inK IntKind.i64 ((↑i : Int) + (1 : Int)) then
 X VEx.normal [I ((↑i : Int) + (1 : Int)), allD (mostF l) l.length, I V.c, VV.tl l.length 1 (chG (chAt (mostF l) l.length (↑i : Int).toNat)), I 0, I 0, VV.nils, VV.ptr (VA.own 0 0), stD l, VV.agg (tsL t), I y, I m] [VB.cells (tsL t) (25 : TypeId)]
 else False
 else False
 else bif inK IntKind.i64 ((↑i : Int) + (1 : Int)) then
 X VEx.normal [I ((↑i : Int) + (1 : Int)), allD (mostF l) l.length, I least, VV.nils, I 0, I 0, VV.nils, VV.ptr (VA.own 0 0), stD l, VV.agg (tsL t), I y, I m] [VB.cells (tsL t) (25 : TypeId)]
 else False
 else False
 else bif decide (V.c < least) then
 bif decide ((0 : Int) ≤ (↑i : Int) ∧ (↑i : Int) < (↑(allC (mostF l) l.length).length : Int)) then
 isD ((VH.mk 2 ([0].zip (BR t))).new (vtB V)) 4 (stD l) (stD l) ∧ isD ((VH.mk 2 ([0].zip (BR t))).new (vtB V)) 4 (VV.agg (tsL t)) (VV.agg (tsL t)) ∧ ∃ (D : List Int), isD ((VH.mk 2 ([0].zip (BR t))).new (vtB V)) 4 (VV.tl l.length 1 (chG (chAt (mostF l) l.length (↑i : Int).toNat))) (inD D) ∧ (conB l t (chD D) ∧ D.length = l.length ∧ (0 : Int) ≤ y ∧ y ≤ (1000 : Int)) ∧ bif meetsF l t (chD D) y m then
 bif decide ((0 : Int) ≤ (↑i : Int) ∧ (↑i : Int) < (↑(allC (mostF l) l.length).length : Int)) then
 bif inK IntKind.i64 ((↑i : Int) + (1 : Int)) then
 X VEx.normal [I ((↑i : Int) + (1 : Int)), allD (mostF l) l.length, I V.c, VV.tl l.length 1 (chG (chAt (mostF l) l.length (↑i : Int).toNat)), I 0, I 0, VV.nils, VV.ptr (VA.own 0 0), stD l, VV.agg (tsL t), I y, I m] [VB.cells (tsL t) (25 : TypeId)]
 else False
 else False
 else bif inK IntKind.i64 ((↑i : Int) + (1 : Int)) then
 X VEx.normal [I ((↑i : Int) + (1 : Int)), allD (mostF l) l.length, I least, VV.nils, I 0, I 0, VV.nils, VV.ptr (VA.own 0 0), stD l, VV.agg (tsL t), I y, I m] [VB.cells (tsL t) (25 : TypeId)]
 else False
 else False
 else bif inK IntKind.i64 ((↑i : Int) + (1 : Int)) then
 X VEx.normal [I ((↑i : Int) + (1 : Int)), allD (mostF l) l.length, I least, VV.nils, I 0, I 0, VV.nils, VV.ptr (VA.own 0 0), stD l, VV.agg (tsL t), I y, I m] [VB.cells (tsL t) (25 : TypeId)]
 else False
 else False
 else X (VEx.exit 0) [I (↑i : Int), allD (mostF l) l.length, I least, VV.nils, I 0, I 0, VV.nils, VV.ptr (VA.own 0 0), stD l, VV.agg (tsL t), I y, I m] [VB.cells (tsL t) (25 : TypeId)]) := by kernel_rfl

theorem r34s_ev (l : List Stk) (t : Tst) (y m : Int) (i : Nat) (c : Nat → Int) (least : Int) (X : VEx → List VV → List VB → Prop) : codeE Try.prog (callN Try.prog (tabS [rbcR l t, rmcR l t]) noL 10 20) (fun _ => none) true 10 (ntOf Try.prog 34) 0 (loopB 0 (bodyOf Try.prog 34)) (dsP4.zip (VP4 l t y m i (.tl l.length 1 (chG c)) least)) ⟨2, [0].zip (BR t)⟩ (obs 2 dsP4 [0] X) =
  (bif decide ((↑i : Int) < (↑(allC (mostF l) l.length).length : Int)) then
 bif decide ((0 : Int) ≤ (↑i : Int) ∧ (↑i : Int) < (↑(allC (mostF l) l.length).length : Int)) then
 isD (VH.mk 2 ([0].zip (BR t))) 4 (stD l) (stD l) ∧ isD (VH.mk 2 ([0].zip (BR t))) 4 (VV.agg (tsL t)) (VV.agg (tsL t)) ∧ ∃ (D : List Int), isD (VH.mk 2 ([0].zip (BR t))) 4 (VV.tl l.length 1 (chG (chAt (mostF l) l.length (↑i : Int).toNat))) (inD D) ∧ (conB l t (chD D) ∧ D.length = l.length ∧ (0 : Int) ≤ y ∧ y ≤ (1000 : Int)) ∧ ∀ (V : Vt), V = vtF l t (chD D) y → bif decide (least < (0 : Int)) then
 bif decide ((0 : Int) ≤ (↑i : Int) ∧ (↑i : Int) < (↑(allC (mostF l) l.length).length : Int)) then
 isD ((VH.mk 2 ([0].zip (BR t))).new (vtB V)) 4 (stD l) (stD l) ∧ isD ((VH.mk 2 ([0].zip (BR t))).new (vtB V)) 4 (VV.agg (tsL t)) (VV.agg (tsL t)) ∧ ∃ (D : List Int), isD ((VH.mk 2 ([0].zip (BR t))).new (vtB V)) 4 (VV.tl l.length 1 (chG (chAt (mostF l) l.length (↑i : Int).toNat))) (inD D) ∧ (conB l t (chD D) ∧ D.length = l.length ∧ (0 : Int) ≤ y ∧ y ≤ (1000 : Int)) ∧ bif meetsF l t (chD D) y m then
 bif decide ((0 : Int) ≤ (↑i : Int) ∧ (↑i : Int) < (↑(allC (mostF l) l.length).length : Int)) then
 bif inK IntKind.i64 ((↑i : Int) + (1 : Int)) then
 X VEx.normal [I ((↑i : Int) + (1 : Int)), allD (mostF l) l.length, I V.c, VV.tl l.length 1 (chG (chAt (mostF l) l.length (↑i : Int).toNat)), I 0, I 0, VV.nils, VV.ptr (VA.own 0 0), stD l, VV.agg (tsL t), I y, I m] [VB.cells (tsL t) (25 : TypeId)]
 else False
 else False
 else bif inK IntKind.i64 ((↑i : Int) + (1 : Int)) then
 X VEx.normal [I ((↑i : Int) + (1 : Int)), allD (mostF l) l.length, I least, VV.tl l.length 1 (chG c), I 0, I 0, VV.nils, VV.ptr (VA.own 0 0), stD l, VV.agg (tsL t), I y, I m] [VB.cells (tsL t) (25 : TypeId)]
 else False
 else False
 else bif decide (V.c < least) then
 bif decide ((0 : Int) ≤ (↑i : Int) ∧ (↑i : Int) < (↑(allC (mostF l) l.length).length : Int)) then
 isD ((VH.mk 2 ([0].zip (BR t))).new (vtB V)) 4 (stD l) (stD l) ∧ isD ((VH.mk 2 ([0].zip (BR t))).new (vtB V)) 4 (VV.agg (tsL t)) (VV.agg (tsL t)) ∧ ∃ (D : List Int), isD ((VH.mk 2 ([0].zip (BR t))).new (vtB V)) 4 (VV.tl l.length 1 (chG (chAt (mostF l) l.length (↑i : Int).toNat))) (inD D) ∧ (conB l t (chD D) ∧ D.length = l.length ∧ (0 : Int) ≤ y ∧ y ≤ (1000 : Int)) ∧ bif meetsF l t (chD D) y m then
 bif decide ((0 : Int) ≤ (↑i : Int) ∧ (↑i : Int) < (↑(allC (mostF l) l.length).length : Int)) then
 bif inK IntKind.i64 ((↑i : Int) + (1 : Int)) then
 X VEx.normal [I ((↑i : Int) + (1 : Int)), allD (mostF l) l.length, I V.c, VV.tl l.length 1 (chG (chAt (mostF l) l.length (↑i : Int).toNat)), I 0, I 0, VV.nils, VV.ptr (VA.own 0 0), stD l, VV.agg (tsL t), I y, I m] [VB.cells (tsL t) (25 : TypeId)]
 else False
 else False
 else bif inK IntKind.i64 ((↑i : Int) + (1 : Int)) then
 X VEx.normal [I ((↑i : Int) + (1 : Int)), allD (mostF l) l.length, I least, VV.tl l.length 1 (chG c), I 0, I 0, VV.nils, VV.ptr (VA.own 0 0), stD l, VV.agg (tsL t), I y, I m] [VB.cells (tsL t) (25 : TypeId)]
 else False
 else False
 else bif inK IntKind.i64 ((↑i : Int) + (1 : Int)) then
 X VEx.normal [I ((↑i : Int) + (1 : Int)), allD (mostF l) l.length, I least, VV.tl l.length 1 (chG c), I 0, I 0, VV.nils, VV.ptr (VA.own 0 0), stD l, VV.agg (tsL t), I y, I m] [VB.cells (tsL t) (25 : TypeId)]
 else False
 else False
 else X (VEx.exit 0) [I (↑i : Int), allD (mostF l) l.length, I least, VV.tl l.length 1 (chG c), I 0, I 0, VV.nils, VV.ptr (VA.own 0 0), stD l, VV.agg (tsL t), I y, I m] [VB.cells (tsL t) (25 : TypeId)]) := by kernel_rfl

def lP4 (l : List Stk) (t : Tst) (y m : Int) : LT := fun lock tt h K =>
  FitP lock h tt ⟨2, [0].zip (BR t)⟩ (dsP4.zip (VP4 l t y m 0 .nils (-1))) ∧ (lB l ∧ pB l t.T.length ∧ tB t ∧ 0 ≤ y ∧ y ≤ 1000) ∧ (chpF l t y m = none → K .normal (dsP4.zip (VP4 l t y m (nAll l) .nils (-1))) ⟨2, [0].zip (BR t)⟩) ∧ (∀ c, chpF l t y m = some c → K .normal (dsP4.zip (VP4 l t y m (nAll l) (.tl l.length 1 (chG c)) (costF l c))) ⟨2, [0].zip (BR t)⟩)
theorem p34_ev (l : List Stk) (t : Tst) (y m : Int) (Q : VRes → Prop) : callN Try.prog (tabS [rtR t, rsR l t, rckR l, choR l]) (atF 34 [(0, lP4 l t y m)]) 10 20 0 (.fn 34) [stD l, .agg (tsL t), I y, I m] ⟨0, []⟩ (fun r _ => Q r) =
  (isD (VH.mk (0 + 1) [(0, VB.cells (tsL t) 25)]) 3 (VV.agg (tsL t)) (VV.agg (tsL t)) ∧ t.T.length ≤ 100000 ∧ bif !okT t then
 Q (VRes.ret (VV.tup [VV.nils, I 0, I 1]))
 else isD (VH.mk (0 + 1) [(0, VB.cells (tsL t) 25)]) 3 (stD l) (stD l) ∧ isD (VH.mk (0 + 1) [(0, VB.cells (tsL t) 25)]) 3 (VV.agg (tsL t)) (VV.agg (tsL t)) ∧ (l.length ≤ 100000 ∧ t.T.length ≤ 100000) ∧ bif !(decide (l.length ≤ 6) && !anyS l t) then
 Q (VRes.ret (VV.tup [VV.nils, I 0, I 1]))
 else bif decide ((0 : Int) ≤ y) then
 bif !decide (y ≤ (100 : Int)) then
 Q (VRes.ret (VV.tup [VV.nils, I 0, I 2]))
 else bif decide ((0 : Int) ≤ m) then
 bif !decide (m ≤ (1048576 : Int)) then
 Q (VRes.ret (VV.tup [VV.nils, I 0, I 2]))
 else isD (VH.mk (0 + 1) [(0, VB.cells (tsL t) 25)]) 3 (stD l) (stD l) ∧ l.length ≤ 6 ∧ 0 = 0 ∧ l.length = l.length ∧ VB.vec l.length (chG (mostF l)) 1 (3 : TypeId) = VB.vec l.length (chG (mostF l)) 1 (3 : TypeId) ∧ lB l ∧ FitP 0 (VH.mk 2 ([0].zip (BR t))) (dsP4.zip (VP4 l t y m 0 VV.nils (-1 : Int))) (VH.mk 2 ([0].zip (BR t))) (dsP4.zip (VP4 l t y m 0 VV.nils (-1 : Int))) ∧ (lB l ∧ pB l t.T.length ∧ tB t ∧ (0 : Int) ≤ y ∧ y ≤ (1000 : Int)) ∧ (chpF l t y m = none → Q (VRes.ret (VV.tup [VV.nils, I 0, I 4]))) ∧ ∀ (c : Nat → Int), chpF l t y m = some c → bif decide (costF l c < (0 : Int)) then
 Q (VRes.ret (VV.tup [VV.nils, I 0, I 4]))
 else Q (VRes.ret (VV.tup [VV.tl l.length 1 (chG c), I (costF l c), I 0]))
 else Q (VRes.ret (VV.tup [VV.nils, I 0, I 2]))
 else Q (VRes.ret (VV.tup [VV.nils, I 0, I 2]))) := by kernel_rfl

end Go.Sx.Bln

/- blend: the document's Cheapest. -/

namespace Go.Sx.Bln
open Go Go.Sx Go.Proofs
set_option maxRecDepth 1000000

section
variable {l : List Stk} {t : Tst} {y m : Int}

theorem rbcR_ok (l : List Stk) (t : Tst) : SpOk Try.prog (rbcR l t).1 (rbcR l t).2 := by
  intro lock args h K hK
  simp only [rbcR] at hK
  split at hK
  · obtain ⟨h1, h2, D, h3, h4, hK⟩ := hK
    exact rblT_ok lock _ h K ⟨l, t, D, h1, h2, h3, h4, hK⟩
  · exact hK.elim
theorem rmcR_ok (l : List Stk) (t : Tst) : SpOk Try.prog (rmcR l t).1 (rmcR l t).2 := by
  intro lock args h K hK
  simp only [rmcR] at hK
  split at hK
  · obtain ⟨h1, h2, D, h3, h4, hK⟩ := hK
    exact rmeT_ok lock _ h K ⟨l, t, D, h1, h2, h3, h4, hK⟩
  · exact hK.elim
theorem choR_ok (l : List Stk) : SpOk Try.prog (choR l).1 (choR l).2 := by
  intro lock args h K hK
  simp only [choR] at hK
  split at hK
  · obtain ⟨h1, rfl, h3, hl, hK⟩ := hK
    have e : ∀ i, (l.map Stk.casks).getD i 0 = mostF l i := fun i => by
      unfold mostF
      rw [List.getD_eq_getElem?_getD, List.getD_eq_getElem?_getD, List.getElem?_map]
      cases l[i]? <;> rfl
    exact choT_ok lock _ _ K ⟨h1, l.map Stk.casks, mostF l, chG (mostF l), 3, h3, List.length_map _, fun i _ => by unfold dG; rw [e]; rfl, fun i => (e i).symm, ⟨by rw [List.length_map]; exact hl.1, fun i _ => by rw [e]; exact mostF_bd hl i⟩, hK⟩
  · exact hK.elim

/-- A choice as a list. -/
def dC (l : List Stk) (c : Nat → Int) : List Int := (List.range l.length).map c
theorem dC_get {c : Nat → Int} {i : Nat} (hi : i < l.length) : (dC l c).getD i 0 = c i := by
  unfold dC
  rw [List.getD_eq_getElem?_getD, List.getElem?_map, List.getElem?_range hi]
  rfl
theorem chD_dC {c : Nat → Int} (h : ∀ i, l.length ≤ i → c i = 0) : chD (dC l c) = c := by
  funext i
  show (dC l c).getD i 0 = c i
  by_cases hi : i < l.length
  · exact dC_get hi
  · rw [h i (by omega), List.getD_eq_getElem?_getD, List.getElem?_eq_none (by unfold dC; rw [List.length_map, List.length_range]; omega)]
    rfl
theorem isD_dC {h : VH} {k : Nat} {c : Nat → Int} : isD h (k + 1) (.tl l.length 1 (chG c)) (inD (dC l c)) := by
  refine ⟨?_, rfl, fun i hi => ?_⟩
  · unfold dC; rw [List.length_map, List.length_range]
  · unfold dG chG
    rw [dC_get hi]
theorem dC_len {c : Nat → Int} : (dC l c).length = l.length := by unfold dC; rw [List.length_map, List.length_range]
theorem chAt_ge (hl : lB l) {j : Nat} (hj : j < nAll l) : ∀ i, l.length ≤ i → chAt (mostF l) l.length j i = 0 :=
  ((all_mem (fun i _ => (mostF_bd hl i).1)).1 (chAt_mem hj)).2

theorem nAll_le (hl : lB l) : nAll l ≤ 150000 := by
  have e : ∀ i, mostF l i = (l.map Stk.casks).getD i 0 := fun i => by
    unfold mostF
    rw [List.getD_eq_getElem?_getD, List.getD_eq_getElem?_getD, List.getElem?_map]
    cases l[i]? <;> rfl
  have hD : dB (l.map Stk.casks) := ⟨by rw [List.length_map]; exact hl.1, fun i _ => by rw [← e]; exact mostF_bd hl i⟩
  have := nC_le hD (i := l.length) (by rw [List.length_map]; exact Nat.le_refl _)
  show (allC (mostF l) l.length).length ≤ _
  rw [allC_len e]
  exact this

theorem rc_tab : ∀ f T, tabS [rbcR l t, rmcR l t] f = some T → SpOk Try.prog f T := tab_ok _ (fun x hx => by
  simp only [List.mem_cons, List.not_mem_nil, or_false] at hx
  rcases hx with rfl | rfl
  · exact rbcR_ok l t
  · exact rmcR_ok l t)

def OP4 (l : List Stk) (t : Tst) (y m : Int) (_ : Nat) (e : VEx) (vs : List VV) (bs : List VB) : Prop :=
  e = .exit 0 ∧ bs = BR t ∧ vs = VP4 l t y m (nAll l) (bV l.length (chpF l t y m)) (lstF l (chpF l t y m))

theorem lP4_ok : LSound Try.prog true (.block 0 (.loop (loopB 0 (bodyOf Try.prog 34)))) (ntOf Try.prog 34) (lP4 l t y m) := by
  by_cases hh : lB l ∧ pB l t.T.length ∧ tB t ∧ 0 ≤ y ∧ y ≤ 1000
  · obtain ⟨hl, hp, ht, hy⟩ := hh
    refine loop_row hmix (noL_good (rc_tab (l := l) (t := t))) (un := 10) (ds := dsP4) (ns := [0]) (nx := 2) (fun i : Nat => VP4 l t y m i (bV l.length (bestF l t y m i)) (lstF l (bestF l t y m i))) (fun _ => BR t) (fun i => i ≤ nAll l) (fun i => nAll l - i) (OP4 l t y m) noL_ok ?_ ?_
    · rintro i h0
      have hN := nAll_le hl
      by_cases hlt : i < nAll l
      · have hnB := chAt_nB hl hlt
        have hge := chAt_ge hl hlt
        have hcon : conB l t (chD (dC l (chAt (mostF l) l.length i))) := by
          rw [chD_dC hge]
          exact ⟨hnB, hl, hp, ht⟩
        have hcost := cost_bd (n := chAt (mostF l) l.length i) hnB hl
        have hs : bestF l t y m (i + 1) = stepC l t y m (bestF l t y m i) (chAt (mostF l) l.length i) := rfl
        have hm : ∀ y m, meetsF l t (chD (dC l (chAt (mostF l) l.length i))) y m = meetsF l t (chAt (mostF l) l.length i) y m := fun y m => by rw [chD_dC hge]
        have hc : (vtF l t (chD (dC l (chAt (mostF l) l.length i))) y).c = costF l (chAt (mostF l) l.length i) := by rw [chD_dC hge]; rfl
        have hNi : i < (allC (mostF l) l.length).length := hlt
        cases hb : bestF l t y m i with
        | none =>
          have fin : ∀ b, b = bestF l t y m (i + 1) → RoundQ (fun i : Nat => VP4 l t y m i (bV l.length (bestF l t y m i)) (lstF l (bestF l t y m i))) (fun _ => BR t) (fun i => i ≤ nAll l) (fun i => nAll l - i) (OP4 l t y m) i .normal (VP4 l t y m (i + 1) (bV l.length b) (lstF l b)) (BR t) := by
            rintro b rfl
            exact ⟨i + 1, hlt, by dsimp only; omega, rfl, fitBs_refl _, fun _ _ _ h => h⟩
          rw [hb] at hs
          refine cast (r34n_ev l t y m i (-1) _).symm ?_
          rw [show (i : Int).toNat = i by omega]
          refine cond_dk (by omega) (cond_dk ⟨by omega, by omega⟩ ⟨isD_l, isD_t, dC l (chAt (mostF l) l.length i), isD_dC, ⟨hcon, dC_len, hy⟩, ?_⟩)
          rintro V rfl
          refine cond_dk (by decide) (cond_dk ⟨by omega, by omega⟩ ⟨isD_l, isD_t, dC l (chAt (mostF l) l.length i), isD_dC, ⟨hcon, dC_len, hy⟩, ?_⟩)
          rw [hm, hc]
          refine cond_i (fun hmt => cond_dk ⟨by omega, by omega⟩ (cond_r (by omega) (fin (some (chAt (mostF l) l.length i)) ?_))) (fun hmt => cond_r (by omega) (fin none ?_))
          · rw [hs]; show _ = if _ then _ else _; rw [if_pos hmt]
          · rw [hs]; show _ = if _ then _ else _; rw [if_neg (by rw [hmt]; simp)]
        | some d =>
          have fin : ∀ b, b = bestF l t y m (i + 1) → RoundQ (fun i : Nat => VP4 l t y m i (bV l.length (bestF l t y m i)) (lstF l (bestF l t y m i))) (fun _ => BR t) (fun i => i ≤ nAll l) (fun i => nAll l - i) (OP4 l t y m) i .normal (VP4 l t y m (i + 1) (bV l.length b) (lstF l b)) (BR t) := by
            rintro b rfl
            exact ⟨i + 1, hlt, by dsimp only; omega, rfl, fitBs_refl _, fun _ _ _ h => h⟩
          have hd : 0 ≤ costF l d := by
            obtain ⟨j, hj, rfl⟩ := bestF_mem hb
            exact (cost_bd (chAt_nB hl (Nat.lt_trans hj hlt)) hl).1
          rw [hb] at hs
          refine cast (r34s_ev l t y m i d (costF l d) _).symm ?_
          rw [show (i : Int).toNat = i by omega]
          refine cond_dk (by omega) (cond_dk ⟨by omega, by omega⟩ ⟨isD_l, isD_t, dC l (chAt (mostF l) l.length i), isD_dC, ⟨hcon, dC_len, hy⟩, ?_⟩)
          rintro V rfl
          refine cond_d (fun h => by omega) (fun _ => ?_)
          rw [hc]
          refine cond_d (fun hlt2 => cond_dk ⟨by omega, by omega⟩ ⟨isD_l, isD_t, dC l (chAt (mostF l) l.length i), isD_dC, ⟨hcon, dC_len, hy⟩, ?_⟩) (fun hlt2 => cond_r (by omega) (fin (some d) ?_))
          · rw [hm]
            refine cond_i (fun hmt => cond_dk ⟨by omega, by omega⟩ (cond_r (by omega) (fin (some (chAt (mostF l) l.length i)) ?_))) (fun hmt => cond_r (by omega) (fin (some d) ?_))
            · rw [hs]; show _ = if _ then _ else _; rw [if_pos ⟨hlt2, hmt⟩]
            · rw [hs]; show _ = if _ then _ else _; rw [if_neg (fun h => by rw [h.2] at hmt; cases hmt)]
          · rw [hs]; show _ = if _ then _ else _; rw [if_neg (fun h => hlt2 h.1)]
      · obtain rfl : i = nAll l := by omega
        have hNi : (allC (mostF l) l.length).length = nAll l := rfl
        have out : OP4 l t y m (nAll l) (.exit 0) (VP4 l t y m (nAll l) (bV l.length (bestF l t y m (nAll l))) (lstF l (bestF l t y m (nAll l)))) (BR t) := ⟨rfl, rfl, rfl⟩
        cases hb : bestF l t y m (nAll l) with
        | none =>
          rw [hb] at out
          refine cast (r34n_ev l t y m _ (-1) _).symm (cond_d (fun h => by omega) (fun _ => out))
        | some d =>
          rw [hb] at out
          refine cast (r34s_ev l t y m _ d (costF l d) _).symm (cond_d (fun h => by omega) (fun _ => out))
    · rintro lock tt h K ⟨hf, _, k1, k2⟩
      refine ⟨0, hf, Nat.zero_le _, ?_⟩
      rintro e vs bs ⟨rfl, rfl, rfl⟩
      cases hb : chpF l t y m with
      | none => exact k1 hb
      | some c => exact k2 c hb
  · rintro lock tt h K ⟨hf, hc, _⟩
    exact (hh hc).elim
end
end Go.Sx.Bln

/- blend: the document's Cheapest, as a row. -/

namespace Go.Sx.Bln
open Go Go.Sx Go.Proofs
set_option maxRecDepth 1000000

section
variable (l : List Stk) (t : Tst) (y m : Int)

theorem rchp_v (hl0 : l.length ≤ 100000) (ht0 : t.T.length ≤ 100000) : ∃ r h', CallsV Try.prog 34 [stD l, .agg (tsL t), I y, I m] ⟨0, []⟩ r h' ∧ ((chpE l t y m ≠ 0 ∧ r = rErr (chpE l t y m)) ∨ (chpE l t y m = 0 ∧ ∃ c, chpF l t y m = some c ∧ r = rChp l c)) := by
  have hall : LoopsOk Try.prog 34 [(0, lP4 l t y m)] := fun x hx => by
    simp only [List.mem_singleton] at hx
    subst hx
    exact ⟨by kernel_rfl, lP4_ok⟩
  have htab : ∀ f T, tabS [rtR t, rsR l t, rckR l, choR l] f = some T → SpOk Try.prog f T := tab_ok _ (fun x hx => by
    simp only [List.mem_cons, List.not_mem_nil, or_false] at hx
    rcases hx with rfl | rfl | rfl | rfl
    · exact rtR_ok t
    · exact rsR_ok l t
    · exact rckR_ok l
    · exact choR_ok l)
  obtain ⟨r, h', hr, hc⟩ := of_callN (callL_good hmix htab hall (un := 10) 20) (f := 34) (args := [stD l, .agg (tsL t), I y, I m]) (h := ⟨0, []⟩) (K := fun r _ => (chpE l t y m ≠ 0 ∧ r = rErr (chpE l t y m)) ∨ (chpE l t y m = 0 ∧ ∃ c, chpF l t y m = some c ∧ r = rChp l c)) (by
    refine cast (p34_ev l t y m _).symm ⟨isD_t, ht0, ?_⟩
    have err : ∀ e : Int, e ≠ 0 → chpE l t y m = e → (chpE l t y m ≠ 0 ∧ rErr e = rErr (chpE l t y m)) ∨ (chpE l t y m = 0 ∧ ∃ c, chpF l t y m = some c ∧ rErr e = rChp l c) := fun e h h' => .inl ⟨by rw [h']; exact h, by rw [h']⟩
    have eall : okAll l t = (okT t && (decide (l.length ≤ 6) && !anyS l t)) := by unfold okAll; rw [Bool.and_assoc]
    refine cond_i (fun h1 => err 1 (by decide) ?_) (fun h1 => ⟨isD_l, isD_t, ⟨hl0, ht0⟩, cond_i (fun h2 => err 1 (by decide) ?_) (fun h2 => ?_)⟩)
    · unfold chpE; rw [if_pos (by rw [eall, show okT t = false from Bool.not_eq_true' _ ▸ h1]; rfl)]
    · unfold chpE; rw [if_pos (by rw [eall, show (decide (l.length ≤ 6) && !anyS l t) = false from Bool.not_eq_true' _ ▸ h2, Bool.and_false])]
    have h1 : okAll l t = true := by
      rw [eall, show okT t = true from Bool.not_eq_false' _ ▸ h1, show (decide (l.length ≤ 6) && !anyS l t) = true from Bool.not_eq_false' _ ▸ h2]
      rfl
    have e1 : chpE l t y m = if ¬ ((0 ≤ y ∧ y ≤ 100) ∧ 0 ≤ m ∧ m ≤ 1048576) then 2 else if chpF l t y m = none then 4 else 0 := by unfold chpE; rw [if_neg (by rw [h1]; simp)]
    obtain ⟨hl, hp, ht, _⟩ := okAll_l h1
    refine cond_d (fun g1 => cond_nd (fun g2 => err 2 (by decide) ?_) (fun g2 => cond_d (fun g3 => cond_nd (fun g4 => err 2 (by decide) ?_) (fun g4 => ?_)) (fun g3 => err 2 (by decide) ?_))) (fun g1 => err 2 (by decide) ?_)
    · rw [e1, if_pos (by omega)]
    · rw [e1, if_pos (by omega)]
    · rw [if_neg (by omega)] at e1
      refine ⟨isD_l, hl.1, rfl, rfl, rfl, hl, fitP_self rfl, ⟨hl, hp, okT_tB ht, by omega, by omega⟩, fun hb => err 4 (by decide) ?_, fun c hb => ?_⟩
      · rw [e1, if_pos hb]
      · rw [if_neg (by rw [hb]; simp)] at e1
        refine cond_d (fun h => ?_) (fun _ => .inr ⟨e1, c, hb, rfl⟩)
        obtain ⟨i, hi, rfl⟩ := bestF_mem hb
        have := (cost_bd (chAt_nB hl hi) hl).1
        omega
    · rw [e1, if_pos (by omega)]
    · rw [e1, if_pos (by omega)])
  exact ⟨r, h', hc, hr⟩

/-- The document's Cheapest over data. -/
noncomputable def rchR : FuncId × Spec1 := (34, fun _ args h K => match args with
  | [x, z, .int .i64 y, .int .i64 m] => x = stD l ∧ z = .agg (tsL t) ∧ (l.length ≤ 100000 ∧ t.T.length ≤ 100000) ∧ (chpE l t y m ≠ 0 → K (rErr (chpE l t y m)) h) ∧ ∀ c, chpE l t y m = 0 → chpF l t y m = some c → K (rChp l c) h
  | _ => False)
theorem rchR_ok : SpOk Try.prog (rchR l t).1 (rchR l t).2 := by
  intro lock args h K hK
  simp only [rchR] at hK
  split at hK
  · rename_i x z y m
    obtain ⟨rfl, rfl, ⟨h1, h2⟩, k1, k2⟩ := hK
    obtain ⟨r, h', hc, ⟨e, rfl⟩ | ⟨e, c, hb, rfl⟩⟩ := rchp_v l t y m h1 h2
    · exact ⟨_, h, k1 e, lockP_refl _ _, calls_lift0 hc rfl rfl⟩
    · exact ⟨_, h, k2 c e hb, lockP_refl _ _, calls_lift0 hc rfl rfl⟩
  · exact hK.elim
end
end Go.Sx.Bln

/- blend: the law BlendCheapest, evaluated. -/

namespace Go.Sx.Bln
open Go Go.Sx Go.Proofs
set_option maxRecDepth 1000000

theorem chl_ev (l : List Stk) (t : Tst) (y m u : Int) (D : List Int) (Q : VRes → Prop) : callN Try.prog (tabS [greatT, cheapR l t, rchR l t, bndT, rbnT, inR, alT]) noL 10 20 0 (.fn 11) [stD l, .agg (tsL t), I y, I m, inD D, I u] ⟨0, []⟩ (fun r _ => Q r) =
  (∃ (l_1 : List Stk), ∃ (t_1 : Tst), isD (VH.mk (0 + 1) [(0, VB.cells [VV.tl t.T.length 1 (dG t.T), I t.far, I t.least] 25)]) 4 (VV.tl l.length 5 (stG l)) (stD l_1) ∧ isD (VH.mk (0 + 1) [(0, VB.cells [VV.tl t.T.length 1 (dG t.T), I t.far, I t.least] 25)]) 4 (VV.agg [VV.tl t.T.length 1 (dG t.T), I t.far, I t.least]) (VV.agg (tsL t_1)) ∧ bif greatF l_1 t_1 (1000 : Int) then
 Q (VRes.ret (VV.bool true))
 else bif decide ((↑D.length : Int) > (12 : Int)) then
 Q (VRes.ret (VV.bool true))
 else stD l = stD l ∧ VV.agg (tsL t) = VV.agg (tsL t) ∧ (chpE l t y m ≠ (0 : Int) → stD l = stD l ∧ VV.agg (tsL t) = VV.agg (tsL t) ∧ (l.length ≤ 100000 ∧ t.T.length ≤ 100000) ∧ (chpE l t y m ≠ (0 : Int) → ∃ (l_2 : List Stk), ∃ (t_2 : Tst), ∃ (D_1 : List Int), isD (VH.mk (0 + 1) [(0, VB.cells [VV.tl t.T.length 1 (dG t.T), I t.far, I t.least] 25)]) 4 (VV.tl l.length 5 (stG l)) (stD l_2) ∧ isD (VH.mk (0 + 1) [(0, VB.cells [VV.tl t.T.length 1 (dG t.T), I t.far, I t.least] 25)]) 4 (VV.agg [VV.tl t.T.length 1 (dG t.T), I t.far, I t.least]) (VV.agg (tsL t_2)) ∧ isD (VH.mk (0 + 1) [(0, VB.cells [VV.tl t.T.length 1 (dG t.T), I t.far, I t.least] 25)]) 4 (VV.tl D.length 1 (dG D)) (inD D_1) ∧ D_1.length ≤ 100000 ∧ ∃ (l_3 : List Stk), ∃ (t_3 : Tst), ∃ (D_2 : List Int), isD (VH.mk (0 + 1) [(0, VB.cells [VV.tl t.T.length 1 (dG t.T), I t.far, I t.least] 25)]) 4 (VV.tl l.length 5 (stG l)) (stD l_3) ∧ isD (VH.mk (0 + 1) [(0, VB.cells [VV.tl t.T.length 1 (dG t.T), I t.far, I t.least] 25)]) 4 (VV.agg [VV.tl t.T.length 1 (dG t.T), I t.far, I t.least]) (VV.agg (tsL t_3)) ∧ isD (VH.mk (0 + 1) [(0, VB.cells [VV.tl t.T.length 1 (dG t.T), I t.far, I t.least] 25)]) 4 (VV.tl D.length 1 (dG D)) (inD D_2) ∧ (D_2.length ≤ 100000 ∧ l_3.length ≤ 100000 ∧ t_3.T.length ≤ 100000) ∧ ∃ (L : Nat), ∃ (n : Nat → Int), isD (VH.mk (0 + 1) [(0, VB.cells [VV.tl t.T.length 1 (dG t.T), I t.far, I t.least] 25)]) 2 VV.nils (d1 L n) ∧ isD (VH.mk (0 + 1) [(0, VB.cells [VV.tl t.T.length 1 (dG t.T), I t.far, I t.least] 25)]) 2 VV.nils (d1 L n) ∧ L ≤ 100000 ∧ bif decide (chpE l t y m = chpE l t y m) then
 bif decide (bndV l_2 t_2 y m u D_1 = bndV l_3 t_3 y m u D_2) then
 bif decide (bndE l_2 t_2 y m u D_1 = bndE l_3 t_3 y m u D_2) then
 Q (VRes.ret (VV.bool true))
 else Q (VRes.ret (VV.bool false))
 else Q (VRes.ret (VV.bool false))
 else Q (VRes.ret (VV.bool false))) ∧ ∀ (c : Nat → Int), chpE l t y m = (0 : Int) → chpF l t y m = some c → ∃ (l_2 : List Stk), ∃ (t_2 : Tst), ∃ (D_1 : List Int), isD (VH.mk (0 + 1) [(0, VB.cells [VV.tl t.T.length 1 (dG t.T), I t.far, I t.least] 25)]) 4 (VV.tl l.length 5 (stG l)) (stD l_2) ∧ isD (VH.mk (0 + 1) [(0, VB.cells [VV.tl t.T.length 1 (dG t.T), I t.far, I t.least] 25)]) 4 (VV.agg [VV.tl t.T.length 1 (dG t.T), I t.far, I t.least]) (VV.agg (tsL t_2)) ∧ isD (VH.mk (0 + 1) [(0, VB.cells [VV.tl t.T.length 1 (dG t.T), I t.far, I t.least] 25)]) 4 (VV.tl D.length 1 (dG D)) (inD D_1) ∧ D_1.length ≤ 100000 ∧ ∃ (l_3 : List Stk), ∃ (t_3 : Tst), ∃ (D_2 : List Int), isD (VH.mk (0 + 1) [(0, VB.cells [VV.tl t.T.length 1 (dG t.T), I t.far, I t.least] 25)]) 4 (VV.tl l.length 5 (stG l)) (stD l_3) ∧ isD (VH.mk (0 + 1) [(0, VB.cells [VV.tl t.T.length 1 (dG t.T), I t.far, I t.least] 25)]) 4 (VV.agg [VV.tl t.T.length 1 (dG t.T), I t.far, I t.least]) (VV.agg (tsL t_3)) ∧ isD (VH.mk (0 + 1) [(0, VB.cells [VV.tl t.T.length 1 (dG t.T), I t.far, I t.least] 25)]) 4 (VV.tl D.length 1 (dG D)) (inD D_2) ∧ (D_2.length ≤ 100000 ∧ l_3.length ≤ 100000 ∧ t_3.T.length ≤ 100000) ∧ ∃ (L : Nat), ∃ (n : Nat → Int), isD (VH.mk (0 + 1) [(0, VB.cells [VV.tl t.T.length 1 (dG t.T), I t.far, I t.least] 25)]) 2 VV.nils (d1 L n) ∧ isD (VH.mk (0 + 1) [(0, VB.cells [VV.tl t.T.length 1 (dG t.T), I t.far, I t.least] 25)]) 2 (VV.tl l.length 1 (chG c)) (d1 L n) ∧ L ≤ 100000 ∧ bif decide ((0 : Int) = costF l c) then
 bif decide (chpE l t y m = (0 : Int)) then
 bif decide (bndV l_2 t_2 y m u D_1 = bndV l_3 t_3 y m u D_2) then
 bif decide (bndE l_2 t_2 y m u D_1 = bndE l_3 t_3 y m u D_2) then
 Q (VRes.ret (VV.bool true))
 else Q (VRes.ret (VV.bool false))
 else Q (VRes.ret (VV.bool false))
 else Q (VRes.ret (VV.bool false))
 else Q (VRes.ret (VV.bool false))) ∧ (chpE l t y m = (0 : Int) → ∀ (c : Nat → Int), chpF l t y m = some c → stD l = stD l ∧ VV.agg (tsL t) = VV.agg (tsL t) ∧ (l.length ≤ 100000 ∧ t.T.length ≤ 100000) ∧ (chpE l t y m ≠ (0 : Int) → ∃ (l_2 : List Stk), ∃ (t_2 : Tst), ∃ (D_1 : List Int), isD (VH.mk (0 + 1) [(0, VB.cells [VV.tl t.T.length 1 (dG t.T), I t.far, I t.least] 25)]) 4 (VV.tl l.length 5 (stG l)) (stD l_2) ∧ isD (VH.mk (0 + 1) [(0, VB.cells [VV.tl t.T.length 1 (dG t.T), I t.far, I t.least] 25)]) 4 (VV.agg [VV.tl t.T.length 1 (dG t.T), I t.far, I t.least]) (VV.agg (tsL t_2)) ∧ isD (VH.mk (0 + 1) [(0, VB.cells [VV.tl t.T.length 1 (dG t.T), I t.far, I t.least] 25)]) 4 (VV.tl D.length 1 (dG D)) (inD D_1) ∧ D_1.length ≤ 100000 ∧ ∃ (l_3 : List Stk), ∃ (t_3 : Tst), ∃ (D_2 : List Int), isD (VH.mk (0 + 1) [(0, VB.cells [VV.tl t.T.length 1 (dG t.T), I t.far, I t.least] 25)]) 4 (VV.tl l.length 5 (stG l)) (stD l_3) ∧ isD (VH.mk (0 + 1) [(0, VB.cells [VV.tl t.T.length 1 (dG t.T), I t.far, I t.least] 25)]) 4 (VV.agg [VV.tl t.T.length 1 (dG t.T), I t.far, I t.least]) (VV.agg (tsL t_3)) ∧ isD (VH.mk (0 + 1) [(0, VB.cells [VV.tl t.T.length 1 (dG t.T), I t.far, I t.least] 25)]) 4 (VV.tl D.length 1 (dG D)) (inD D_2) ∧ (D_2.length ≤ 100000 ∧ l_3.length ≤ 100000 ∧ t_3.T.length ≤ 100000) ∧ ∃ (L : Nat), ∃ (n : Nat → Int), isD (VH.mk (0 + 1) [(0, VB.cells [VV.tl t.T.length 1 (dG t.T), I t.far, I t.least] 25)]) 2 (VV.tl l.length 1 (chG c)) (d1 L n) ∧ isD (VH.mk (0 + 1) [(0, VB.cells [VV.tl t.T.length 1 (dG t.T), I t.far, I t.least] 25)]) 2 VV.nils (d1 L n) ∧ L ≤ 100000 ∧ bif decide (costF l c = (0 : Int)) then
 bif decide ((0 : Int) = chpE l t y m) then
 bif decide (bndV l_2 t_2 y m u D_1 = bndV l_3 t_3 y m u D_2) then
 bif decide (bndE l_2 t_2 y m u D_1 = bndE l_3 t_3 y m u D_2) then
 Q (VRes.ret (VV.bool true))
 else Q (VRes.ret (VV.bool false))
 else Q (VRes.ret (VV.bool false))
 else Q (VRes.ret (VV.bool false))
 else Q (VRes.ret (VV.bool false))) ∧ ∀ (c_1 : Nat → Int), chpE l t y m = (0 : Int) → chpF l t y m = some c_1 → ∃ (l_2 : List Stk), ∃ (t_2 : Tst), ∃ (D_1 : List Int), isD (VH.mk (0 + 1) [(0, VB.cells [VV.tl t.T.length 1 (dG t.T), I t.far, I t.least] 25)]) 4 (VV.tl l.length 5 (stG l)) (stD l_2) ∧ isD (VH.mk (0 + 1) [(0, VB.cells [VV.tl t.T.length 1 (dG t.T), I t.far, I t.least] 25)]) 4 (VV.agg [VV.tl t.T.length 1 (dG t.T), I t.far, I t.least]) (VV.agg (tsL t_2)) ∧ isD (VH.mk (0 + 1) [(0, VB.cells [VV.tl t.T.length 1 (dG t.T), I t.far, I t.least] 25)]) 4 (VV.tl D.length 1 (dG D)) (inD D_1) ∧ D_1.length ≤ 100000 ∧ ∃ (l_3 : List Stk), ∃ (t_3 : Tst), ∃ (D_2 : List Int), isD (VH.mk (0 + 1) [(0, VB.cells [VV.tl t.T.length 1 (dG t.T), I t.far, I t.least] 25)]) 4 (VV.tl l.length 5 (stG l)) (stD l_3) ∧ isD (VH.mk (0 + 1) [(0, VB.cells [VV.tl t.T.length 1 (dG t.T), I t.far, I t.least] 25)]) 4 (VV.agg [VV.tl t.T.length 1 (dG t.T), I t.far, I t.least]) (VV.agg (tsL t_3)) ∧ isD (VH.mk (0 + 1) [(0, VB.cells [VV.tl t.T.length 1 (dG t.T), I t.far, I t.least] 25)]) 4 (VV.tl D.length 1 (dG D)) (inD D_2) ∧ (D_2.length ≤ 100000 ∧ l_3.length ≤ 100000 ∧ t_3.T.length ≤ 100000) ∧ ∃ (L : Nat), ∃ (n : Nat → Int), isD (VH.mk (0 + 1) [(0, VB.cells [VV.tl t.T.length 1 (dG t.T), I t.far, I t.least] 25)]) 2 (VV.tl l.length 1 (chG c)) (d1 L n) ∧ isD (VH.mk (0 + 1) [(0, VB.cells [VV.tl t.T.length 1 (dG t.T), I t.far, I t.least] 25)]) 2 (VV.tl l.length 1 (chG c_1)) (d1 L n) ∧ L ≤ 100000 ∧ bif decide (costF l c = costF l c_1) then
 bif decide (bndV l_2 t_2 y m u D_1 = bndV l_3 t_3 y m u D_2) then
 bif decide (bndE l_2 t_2 y m u D_1 = bndE l_3 t_3 y m u D_2) then
 Q (VRes.ret (VV.bool true))
 else Q (VRes.ret (VV.bool false))
 else Q (VRes.ret (VV.bool false))
 else Q (VRes.ret (VV.bool false)))) := by kernel_rfl

end Go.Sx.Bln

/- blend: the law BlendCheapest. -/

namespace Go.Sx.Bln
open Go Go.Sx Go.Proofs
set_option maxRecDepth 1000000

theorem isD_d1 {h : VH} {k L : Nat} {n : Nat → Int} : isD h (k + 1) (.tl L 1 (chG n)) (d1 L n) := ⟨rfl, rfl, fun _ _ => rfl⟩
theorem chl_tab (l : List Stk) (t : Tst) : ∀ f T, tabS [greatT, cheapR l t, rchR l t, bndT, rbnT, inR, alT] f = some T → SpOk Try.prog f T := tab_ok _ (fun x hx => by
  simp only [List.mem_cons, List.not_mem_nil, or_false] at hx
  rcases hx with rfl | rfl | rfl | rfl | rfl | rfl | rfl
  · exact greatT_ok
  · exact cheapR_ok l t
  · exact rchR_ok l t
  · exact bndT_ok
  · exact rbnT_ok
  · exact inR_ok
  · exact alT_ok)
theorem chl_v (l : List Stk) (t : Tst) (y m u : Int) (D : List Int) : ∃ h', CallsV Try.prog 11 [stD l, .agg (tsL t), I y, I m, inD D, I u] ⟨0, []⟩ (.ret (.bool true)) h' := by
  obtain ⟨r, h', rfl, hc⟩ := of_callN (noL_good (chl_tab l t)) (f := 11) (args := [stD l, .agg (tsL t), I y, I m, inD D, I u]) (h := ⟨0, []⟩) (K := fun r _ => r = .ret (.bool true)) (by
    refine cast (chl_ev l t y m u D _).symm ⟨l, t, isD_l, isD_ts, cond_i (fun _ => rfl) (fun hg => cond_d (fun _ => rfl) (fun hD => ?_))⟩
    obtain ⟨hl, ht, _⟩ := great_len hg
    refine ⟨rfl, rfl, fun e1 => ⟨rfl, rfl, ⟨by omega, by omega⟩, fun _ => ⟨l, t, D, isD_l, isD_ts, isD_in, by omega, l, t, D, isD_l, isD_ts, isD_in, ⟨by omega, by omega, by omega⟩, 0, fun _ => 0, rfl, rfl, Nat.zero_le _, cond_dk rfl (cond_dk rfl (cond_dk rfl rfl))⟩, fun c e2 => (e1 e2).elim⟩, fun e1 c hc => ⟨rfl, rfl, ⟨by omega, by omega⟩, fun e2 => (e2 e1).elim, fun c1 _ hc1 => ?_⟩⟩
    rw [hc] at hc1
    cases hc1
    exact ⟨l, t, D, isD_l, isD_ts, isD_in, by omega, l, t, D, isD_l, isD_ts, isD_in, ⟨by omega, by omega, by omega⟩, l.length, c, isD_d1, isD_d1, by omega, cond_dk rfl (cond_dk rfl (cond_dk rfl rfl))⟩)
  exact ⟨h', hc⟩
end Go.Sx.Bln
