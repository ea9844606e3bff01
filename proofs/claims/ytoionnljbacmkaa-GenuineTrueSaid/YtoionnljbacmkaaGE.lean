/- genuine: Ge1 Ge2 Ge3 Ge4 Ge5 Ge6 Ge7 Ge8 Ge9, in one text. -/
import Derived.Test.YtoionnljbacmkaaGa9
/- genuine: Reasons, evaluated. -/

namespace Go.Sx.Gen
open Go Go.Sx Go.Proofs
set_option maxRecDepth 100000

abbrev kLo (b : Sus) : List Int → Int → Int := fun _ => b.lo
abbrev kHi (b : Sus) : List Int → Int → Int := fun _ => b.hi
def rfOf : Code → Option (Code × Code)
  | .rangeFunc _ _ ac bd => some (ac, bd)
  | .seq a b => match rfOf a with
    | some r => some r
    | none => rfOf b
  | .block _ b => rfOf b
  | _ => none

def rfAs (P : Program) (f : FuncId) : Code := match rfOf (bodyOf P f) with
  | some (ac, _) => ac
  | none => .skip

def rfBd (P : Program) (f : FuncId) : Code := match rfOf (bodyOf P f) with
  | some (_, bd) => bd
  | none => .skip

/-- Why a suspect can't come from a source: the j-th reason. -/
def rP (b : Sus) (s : Src) (j : Int) : Bool :=
  bif decide (j < 3) then (bif decide (j = 0) then decide (s.drawn < b.glass) else (bif decide (j = 1) then decide (s.drawn < b.paper) else decide (s.shi < b.slo)))
  else (decide (s.hi (j - 3) < b.lo (j - 3)) || decide (s.lo (j - 3) > b.hi (j - 3)))

def filt (p : Int → Bool) : Nat → Int → List Int
  | 0, _ => []
  | k + 1, i => bif p i then i :: filt p k (i + 1) else filt p k (i + 1)

def reasonsF (b : Sus) (s : Src) : List Int := filt (rP b s) (3 + s.vl) 0

def vecI (xs : List Int) : VB := .vec xs.length (fun i => [I (xs.getD i 0)]) 1 3

def cSo (l : Int → Src) (i : Int) : VB := .cells [I (l i).cask, I (l i).drawn, I (l i).slo, I (l i).shi, .slice (.el 1 [i] 0 0) (l i).vl (l i).vc] 51
def cSu (b : Sus) : VB := .cells [I b.glass, I b.paper, I b.slo, I b.shi, .slice (.el 2 [] 0 0) b.sl b.sc] 26

noncomputable def as46 : Code := rfAs Try.prog 46
noncomputable def bd46 : Code := rfBd Try.prog 46

abbrev fR : VV := .func 47 [] [.ptr (.own 5 0), .ptr (.own 4 0)]
/-- The record of the loop in AppendSeq. -/
noncomputable def rec46 : VB := .loop true none [(6, fR), (4, .nils), (2, .ptr (.own 7 0)), (0, .sl 6 0), (1, fR)] 13 [7] as46 bd46

noncomputable def BR (n : Nat) (l : Int → Src) (b : Sus) (i : Int) (xs : List Int) : List VB := [srcA n l, valA n l, seenA b, cSu b, cSu b, cSo l i, vecI xs, .cells [.sl 6 xs.length] 30, rec46]

def dsR0 : List Nat := [26, 25, 0, 1, 2]
def VR0 (b : Sus) (s : Src) (k : Int) : List VV := [I k, .agg [.bool (decide (s.drawn < b.glass)), .bool (decide (s.drawn < b.paper)), .bool (decide (s.shi < b.slo))], .yld 8, .ptr (.own 5 0), .ptr (.own 4 0)]
def dsR2 : List Nat := [41, 40, 39, 0, 1, 2]
def VR2 (l : Int → Src) (i k : Int) : List VV := [I k, I (l i).vl, .slice (.el 1 [i] 0 0) (l i).vl (l i).vc, .yld 8, .ptr (.own 5 0), .ptr (.own 4 0)]
def nsR : List Nat := [0, 1, 2, 3, 4, 5, 6, 7, 8]

theorem r0_ev (n : Nat) (l : Int → Src) (b : Sus) (i k : Int) (xs : List Int) (X : VEx → List VV → List VB → Prop) : codeE Try.prog (callN Try.prog noSpec noL 10 20) (fun _ => none) true 10 74 0 (loopB 0 (bodyOf Try.prog 47)) (dsR0.zip (VR0 b (l i) k)) ⟨9, nsR.zip (BR n l b i xs)⟩ (obs 9 dsR0 nsR X) =
  (bif decide (k < (3 : Int)) then
 bif decide (k = (↑0 : Int)) then
 bif decide ((l i).drawn < b.glass) then
 bif xs.length.beq xs.length then
 bif roomB (xs.length + 1) (8) then
 bif inK IntKind.i64 (k + (1 : Int)) then
 X VEx.normal [I (k + (1 : Int)), VV.agg [VV.bool (decide ((l i).drawn < b.glass)), VV.bool (decide ((l i).drawn < b.paper)), VV.bool (decide ((l i).shi < b.slo))], VV.yld 8, VV.ptr (VA.own 5 0), VV.ptr (VA.own 4 0)] [srcA n l, valA n l, seenA b, cSu b, cSu b, cSo l i, VB.vec (xs.length + 1) (catG xs.length (fun i => [I (xs.getD i (0 : Int))]) fun j => List.take (1) (List.drop (j * (1)) [I k])) (1) 3, VB.cells [VV.sl 6 (xs.length + 1)] (30 : TypeId), rec46]
 else False
 else False
 else False
 else bif inK IntKind.i64 (k + (1 : Int)) then
 X VEx.normal [I (k + (1 : Int)), VV.agg [VV.bool (decide ((l i).drawn < b.glass)), VV.bool (decide ((l i).drawn < b.paper)), VV.bool (decide ((l i).shi < b.slo))], VV.yld 8, VV.ptr (VA.own 5 0), VV.ptr (VA.own 4 0)] (BR n l b i xs)
 else False
 else bif decide (k = (↑(0 + 1) : Int)) then
 bif decide ((l i).drawn < b.paper) then
 bif xs.length.beq xs.length then
 bif roomB (xs.length + 1) (8) then
 bif inK IntKind.i64 (k + (1 : Int)) then
 X VEx.normal [I (k + (1 : Int)), VV.agg [VV.bool (decide ((l i).drawn < b.glass)), VV.bool (decide ((l i).drawn < b.paper)), VV.bool (decide ((l i).shi < b.slo))], VV.yld 8, VV.ptr (VA.own 5 0), VV.ptr (VA.own 4 0)] [srcA n l, valA n l, seenA b, cSu b, cSu b, cSo l i, VB.vec (xs.length + 1) (catG xs.length (fun i => [I (xs.getD i (0 : Int))]) fun j => List.take (1) (List.drop (j * (1)) [I k])) (1) 3, VB.cells [VV.sl 6 (xs.length + 1)] (30 : TypeId), rec46]
 else False
 else False
 else False
 else bif inK IntKind.i64 (k + (1 : Int)) then
 X VEx.normal [I (k + (1 : Int)), VV.agg [VV.bool (decide ((l i).drawn < b.glass)), VV.bool (decide ((l i).drawn < b.paper)), VV.bool (decide ((l i).shi < b.slo))], VV.yld 8, VV.ptr (VA.own 5 0), VV.ptr (VA.own 4 0)] (BR n l b i xs)
 else False
 else bif decide (k = (↑(0 + 1 + 1) : Int)) then
 bif decide ((l i).shi < b.slo) then
 bif xs.length.beq xs.length then
 bif roomB (xs.length + 1) (8) then
 bif inK IntKind.i64 (k + (1 : Int)) then
 X VEx.normal [I (k + (1 : Int)), VV.agg [VV.bool (decide ((l i).drawn < b.glass)), VV.bool (decide ((l i).drawn < b.paper)), VV.bool (decide ((l i).shi < b.slo))], VV.yld 8, VV.ptr (VA.own 5 0), VV.ptr (VA.own 4 0)] [srcA n l, valA n l, seenA b, cSu b, cSu b, cSo l i, VB.vec (xs.length + 1) (catG xs.length (fun i => [I (xs.getD i (0 : Int))]) fun j => List.take (1) (List.drop (j * (1)) [I k])) (1) 3, VB.cells [VV.sl 6 (xs.length + 1)] (30 : TypeId), rec46]
 else False
 else False
 else False
 else bif inK IntKind.i64 (k + (1 : Int)) then
 X VEx.normal [I (k + (1 : Int)), VV.agg [VV.bool (decide ((l i).drawn < b.glass)), VV.bool (decide ((l i).drawn < b.paper)), VV.bool (decide ((l i).shi < b.slo))], VV.yld 8, VV.ptr (VA.own 5 0), VV.ptr (VA.own 4 0)] (BR n l b i xs)
 else False
 else False
 else X (VEx.exit 0) [I k, VV.agg [VV.bool (decide ((l i).drawn < b.glass)), VV.bool (decide ((l i).drawn < b.paper)), VV.bool (decide ((l i).shi < b.slo))], VV.yld 8, VV.ptr (VA.own 5 0), VV.ptr (VA.own 4 0)] (BR n l b i xs)) := by kernel_rfl

theorem r2_ev (n : Nat) (l : Int → Src) (b : Sus) (i k : Int) (xs : List Int) (X : VEx → List VV → List VB → Prop) : codeE Try.prog (callN Try.prog noSpec noL 10 20) (fun _ => none) true 10 74 0 (loopB 2 (bodyOf Try.prog 47)) (dsR2.zip (VR2 l i k)) ⟨9, nsR.zip (BR n l b i xs)⟩ (obs 9 dsR2 nsR X) =
  (bif decide (k < (↑(l i).vl : Int)) then
 bif decide ((0 : Int) ≤ k ∧ k < (↑(l i).vl : Int)) then
 (∃ i_1, [i] = [i_1] ∧ (0 : Int) ≤ i_1 ∧ i_1 < (↑n : Int) ∧ (0 : Int) ≤ (0 : Int) + k ∧ (0 : Int) + k < (↑(l i_1).vl : Int)) ∧ bif decide ((0 : Int) ≤ k ∧ k < (↑b.sl : Int)) then
 (([] : List Int) = [] ∧ (0 : Int) ≤ (0 : Int) + k ∧ (0 : Int) + k < (↑b.sl : Int)) ∧ bif decide (at1 (fun i => (l i).hi) [i] ((0 : Int) + k) < (kLo b) [] ((0 : Int) + k)) then
 bif inK IntKind.i64 ((3 : Int) + k) then
 bif xs.length.beq xs.length then
 bif roomB (xs.length + 1) (8) then
 bif inK IntKind.i64 (k + (1 : Int)) then
 X VEx.normal [I (k + (1 : Int)), I (↑(l i).vl : Int), VV.slice (VA.el 1 [i] (0 : Int) 0) (l i).vl (l i).vc, VV.yld 8, VV.ptr (VA.own 5 0), VV.ptr (VA.own 4 0)] [srcA n l, valA n l, seenA b, cSu b, cSu b, cSo l i, VB.vec (xs.length + 1) (catG xs.length (fun i => [I (xs.getD i (0 : Int))]) fun j => List.take (1) (List.drop (j * (1)) [I ((3 : Int) + k)])) (1) 3, VB.cells [VV.sl 6 (xs.length + 1)] (30 : TypeId), rec46]
 else False
 else False
 else False
 else False
 else bif decide ((0 : Int) ≤ k ∧ k < (↑b.sl : Int)) then
 (([] : List Int) = [] ∧ (0 : Int) ≤ (0 : Int) + k ∧ (0 : Int) + k < (↑b.sl : Int)) ∧ bif decide (at1 (fun i => (l i).lo) [i] ((0 : Int) + k) > (kHi b) [] ((0 : Int) + k)) then
 bif inK IntKind.i64 ((3 : Int) + k) then
 bif xs.length.beq xs.length then
 bif roomB (xs.length + 1) (8) then
 bif inK IntKind.i64 (k + (1 : Int)) then
 X VEx.normal [I (k + (1 : Int)), I (↑(l i).vl : Int), VV.slice (VA.el 1 [i] (0 : Int) 0) (l i).vl (l i).vc, VV.yld 8, VV.ptr (VA.own 5 0), VV.ptr (VA.own 4 0)] [srcA n l, valA n l, seenA b, cSu b, cSu b, cSo l i, VB.vec (xs.length + 1) (catG xs.length (fun i => [I (xs.getD i (0 : Int))]) fun j => List.take (1) (List.drop (j * (1)) [I ((3 : Int) + k)])) (1) 3, VB.cells [VV.sl 6 (xs.length + 1)] (30 : TypeId), rec46]
 else False
 else False
 else False
 else False
 else bif inK IntKind.i64 (k + (1 : Int)) then
 X VEx.normal [I (k + (1 : Int)), I (↑(l i).vl : Int), VV.slice (VA.el 1 [i] (0 : Int) 0) (l i).vl (l i).vc, VV.yld 8, VV.ptr (VA.own 5 0), VV.ptr (VA.own 4 0)] (BR n l b i xs)
 else False
 else False
 else False
 else False
 else X (VEx.exit 2) [I k, I (↑(l i).vl : Int), VV.slice (VA.el 1 [i] (0 : Int) 0) (l i).vl (l i).vc, VV.yld 8, VV.ptr (VA.own 5 0), VV.ptr (VA.own 4 0)] (BR n l b i xs)) := by kernel_rfl


end Go.Sx.Gen

/- genuine: Reasons, its loops. -/

namespace Go.Sx.Gen
open Go Go.Sx Go.Proofs
set_option maxRecDepth 100000

theorem filt_step {p : Int → Bool} {i N : Int} (h : i < N) : filt p (N - i).toNat i = (bif p i then [i] else []) ++ filt p (N - (i + 1)).toNat (i + 1) := by
  have : (N - i).toNat = (N - (i + 1)).toNat + 1 := by omega
  rw [this]
  simp only [filt]
  cases p i <;> rfl

theorem filt_end {p : Int → Bool} {i N : Int} (h : ¬ i < N) : filt p (N - i).toNat i = [] := by
  have : (N - i).toNat = 0 := by omega
  rw [this]; rfl

theorem filt_cut {p : Int → Bool} : ∀ {a c : Nat} {i : Int}, filt p (a + c) i = filt p a i ++ filt p c (i + a)
  | 0, c, i => by simp [filt]
  | a + 1, c, i => by
    have : a + 1 + c = (a + c) + 1 := by omega
    rw [this]
    simp only [filt]
    rw [filt_cut (a := a) (c := c) (i := i + 1), show i + 1 + (a : Int) = i + ((a + 1 : Nat) : Int) by omega]
    cases p i <;> rfl

theorem filt_le {p : Int → Bool} : ∀ {a : Nat} {i : Int}, (filt p a i).length ≤ a
  | 0, _ => Nat.le_refl _
  | a + 1, i => by
    have := filt_le (p := p) (a := a) (i := i + 1)
    simp only [filt]
    cases p i <;> simp <;> omega

theorem fit_snoc (xs : List Int) (v : Int) : (vecI (xs ++ [v])).fit (.vec (xs.length + 1) (catG xs.length (fun i => [I (xs.getD i 0)]) fun j => List.take 1 (List.drop (j * 1) [I v])) 1 3) := by
  refine ⟨by simp, rfl, rfl, fun j hj => ?_⟩
  simp only [List.length_append, List.length_singleton] at hj
  simp only [catG]
  by_cases h : j < xs.length
  · rw [blt_t h]
    simp [List.getD_eq_getElem?_getD, List.getElem?_append_left h]
  · rw [blt_f (by omega)]
    have : j = xs.length := by omega
    subst this
    simp

theorem roomB_t {n : Nat} (h : n ≤ 1000) : roomB n 8 = true := by
  simp only [roomB, Bool.and_eq_true]
  exact ⟨Nat.ble_eq_true_of_le (by omega), Nat.ble_eq_true_of_le (by omega)⟩

section
variable {n : Nat} {l : Int → Src} {b : Sus} {i : Int}

theorem rP0 {s : Src} : rP b s 0 = decide (s.drawn < b.glass) := rfl
theorem rP1 {s : Src} : rP b s 1 = decide (s.drawn < b.paper) := rfl
theorem rP2 {s : Src} : rP b s 2 = decide (s.shi < b.slo) := rfl
theorem rP3 {s : Src} {k : Int} (h : 0 ≤ k) : rP b s (3 + k) = (decide (s.hi k < b.lo k) || decide (s.lo k > b.hi k)) := by
  unfold rP
  rw [decide_eq_false (by omega : ¬ (3 + k < 3)), show 3 + k - 3 = k by omega]
  rfl

def OR0 (n : Nat) (l : Int → Src) (b : Sus) (i : Int) (s : Int × List Int) (e : VEx) (vs : List VV) (bs : List VB) : Prop :=
  e = .exit 0 ∧ vs = VR0 b (l i) 3 ∧ bs = BR n l b i (s.2 ++ filt (rP b (l i)) (3 - s.1).toNat s.1)

theorem r0_round {k : Int} {xs : List Int} (h0 : 0 ≤ k) (h1 : k ≤ 3) (h2 : (xs.length : Int) ≤ k) : codeE Try.prog (callN Try.prog noSpec noL 10 20) (fun _ => none) true 10 74 0 (loopB 0 (bodyOf Try.prog 47)) (dsR0.zip (VR0 b (l i) k)) ⟨9, nsR.zip (BR n l b i xs)⟩
    (obs 9 dsR0 nsR (RoundQ (fun s : Int × List Int => VR0 b (l i) s.1) (fun s => BR n l b i s.2) (fun s => 0 ≤ s.1 ∧ s.1 ≤ 3 ∧ (s.2.length : Int) ≤ s.1) (fun s => (3 - s.1).toNat) (OR0 n l b i) (k, xs))) := by
  rw [r0_ev]
  have hyes : k < 3 → rP b (l i) k = true → ∀ c, fitBs (BR n l b i (xs ++ [k])) [srcA n l, valA n l, seenA b, cSu b, cSu b, cSo l i, c, VB.cells [VV.sl 6 (xs.length + 1)] 30, rec46] → RoundQ (fun s : Int × List Int => VR0 b (l i) s.1) (fun s => BR n l b i s.2) (fun s => 0 ≤ s.1 ∧ s.1 ≤ 3 ∧ (s.2.length : Int) ≤ s.1) (fun s => (3 - s.1).toNat) (OR0 n l b i) (k, xs) .normal (VR0 b (l i) (k + 1)) [srcA n l, valA n l, seenA b, cSu b, cSu b, cSo l i, c, VB.cells [VV.sl 6 (xs.length + 1)] 30, rec46] := by
    intro hk hp c hc
    refine ⟨(k + 1, xs ++ [k]), ⟨by dsimp only; omega, by dsimp only; omega, by simp; omega⟩, by dsimp only; omega, rfl, hc, ?_⟩
    rintro e vs bs ⟨rfl, rfl, rfl⟩
    refine ⟨rfl, rfl, ?_⟩
    rw [filt_step (p := rP b (l i)) hk, hp]
    simp
  have hno : k < 3 → rP b (l i) k = false → RoundQ (fun s : Int × List Int => VR0 b (l i) s.1) (fun s => BR n l b i s.2) (fun s => 0 ≤ s.1 ∧ s.1 ≤ 3 ∧ (s.2.length : Int) ≤ s.1) (fun s => (3 - s.1).toNat) (OR0 n l b i) (k, xs) .normal (VR0 b (l i) (k + 1)) (BR n l b i xs) := by
    intro hk hp
    refine ⟨(k + 1, xs), ⟨by dsimp only; omega, by dsimp only; omega, by dsimp only; omega⟩, by dsimp only; omega, rfl, fitBs_refl _, ?_⟩
    rintro e vs bs ⟨rfl, rfl, rfl⟩
    refine ⟨rfl, rfl, ?_⟩
    rw [filt_step (p := rP b (l i)) hk, hp]
    simp
  have hfit : ∀ v, fitBs (BR n l b i (xs ++ [v])) [srcA n l, valA n l, seenA b, cSu b, cSu b, cSo l i, .vec (xs.length + 1) (catG xs.length (fun i => [I (xs.getD i 0)]) fun j => List.take 1 (List.drop (j * 1) [I v])) 1 3, VB.cells [VV.sl 6 (xs.length + 1)] 30, rec46] := fun v =>
    ⟨VB.fit_refl _, VB.fit_refl _, VB.fit_refl _, VB.fit_refl _, VB.fit_refl _, VB.fit_refl _, fit_snoc xs v, by rw [List.length_append]; exact VB.fit_refl _, VB.fit_refl _, trivial⟩
  by_cases hlt : k < 3
  · refine cond_dk hlt ?_
    have hk : k = 0 ∨ k = 1 ∨ k = 2 := by omega
    rcases hk with rfl | rfl | rfl
    · refine cond_dk rfl (cond_d (fun q => cond_k (beq_t rfl) (cond_k (roomB_t (by omega)) (cond_r (by omega) (hyes hlt (by rw [rP0]; exact decide_eq_true q) _ (hfit 0))))) (fun q => cond_r (by omega) (hno hlt (by rw [rP0]; exact decide_eq_false q))))
    · refine cond_d (fun h => by omega) (fun _ => cond_dk rfl (cond_d (fun q => cond_k (beq_t rfl) (cond_k (roomB_t (by omega)) (cond_r (by omega) (hyes hlt (by rw [rP1]; exact decide_eq_true q) _ (hfit 1))))) (fun q => cond_r (by omega) (hno hlt (by rw [rP1]; exact decide_eq_false q)))))
    · refine cond_d (fun h => by omega) (fun _ => cond_d (fun h => by omega) (fun _ => cond_dk rfl (cond_d (fun q => cond_k (beq_t rfl) (cond_k (roomB_t (by omega)) (cond_r (by omega) (hyes hlt (by rw [rP2]; exact decide_eq_true q) _ (hfit 2))))) (fun q => cond_r (by omega) (hno hlt (by rw [rP2]; exact decide_eq_false q))))))
  · refine cond_d (fun h => absurd h hlt) (fun _ => ?_)
    have : k = 3 := by omega
    subst this
    exact ⟨rfl, rfl, by rw [filt_end (by omega)]; simp⟩

def OR2 (n : Nat) (l : Int → Src) (b : Sus) (i : Int) (s : Int × List Int) (e : VEx) (vs : List VV) (bs : List VB) : Prop :=
  e = .exit 2 ∧ vs = VR2 l i (l i).vl ∧ bs = BR n l b i (s.2 ++ filt (rP b (l i)) ((l i).vl - s.1).toNat (3 + s.1))

def IR2 (l : Int → Src) (i : Int) (s : Int × List Int) : Prop := 0 ≤ s.1 ∧ s.1 ≤ (l i).vl ∧ (s.2.length : Int) ≤ 3 + s.1

theorem r2_round {k : Int} {xs : List Int} (hi : 0 ≤ i ∧ i < n) (hv : (l i).vl ≤ 12) (hb : b.sl = (l i).vl) (h0 : 0 ≤ k) (h1 : k ≤ (l i).vl) (h2 : (xs.length : Int) ≤ 3 + k) : codeE Try.prog (callN Try.prog noSpec noL 10 20) (fun _ => none) true 10 74 0 (loopB 2 (bodyOf Try.prog 47)) (dsR2.zip (VR2 l i k)) ⟨9, nsR.zip (BR n l b i xs)⟩
    (obs 9 dsR2 nsR (RoundQ (fun s : Int × List Int => VR2 l i s.1) (fun s => BR n l b i s.2) (IR2 l i) (fun s => ((l i).vl - s.1).toNat) (OR2 n l b i) (k, xs))) := by
  rw [r2_ev]
  have hst : k < (l i).vl → filt (rP b (l i)) ((l i).vl - k).toNat (3 + k) = (bif rP b (l i) (3 + k) then [3 + k] else []) ++ filt (rP b (l i)) ((l i).vl - (k + 1)).toNat (3 + (k + 1)) := by
    intro h
    have := filt_step (p := rP b (l i)) (i := 3 + k) (N := 3 + (l i).vl) (by omega)
    rw [show 3 + ((l i).vl : Int) - (3 + k) = (l i).vl - k by omega, show 3 + ((l i).vl : Int) - (3 + k + 1) = (l i).vl - (k + 1) by omega, show 3 + k + 1 = 3 + (k + 1) by omega] at this
    exact this
  have hfit : ∀ v, fitBs (BR n l b i (xs ++ [v])) [srcA n l, valA n l, seenA b, cSu b, cSu b, cSo l i, .vec (xs.length + 1) (catG xs.length (fun i => [I (xs.getD i 0)]) fun j => List.take 1 (List.drop (j * 1) [I v])) 1 3, VB.cells [VV.sl 6 (xs.length + 1)] 30, rec46] := fun v =>
    ⟨VB.fit_refl _, VB.fit_refl _, VB.fit_refl _, VB.fit_refl _, VB.fit_refl _, VB.fit_refl _, fit_snoc xs v, by rw [List.length_append]; exact VB.fit_refl _, VB.fit_refl _, trivial⟩
  by_cases hlt : k < (l i).vl
  · have hyes : rP b (l i) (3 + k) = true → RoundQ (fun s : Int × List Int => VR2 l i s.1) (fun s => BR n l b i s.2) (IR2 l i) (fun s => ((l i).vl - s.1).toNat) (OR2 n l b i) (k, xs) .normal (VR2 l i (k + 1)) [srcA n l, valA n l, seenA b, cSu b, cSu b, cSo l i, .vec (xs.length + 1) (catG xs.length (fun i => [I (xs.getD i 0)]) fun j => List.take 1 (List.drop (j * 1) [I (3 + k)])) 1 3, VB.cells [VV.sl 6 (xs.length + 1)] 30, rec46] := by
      intro hp
      refine ⟨(k + 1, xs ++ [3 + k]), ⟨by dsimp only; omega, by dsimp only; omega, by simp; omega⟩, by dsimp only; omega, rfl, hfit _, ?_⟩
      rintro e vs bs ⟨rfl, rfl, rfl⟩
      refine ⟨rfl, rfl, ?_⟩
      rw [hst hlt, hp]
      simp
    have hno : rP b (l i) (3 + k) = false → RoundQ (fun s : Int × List Int => VR2 l i s.1) (fun s => BR n l b i s.2) (IR2 l i) (fun s => ((l i).vl - s.1).toNat) (OR2 n l b i) (k, xs) .normal (VR2 l i (k + 1)) (BR n l b i xs) := by
      intro hp
      refine ⟨(k + 1, xs), ⟨by dsimp only; omega, by dsimp only; omega, by dsimp only; omega⟩, by dsimp only; omega, rfl, fitBs_refl _, ?_⟩
      rintro e vs bs ⟨rfl, rfl, rfl⟩
      refine ⟨rfl, rfl, ?_⟩
      rw [hst hlt, hp]
      simp
    refine cond_dk hlt (cond_dk ⟨h0, hlt⟩ ⟨⟨i, rfl, hi.1, hi.2, by omega, by omega⟩, cond_dk ⟨h0, by omega⟩ ⟨⟨rfl, by omega, by omega⟩, ?_⟩⟩)
    simp only [Int.zero_add, at1]
    refine cond_d (fun q => ?_) (fun q => cond_dk ⟨h0, by omega⟩ ⟨⟨trivial, by omega, by omega⟩, ?_⟩)
    · exact cond_r (by omega) (cond_k (beq_t rfl) (cond_k (roomB_t (by omega)) (cond_r (by omega) (hyes (by rw [rP3 h0]; simp [q])))))
    · refine cond_d (fun q2 => ?_) (fun q2 => ?_)
      · exact cond_r (by omega) (cond_k (beq_t rfl) (cond_k (roomB_t (by omega)) (cond_r (by omega) (hyes (by rw [rP3 h0]; simp [q2])))))
      · exact cond_r (by omega) (hno (by rw [rP3 h0]; simp [q, q2]))
  · refine cond_d (fun h => absurd h hlt) (fun _ => ?_)
    have : k = (l i).vl := by omega
    subst this
    refine ⟨rfl, rfl, ?_⟩
    have : (((l i).vl : Int) - (l i).vl).toNat = 0 := by omega
    simp only [this, filt, List.append_nil]
end
end Go.Sx.Gen

/- genuine: Reasons, its list, evaluated. -/

namespace Go.Sx.Gen
open Go Go.Sx Go.Proofs
set_option maxRecDepth 100000

def OkI (n : Nat) (l : Int → Src) (b : Sus) (i : Int) : Prop := (0 ≤ i ∧ i < n) ∧ (l i).vl ≤ 12 ∧ b.sl = (l i).vl

def LR0 (n : Nat) (l : Int → Src) (b : Sus) (i : Int) : LT := fun lock t h K =>
  FitP lock h t ⟨9, nsR.zip (BR n l b i [])⟩ (dsR0.zip (VR0 b (l i) 0)) ∧ K .normal (dsR0.zip (VR0 b (l i) 3)) ⟨9, nsR.zip (BR n l b i (filt (rP b (l i)) 3 0))⟩

def LR2 (n : Nat) (l : Int → Src) (b : Sus) (i : Int) : LT := fun lock t h K =>
  FitP lock h t ⟨9, nsR.zip (BR n l b i (filt (rP b (l i)) 3 0))⟩ (dsR2.zip (VR2 l i 0)) ∧ OkI n l b i ∧ K .normal (dsR2.zip (VR2 l i (l i).vl)) ⟨9, nsR.zip (BR n l b i (reasonsF b (l i)))⟩

def hR (n : Nat) (l : Int → Src) (b : Sus) (i : Int) : VH := ⟨6, [(5, cSo l i), (4, cSu b), (3, cSu b), (0, srcA n l), (1, valA n l), (2, seenA b)]⟩

theorem f46_ev (n : Nat) (l : Int → Src) (b : Sus) (i : Int) (Q : VRes → VH → Prop) : callN Try.prog noSpec (atF 47 [(0, LR0 n l b i), (2, LR2 n l b i)]) 10 20 0 (.fn 46) [.sl 6 0, fR] ((hR n l b i).new (vecI [])) Q =
  (FitP 0 (VH.mk (9) (nsR.zip (BR n l b i []))) (dsR0.zip (VR0 b (l i) (0 : Int))) (VH.mk (9) (nsR.zip (BR n l b i []))) (dsR0.zip (VR0 b (l i) (0 : Int))) ∧ FitP 0 (VH.mk (9) (nsR.zip (BR n l b i (filt (rP b (l i)) 3 (0 : Int))))) (dsR2.zip (VR2 l i (0 : Int))) (VH.mk (9) (nsR.zip (BR n l b i (filt (rP b (l i)) 3 (0 : Int))))) (dsR2.zip (VR2 l i (0 : Int))) ∧ OkI n l b i ∧ Q (VRes.ret (VV.sl 6 (reasonsF b (l i)).length)) (VH.mk (9) ([(8, VB.gone), (0, srcA n l), (1, valA n l), (2, seenA b), (3, cSu b), (4, cSu b), (5, cSo l i), (6, VB.vec (reasonsF b (l i)).length (fun i_1 => [I ((reasonsF b (l i)).getD i_1 (0 : Int))]) 1 (3 : TypeId)), (7, VB.cells [VV.sl 6 (reasonsF b (l i)).length] (30 : TypeId)), (8, rec46)]))) := by kernel_rfl


end Go.Sx.Gen

/- genuine: Reasons, its list. -/

namespace Go.Sx.Gen
open Go Go.Sx Go.Proofs
set_option maxRecDepth 100000

theorem lockP_below {lock : Nat} {h h' : VH} (hs : ∀ m, m < h.nx → h'.at m = h.at m) : LockP lock h h' := by
  intro m _ hf
  rcases Nat.lt_or_ge m h.nx with h1 | h1
  · exact hs m h1
  · refine absurd ?_ hf
    show (bif Nat.blt m h.nx then lookB h.bs m else .free) = _
    rw [blt_f (by omega)]; rfl

section
variable {n : Nat} {l : Int → Src} {b : Sus} {i : Int}

theorem LR0_ok : LSound Try.prog true (.block 0 (.loop (loopB 0 (bodyOf Try.prog 47)))) 74 (LR0 n l b i) := by
  refine loop_row hmix good0 (un := 10) (ds := dsR0) (ns := nsR) (nx := 9) (fun s : Int × List Int => VR0 b (l i) s.1) (fun s => BR n l b i s.2) (fun s => 0 ≤ s.1 ∧ s.1 ≤ 3 ∧ (s.2.length : Int) ≤ s.1) (fun s => (3 - s.1).toNat) (OR0 n l b i) noL_ok ?_ ?_
  · rintro ⟨k, xs⟩ ⟨h0, h1, h2⟩
    exact r0_round h0 h1 h2
  · rintro lock t h K ⟨hf, hK⟩
    refine ⟨(0, []), hf, ⟨by simp, by simp, by simp⟩, ?_⟩
    rintro e vs bs ⟨rfl, rfl, rfl⟩
    exact hK

theorem LR2_ok : LSound Try.prog true (.block 2 (.loop (loopB 2 (bodyOf Try.prog 47)))) 74 (LR2 n l b i) := by
  by_cases hi : OkI n l b i
  · refine loop_row hmix good0 (un := 10) (ds := dsR2) (ns := nsR) (nx := 9) (fun s : Int × List Int => VR2 l i s.1) (fun s => BR n l b i s.2) (IR2 l i) (fun s => ((l i).vl - s.1).toNat) (OR2 n l b i) noL_ok ?_ ?_
    · rintro ⟨k, xs⟩ ⟨h0, h1, h2⟩
      exact r2_round hi.1 hi.2.1 hi.2.2 h0 h1 h2
    · rintro lock t h K ⟨hf, _, hK⟩
      refine ⟨(0, filt (rP b (l i)) 3 0), hf, ⟨by simp, by simp, ?_⟩, ?_⟩
      · have := filt_le (p := rP b (l i)) (a := 3) (i := 0)
        dsimp only; omega
      · rintro e vs bs ⟨rfl, rfl, rfl⟩
        have : filt (rP b (l i)) 3 0 ++ filt (rP b (l i)) (((l i).vl : Int) - 0).toNat (3 + 0) = reasonsF b (l i) := by
          rw [reasonsF, filt_cut]
          have : (((l i).vl : Int) - 0).toNat = (l i).vl := by omega
          rw [this]
          rfl
        simp only [this, exitOf, beq_t rfl, cond_true]
        exact hK
  · rintro lock t h K ⟨hf, hc, hK⟩
    exact (hi hc).elim

theorem lo47 : LoopsOk Try.prog 47 [(0, LR0 n l b i), (2, LR2 n l b i)] := by
  intro x hx
  simp only [List.mem_cons, List.not_mem_nil, or_false] at hx
  rcases hx with rfl | rfl
  · exact ⟨by kernel_rfl, LR0_ok⟩
  · exact ⟨by kernel_rfl, LR2_ok⟩

theorem c46_v (hi : OkI n l b i) : CallsV Try.prog 46 [.nils, fR] (hR n l b i) (.ret (.sl 6 (reasonsF b (l i)).length)) ⟨9, [(0, srcA n l), (1, valA n l), (2, seenA b), (3, cSu b), (4, cSu b), (5, cSo l i), (6, vecI (reasonsF b (l i)))]⟩ := by
  obtain ⟨r, h', hQ, hc⟩ := of_callN (callL_good (sp := noSpec) hmix (fun _ _ h => absurd h (by simp [noSpec])) (lo47 (n := n) (l := l) (b := b) (i := i)) (un := 10) 20) (f := 46) (args := [.sl 6 0, fR]) (h := (hR n l b i).new (vecI []))
    (K := fun r h' => r = .ret (.sl 6 (reasonsF b (l i)).length) ∧ h' = ⟨9, [(8, .gone), (0, srcA n l), (1, valA n l), (2, seenA b), (3, cSu b), (4, cSu b), (5, cSo l i), (6, vecI (reasonsF b (l i))), (7, VB.cells [VV.sl 6 (reasonsF b (l i)).length] 30), (8, rec46)]⟩)
    (by
      rw [f46_ev]
      exact ⟨fitP_self rfl, fitP_self rfl, hi, rfl, rfl⟩)
  obtain ⟨rfl, rfl⟩ := hQ
  have h1 := calls_pre_ghost (args := [.nils, fR]) (args2 := [.sl 6 0, fR]) (h := hR n l b i) _ _ _ hc (fun R xs hv hx => by
    obtain ⟨x, r, h1, h2, rfl⟩ := hx
    exact ⟨x, r, nil_ghost hv h1, h2, rfl⟩)
  exact calls_weak h1 (show 6 ≤ 9 by decide) ⟨VB.fit_refl _, VB.fit_refl _, VB.fit_refl _, VB.fit_refl _, VB.fit_refl _, VB.fit_refl _, VB.fit_refl _, trivial⟩ rfl rfl

/-- Collect's list as a row. -/
def c46T (n : Nat) (l : Int → Src) (b : Sus) (i : Int) : FuncId × Spec1 := (46, fun _ args h K =>
  (h = hR n l b i ∧ args = [.nils, fR] ∧ OkI n l b i) ∧ K (.ret (.sl 6 (reasonsF b (l i)).length)) ⟨9, [(0, srcA n l), (1, valA n l), (2, seenA b), (3, cSu b), (4, cSu b), (5, cSo l i), (6, vecI (reasonsF b (l i)))]⟩)

theorem c46_ok : SpOk Try.prog (c46T n l b i).1 (c46T n l b i).2 := by
  intro lock args h K hK
  obtain ⟨⟨rfl, rfl, hi⟩, hK⟩ := hK
  refine ⟨_, _, hK, lockP_below fun m hm => ?_, c46_v hi⟩
  have hm : m < 6 := hm
  have : m = 0 ∨ m = 1 ∨ m = 2 ∨ m = 3 ∨ m = 4 ∨ m = 5 := by omega
  rcases this with rfl | rfl | rfl | rfl | rfl | rfl <;> rfl
end
end Go.Sx.Gen

/- genuine: fits, evaluated. -/

namespace Go.Sx.Gen
open Go Go.Sx Go.Proofs
set_option maxRecDepth 100000

def bV (b : Sus) : VV := .agg [I b.glass, I b.paper, I b.slo, I b.shi, .slice (.el 2 [] 0 0) b.sl b.sc]
def sV (l : Int → Src) (i : Int) : VV := .agg [I (l i).cask, I (l i).drawn, I (l i).slo, I (l i).shi, .slice (.el 1 [i] 0 0) (l i).vl (l i).vc]
abbrev fF : VV := .func 47 [] [.ptr (.own 7 0), .ptr (.own 6 0)]
def sl38 (l : Int → Src) (b : Sus) (i : Int) : Slots := [(7, fF), (6, sV l i), (5, bV b), (4, .ptr (.own 5 0)), (3, .ptr (.own 4 0)), (2, .ptr (.own 3 0)), (0, bV b), (1, sV l i)]
noncomputable def as38 : Code := rfAs Try.prog 38
noncomputable def bd38 : Code := rfBd Try.prog 38
noncomputable def rec38 (l : Int → Src) (b : Sus) (i : Int) : VB := .loop true none (sl38 l b i) 9 [8] as38 bd38
noncomputable def BF (n : Nat) (l : Int → Src) (b : Sus) (i : Int) : List VB := [srcA n l, valA n l, seenA b, cSu b, cSo l i, .cells [.bool false] 4, cSu b, cSo l i, rec38 l b i]
def VF0 (b : Sus) (s : Src) (k : Int) : List VV := [I k, .agg [.bool (decide (s.drawn < b.glass)), .bool (decide (s.drawn < b.paper)), .bool (decide (s.shi < b.slo))], .yld 8, .ptr (.own 7 0), .ptr (.own 6 0)]
def VF2 (l : Int → Src) (i k : Int) : List VV := [I k, I (l i).vl, .slice (.el 1 [i] 0 0) (l i).vl (l i).vc, .yld 8, .ptr (.own 7 0), .ptr (.own 6 0)]

/-- Has a list no element? -/
def eN (xs : List Int) : Bool := xs.isEmpty
noncomputable def BF1 (n : Nat) (l : Int → Src) (b : Sus) (i : Int) : List VB := [srcA n l, valA n l, seenA b, cSu b, cSo l i, .cells [.bool false] 4, cSu b, cSo l i, .loop false (some .ret) (sl38 l b i) 9 [8] as38 bd38]

def LF0 (n : Nat) (l : Int → Src) (b : Sus) (i : Int) : LT := fun lock t h K =>
  FitP lock h t ⟨9, nsR.zip (BF n l b i)⟩ (dsR0.zip (VF0 b (l i) 0)) ∧ (eN (filt (rP b (l i)) 3 0) = true → K .normal (dsR0.zip (VF0 b (l i) 3)) ⟨9, nsR.zip (BF n l b i)⟩) ∧
    (eN (filt (rP b (l i)) 3 0) = false → ∀ k, K .ret (dsR0.zip (VF0 b (l i) k)) ⟨9, nsR.zip (BF1 n l b i)⟩)

def LF2 (n : Nat) (l : Int → Src) (b : Sus) (i : Int) : LT := fun lock t h K =>
  FitP lock h t ⟨9, nsR.zip (BF n l b i)⟩ (dsR2.zip (VF2 l i 0)) ∧ OkI n l b i ∧ (eN (filt (rP b (l i)) (l i).vl 3) = true → K .normal (dsR2.zip (VF2 l i (l i).vl)) ⟨9, nsR.zip (BF n l b i)⟩) ∧
    (eN (filt (rP b (l i)) (l i).vl 3) = false → ∀ k, K .ret (dsR2.zip (VF2 l i k)) ⟨9, nsR.zip (BF1 n l b i)⟩)

def vecBf (L : Nat) (p : Int → Bool) : VB := .vec L (fun j => [.bool (p (j : Int))]) 1 4
def hA (n : Nat) (l : Int → Src) (b : Sus) (i : Int) (L : Nat) : List VB := [srcA n l, valA n l, seenA b, cSu b, cSo l i, vecBf L (rP b (l i))]
def hA3 (n : Nat) (l : Int → Src) (b : Sus) (i : Int) : List VB := [srcA n l, valA n l, seenA b, cSu b, cSo l i, .vec 3 (fun j => ([.bool (decide ((l i).drawn < b.glass)), .bool (decide ((l i).drawn < b.paper)), .bool (decide ((l i).shi < b.slo))].drop (j * 1)).take 1) 1 4]
def VAa (k : Nat) : List VV := [I k, .sl 5 (3 + k), .ptr (.own 3 0), .ptr (.own 4 0)]
def VAb (m k : Nat) (L : Nat) : List VV := [.sl 6 m, I k, .sl 5 L]

def LA0 (n : Nat) (l : Int → Src) (b : Sus) (i : Int) : LT := fun lock t h K =>
  FitP lock h t ⟨6, [0, 1, 2, 3, 4, 5].zip (hA3 n l b i)⟩ ([6, 5, 2, 3].zip (VAa 0)) ∧ OkI n l b i ∧ K .normal ([6, 5, 2, 3].zip (VAa (l i).vl)) ⟨6, [0, 1, 2, 3, 4, 5].zip (hA n l b i (3 + (l i).vl))⟩

def LA2 (n : Nat) (l : Int → Src) (b : Sus) (i : Int) : LT := fun lock t h K =>
  FitP lock h t ⟨6, [0, 1, 2, 3, 4, 5].zip (hA n l b i (3 + (l i).vl))⟩ ([7, 8, 5].zip [.nils, I 0, .sl 5 (3 + (l i).vl)]) ∧ OkI n l b i ∧
    K .normal ([7, 8, 5].zip (VAb (reasonsF b (l i)).length (3 + (l i).vl) (3 + (l i).vl))) ⟨7, [0, 1, 2, 3, 4, 5, 6].zip (hA n l b i (3 + (l i).vl) ++ [vecI (reasonsF b (l i))])⟩

theorem p0_ev (n : Nat) (l : Int → Src) (b : Sus) (i k : Int) (X : VEx → List VV → List VB → Prop) : codeE Try.prog (callN Try.prog noSpec noL 10 20) (fun _ => none) true 10 74 0 (loopB 0 (bodyOf Try.prog 47)) (dsR0.zip (VF0 b (l i) k)) ⟨9, nsR.zip (BF n l b i)⟩ (obs 9 dsR0 nsR X) =
  (bif decide (k < (3 : Int)) then
 bif decide (k = (↑0 : Int)) then
 bif decide ((l i).drawn < b.glass) then
 X VEx.ret [I k, VV.agg [VV.bool (decide ((l i).drawn < b.glass)), VV.bool (decide ((l i).drawn < b.paper)), VV.bool (decide ((l i).shi < b.slo))], VV.yld 8, VV.ptr (VA.own 7 0), VV.ptr (VA.own 6 0)] [srcA n l, valA n l, seenA b, cSu b, cSo l i, VB.cells [VV.bool false] (4 : TypeId), cSu b, cSo l i, VB.loop false (some VEx.ret) (sl38 l b i) 9 [8] as38 bd38]
 else bif inK IntKind.i64 (k + (1 : Int)) then
 X VEx.normal [I (k + (1 : Int)), VV.agg [VV.bool (decide ((l i).drawn < b.glass)), VV.bool (decide ((l i).drawn < b.paper)), VV.bool (decide ((l i).shi < b.slo))], VV.yld 8, VV.ptr (VA.own 7 0), VV.ptr (VA.own 6 0)] [srcA n l, valA n l, seenA b, cSu b, cSo l i, VB.cells [VV.bool false] (4 : TypeId), cSu b, cSo l i, VB.loop true none (sl38 l b i) 9 [8] as38 bd38]
 else False
 else bif decide (k = (↑(0 + 1) : Int)) then
 bif decide ((l i).drawn < b.paper) then
 X VEx.ret [I k, VV.agg [VV.bool (decide ((l i).drawn < b.glass)), VV.bool (decide ((l i).drawn < b.paper)), VV.bool (decide ((l i).shi < b.slo))], VV.yld 8, VV.ptr (VA.own 7 0), VV.ptr (VA.own 6 0)] [srcA n l, valA n l, seenA b, cSu b, cSo l i, VB.cells [VV.bool false] (4 : TypeId), cSu b, cSo l i, VB.loop false (some VEx.ret) (sl38 l b i) 9 [8] as38 bd38]
 else bif inK IntKind.i64 (k + (1 : Int)) then
 X VEx.normal [I (k + (1 : Int)), VV.agg [VV.bool (decide ((l i).drawn < b.glass)), VV.bool (decide ((l i).drawn < b.paper)), VV.bool (decide ((l i).shi < b.slo))], VV.yld 8, VV.ptr (VA.own 7 0), VV.ptr (VA.own 6 0)] [srcA n l, valA n l, seenA b, cSu b, cSo l i, VB.cells [VV.bool false] (4 : TypeId), cSu b, cSo l i, VB.loop true none (sl38 l b i) 9 [8] as38 bd38]
 else False
 else bif decide (k = (↑(0 + 1 + 1) : Int)) then
 bif decide ((l i).shi < b.slo) then
 X VEx.ret [I k, VV.agg [VV.bool (decide ((l i).drawn < b.glass)), VV.bool (decide ((l i).drawn < b.paper)), VV.bool (decide ((l i).shi < b.slo))], VV.yld 8, VV.ptr (VA.own 7 0), VV.ptr (VA.own 6 0)] [srcA n l, valA n l, seenA b, cSu b, cSo l i, VB.cells [VV.bool false] (4 : TypeId), cSu b, cSo l i, VB.loop false (some VEx.ret) (sl38 l b i) 9 [8] as38 bd38]
 else bif inK IntKind.i64 (k + (1 : Int)) then
 X VEx.normal [I (k + (1 : Int)), VV.agg [VV.bool (decide ((l i).drawn < b.glass)), VV.bool (decide ((l i).drawn < b.paper)), VV.bool (decide ((l i).shi < b.slo))], VV.yld 8, VV.ptr (VA.own 7 0), VV.ptr (VA.own 6 0)] [srcA n l, valA n l, seenA b, cSu b, cSo l i, VB.cells [VV.bool false] (4 : TypeId), cSu b, cSo l i, VB.loop true none (sl38 l b i) 9 [8] as38 bd38]
 else False
 else False
 else X (VEx.exit 0) [I k, VV.agg [VV.bool (decide ((l i).drawn < b.glass)), VV.bool (decide ((l i).drawn < b.paper)), VV.bool (decide ((l i).shi < b.slo))], VV.yld 8, VV.ptr (VA.own 7 0), VV.ptr (VA.own 6 0)] [srcA n l, valA n l, seenA b, cSu b, cSo l i, VB.cells [VV.bool false] (4 : TypeId), cSu b, cSo l i, VB.loop true none (sl38 l b i) 9 [8] as38 bd38]) := by kernel_rfl

theorem p2_ev (n : Nat) (l : Int → Src) (b : Sus) (i k : Int) (X : VEx → List VV → List VB → Prop) : codeE Try.prog (callN Try.prog noSpec noL 10 20) (fun _ => none) true 10 74 0 (loopB 2 (bodyOf Try.prog 47)) (dsR2.zip (VF2 l i k)) ⟨9, nsR.zip (BF n l b i)⟩ (obs 9 dsR2 nsR X) =
  (bif decide (k < (↑(l i).vl : Int)) then
 bif decide ((0 : Int) ≤ k ∧ k < (↑(l i).vl : Int)) then
 (∃ i_1, [i] = [i_1] ∧ (0 : Int) ≤ i_1 ∧ i_1 < (↑n : Int) ∧ (0 : Int) ≤ (0 : Int) + k ∧ (0 : Int) + k < (↑(l i_1).vl : Int)) ∧ bif decide ((0 : Int) ≤ k ∧ k < (↑b.sl : Int)) then
 (([] : List Int) = [] ∧ (0 : Int) ≤ (0 : Int) + k ∧ (0 : Int) + k < (↑b.sl : Int)) ∧ bif decide (at1 (fun i => (l i).hi) [i] ((0 : Int) + k) < (kLo b) [] ((0 : Int) + k)) then
 bif inK IntKind.i64 ((3 : Int) + k) then
 X VEx.ret [I k, I (↑(l i).vl : Int), VV.slice (VA.el 1 [i] (0 : Int) 0) (l i).vl (l i).vc, VV.yld 8, VV.ptr (VA.own 7 0), VV.ptr (VA.own 6 0)] [srcA n l, valA n l, seenA b, cSu b, cSo l i, VB.cells [VV.bool false] (4 : TypeId), cSu b, cSo l i, VB.loop false (some VEx.ret) (sl38 l b i) 9 [8] as38 bd38]
 else False
 else bif decide ((0 : Int) ≤ k ∧ k < (↑b.sl : Int)) then
 (([] : List Int) = [] ∧ (0 : Int) ≤ (0 : Int) + k ∧ (0 : Int) + k < (↑b.sl : Int)) ∧ bif decide (at1 (fun i => (l i).lo) [i] ((0 : Int) + k) > (kHi b) [] ((0 : Int) + k)) then
 bif inK IntKind.i64 ((3 : Int) + k) then
 X VEx.ret [I k, I (↑(l i).vl : Int), VV.slice (VA.el 1 [i] (0 : Int) 0) (l i).vl (l i).vc, VV.yld 8, VV.ptr (VA.own 7 0), VV.ptr (VA.own 6 0)] [srcA n l, valA n l, seenA b, cSu b, cSo l i, VB.cells [VV.bool false] (4 : TypeId), cSu b, cSo l i, VB.loop false (some VEx.ret) (sl38 l b i) 9 [8] as38 bd38]
 else False
 else bif inK IntKind.i64 (k + (1 : Int)) then
 X VEx.normal [I (k + (1 : Int)), I (↑(l i).vl : Int), VV.slice (VA.el 1 [i] (0 : Int) 0) (l i).vl (l i).vc, VV.yld 8, VV.ptr (VA.own 7 0), VV.ptr (VA.own 6 0)] [srcA n l, valA n l, seenA b, cSu b, cSo l i, VB.cells [VV.bool false] (4 : TypeId), cSu b, cSo l i, VB.loop true none (sl38 l b i) 9 [8] as38 bd38]
 else False
 else False
 else False
 else False
 else X (VEx.exit 2) [I k, I (↑(l i).vl : Int), VV.slice (VA.el 1 [i] (0 : Int) 0) (l i).vl (l i).vc, VV.yld 8, VV.ptr (VA.own 7 0), VV.ptr (VA.own 6 0)] [srcA n l, valA n l, seenA b, cSu b, cSo l i, VB.cells [VV.bool false] (4 : TypeId), cSu b, cSo l i, VB.loop true none (sl38 l b i) 9 [8] as38 bd38]) := by kernel_rfl

theorem f38_ev (n : Nat) (l : Int → Src) (b : Sus) (i : Int) (Q : VRes → VH → Prop) : callN Try.prog noSpec (atF 47 [(0, LF0 n l b i), (2, LF2 n l b i)]) 10 20 0 (.fn 38) [bV b, sV l i] (bH n l b) Q =
  (FitP 0 (VH.mk (9) (nsR.zip (BF n l b i))) (dsR0.zip (VF0 b (l i) (0 : Int))) (VH.mk (9) (nsR.zip (BF n l b i))) (dsR0.zip (VF0 b (l i) (0 : Int))) ∧ (eN (filt (rP b (l i)) 3 (0 : Int)) = true → FitP 0 (VH.mk (9) (nsR.zip (BF n l b i))) (dsR2.zip (VF2 l i (0 : Int))) (VH.mk (9) (nsR.zip (BF n l b i))) (dsR2.zip (VF2 l i (0 : Int))) ∧ OkI n l b i ∧ (eN (filt (rP b (l i)) (l i).vl (3 : Int)) = true → Q (VRes.ret (VV.bool true)) (VH.mk (9) ([(5, VB.cells [VV.bool true] (4 : TypeId)), (8, VB.gone), (0, srcA n l), (1, valA n l), (2, seenA b), (3, cSu b), (4, cSo l i), (5, VB.cells [VV.bool false] (4 : TypeId)), (6, cSu b), (7, cSo l i), (8, VB.loop true none (sl38 l b i) 9 [8] as38 bd38)]))) ∧ (eN (filt (rP b (l i)) (l i).vl (3 : Int)) = false → ∀ (k : Int), Q (VRes.ret (VV.bool false)) (VH.mk (9) ([(8, VB.gone), (0, srcA n l), (1, valA n l), (2, seenA b), (3, cSu b), (4, cSo l i), (5, VB.cells [VV.bool false] (4 : TypeId)), (6, cSu b), (7, cSo l i), (8, VB.loop false (some VEx.ret) (sl38 l b i) 9 [8] as38 bd38)])))) ∧ (eN (filt (rP b (l i)) 3 (0 : Int)) = false → ∀ (k : Int), Q (VRes.ret (VV.bool false)) (VH.mk (9) ([(8, VB.gone), (0, srcA n l), (1, valA n l), (2, seenA b), (3, cSu b), (4, cSo l i), (5, VB.cells [VV.bool false] (4 : TypeId)), (6, cSu b), (7, cSo l i), (8, VB.loop false (some VEx.ret) (sl38 l b i) 9 [8] as38 bd38)])))) := by kernel_rfl

theorem a0_ev (n : Nat) (l : Int → Src) (b : Sus) (i : Int) (k : Nat) (X : VEx → List VV → List VB → Prop) : codeE Try.prog (callN Try.prog noSpec noL 10 20) (fun _ => none) true 10 80 0 (loopB 0 (bodyOf Try.prog 34)) ([6, 5, 2, 3].zip (VAa k)) ⟨6, [0, 1, 2, 3, 4, 5].zip (hA n l b i (3 + k))⟩ (obs 6 [6, 5, 2, 3] [0, 1, 2, 3, 4, 5] X) =
  (bif decide ((↑k : Int) < (↑b.sl : Int)) then
 bif decide ((0 : Int) ≤ (↑k : Int) ∧ (↑k : Int) < (↑(l i).vl : Int)) then
 (∃ i_1, [i] = [i_1] ∧ (0 : Int) ≤ i_1 ∧ i_1 < (↑n : Int) ∧ (0 : Int) ≤ (0 : Int) + (↑k : Int) ∧ (0 : Int) + (↑k : Int) < (↑(l i_1).vl : Int)) ∧ bif decide ((0 : Int) ≤ (↑k : Int) ∧ (↑k : Int) < (↑b.sl : Int)) then
 (([] : List Int) = [] ∧ (0 : Int) ≤ (0 : Int) + (↑k : Int) ∧ (0 : Int) + (↑k : Int) < (↑b.sl : Int)) ∧ bif decide (at1 (fun i => (l i).hi) [i] ((0 : Int) + (↑k : Int)) < (kLo b) [] ((0 : Int) + (↑k : Int))) then
 bif (3 + k).beq (3 + k) then
 bif roomB (3 + k + 1) (1) then
 bif inK IntKind.i64 ((↑k : Int) + (1 : Int)) then
 X VEx.normal [I ((↑k : Int) + (1 : Int)), VV.sl 5 (3 + k + 1), VV.ptr (VA.own 3 0), VV.ptr (VA.own 4 0)] [srcA n l, valA n l, seenA b, cSu b, cSo l i, VB.vec (3 + k + 1) (catG (3 + k) (fun j => [VV.bool (rP b (l i) (↑j : Int))]) fun j => List.take (1) (List.drop (j * (1)) [VV.bool true])) (1) 4]
 else False
 else False
 else False
 else bif decide ((0 : Int) ≤ (↑k : Int) ∧ (↑k : Int) < (↑(l i).vl : Int)) then
 (∃ i_1, [i] = [i_1] ∧ (0 : Int) ≤ i_1 ∧ i_1 < (↑n : Int) ∧ (0 : Int) ≤ (0 : Int) + (↑k : Int) ∧ (0 : Int) + (↑k : Int) < (↑(l i_1).vl : Int)) ∧ bif decide ((0 : Int) ≤ (↑k : Int) ∧ (↑k : Int) < (↑b.sl : Int)) then
 (([] : List Int) = [] ∧ (0 : Int) ≤ (0 : Int) + (↑k : Int) ∧ (0 : Int) + (↑k : Int) < (↑b.sl : Int)) ∧ bif (3 + k).beq (3 + k) then
 bif roomB (3 + k + 1) (1) then
 bif inK IntKind.i64 ((↑k : Int) + (1 : Int)) then
 X VEx.normal [I ((↑k : Int) + (1 : Int)), VV.sl 5 (3 + k + 1), VV.ptr (VA.own 3 0), VV.ptr (VA.own 4 0)] [srcA n l, valA n l, seenA b, cSu b, cSo l i, VB.vec (3 + k + 1) (catG (3 + k) (fun j => [VV.bool (rP b (l i) (↑j : Int))]) fun j => List.take (1) (List.drop (j * (1)) [VV.bool (decide (at1 (fun i => (l i).lo) [i] ((0 : Int) + (↑k : Int)) > (kHi b) [] ((0 : Int) + (↑k : Int))))])) (1) 4]
 else False
 else False
 else False
 else False
 else False
 else False
 else False
 else X (VEx.exit 0) [I (↑k : Int), VV.sl 5 (3 + k), VV.ptr (VA.own 3 0), VV.ptr (VA.own 4 0)] [srcA n l, valA n l, seenA b, cSu b, cSo l i, vecBf (3 + k) (rP b (l i))]) := by kernel_rfl

theorem a2_ev (n : Nat) (l : Int → Src) (b : Sus) (i : Int) (k : Nat) (xs : List Int) (X : VEx → List VV → List VB → Prop) : codeE Try.prog (callN Try.prog noSpec noL 10 20) (fun _ => none) true 10 80 0 (loopB 2 (bodyOf Try.prog 34)) ([7, 8, 5].zip (VAb xs.length k (3 + (l i).vl))) ⟨7, [0, 1, 2, 3, 4, 5, 6].zip (hA n l b i (3 + (l i).vl) ++ [vecI xs])⟩ (obs 7 [7, 8, 5] [0, 1, 2, 3, 4, 5, 6] X) =
  (bif decide ((↑k : Int) < (↑(3 + (l i).vl) : Int)) then
 bif decide ((0 : Int) ≤ (↑k : Int) ∧ (↑k : Int) < (↑(3 + (l i).vl) : Int)) then
 bif (3 + (l i).vl).beq (3 + (l i).vl) && true then
 bif (3 + (l i).vl).beq (3 + (l i).vl) then
 bif rP b (l i) (↑(↑k : Int).toNat : Int) then
 bif xs.length.beq xs.length then
 bif roomB (xs.length + 1) (8) then
 bif inK IntKind.i64 ((↑k : Int) + (1 : Int)) then
 X VEx.normal [VV.sl 6 (xs.length + 1), I ((↑k : Int) + (1 : Int)), VV.sl 5 (3 + (l i).vl)] [srcA n l, valA n l, seenA b, cSu b, cSo l i, vecBf (3 + (l i).vl) (rP b (l i)), VB.vec (xs.length + 1) (catG xs.length (fun i => [I (xs.getD i (0 : Int))]) fun j => List.take (1) (List.drop (j * (1)) [I (↑k : Int)])) (1) 3]
 else False
 else False
 else False
 else bif inK IntKind.i64 ((↑k : Int) + (1 : Int)) then
 X VEx.normal [VV.sl 6 xs.length, I ((↑k : Int) + (1 : Int)), VV.sl 5 (3 + (l i).vl)] [srcA n l, valA n l, seenA b, cSu b, cSo l i, vecBf (3 + (l i).vl) (rP b (l i)), vecI xs]
 else False
 else False
 else False
 else False
 else X (VEx.exit 2) [VV.sl 6 xs.length, I (↑k : Int), VV.sl 5 (3 + (l i).vl)] [srcA n l, valA n l, seenA b, cSu b, cSo l i, vecBf (3 + (l i).vl) (rP b (l i)), vecI xs]) := by kernel_rfl

theorem f34_ev (n : Nat) (l : Int → Src) (b : Sus) (i : Int) (Q : VRes → VH → Prop) : spBL Try.prog 34 noSpec [(0, LA0 n l b i), (2, LA2 n l b i)] 10 20 0 [bV b, sV l i] (bH n l b) Q =
  (FitP 0 (VH.mk (6) ([0, 1, 2, 3, 4, 5].zip (hA3 n l b i))) ([6, 5, 2, 3].zip (VAa 0)) (VH.mk (6) ([0, 1, 2, 3, 4, 5].zip (hA3 n l b i))) ([6, 5, 2, 3].zip (VAa 0)) ∧ OkI n l b i ∧ FitP 0 (VH.mk (6) ([0, 1, 2, 3, 4, 5].zip (hA n l b i (3 + (l i).vl)))) ([7, 8, 5].zip [VV.nils, I 0, VV.sl 5 (3 + (l i).vl)]) (VH.mk (6) ([0, 1, 2, 3, 4, 5].zip (hA n l b i (3 + (l i).vl)))) ([7, 8, 5].zip [VV.nils, I 0, VV.sl 5 (3 + (l i).vl)]) ∧ OkI n l b i ∧ Q (VRes.ret (VV.sl 6 (reasonsF b (l i)).length)) (VH.mk (7) ([(0, srcA n l), (1, valA n l), (2, seenA b), (3, cSu b), (4, cSo l i), (5, vecBf (3 + (l i).vl) (rP b (l i))), (6, VB.vec (reasonsF b (l i)).length (fun i_1 => [I ((reasonsF b (l i)).getD i_1 (0 : Int))]) 1 (3 : TypeId))]))) := by kernel_rfl


end Go.Sx.Gen

/- genuine: fits, and the document's reasons. -/

namespace Go.Sx
open Go
section
variable {P : Program}

/-- A loop that begins with nil is one that begins with a list of no elements. -/
theorem ghost_row {c : Code} {n d nx : Nat} {bs : List (Nat × VB)} {t0 : Slots} {T0 T : LT} (g : Nat → List VV) (s : Nat) (ty : TypeId) (h0 : LSound P true c n T0)
    (hT : ∀ lock t h K, T lock t h K → FitP lock h t ⟨nx, bs⟩ ((d, .nils) :: t0) ∧ T0 0 ((d, .sl nx 0) :: t0) ((VH.mk nx bs).new (.vec 0 g s ty)) K) : LSound P true c n T := by
  intro lock t h K hK
  obtain ⟨hf, hK⟩ := hT lock t h K hK
  obtain ⟨e, t', h', hk, _, hs⟩ := h0 _ _ _ _ hK
  obtain rfl := hf.1.1
  refine ⟨e, t', h', hk, lock0 _ _, sem_fit hf (sem_ghost g s ty hs fun R a hv ht => ?_)⟩
  have h1 := slot_ghost (d := d) (n0 := nx) (t := (d, .nils) :: t0) (by rw [look_cons]; exact if_pos rfl) R a hv ht
  intro d'
  have h2 := h1 d'
  rw [look_cons] at h2 ⊢
  by_cases h : d = d'
  · rw [if_pos h] at h2 ⊢; exact h2
  · rw [if_neg h] at h2 ⊢
    rw [look_cons, if_neg h] at h2
    exact h2
end
end Go.Sx

namespace Go.Sx.Gen
open Go Go.Sx Go.Proofs
set_option maxRecDepth 100000

section
variable {n : Nat} {l : Int → Src} {b : Sus} {i : Int}

theorem eN_step {p : Int → Bool} {i N : Int} (h : i < N) : eN (filt p (N - i).toNat i) = (!p i && eN (filt p (N - (i + 1)).toNat (i + 1))) := by
  rw [filt_step h]
  cases p i <;> rfl

theorem eN_end {p : Int → Bool} {i N : Int} (h : ¬ i < N) : eN (filt p (N - i).toNat i) = true := by
  rw [filt_end h]; rfl

theorem eN_reasons {s : Src} : eN (reasonsF b s) = (eN (filt (rP b s) 3 0) && eN (filt (rP b s) s.vl 3)) := by
  rw [reasonsF, filt_cut]
  cases filt (rP b s) 3 0 <;> rfl

def OF0 (n : Nat) (l : Int → Src) (b : Sus) (i k : Int) (e : VEx) (vs : List VV) (bs : List VB) : Prop :=
  (e = .exit 0 ∧ eN (filt (rP b (l i)) (3 - k).toNat k) = true ∧ vs = VF0 b (l i) 3 ∧ bs = BF n l b i) ∨
  (e = .ret ∧ eN (filt (rP b (l i)) (3 - k).toNat k) = false ∧ (∃ j, vs = VF0 b (l i) j) ∧ bs = BF1 n l b i)

theorem LF0_ok : LSound Try.prog true (.block 0 (.loop (loopB 0 (bodyOf Try.prog 47)))) 74 (LF0 n l b i) := by
  refine loop_row hmix good0 (un := 10) (ds := dsR0) (ns := nsR) (nx := 9) (fun k : Int => VF0 b (l i) k) (fun _ => BF n l b i) (fun k => 0 ≤ k ∧ k ≤ 3) (fun k => (3 - k).toNat) (OF0 n l b i) noL_ok ?_ ?_
  · rintro k ⟨h0, h1⟩
    rw [p0_ev]
    have hyes : k < 3 → rP b (l i) k = true → RoundQ (fun k : Int => VF0 b (l i) k) (fun _ => BF n l b i) (fun k => 0 ≤ k ∧ k ≤ 3) (fun k => (3 - k).toNat) (OF0 n l b i) k .ret (VF0 b (l i) k) (BF1 n l b i) := fun hk hp => .inr ⟨rfl, by rw [eN_step (p := rP b (l i)) hk, hp]; rfl, ⟨k, rfl⟩, rfl⟩
    have hno : k < 3 → rP b (l i) k = false → RoundQ (fun k : Int => VF0 b (l i) k) (fun _ => BF n l b i) (fun k => 0 ≤ k ∧ k ≤ 3) (fun k => (3 - k).toNat) (OF0 n l b i) k .normal (VF0 b (l i) (k + 1)) (BF n l b i) := fun hk hp =>
      ⟨k + 1, ⟨by omega, by omega⟩, by dsimp only; omega, rfl, fitBs_refl _, fun e vs bs ho => by rw [OF0, eN_step (p := rP b (l i)) hk, hp]; simpa [OF0] using ho⟩
    by_cases hlt : k < 3
    · refine cond_dk hlt ?_
      have hk : k = 0 ∨ k = 1 ∨ k = 2 := by omega
      rcases hk with rfl | rfl | rfl
      · exact cond_dk rfl (cond_d (fun q => hyes hlt (by rw [rP0]; exact decide_eq_true q)) (fun q => cond_r (by omega) (hno hlt (by rw [rP0]; exact decide_eq_false q))))
      · exact cond_d (fun h => by omega) (fun _ => cond_dk rfl (cond_d (fun q => hyes hlt (by rw [rP1]; exact decide_eq_true q)) (fun q => cond_r (by omega) (hno hlt (by rw [rP1]; exact decide_eq_false q)))))
      · exact cond_d (fun h => by omega) (fun _ => cond_d (fun h => by omega) (fun _ => cond_dk rfl (cond_d (fun q => hyes hlt (by rw [rP2]; exact decide_eq_true q)) (fun q => cond_r (by omega) (hno hlt (by rw [rP2]; exact decide_eq_false q))))))
    · refine cond_d (fun h => absurd h hlt) (fun _ => ?_)
      have : k = 3 := by omega
      subst this
      exact .inl ⟨rfl, rfl, rfl, rfl⟩
  · rintro lock t h K ⟨hf, h1, h2⟩
    refine ⟨0, hf, ⟨by omega, by omega⟩, ?_⟩
    rintro e vs bs (⟨rfl, ha, rfl, rfl⟩ | ⟨rfl, ha, ⟨j, rfl⟩, rfl⟩)
    · exact h1 ha
    · exact h2 ha j

def OF2 (n : Nat) (l : Int → Src) (b : Sus) (i k : Int) (e : VEx) (vs : List VV) (bs : List VB) : Prop :=
  (e = .exit 2 ∧ eN (filt (rP b (l i)) ((l i).vl - k).toNat (3 + k)) = true ∧ vs = VF2 l i (l i).vl ∧ bs = BF n l b i) ∨
  (e = .ret ∧ eN (filt (rP b (l i)) ((l i).vl - k).toNat (3 + k)) = false ∧ (∃ j, vs = VF2 l i j) ∧ bs = BF1 n l b i)

theorem LF2_ok : LSound Try.prog true (.block 2 (.loop (loopB 2 (bodyOf Try.prog 47)))) 74 (LF2 n l b i) := by
  by_cases hi : OkI n l b i
  · obtain ⟨⟨hi0, hi1⟩, hv, hb⟩ := hi
    refine loop_row hmix good0 (un := 10) (ds := dsR2) (ns := nsR) (nx := 9) (fun k : Int => VF2 l i k) (fun _ => BF n l b i) (fun k => 0 ≤ k ∧ k ≤ (l i).vl) (fun k => ((l i).vl - k).toNat) (OF2 n l b i) noL_ok ?_ ?_
    · rintro k ⟨h0, h1⟩
      rw [p2_ev]
      by_cases hlt : k < (l i).vl
      · have hst : eN (filt (rP b (l i)) ((l i).vl - k).toNat (3 + k)) = (!rP b (l i) (3 + k) && eN (filt (rP b (l i)) ((l i).vl - (k + 1)).toNat (3 + (k + 1)))) := by
          have := eN_step (p := rP b (l i)) (i := 3 + k) (N := 3 + (l i).vl) (by omega)
          rw [show 3 + ((l i).vl : Int) - (3 + k) = (l i).vl - k by omega, show 3 + ((l i).vl : Int) - (3 + k + 1) = (l i).vl - (k + 1) by omega, show 3 + k + 1 = 3 + (k + 1) by omega] at this
          exact this
        have hyes : rP b (l i) (3 + k) = true → RoundQ (fun k : Int => VF2 l i k) (fun _ => BF n l b i) (fun k => 0 ≤ k ∧ k ≤ (l i).vl) (fun k => ((l i).vl - k).toNat) (OF2 n l b i) k .ret (VF2 l i k) (BF1 n l b i) := fun hp => .inr ⟨rfl, by rw [hst, hp]; rfl, ⟨k, rfl⟩, rfl⟩
        have hno : rP b (l i) (3 + k) = false → RoundQ (fun k : Int => VF2 l i k) (fun _ => BF n l b i) (fun k => 0 ≤ k ∧ k ≤ (l i).vl) (fun k => ((l i).vl - k).toNat) (OF2 n l b i) k .normal (VF2 l i (k + 1)) (BF n l b i) := fun hp =>
          ⟨k + 1, ⟨by omega, by omega⟩, by dsimp only; omega, rfl, fitBs_refl _, fun e vs bs ho => by rw [OF2, hst, hp]; simpa [OF2] using ho⟩
        refine cond_dk hlt (cond_dk ⟨h0, hlt⟩ ⟨⟨i, rfl, hi0, hi1, by omega, by omega⟩, cond_dk ⟨h0, by omega⟩ ⟨⟨rfl, by omega, by omega⟩, ?_⟩⟩)
        simp only [Int.zero_add, at1]
        refine cond_d (fun q => ?_) (fun q => cond_dk ⟨h0, by omega⟩ ⟨⟨trivial, by omega, by omega⟩, ?_⟩)
        · exact cond_r (by omega) (hyes (by rw [rP3 h0]; simp [q]))
        · refine cond_d (fun q2 => ?_) (fun q2 => ?_)
          · exact cond_r (by omega) (hyes (by rw [rP3 h0]; simp [q2]))
          · exact cond_r (by omega) (hno (by rw [rP3 h0]; simp [q, q2]))
      · refine cond_d (fun h => absurd h hlt) (fun _ => ?_)
        have : k = (l i).vl := by omega
        subst this
        have : (((l i).vl : Int) - (l i).vl).toNat = 0 := by omega
        exact .inl ⟨rfl, by rw [this]; rfl, rfl, rfl⟩
    · rintro lock t h K ⟨hf, _, h1, h2⟩
      have hz : (((l i).vl : Int) - 0).toNat = (l i).vl := by omega
      refine ⟨0, hf, ⟨by omega, by omega⟩, ?_⟩
      rintro e vs bs (⟨rfl, ha, rfl, rfl⟩ | ⟨rfl, ha, ⟨j, rfl⟩, rfl⟩)
      · rw [hz] at ha; exact h1 ha
      · rw [hz] at ha; exact h2 ha j
  · rintro lock t h K ⟨hf, hc, hK⟩
    exact (hi hc).elim

theorem lo47F : LoopsOk Try.prog 47 [(0, LF0 n l b i), (2, LF2 n l b i)] := by
  intro x hx
  simp only [List.mem_cons, List.not_mem_nil, or_false] at hx
  rcases hx with rfl | rfl
  · exact ⟨by kernel_rfl, LF0_ok⟩
  · exact ⟨by kernel_rfl, LF2_ok⟩

theorem fits_v (hi : OkI n l b i) : ∃ h', CallsV Try.prog 38 [bV b, sV l i] (bH n l b) (.ret (.bool (eN (reasonsF b (l i))))) h' ∧ h'.at 0 = srcA n l ∧ h'.at 1 = valA n l ∧ h'.at 2 = seenA b := by
  obtain ⟨r, h', hQ, hc⟩ := of_callN (callL_good (sp := noSpec) hmix (fun _ _ h => absurd h (by simp [noSpec])) (lo47F (n := n) (l := l) (b := b) (i := i)) (un := 10) 20) (f := 38) (args := [bV b, sV l i]) (h := bH n l b)
    (K := fun r h' => r = .ret (.bool (eN (reasonsF b (l i)))) ∧ h'.at 0 = srcA n l ∧ h'.at 1 = valA n l ∧ h'.at 2 = seenA b)
    (by
      rw [f38_ev, eN_reasons]
      refine ⟨fitP_self rfl, fun h1 => ⟨fitP_self rfl, hi, fun h2 => ?_, fun h2 k => ?_⟩, fun h1 k => ?_⟩
      · rw [h1, h2]; exact ⟨rfl, rfl, rfl, rfl⟩
      · rw [h1, h2]; exact ⟨rfl, rfl, rfl, rfl⟩
      · rw [h1]; exact ⟨rfl, rfl, rfl, rfl⟩)
  obtain ⟨rfl, hh⟩ := hQ
  exact ⟨h', hc, hh⟩

/-- fits as a row. -/
def fitsT (n : Nat) (l : Int → Src) (b : Sus) : FuncId × Spec1 := (38, fun _ args h K => match args with
  | [.agg [.int .i64 g, .int .i64 p, .int .i64 s, .int .i64 t, .slice (.el 2 [] 0 0) m c], .agg [.int .i64 ck, .int .i64 dr, .int .i64 lo, .int .i64 hi, .slice (.el 1 [i] 0 0) m2 c2]] =>
    ((h.at 0 = srcA n l ∧ h.at 1 = valA n l ∧ h.at 2 = seenA b) ∧ ([bV b, sV l i] = [.agg [I g, I p, I s, I t, .slice (.el 2 [] 0 0) m c], .agg [I ck, I dr, I lo, I hi, .slice (.el 1 [i] 0 0) m2 c2]]) ∧ OkI n l b i) ∧ K (.ret (.bool (eN (reasonsF b (l i))))) h
  | _ => False)

theorem fitsT_ok : SpOk Try.prog (fitsT n l b).1 (fitsT n l b).2 := by
  intro lock args h K hK
  simp only [fitsT] at hK
  split at hK
  · obtain ⟨⟨hh, ha, hi⟩, hK⟩ := hK
    obtain ⟨h', hc, hs⟩ := fits_v hi
    rw [ha] at hc
    exact ⟨_, h, hK, lockP_refl _ _, base_lift hc hh hs rfl rfl⟩
  · exact hK.elim
end
end Go.Sx.Gen

/- genuine: the document's reasons. -/

namespace Go.Sx
open Go
theorem VB.fit_trans {a b c : VB} (h1 : a.fit b) (h2 : b.fit c) : a.fit c := by
  cases a with
  | vec L g s t =>
    obtain ⟨g', rfl, q1⟩ := VB.fit_vec h1
    obtain ⟨g2, rfl, q2⟩ := VB.fit_vec h2
    exact ⟨rfl, rfl, rfl, fun i hi => by rw [q2 i hi, q1 i hi]⟩
  | _ => rw [VB.fit_eq h1 (by simp)] at h2; exact h2
end Go.Sx

namespace Go.Sx.Gen
open Go Go.Sx Go.Proofs
set_option maxRecDepth 100000

section
variable {n : Nat} {l : Int → Src} {b : Sus} {i : Int}

theorem fit_bool (L : Nat) (p : Int → Bool) (v : Bool) (hv : p (L : Int) = v) : (vecBf (L + 1) p).fit (.vec (L + 1) (catG L (fun j => [.bool (p (j : Int))]) fun j => List.take 1 (List.drop (j * 1) [.bool v])) 1 4) := by
  refine ⟨rfl, rfl, rfl, fun j hj => ?_⟩
  simp only [catG]
  by_cases h : j < L
  · rw [blt_t h]; rfl
  · rw [blt_f (by omega)]
    have : j = L := by omega
    subst this
    simp [hv]

theorem roomB_t1 {n : Nat} (h : n ≤ 1000) : roomB n 1 = true := by
  simp only [roomB, Bool.and_eq_true]
  exact ⟨Nat.ble_eq_true_of_le (by omega), Nat.ble_eq_true_of_le (by omega)⟩

def OA0 (n : Nat) (l : Int → Src) (b : Sus) (i : Int) (_ : Nat) (e : VEx) (vs : List VV) (bs : List VB) : Prop :=
  e = .exit 0 ∧ vs = VAa (l i).vl ∧ bs = hA n l b i (3 + (l i).vl)

theorem LA0_ok : LSound Try.prog true (.block 0 (.loop (loopB 0 (bodyOf Try.prog 34)))) 80 (LA0 n l b i) := by
  by_cases hi : OkI n l b i
  · obtain ⟨⟨hi0, hi1⟩, hv, hb⟩ := hi
    refine loop_row hmix good0 (un := 10) (ds := [6, 5, 2, 3]) (ns := [0, 1, 2, 3, 4, 5]) (nx := 6) (fun k : Nat => VAa k) (fun k => hA n l b i (3 + k)) (fun k => k ≤ (l i).vl) (fun k => (l i).vl - k) (OA0 n l b i) noL_ok ?_ ?_
    · intro k h1
      rw [a0_ev]
      by_cases hlt : (k : Int) < b.sl
      · have hgo : ∀ v, rP b (l i) ((3 + k : Nat) : Int) = v → RoundQ (fun k : Nat => VAa k) (fun k => hA n l b i (3 + k)) (fun k => k ≤ (l i).vl) (fun k => (l i).vl - k) (OA0 n l b i) k .normal [I ((k : Int) + 1), .sl 5 (3 + k + 1), .ptr (.own 3 0), .ptr (.own 4 0)]
            [srcA n l, valA n l, seenA b, cSu b, cSo l i, .vec (3 + k + 1) (catG (3 + k) (fun j => [.bool (rP b (l i) (j : Int))]) fun j => List.take 1 (List.drop (j * 1) [.bool v])) 1 4] := fun v hp =>
          ⟨k + 1, by omega, by dsimp only; omega, rfl, ⟨VB.fit_refl _, VB.fit_refl _, VB.fit_refl _, VB.fit_refl _, VB.fit_refl _, fit_bool _ _ _ hp, trivial⟩, fun e vs bs ho => ho⟩
        have hr : rP b (l i) ((3 + k : Nat) : Int) = (decide ((l i).hi k < b.lo k) || decide ((l i).lo k > b.hi k)) := by
          rw [show ((3 + k : Nat) : Int) = 3 + (k : Int) by omega]; exact rP3 (by omega)
        refine cond_dk hlt (cond_dk ⟨by omega, by omega⟩ ⟨⟨i, rfl, hi0, hi1, by omega, by omega⟩, cond_dk ⟨by omega, by omega⟩ ⟨⟨rfl, by omega, by omega⟩, ?_⟩⟩)
        simp only [Int.zero_add, at1]
        refine cond_d (fun q => ?_) (fun q => cond_dk ⟨by omega, by omega⟩ ⟨⟨i, rfl, hi0, hi1, by omega, by omega⟩, cond_dk ⟨by omega, by omega⟩ ⟨⟨trivial, by omega, by omega⟩, ?_⟩⟩)
        · exact cond_k (beq_t rfl) (cond_k (roomB_t1 (by omega)) (cond_r (by omega) (hgo true (by rw [hr]; simp [q]))))
        · exact cond_k (beq_t rfl) (cond_k (roomB_t1 (by omega)) (cond_r (by omega) (hgo _ (by rw [hr]; simp [q]))))
      · refine cond_d (fun h => absurd h hlt) (fun _ => ?_)
        have : k = (l i).vl := by omega
        subst this
        exact ⟨rfl, rfl, rfl⟩
    · rintro lock t h K ⟨hf, _, hK⟩
      refine ⟨0, ?_, by omega, ?_⟩
      · obtain ⟨⟨f1, f2, g0, g1, g2, g3, g4, g5, _⟩, f3⟩ := hf
        refine ⟨⟨f1, f2, g0, g1, g2, g3, g4, VB.fit_trans ?_ g5, trivial⟩, f3⟩
        refine ⟨rfl, rfl, rfl, fun j hj => ?_⟩
        have : j = 0 ∨ j = 1 ∨ j = 2 := by omega
        rcases this with rfl | rfl | rfl <;> rfl
      · rintro e vs bs ⟨rfl, rfl, rfl⟩
        exact hK
  · rintro lock t h K ⟨hf, hc, hK⟩
    exact (hi hc).elim

/-- The second loop, that begins with a list. -/
def LA2s (n : Nat) (l : Int → Src) (b : Sus) (i : Int) : LT := fun lock t h K =>
  FitP lock h t ⟨7, [0, 1, 2, 3, 4, 5, 6].zip (hA n l b i (3 + (l i).vl) ++ [vecI []])⟩ ([7, 8, 5].zip (VAb 0 0 (3 + (l i).vl))) ∧ OkI n l b i ∧
    K .normal ([7, 8, 5].zip (VAb (reasonsF b (l i)).length (3 + (l i).vl) (3 + (l i).vl))) ⟨7, [0, 1, 2, 3, 4, 5, 6].zip (hA n l b i (3 + (l i).vl) ++ [vecI (reasonsF b (l i))])⟩

def OA2 (n : Nat) (l : Int → Src) (b : Sus) (i : Int) (s : Nat × List Int) (e : VEx) (vs : List VV) (bs : List VB) : Prop :=
  e = .exit 2 ∧ ∃ ys, ys = s.2 ++ filt (rP b (l i)) (3 + (l i).vl - s.1) s.1 ∧ vs = VAb ys.length (3 + (l i).vl) (3 + (l i).vl) ∧ bs = hA n l b i (3 + (l i).vl) ++ [vecI ys]

theorem LA2s_ok : LSound Try.prog true (.block 2 (.loop (loopB 2 (bodyOf Try.prog 34)))) 80 (LA2s n l b i) := by
  by_cases hi : OkI n l b i
  · obtain ⟨⟨hi0, hi1⟩, hv, hb⟩ := hi
    refine loop_row hmix good0 (un := 10) (ds := [7, 8, 5]) (ns := [0, 1, 2, 3, 4, 5, 6]) (nx := 7) (fun s : Nat × List Int => VAb s.2.length s.1 (3 + (l i).vl)) (fun s => hA n l b i (3 + (l i).vl) ++ [vecI s.2]) (fun s => s.1 ≤ 3 + (l i).vl ∧ s.2.length ≤ s.1) (fun s => 3 + (l i).vl - s.1) (OA2 n l b i) noL_ok ?_ ?_
    · rintro ⟨k, xs⟩ ⟨h1, h2⟩
      dsimp only at h1 h2
      rw [a2_ev]
      by_cases hlt : k < 3 + (l i).vl
      · have hst : filt (rP b (l i)) (3 + (l i).vl - k) k = (bif rP b (l i) k then [(k : Int)] else []) ++ filt (rP b (l i)) (3 + (l i).vl - (k + 1)) ((k + 1 : Nat) : Int) := by
          rw [show 3 + (l i).vl - k = (3 + (l i).vl - (k + 1)) + 1 by omega]
          simp only [filt]
          cases rP b (l i) k <;> rfl
        refine cond_dk (by omega) (cond_dk ⟨by omega, by omega⟩ (cond_k (by simp) (cond_k (beq_t rfl) ?_)))
        rw [show ((k : Int).toNat : Int) = k by omega]
        refine cond_b (fun q => cond_k (beq_t rfl) (cond_k (roomB_t (by dsimp only; omega)) (cond_r (by omega) ?_))) (fun q => cond_r (by omega) ?_)
        · refine ⟨(k + 1, xs ++ [(k : Int)]), ⟨by dsimp only; omega, by simp; omega⟩, by dsimp only; omega, by simp [VAb], ⟨VB.fit_refl _, VB.fit_refl _, VB.fit_refl _, VB.fit_refl _, VB.fit_refl _, VB.fit_refl _, fit_snoc xs k, trivial⟩, ?_⟩
          rintro e vs bs ⟨rfl, ys, rfl, rfl, rfl⟩
          refine ⟨rfl, _, rfl, ?_⟩
          dsimp only
          rw [hst, q]
          simp
        · refine ⟨(k + 1, xs), ⟨by dsimp only; omega, by dsimp only; omega⟩, by dsimp only; omega, rfl, fitBs_refl _, ?_⟩
          rintro e vs bs ⟨rfl, ys, rfl, rfl, rfl⟩
          refine ⟨rfl, _, rfl, ?_⟩
          dsimp only
          rw [hst, q]
          simp
      · refine cond_d (fun h => by omega) (fun _ => ?_)
        have : k = 3 + (l i).vl := by omega
        subst this
        refine ⟨rfl, xs, ?_, rfl, rfl⟩
        dsimp only
        rw [Nat.sub_self]
        simp [filt]
    · rintro lock t h K ⟨hf, _, hK⟩
      refine ⟨(0, []), hf, ⟨by simp, by simp⟩, ?_⟩
      rintro e vs bs ⟨rfl, ys, rfl, rfl, rfl⟩
      exact hK
  · rintro lock t h K ⟨hf, hc, hK⟩
    exact (hi hc).elim

theorem LA2_ok : LSound Try.prog true (.block 2 (.loop (loopB 2 (bodyOf Try.prog 34)))) 80 (LA2 n l b i) :=
  ghost_row (d := 7) (nx := 6) (bs := [0, 1, 2, 3, 4, 5].zip (hA n l b i (3 + (l i).vl))) (t0 := [8, 5].zip [I 0, .sl 5 (3 + (l i).vl)]) _ 1 3 LA2s_ok (by
    rintro lock t h K ⟨hf, hi, hK⟩
    exact ⟨hf, ⟨⟨rfl, rfl, VB.fit_refl _, VB.fit_refl _, VB.fit_refl _, VB.fit_refl _, VB.fit_refl _, VB.fit_refl _, VB.fit_refl _, trivial⟩, rfl, rfl, rfl, trivial⟩, hi, hK⟩)

theorem lo34 : LoopsOk Try.prog 34 [(0, LA0 n l b i), (2, LA2 n l b i)] := by
  intro x hx
  simp only [List.mem_cons, List.not_mem_nil, or_false] at hx
  rcases hx with rfl | rfl
  · exact ⟨by kernel_rfl, LA0_ok⟩
  · exact ⟨by kernel_rfl, LA2_ok⟩

theorem r34_v (hi : OkI n l b i) : CallsV Try.prog 34 [bV b, sV l i] (bH n l b) (.ret (.sl 6 (reasonsF b (l i)).length)) ⟨7, [(0, srcA n l), (1, valA n l), (2, seenA b), (6, vecI (reasonsF b (l i)))]⟩ := by
  have hsp := spBL_ok (sp := noSpec) hmix (fun _ _ h => absurd h (by simp [noSpec])) (f := 34) (lo34 (n := n) (l := l) (b := b) (i := i)) (un := 10) (fu := 20)
  obtain ⟨r, h', hQ, hc⟩ := of_sp hsp (args := [bV b, sV l i]) (h := bH n l b)
    (K := fun r h' => r = .ret (.sl 6 (reasonsF b (l i)).length) ∧ h' = ⟨7, [(0, srcA n l), (1, valA n l), (2, seenA b), (3, cSu b), (4, cSo l i), (5, vecBf (3 + (l i).vl) (rP b (l i))), (6, vecI (reasonsF b (l i)))]⟩)
    (by
      rw [f34_ev]
      exact ⟨fitP_self rfl, hi, fitP_self rfl, hi, rfl, rfl⟩)
  obtain ⟨rfl, rfl⟩ := hQ
  exact calls_weak hc (show 3 ≤ 7 by decide) ⟨VB.fit_refl _, VB.fit_refl _, VB.fit_refl _, VB.fit_refl _, trivial⟩ rfl rfl
end
end Go.Sx.Gen

/- genuine: suspects, evaluated. -/

namespace Go.Sx.Gen
open Go Go.Sx Go.Proofs
set_option maxRecDepth 100000

theorem f29_ev (n cap : Nat) (l : Int → Src) (b : Sus) (Q : VRes → VH → Prop) : callN Try.prog (tabS (t2 n l b)) noL 10 20 0 (.fn 29) [bV b, lV n cap] (bH n l b) Q =
  (bif inB b.glass (0 : Int) (65536 : Int) then
 bif inB b.paper (0 : Int) (65536 : Int) then
 bif spanB b.slo b.shi (10000 : Int) then
 (seenA b = seenA b ∧ b.sl = b.sl) ∧ bif spansB b.sl b.lo b.hi then
 ((srcA n l = srcA n l ∧ valA n l = valA n l ∧ seenA b = seenA b) ∧ n = n) ∧ bif srcsB n l then
 bif decide ((↑n : Int) = (0 : Int)) then
 Q (VRes.ret (VV.bool true)) (VH.mk (4) ([(3, VB.cells [I b.glass, I b.paper, I b.slo, I b.shi, VV.slice (VA.el 2 [] (0 : Int) 0) b.sl b.sc] 26), (0, srcA n l), (1, valA n l), (2, seenA b)]))
 else bif decide ((0 : Int) ≤ (0 : Int) ∧ (0 : Int) < (↑n : Int)) then
 (([] : List Int) = [] ∧ (0 : Int) ≤ (0 : Int) + (0 : Int) ∧ (0 : Int) + (0 : Int) < (↑n : Int)) ∧ Q (VRes.ret (VV.bool (decide ((↑b.sl : Int) = (↑(l ((0 : Int) + (0 : Int))).vl : Int))))) (VH.mk (4) ([(3, VB.cells [I b.glass, I b.paper, I b.slo, I b.shi, VV.slice (VA.el 2 [] (0 : Int) 0) b.sl b.sc] 26), (0, srcA n l), (1, valA n l), (2, seenA b)]))
 else False
 else Q (VRes.ret (VV.bool false)) (VH.mk (4) ([(3, VB.cells [I b.glass, I b.paper, I b.slo, I b.shi, VV.slice (VA.el 2 [] (0 : Int) 0) b.sl b.sc] 26), (0, srcA n l), (1, valA n l), (2, seenA b)]))
 else Q (VRes.ret (VV.bool false)) (VH.mk (4) ([(3, VB.cells [I b.glass, I b.paper, I b.slo, I b.shi, VV.slice (VA.el 2 [] (0 : Int) 0) b.sl b.sc] 26), (0, srcA n l), (1, valA n l), (2, seenA b)]))
 else Q (VRes.ret (VV.bool false)) (VH.mk (4) ([(3, VB.cells [I b.glass, I b.paper, I b.slo, I b.shi, VV.slice (VA.el 2 [] (0 : Int) 0) b.sl b.sc] 26), (0, srcA n l), (1, valA n l), (2, seenA b)]))
 else Q (VRes.ret (VV.bool false)) (VH.mk (4) ([(3, VB.cells [I b.glass, I b.paper, I b.slo, I b.shi, VV.slice (VA.el 2 [] (0 : Int) 0) b.sl b.sc] 26), (0, srcA n l), (1, valA n l), (2, seenA b)]))
 else Q (VRes.ret (VV.bool false)) (VH.mk (4) ([(3, VB.cells [I b.glass, I b.paper, I b.slo, I b.shi, VV.slice (VA.el 2 [] (0 : Int) 0) b.sl b.sc] 26), (0, srcA n l), (1, valA n l), (2, seenA b)]))) := by kernel_rfl

theorem f24_ev (n cap : Nat) (l : Int → Src) (b : Sus) (Q : VRes → VH → Prop) : callN Try.prog (tabS (t2 n l b)) noL 10 20 0 (.fn 24) [bV b, lV n cap] (bH n l b) Q =
  (bif !inB b.glass (0 : Int) (65536 : Int) then
 Q (VRes.ret (VV.bool false)) (VH.mk (4) ([(3, VB.cells [I b.glass, I b.paper, I b.slo, I b.shi, VV.slice (VA.el 2 [] (0 : Int) 0) b.sl b.sc] 26), (0, srcA n l), (1, valA n l), (2, seenA b)]))
 else bif !inB b.paper (0 : Int) (65536 : Int) then
 Q (VRes.ret (VV.bool false)) (VH.mk (4) ([(3, VB.cells [I b.glass, I b.paper, I b.slo, I b.shi, VV.slice (VA.el 2 [] (0 : Int) 0) b.sl b.sc] 26), (0, srcA n l), (1, valA n l), (2, seenA b)]))
 else bif !spanB b.slo b.shi (10000 : Int) then
 Q (VRes.ret (VV.bool false)) (VH.mk (4) ([(3, VB.cells [I b.glass, I b.paper, I b.slo, I b.shi, VV.slice (VA.el 2 [] (0 : Int) 0) b.sl b.sc] 26), (0, srcA n l), (1, valA n l), (2, seenA b)]))
 else (seenA b = seenA b ∧ b.sl = b.sl) ∧ bif !spansB b.sl b.lo b.hi then
 Q (VRes.ret (VV.bool false)) (VH.mk (4) ([(3, VB.cells [I b.glass, I b.paper, I b.slo, I b.shi, VV.slice (VA.el 2 [] (0 : Int) 0) b.sl b.sc] 26), (0, srcA n l), (1, valA n l), (2, seenA b)]))
 else bif decide ((↑n : Int) = (0 : Int)) then
 Q (VRes.ret (VV.bool true)) (VH.mk (4) ([(3, VB.cells [I b.glass, I b.paper, I b.slo, I b.shi, VV.slice (VA.el 2 [] (0 : Int) 0) b.sl b.sc] 26), (0, srcA n l), (1, valA n l), (2, seenA b)]))
 else bif decide ((0 : Int) ≤ (0 : Int) ∧ (0 : Int) < (↑n : Int)) then
 (([] : List Int) = [] ∧ (0 : Int) ≤ (0 : Int) + (0 : Int) ∧ (0 : Int) + (0 : Int) < (↑n : Int)) ∧ Q (VRes.ret (VV.bool (decide ((↑b.sl : Int) = (↑(l ((0 : Int) + (0 : Int))).vl : Int))))) (VH.mk (4) ([(3, VB.cells [I b.glass, I b.paper, I b.slo, I b.shi, VV.slice (VA.el 2 [] (0 : Int) 0) b.sl b.sc] 26), (0, srcA n l), (1, valA n l), (2, seenA b)]))
 else False) := by kernel_rfl


end Go.Sx.Gen

/- genuine: suspects. -/

namespace Go.Sx.Gen
open Go Go.Sx Go.Proofs
set_option maxRecDepth 100000

section
variable {n cap : Nat} {l : Int → Src} {b : Sus} {i : Int}

def okB (n : Nat) (l : Int → Src) (b : Sus) : Bool := srcsB n l && bothB b n l

theorem okI_of (h : okB n l b = true) (h0 : 0 ≤ i) (h1 : i < n) : OkI n l b i := by
  simp only [okB, srcsB, bothB, Bool.and_eq_true, Bool.or_eq_true, decide_eq_true_eq] at h
  obtain ⟨⟨_, h2⟩, _, h3⟩ := h
  have h4 := allB_iff.1 h2 i h0 (by omega)
  simp only [srcB, spansB, Bool.and_eq_true, decide_eq_true_eq] at h4
  refine ⟨⟨h0, h1⟩, by omega, ?_⟩
  rcases h3 with h3 | h3 <;> omega

theorem val29_v (hw : Wf n l b) : ∃ h', CallsV Try.prog 29 [bV b, lV n cap] (bH n l b) (.ret (.bool (okB n l b))) h' ∧ h'.at 0 = srcA n l ∧ h'.at 1 = valA n l ∧ h'.at 2 = seenA b := by
  obtain ⟨r, h', hQ, hc⟩ := of_callN (tab_good hmix (t2_ok hw) 20) (f := 29) (args := [bV b, lV n cap]) (h := bH n l b)
    (K := fun r h' => r = .ret (.bool (okB n l b)) ∧ h'.at 0 = srcA n l ∧ h'.at 1 = valA n l ∧ h'.at 2 = seenA b)
    (by
      rw [f29_ev]
      refine cond_b (fun q1 => cond_b (fun q2 => cond_b (fun q3 => ⟨⟨rfl, rfl⟩, cond_b (fun q4 => ⟨⟨⟨rfl, rfl, rfl⟩, rfl⟩, cond_b (fun q5 => cond_d (fun q6 => ?_) (fun q6 => cond_dk (by omega) ⟨⟨rfl, by omega, by omega⟩, ?_⟩)) (fun q5 => ?_)⟩) (fun q4 => ?_)⟩) (fun q3 => ?_)) (fun q2 => ?_)) (fun q1 => ?_)
      · have : n = 0 := by omega
        subst this
        exact ⟨by simp [okB, bothB, susB, q1, q2, q3, q4, q5], rfl, rfl, rfl⟩
      · have : n ≠ 0 := by omega
        exact ⟨by simp [okB, bothB, susB, q1, q2, q3, q4, q5, this], rfl, rfl, rfl⟩
      · exact ⟨by simp [okB, q5], rfl, rfl, rfl⟩
      · exact ⟨by simp [okB, bothB, susB, q4], rfl, rfl, rfl⟩
      · exact ⟨by simp [okB, bothB, susB, q3], rfl, rfl, rfl⟩
      · exact ⟨by simp [okB, bothB, susB, q2], rfl, rfl, rfl⟩
      · exact ⟨by simp [okB, bothB, susB, q1], rfl, rfl, rfl⟩)
  obtain ⟨rfl, hh⟩ := hQ
  exact ⟨h', hc, hh⟩

theorem sus24_v (hw : Wf n l b) : ∃ h', CallsV Try.prog 24 [bV b, lV n cap] (bH n l b) (.ret (.bool (bothB b n l))) h' ∧ h'.at 0 = srcA n l ∧ h'.at 1 = valA n l ∧ h'.at 2 = seenA b := by
  obtain ⟨r, h', hQ, hc⟩ := of_callN (tab_good hmix (t2_ok hw) 20) (f := 24) (args := [bV b, lV n cap]) (h := bH n l b)
    (K := fun r h' => r = .ret (.bool (bothB b n l)) ∧ h'.at 0 = srcA n l ∧ h'.at 1 = valA n l ∧ h'.at 2 = seenA b)
    (by
      rw [f24_ev]
      refine cond_b (fun q1 => ?_) (fun q1 => cond_b (fun q2 => ?_) (fun q2 => cond_b (fun q3 => ?_) (fun q3 => ⟨⟨rfl, rfl⟩, cond_b (fun q4 => ?_) (fun q4 => cond_d (fun q6 => ?_) (fun q6 => cond_dk (by omega) ⟨⟨rfl, by omega, by omega⟩, ?_⟩))⟩)))
      · simp at q1; exact ⟨by simp [bothB, susB, q1], rfl, rfl, rfl⟩
      · simp at q2; exact ⟨by simp [bothB, susB, q2], rfl, rfl, rfl⟩
      · simp at q3; exact ⟨by simp [bothB, susB, q3], rfl, rfl, rfl⟩
      · simp at q4; exact ⟨by simp [bothB, susB, q4], rfl, rfl, rfl⟩
      · have : n = 0 := by omega
        simp at q1 q2 q3 q4
        exact ⟨by simp [bothB, susB, q1, q2, q3, q4, this], rfl, rfl, rfl⟩
      · have : n ≠ 0 := by omega
        simp at q1 q2 q3 q4
        exact ⟨by simp [bothB, susB, q1, q2, q3, q4, this], rfl, rfl, rfl⟩)
  obtain ⟨rfl, hh⟩ := hQ
  exact ⟨h', hc, hh⟩

/-- A suspect is valid for sources, and they may be, too. -/
def susT (f : FuncId) (v : Bool) (n : Nat) (l : Int → Src) (b : Sus) : FuncId × Spec1 := (f, fun _ args h K => match args with
  | [.agg [.int .i64 g, .int .i64 p, .int .i64 s, .int .i64 t, .slice (.el 2 [] 0 0) m c], .slice (.el 0 [] 0 0) m2 c2] =>
    ((h.at 0 = srcA n l ∧ h.at 1 = valA n l ∧ h.at 2 = seenA b) ∧ [bV b, lV n c2] = [.agg [I g, I p, I s, I t, .slice (.el 2 [] 0 0) m c], .slice (.el 0 [] 0 0) m2 c2]) ∧ K (.ret (.bool v)) h
  | _ => False)

theorem susT_ok {f : FuncId} {v : Bool} (hf : ∀ cap : Nat, ∃ h', CallsV Try.prog f [bV b, lV n cap] (bH n l b) (.ret (.bool v)) h' ∧ h'.at 0 = srcA n l ∧ h'.at 1 = valA n l ∧ h'.at 2 = seenA b) : SpOk Try.prog (susT f v n l b).1 (susT f v n l b).2 := by
  intro lock args h K hK
  simp only [susT] at hK
  split at hK
  · rename_i c2
    obtain ⟨⟨hh, ha⟩, hK⟩ := hK
    obtain ⟨h', hc, hs⟩ := hf c2
    rw [ha] at hc
    exact ⟨_, h, hK, lockP_refl _ _, base_lift hc hh hs rfl rfl⟩
  · exact hK.elim

def t3r (n : Nat) (l : Int → Src) (b : Sus) : List (FuncId × Spec1) := susT 29 (okB n l b) n l b :: susT 24 (bothB b n l) n l b :: fitsT n l b :: t2 n l b

theorem t3r_ok (hw : Wf n l b) : ∀ x ∈ t3r n l b, SpOk Try.prog x.1 x.2 := by
  intro x hx
  simp only [t3r, List.mem_cons] at hx
  rcases hx with rfl | rfl | rfl | hx
  · exact susT_ok (fun _ => val29_v hw)
  · exact susT_ok (fun _ => sus24_v hw)
  · exact fitsT_ok
  · exact t2_ok hw x hx
end
end Go.Sx.Gen
