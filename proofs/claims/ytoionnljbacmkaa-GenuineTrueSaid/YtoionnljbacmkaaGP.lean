/- genuine: Gp1 Gp2 Gp3 Gp4 Gp5, in one text. -/
import Derived.Test.YtoionnljbacmkaaGO
import Derived.Test.YtoionnljbacmkaaGc3
/- genuine: pick, evaluated. -/

namespace Go.Sx.Gen
open Go Go.Sx Go.Proofs
set_option maxRecDepth 100000

/-- A number of a span, by a remainder. -/
def pickF (a c u : Int) : Int := a + remZ u (c - a + 1)

theorem f23_ev (a c u : Int) (Q : VRes → VH → Prop) : callN Try.prog noSpec noL 10 20 0 (.fn 23) [.agg [I a, I c], .int .u32 u] ⟨0, []⟩ Q =
  (bif inK IntKind.i64 u then
 bif inK IntKind.i64 (c - a) then
 bif inK IntKind.i64 (c - a + (1 : Int)) then
 bif decide (c - a + (1 : Int) = (0 : Int)) then
 False
 else bif inK IntKind.i64 (a + remZ u (c - a + (1 : Int))) then
 Q (VRes.ret (I (a + remZ u (c - a + (1 : Int))))) (VH.mk (0 + 1) ([(0, VB.cells [I a, I c] 23)]))
 else False
 else False
 else False
 else False) := by kernel_rfl


end Go.Sx.Gen

/- genuine: pick as a row. -/

namespace Go.Sx.Gen
open Go Go.Sx Go.Proofs
set_option maxRecDepth 100000

def pick23T : FuncId × Spec1 := (23, fun _ args h K => match args with
  | [.agg [.int .i64 a, .int .i64 c], .int .u32 u] => (0 ≤ a ∧ a ≤ c ∧ c ≤ 1048576 ∧ 0 ≤ u ∧ u ≤ 4294967295) ∧ K (.ret (I (pickF a c u))) h
  | _ => False)

theorem pickF_in {a c u : Int} (h1 : a ≤ c) (h2 : 0 ≤ u) : a ≤ pickF a c u ∧ pickF a c u ≤ c := by
  unfold pickF
  rw [remZ_nn h2]
  have h3 := Int.emod_nonneg u (show c - a + 1 ≠ 0 by omega)
  have h4 := Int.emod_lt_of_pos u (show 0 < c - a + 1 by omega)
  omega

theorem pick23T_ok : SpOk Try.prog pick23T.1 pick23T.2 := by
  intro lock args h K hK
  simp only [pick23T] at hK
  split at hK
  · rename_i a c u
    obtain ⟨⟨h1, h2, h3, h4, h5⟩, hK⟩ := hK
    obtain ⟨q1, q2⟩ := pickF_in h2 h4
    obtain ⟨r, h', hQ, hc⟩ := of_callN good0 (f := 23) (args := [.agg [I a, I c], .int .u32 u]) (h := ⟨0, []⟩) (K := fun r _ => r = .ret (I (pickF a c u)))
      (by
        rw [f23_ev]
        unfold pickF at q1 q2
        exact cond_r (by omega) (cond_r (by omega) (cond_r (by omega) (cond_d (fun h => by omega) (fun _ => cond_r (by omega) rfl)))))
    subst hQ
    exact ⟨_, h, hK, lockP_refl _ _, lift0 hc rfl rfl⟩
  · exact hK.elim
end Go.Sx.Gen

/- genuine: GenuineTrue, what is measured, evaluated. -/

namespace Go.Sx.Gen
open Go Go.Sx Go.Proofs
set_option maxRecDepth 100000

def bT0 : Sus := ⟨0, 0, 0, 0, 0, 0, fun _ => 0, fun _ => 0⟩
def byA (m : Nat) (f : Int → Int) : VB := .arr 1 (fun ix j => ix = [] ∧ 0 ≤ j ∧ j < (m : Int)) (fun _ j => [.int .u32 (f j)])
def hT (n : Nat) (l : Int → Src) (m : Nat) (f : Int → Int) : VH := ⟨4, [(0, srcA n l), (1, valA n l), (2, seenA bT0), (3, byA m f)]⟩
/-- The number that is drawn next. -/
def nxF (m : Nat) (f : Int → Int) (z : Int) : Int := f (0 + remZ z m)
def tN (m : Nat) (f : Int → Int) (p : Int) (x y : Src) (k z : Int) : Int := p * pickF (x.lo (0 + k)) (x.hi (0 + k)) (nxF m f (z + 1)) + (1000 - p) * pickF (y.lo (0 + k)) (y.hi (0 + k)) (nxF m f (z + 1 + 1))
def tLo (m : Nat) (f : Int → Int) (p : Int) (x y : Src) (k z : Int) : Int := max 0 (quoZ (tN m f p x y k z) 1000 - remZ (nxF m f (z + 1 + 1 + 1)) 5)
def tHi (m : Nat) (f : Int → Int) (p : Int) (x y : Src) (k z : Int) : Int := min 1048576 (quoZ (tN m f p x y k z + 999) 1000 + remZ (nxF m f (z + 1 + 1 + 1 + 1)) 5)

def dsT : List Nat := [21, 14, 15, 13, 17, 19, 0, 11, 12, 10]
def VT (n cap : Nat) (i j p k : Int) : List VV := [I k, .ptr (.own 5 0), .ptr (.own 6 0), I p, .func 22 [] [.ptr (.own 7 0), .ptr (.own 4 0)], .ptr (.own 8 0), lV n cap, I i, I j, .bool false]
def nsT : List Nat := [0, 1, 2, 3, 4, 5, 6, 7, 8, 9]
def cX (l : Int → Src) (i : Int) : VB := .cells [I (l i).cask, I (l i).drawn, I (l i).slo, I (l i).shi, .slice (.el 1 [i] 0 0) (l i).vl (l i).vc] 51
def hM (n m cm : Nat) (l : Int → Src) (f : Int → Int) (i j : Int) (g p lo hi z : Int) (k : Nat) (F G : Nat → Int) : List VB :=
  [srcA n l, valA n l, seenA bT0, byA m f, .cells [.slice (.el 3 [] 0 0) m cm] 48, cX l i, cX l j, .cells [I z] 3, .cells [I g, I p, I lo, I hi, .sl 9 k] 26, .vec k (fun q => [I (F q), I (G q)]) 2 23]

theorem m0_ev (n cap m cm : Nat) (l : Int → Src) (f : Int → Int) (a c i j p g pp lo hi z : Int) (k : Nat) (F G : Nat → Int) (X : VEx → List VV → List VB → Prop) : codeE Try.prog (callN Try.prog (tabS [pick23T]) noL 10 20) (fun _ => none) true 10 277 0 (loopB 0 (bodyOf Try.prog 5)) (dsT.zip (VT n cap a c p k)) ⟨10, nsT.zip (hM n m cm l f i j g pp lo hi z k F G)⟩ (obs 10 dsT nsT X) =
  (bif decide ((↑k : Int) < (↑(l i).vl : Int)) then
 bif decide ((0 : Int) ≤ (↑k : Int) ∧ (↑k : Int) < (↑(l i).vl : Int)) then
 (∃ i_1, [i] = [i_1] ∧ (0 : Int) ≤ i_1 ∧ i_1 < (↑n : Int) ∧ (0 : Int) ≤ (0 : Int) + (↑k : Int) ∧ (0 : Int) + (↑k : Int) < (↑(l i_1).vl : Int)) ∧ bif inK IntKind.i64 (z + (1 : Int)) then
 bif decide ((↑m : Int) = (0 : Int)) then
 False
 else bif decide ((0 : Int) ≤ remZ (z + (1 : Int)) (↑m : Int) ∧ remZ (z + (1 : Int)) (↑m : Int) < (↑m : Int)) then
 (([] : List Int) = [] ∧ (0 : Int) ≤ (0 : Int) + remZ (z + (1 : Int)) (↑m : Int) ∧ (0 : Int) + remZ (z + (1 : Int)) (↑m : Int) < (↑m : Int)) ∧ ((0 : Int) ≤ at1 (fun i => (l i).lo) [i] ((0 : Int) + (↑k : Int)) ∧ at1 (fun i => (l i).lo) [i] ((0 : Int) + (↑k : Int)) ≤ at1 (fun i => (l i).hi) [i] ((0 : Int) + (↑k : Int)) ∧ at1 (fun i => (l i).hi) [i] ((0 : Int) + (↑k : Int)) ≤ (1048576 : Int) ∧ (0 : Int) ≤ f ((0 : Int) + remZ (z + (1 : Int)) (↑m : Int)) ∧ f ((0 : Int) + remZ (z + (1 : Int)) (↑m : Int)) ≤ (4294967295 : Int)) ∧ bif inK IntKind.i64 (p * pickF (at1 (fun i => (l i).lo) [i] ((0 : Int) + (↑k : Int))) (at1 (fun i => (l i).hi) [i] ((0 : Int) + (↑k : Int))) (f ((0 : Int) + remZ (z + (1 : Int)) (↑m : Int)))) then
 bif inK IntKind.i64 ((1000 : Int) - p) then
 bif decide ((0 : Int) ≤ (↑k : Int) ∧ (↑k : Int) < (↑(l j).vl : Int)) then
 (∃ i, [j] = [i] ∧ (0 : Int) ≤ i ∧ i < (↑n : Int) ∧ (0 : Int) ≤ (0 : Int) + (↑k : Int) ∧ (0 : Int) + (↑k : Int) < (↑(l i).vl : Int)) ∧ bif inK IntKind.i64 (z + (1 : Int) + (1 : Int)) then
 bif decide ((↑m : Int) = (0 : Int)) then
 False
 else bif decide ((0 : Int) ≤ remZ (z + (1 : Int) + (1 : Int)) (↑m : Int) ∧ remZ (z + (1 : Int) + (1 : Int)) (↑m : Int) < (↑m : Int)) then
 (([] : List Int) = [] ∧ (0 : Int) ≤ (0 : Int) + remZ (z + (1 : Int) + (1 : Int)) (↑m : Int) ∧ (0 : Int) + remZ (z + (1 : Int) + (1 : Int)) (↑m : Int) < (↑m : Int)) ∧ ((0 : Int) ≤ at1 (fun i => (l i).lo) [j] ((0 : Int) + (↑k : Int)) ∧ at1 (fun i => (l i).lo) [j] ((0 : Int) + (↑k : Int)) ≤ at1 (fun i => (l i).hi) [j] ((0 : Int) + (↑k : Int)) ∧ at1 (fun i => (l i).hi) [j] ((0 : Int) + (↑k : Int)) ≤ (1048576 : Int) ∧ (0 : Int) ≤ f ((0 : Int) + remZ (z + (1 : Int) + (1 : Int)) (↑m : Int)) ∧ f ((0 : Int) + remZ (z + (1 : Int) + (1 : Int)) (↑m : Int)) ≤ (4294967295 : Int)) ∧ bif inK IntKind.i64 (((1000 : Int) - p) * pickF (at1 (fun i => (l i).lo) [j] ((0 : Int) + (↑k : Int))) (at1 (fun i => (l i).hi) [j] ((0 : Int) + (↑k : Int))) (f ((0 : Int) + remZ (z + (1 : Int) + (1 : Int)) (↑m : Int)))) then
 bif inK IntKind.i64 (p * pickF (at1 (fun i => (l i).lo) [i] ((0 : Int) + (↑k : Int))) (at1 (fun i => (l i).hi) [i] ((0 : Int) + (↑k : Int))) (f ((0 : Int) + remZ (z + (1 : Int)) (↑m : Int))) + ((1000 : Int) - p) * pickF (at1 (fun i => (l i).lo) [j] ((0 : Int) + (↑k : Int))) (at1 (fun i => (l i).hi) [j] ((0 : Int) + (↑k : Int))) (f ((0 : Int) + remZ (z + (1 : Int) + (1 : Int)) (↑m : Int)))) then
 bif inK IntKind.i64 (quoZ (p * pickF (at1 (fun i => (l i).lo) [i] ((0 : Int) + (↑k : Int))) (at1 (fun i => (l i).hi) [i] ((0 : Int) + (↑k : Int))) (f ((0 : Int) + remZ (z + (1 : Int)) (↑m : Int))) + ((1000 : Int) - p) * pickF (at1 (fun i => (l i).lo) [j] ((0 : Int) + (↑k : Int))) (at1 (fun i => (l i).hi) [j] ((0 : Int) + (↑k : Int))) (f ((0 : Int) + remZ (z + (1 : Int) + (1 : Int)) (↑m : Int)))) (1000 : Int)) then
 bif inK IntKind.i64 (z + (1 : Int) + (1 : Int) + (1 : Int)) then
 bif decide ((↑m : Int) = (0 : Int)) then
 False
 else bif decide ((0 : Int) ≤ remZ (z + (1 : Int) + (1 : Int) + (1 : Int)) (↑m : Int) ∧ remZ (z + (1 : Int) + (1 : Int) + (1 : Int)) (↑m : Int) < (↑m : Int)) then
 (([] : List Int) = [] ∧ (0 : Int) ≤ (0 : Int) + remZ (z + (1 : Int) + (1 : Int) + (1 : Int)) (↑m : Int) ∧ (0 : Int) + remZ (z + (1 : Int) + (1 : Int) + (1 : Int)) (↑m : Int) < (↑m : Int)) ∧ bif inK IntKind.i64 (f ((0 : Int) + remZ (z + (1 : Int) + (1 : Int) + (1 : Int)) (↑m : Int))) then
 bif inK IntKind.i64 (quoZ (p * pickF (at1 (fun i => (l i).lo) [i] ((0 : Int) + (↑k : Int))) (at1 (fun i => (l i).hi) [i] ((0 : Int) + (↑k : Int))) (f ((0 : Int) + remZ (z + (1 : Int)) (↑m : Int))) + ((1000 : Int) - p) * pickF (at1 (fun i => (l i).lo) [j] ((0 : Int) + (↑k : Int))) (at1 (fun i => (l i).hi) [j] ((0 : Int) + (↑k : Int))) (f ((0 : Int) + remZ (z + (1 : Int) + (1 : Int)) (↑m : Int)))) (1000 : Int) - remZ (f ((0 : Int) + remZ (z + (1 : Int) + (1 : Int) + (1 : Int)) (↑m : Int))) (5 : Int)) then
 bif inK IntKind.i64 (p * pickF (at1 (fun i => (l i).lo) [i] ((0 : Int) + (↑k : Int))) (at1 (fun i => (l i).hi) [i] ((0 : Int) + (↑k : Int))) (f ((0 : Int) + remZ (z + (1 : Int)) (↑m : Int))) + ((1000 : Int) - p) * pickF (at1 (fun i => (l i).lo) [j] ((0 : Int) + (↑k : Int))) (at1 (fun i => (l i).hi) [j] ((0 : Int) + (↑k : Int))) (f ((0 : Int) + remZ (z + (1 : Int) + (1 : Int)) (↑m : Int))) + (999 : Int)) then
 bif inK IntKind.i64 (quoZ (p * pickF (at1 (fun i => (l i).lo) [i] ((0 : Int) + (↑k : Int))) (at1 (fun i => (l i).hi) [i] ((0 : Int) + (↑k : Int))) (f ((0 : Int) + remZ (z + (1 : Int)) (↑m : Int))) + ((1000 : Int) - p) * pickF (at1 (fun i => (l i).lo) [j] ((0 : Int) + (↑k : Int))) (at1 (fun i => (l i).hi) [j] ((0 : Int) + (↑k : Int))) (f ((0 : Int) + remZ (z + (1 : Int) + (1 : Int)) (↑m : Int))) + (999 : Int)) (1000 : Int)) then
 bif inK IntKind.i64 (z + (1 : Int) + (1 : Int) + (1 : Int) + (1 : Int)) then
 bif decide ((↑m : Int) = (0 : Int)) then
 False
 else bif decide ((0 : Int) ≤ remZ (z + (1 : Int) + (1 : Int) + (1 : Int) + (1 : Int)) (↑m : Int) ∧ remZ (z + (1 : Int) + (1 : Int) + (1 : Int) + (1 : Int)) (↑m : Int) < (↑m : Int)) then
 (([] : List Int) = [] ∧ (0 : Int) ≤ (0 : Int) + remZ (z + (1 : Int) + (1 : Int) + (1 : Int) + (1 : Int)) (↑m : Int) ∧ (0 : Int) + remZ (z + (1 : Int) + (1 : Int) + (1 : Int) + (1 : Int)) (↑m : Int) < (↑m : Int)) ∧ bif inK IntKind.i64 (f ((0 : Int) + remZ (z + (1 : Int) + (1 : Int) + (1 : Int) + (1 : Int)) (↑m : Int))) then
 bif inK IntKind.i64 (quoZ (p * pickF (at1 (fun i => (l i).lo) [i] ((0 : Int) + (↑k : Int))) (at1 (fun i => (l i).hi) [i] ((0 : Int) + (↑k : Int))) (f ((0 : Int) + remZ (z + (1 : Int)) (↑m : Int))) + ((1000 : Int) - p) * pickF (at1 (fun i => (l i).lo) [j] ((0 : Int) + (↑k : Int))) (at1 (fun i => (l i).hi) [j] ((0 : Int) + (↑k : Int))) (f ((0 : Int) + remZ (z + (1 : Int) + (1 : Int)) (↑m : Int))) + (999 : Int)) (1000 : Int) + remZ (f ((0 : Int) + remZ (z + (1 : Int) + (1 : Int) + (1 : Int) + (1 : Int)) (↑m : Int))) (5 : Int)) then
 bif k.beq k then
 bif roomB (k + 1) (16) then
 bif inK IntKind.i64 ((↑k : Int) + (1 : Int)) then
 X VEx.normal [I ((↑k : Int) + (1 : Int)), VV.ptr (VA.own 5 0), VV.ptr (VA.own 6 0), I p, VV.func (22 : FuncId) [] [VV.ptr (VA.own 7 0), VV.ptr (VA.own 4 0)], VV.ptr (VA.own 8 0), lV n cap, I a, I c, VV.bool false] [srcA n l, valA n l, VB.arr 2 (fun ix j => ix = [] ∧ (0 : Int) ≤ j ∧ j < (↑bT0.sl : Int)) fun ix j => [I ((fun x => bT0.lo) ix j), I ((fun x => bT0.hi) ix j)], VB.arr 1 (fun ix j => ix = [] ∧ (0 : Int) ≤ j ∧ j < (↑m : Int)) fun x j => [VV.int IntKind.u32 (f j)], VB.cells [VV.slice (VA.el 3 [] (0 : Int) 0) m cm] (48 : TypeId), VB.cells [I (l i).cask, I (l i).drawn, I (l i).slo, I (l i).shi, VV.slice (VA.el 1 [i] (0 : Int) 0) (l i).vl (l i).vc] (51 : TypeId), VB.cells [I (l j).cask, I (l j).drawn, I (l j).slo, I (l j).shi, VV.slice (VA.el 1 [j] (0 : Int) 0) (l j).vl (l j).vc] (51 : TypeId), VB.cells [I (z + (1 : Int) + (1 : Int) + (1 : Int) + (1 : Int))] (3 : TypeId), VB.cells [I g, I pp, I lo, I hi, VV.sl 9 (k + 1)] (26 : TypeId), VB.vec (k + 1) (catG k (fun q => [I (F q), I (G q)]) fun j_1 => List.take (2) (List.drop (j_1 * (2)) [I (max (0 : Int) (quoZ (p * pickF (at1 (fun i => (l i).lo) [i] ((0 : Int) + (↑k : Int))) (at1 (fun i => (l i).hi) [i] ((0 : Int) + (↑k : Int))) (f ((0 : Int) + remZ (z + (1 : Int)) (↑m : Int))) + ((1000 : Int) - p) * pickF (at1 (fun i => (l i).lo) [j] ((0 : Int) + (↑k : Int))) (at1 (fun i => (l i).hi) [j] ((0 : Int) + (↑k : Int))) (f ((0 : Int) + remZ (z + (1 : Int) + (1 : Int)) (↑m : Int)))) (1000 : Int) - remZ (f ((0 : Int) + remZ (z + (1 : Int) + (1 : Int) + (1 : Int)) (↑m : Int))) (5 : Int))), I (min (1048576 : Int) (quoZ (p * pickF (at1 (fun i => (l i).lo) [i] ((0 : Int) + (↑k : Int))) (at1 (fun i => (l i).hi) [i] ((0 : Int) + (↑k : Int))) (f ((0 : Int) + remZ (z + (1 : Int)) (↑m : Int))) + ((1000 : Int) - p) * pickF (at1 (fun i => (l i).lo) [j] ((0 : Int) + (↑k : Int))) (at1 (fun i => (l i).hi) [j] ((0 : Int) + (↑k : Int))) (f ((0 : Int) + remZ (z + (1 : Int) + (1 : Int)) (↑m : Int))) + (999 : Int)) (1000 : Int) + remZ (f ((0 : Int) + remZ (z + (1 : Int) + (1 : Int) + (1 : Int) + (1 : Int)) (↑m : Int))) (5 : Int)))])) (2) 23]
 else False
 else False
 else False
 else False
 else False
 else False
 else False
 else False
 else False
 else False
 else False
 else False
 else False
 else False
 else False
 else False
 else False
 else False
 else False
 else False
 else False
 else False
 else False
 else False
 else X (VEx.exit 0) [I (↑k : Int), VV.ptr (VA.own 5 0), VV.ptr (VA.own 6 0), I p, VV.func (22 : FuncId) [] [VV.ptr (VA.own 7 0), VV.ptr (VA.own 4 0)], VV.ptr (VA.own 8 0), lV n cap, I a, I c, VV.bool false] [srcA n l, valA n l, VB.arr 2 (fun ix j => ix = [] ∧ (0 : Int) ≤ j ∧ j < (↑bT0.sl : Int)) fun ix j => [I ((fun x => bT0.lo) ix j), I ((fun x => bT0.hi) ix j)], VB.arr 1 (fun ix j => ix = [] ∧ (0 : Int) ≤ j ∧ j < (↑m : Int)) fun x j => [VV.int IntKind.u32 (f j)], VB.cells [VV.slice (VA.el 3 [] (0 : Int) 0) m cm] (48 : TypeId), VB.cells [I (l i).cask, I (l i).drawn, I (l i).slo, I (l i).shi, VV.slice (VA.el 1 [i] (0 : Int) 0) (l i).vl (l i).vc] (51 : TypeId), VB.cells [I (l j).cask, I (l j).drawn, I (l j).slo, I (l j).shi, VV.slice (VA.el 1 [j] (0 : Int) 0) (l j).vl (l j).vc] (51 : TypeId), VB.cells [I z] (3 : TypeId), VB.cells [I g, I pp, I lo, I hi, VV.sl 9 k] (26 : TypeId), VB.vec k (fun q => [I (F q), I (G q)]) 2 (23 : TypeId)]) := by kernel_rfl


end Go.Sx.Gen

/- genuine: GenuineTrue, what is measured. -/

namespace Go.Sx.Gen
open Go Go.Sx Go.Proofs
set_option maxRecDepth 100000

section
variable {n cap m cm : Nat} {l : Int → Src} {f : Int → Int} {a c i j p g pp lo hi : Int}

/-- Numbers of a source. -/
structure SrcIn (s : Src) : Prop where
  vl : s.vl ≤ 12
  drawn : 0 ≤ s.drawn ∧ s.drawn ≤ 65536
  str : 0 ≤ s.slo ∧ s.slo ≤ s.shi ∧ s.shi ≤ 10000
  val : ∀ k : Int, 0 ≤ k → k < s.vl → 0 ≤ s.lo k ∧ s.lo k ≤ s.hi k ∧ s.hi k ≤ 1048576

theorem mulP {p a : Int} (hp : 0 ≤ p ∧ p ≤ 1000) (ha : 0 ≤ a ∧ a ≤ 1048576) : 0 ≤ p * a ∧ p * a ≤ 1048576000 := by
  refine ⟨Int.mul_nonneg hp.1 ha.1, ?_⟩
  have h1 : p * a ≤ 1000 * a := Int.mul_le_mul_of_nonneg_right hp.2 ha.1
  omega

theorem fit_span (k : Nat) (F G : Int → Int) (v w : Int) (hv : F k = v) (hw : G k = w) : (VB.vec (k + 1) (fun q => [I (F (q : Int)), I (G (q : Int))]) 2 23).fit (.vec (k + 1) (catG k (fun q => [I (F (q : Int)), I (G (q : Int))]) fun j => List.take 2 (List.drop (j * 2) [I v, I w])) 2 23) := by
  refine ⟨rfl, rfl, rfl, fun j hj => ?_⟩
  simp only [catG]
  by_cases h : j < k
  · rw [blt_t h]; rfl
  · rw [blt_f (by omega)]
    have : j = k := by omega
    subst this
    simp [hv, hw]

/-- What is measured, by k. -/
def mLo (m : Nat) (f : Int → Int) (p : Int) (x y : Src) (k : Int) : Int := tLo m f p x y k (6 + 4 * k)
def mHi (m : Nat) (f : Int → Int) (p : Int) (x y : Src) (k : Int) : Int := tHi m f p x y k (6 + 4 * k)

def BM (n m cm : Nat) (l : Int → Src) (f : Int → Int) (i j p g pp lo hi : Int) (k : Nat) : List VB :=
  hM n m cm l f i j g pp lo hi (6 + 4 * k) k (fun q => mLo m f p (l i) (l j) q) (fun q => mHi m f p (l i) (l j) q)

def OM5 (n cap m cm : Nat) (l : Int → Src) (f : Int → Int) (a c i j p g pp lo hi : Int) (_ : Nat) (e : VEx) (vs : List VV) (bs : List VB) : Prop :=
  e = .exit 0 ∧ vs = VT n cap a c p (l i).vl ∧ bs = BM n m cm l f i j p g pp lo hi (l i).vl

structure OkT (n m : Nat) (l : Int → Src) (f : Int → Int) (i j p : Int) : Prop where
  hi : 0 ≤ i ∧ i < n
  hj : 0 ≤ j ∧ j < n
  sx : SrcIn (l i)
  sy : SrcIn (l j)
  vl : (l i).vl = (l j).vl
  hm : 0 < m ∧ m ≤ maxI
  hf : ∀ q : Int, 0 ≤ q → q < m → 0 ≤ f q ∧ f q ≤ 4294967295
  hp : 0 ≤ p ∧ p ≤ 1000

theorem m0_round (ok : OkT n m l f i j p) {k : Nat} (h1 : k ≤ (l i).vl) : codeE Try.prog (callN Try.prog (tabS [pick23T]) noL 10 20) (fun _ => none) true 10 277 0 (loopB 0 (bodyOf Try.prog 5)) (dsT.zip (VT n cap a c p k)) ⟨10, nsT.zip (BM n m cm l f i j p g pp lo hi k)⟩
    (obs 10 dsT nsT (RoundQ (fun k : Nat => VT n cap a c p k) (fun k => BM n m cm l f i j p g pp lo hi k) (fun k => k ≤ (l i).vl) (fun k => (l i).vl - k) (OM5 n cap m cm l f a c i j p g pp lo hi) k)) := by
  obtain ⟨⟨i0, i1⟩, ⟨j0, j1⟩, sx, sy, vl, ⟨m0, m1⟩, hf, hp⟩ := ok
  unfold maxI at m1
  unfold BM
  rw [m0_ev]
  by_cases hlt : (k : Int) < (l i).vl
  · have hx := sx.val k (by omega) hlt
    have hy := sy.val k (by omega) (by omega)
    have xv := sx.vl
    have nz : ∀ z : Int, 0 ≤ z → 0 ≤ remZ z m ∧ remZ z m < m := fun z hz => by
      rw [remZ_nn hz]
      exact ⟨Int.emod_nonneg _ (by omega), Int.emod_lt_of_pos _ (by omega)⟩
    have n1 := nz (6 + 4 * k + 1) (by omega)
    have n2 := nz (6 + 4 * k + 1 + 1) (by omega)
    have n3 := nz (6 + 4 * k + 1 + 1 + 1) (by omega)
    have n4 := nz (6 + 4 * k + 1 + 1 + 1 + 1) (by omega)
    have f1 := hf _ n1.1 n1.2
    have f2 := hf _ n2.1 n2.2
    have f3 := hf _ n3.1 n3.2
    have f4 := hf _ n4.1 n4.2
    have a1 := pickF_in (a := (l i).lo k) (c := (l i).hi k) (u := f (remZ (6 + 4 * k + 1) m)) (by omega) f1.1
    have a2 := pickF_in (a := (l j).lo k) (c := (l j).hi k) (u := f (remZ (6 + 4 * k + 1 + 1) m)) (by omega) f2.1
    have p1 := mulP (p := p) (a := pickF ((l i).lo k) ((l i).hi k) (f (remZ (6 + 4 * k + 1) m))) hp ⟨by omega, by omega⟩
    have p2 := mulP (p := 1000 - p) (a := pickF ((l j).lo k) ((l j).hi k) (f (remZ (6 + 4 * k + 1 + 1) m))) ⟨by omega, by omega⟩ ⟨by omega, by omega⟩
    have r3 : 0 ≤ remZ (f (remZ (6 + 4 * k + 1 + 1 + 1) m)) 5 ∧ remZ (f (remZ (6 + 4 * k + 1 + 1 + 1) m)) 5 < 5 := by rw [remZ_nn f3.1]; omega
    have r4 : 0 ≤ remZ (f (remZ (6 + 4 * k + 1 + 1 + 1 + 1) m)) 5 ∧ remZ (f (remZ (6 + 4 * k + 1 + 1 + 1 + 1) m)) 5 < 5 := by rw [remZ_nn f4.1]; omega
    have hqa := quoZ_nn (a := p * pickF ((l i).lo k) ((l i).hi k) (f (remZ (6 + 4 * k + 1) m)) + (1000 - p) * pickF ((l j).lo k) ((l j).hi k) (f (remZ (6 + 4 * k + 1 + 1) m))) (b := 1000) (by omega)
    have hqb := quoZ_nn (a := p * pickF ((l i).lo k) ((l i).hi k) (f (remZ (6 + 4 * k + 1) m)) + (1000 - p) * pickF ((l j).lo k) ((l j).hi k) (f (remZ (6 + 4 * k + 1 + 1) m)) + 999) (b := 1000) (by omega)
    refine cond_dk hlt (cond_dk ⟨by omega, hlt⟩ ⟨⟨i, rfl, i0, i1, by omega, by omega⟩, ?_⟩)
    simp only [Int.zero_add, at1]
    repeat' first
      | (refine cond_r (by omega) ?_)
      | (refine cond_d (fun h => by omega) (fun _ => ?_))
      | (refine cond_dk ⟨by omega, by omega⟩ ?_)
      | (refine ⟨⟨trivial, by omega, by omega⟩, ?_⟩)
      | (refine ⟨⟨by omega, by omega, by omega, by omega, by omega⟩, ?_⟩)
      | (refine ⟨⟨j, rfl, j0, j1, by omega, by omega⟩, ?_⟩)
      | (refine cond_k (beq_t rfl) ?_)
      | (refine cond_k (room16 (by omega)) ?_)
    refine ⟨k + 1, by omega, by dsimp only; omega, rfl, ⟨VB.fit_refl _, VB.fit_refl _, VB.fit_refl _, VB.fit_refl _, VB.fit_refl _, VB.fit_refl _, VB.fit_refl _, ?_, VB.fit_refl _, fit_span k (mLo m f p (l i) (l j)) (mHi m f p (l i) (l j)) _ _ ?_ ?_, trivial⟩, fun e vs bs ho => ho⟩
    · have : (6 + 4 * (k : Int) + 1 + 1 + 1 + 1) = 6 + 4 * ((k + 1 : Nat) : Int) := by omega
      rw [this]
      exact VB.fit_refl _
    · simp only [mLo, tLo, tN, nxF, Int.zero_add]
    · simp only [mHi, tHi, tN, nxF, Int.zero_add]
  · refine cond_d (fun h => absurd h hlt) (fun _ => ?_)
    have : k = (l i).vl := by omega
    subst this
    exact ⟨rfl, rfl, rfl⟩
end
end Go.Sx.Gen

/- genuine: GenuineTrue, the loop of what is measured. -/

namespace Go.Sx.Gen
open Go Go.Sx Go.Proofs
set_option maxRecDepth 100000

section
variable {n cap m cm : Nat} {l : Int → Src} {f : Int → Int} {a c i j p g pp lo hi : Int}

theorem pick_good : Good Try.prog (callN Try.prog (tabS [pick23T]) noL 10 20) := tab_good hmix (by
  intro x hx
  simp only [List.mem_singleton] at hx
  subst hx
  exact pick23T_ok) 20

def LM0s (n cap m cm : Nat) (l : Int → Src) (f : Int → Int) (a c i j p g pp lo hi : Int) : LT := fun lock t h K =>
  (FitP lock h t ⟨10, nsT.zip (BM n m cm l f i j p g pp lo hi 0)⟩ (dsT.zip (VT n cap a c p 0)) ∧ OkT n m l f i j p) ∧ K .normal (dsT.zip (VT n cap a c p (l i).vl)) ⟨10, nsT.zip (BM n m cm l f i j p g pp lo hi (l i).vl)⟩

theorem LM0s_ok : LSound Try.prog true (.block 0 (.loop (loopB 0 (bodyOf Try.prog 5)))) 277 (LM0s n cap m cm l f a c i j p g pp lo hi) := by
  by_cases ok : OkT n m l f i j p
  · refine loop_row hmix pick_good (un := 10) (ds := dsT) (ns := nsT) (nx := 10) (fun k : Nat => VT n cap a c p k) (fun k => BM n m cm l f i j p g pp lo hi k) (fun k => k ≤ (l i).vl) (fun k => (l i).vl - k) (OM5 n cap m cm l f a c i j p g pp lo hi) noL_ok ?_ ?_
    · intro k h1
      exact m0_round ok h1
    · rintro lock t h K ⟨⟨hf, _⟩, hK⟩
      refine ⟨0, hf, Nat.zero_le _, ?_⟩
      rintro e vs bs ⟨rfl, rfl, rfl⟩
      exact hK
  · rintro lock t h K ⟨⟨hf, hc⟩, hK⟩
    exact (ok hc).elim

/-- The heap where nothing is measured yet. -/
def BM0 (n m cm : Nat) (l : Int → Src) (f : Int → Int) (i j g pp lo hi : Int) : List VB :=
  [srcA n l, valA n l, seenA bT0, byA m f, .cells [.slice (.el 3 [] 0 0) m cm] 48, cX l i, cX l j, .cells [I 6] 3, .cells [I g, I pp, I lo, I hi, .nils] 26]

def LM0 (n cap m cm : Nat) (l : Int → Src) (f : Int → Int) (a c i j p g pp lo hi : Int) : LT := fun lock t h K =>
  (FitP lock h t ⟨9, [0, 1, 2, 3, 4, 5, 6, 7, 8].zip (BM0 n m cm l f i j g pp lo hi)⟩ (dsT.zip (VT n cap a c p 0)) ∧ OkT n m l f i j p) ∧ K .normal (dsT.zip (VT n cap a c p (l i).vl)) ⟨10, nsT.zip (BM n m cm l f i j p g pp lo hi (l i).vl)⟩

theorem LM0_ok : LSound Try.prog true (.block 0 (.loop (loopB 0 (bodyOf Try.prog 5)))) 277 (LM0 n cap m cm l f a c i j p g pp lo hi) :=
  ghost_cells_row (m := 8) (nx := 9) (cs := [I g, I pp, I lo, I hi, .nils]) (cs' := [I g, I pp, I lo, I hi, .sl 9 0]) (ty := 26) (bs := [0, 1, 2, 3, 4, 5, 6, 7, 8].zip (BM0 n m cm l f i j g pp lo hi)) (t0 := dsT.zip (VT n cap a c p 0))
    (fun q => [I (mLo m f p (l i) (l j) (q : Int)), I (mHi m f p (l i) (l j) (q : Int))]) 2 23 LM0s_ok rfl (fun R xs hv hx => by
      obtain ⟨a0, _, k0, ⟨a1, _, k1, ⟨a2, _, k2, ⟨a3, _, k3, ⟨a4, _, k4, k5, rfl⟩, rfl⟩, rfl⟩, rfl⟩, rfl⟩ := hx
      exact ⟨_, _, k0, ⟨_, _, k1, ⟨_, _, k2, ⟨_, _, k3, ⟨_, _, nil_ghost hv k4, k5, rfl⟩, rfl⟩, rfl⟩, rfl⟩, rfl⟩) (by
      rintro lock t h K ⟨⟨hf, hi⟩, hK⟩
      exact ⟨hf, ⟨⟨⟨rfl, rfl, VB.fit_refl _, VB.fit_refl _, VB.fit_refl _, VB.fit_refl _, VB.fit_refl _, VB.fit_refl _, VB.fit_refl _, VB.fit_refl _, VB.fit_refl _, VB.fit_refl _, trivial⟩, rfl, rfl, rfl, rfl, rfl, rfl, rfl, rfl, rfl, rfl, trivial⟩, hi⟩, hK⟩)
end
end Go.Sx.Gen
