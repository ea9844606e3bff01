/- genuine: Gh1 Gh2 Gh3 Gh4 Gh5 Gh6, in one text. -/
import Derived.Test.YtoionnljbacmkaaGF
/- genuine: the document's bounds, evaluated. -/

namespace Go.Sx.Gen
open Go Go.Sx Go.Proofs
set_option maxRecDepth 100000

/-- What a share has to keep: the q-th bound. -/
def bdF (b : Sus) (x y : Src) (q : Nat) : Int × Int :=
  if q = 0 then (1, 0) else if q = 1 then (-1, -1) else if q = 2 then (x.shi - y.shi, b.slo - y.shi)
  else if (q - 3) % 2 = 0 then (x.hi ((q - 3) / 2 : Nat) - y.hi ((q - 3) / 2 : Nat), b.lo ((q - 3) / 2 : Nat) - y.hi ((q - 3) / 2 : Nat))
  else (y.lo ((q - 3) / 2 : Nat) - x.lo ((q - 3) / 2 : Nat), y.lo ((q - 3) / 2 : Nat) - b.hi ((q - 3) / 2 : Nat))

def vecBd (b : Sus) (x y : Src) (L : Nat) : VB := .vec L (fun q => [I (bdF b x y q).1, I (bdF b x y q).2]) 2 85
def vecB0 (b : Sus) (x y : Src) : VB := .vec 3 (catG 2 (fun j => List.take 2 (List.drop (j * 2) [I 1, I 0, I (-1), I (-1)])) (fun j => List.take 2 (List.drop (j * 2) [I (x.shi - y.shi), I (b.slo - y.shi)]))) 2 85
def hB0 (n : Nat) (l : Int → Src) (b : Sus) (i j : Int) : List VB := [srcA n l, valA n l, seenA b, cSu b, cSo l i, cSo l j, vecB0 b (l i) (l j)]
def hB (n : Nat) (l : Int → Src) (b : Sus) (i j : Int) (L : Nat) : List VB := [srcA n l, valA n l, seenA b, cSu b, cSo l i, cSo l j, vecBd b (l i) (l j) L]
def dsB : List Nat := [7, 8, 3, 4, 5]
def nsB : List Nat := [0, 1, 2, 3, 4, 5, 6]
def VBd (k : Nat) : List VV := [.sl 6 (3 + 2 * k), I k, .ptr (.own 3 0), .ptr (.own 4 0), .ptr (.own 5 0)]

def LB0 (n : Nat) (l : Int → Src) (b : Sus) (i j : Int) : LT := fun lock t h K =>
  FitP lock h t ⟨8, nsB.zip (hB0 n l b i j)⟩ (dsB.zip (VBd 0)) ∧ OkS n l b i j ∧ K .normal (dsB.zip (VBd b.sl)) ⟨8, nsB.zip (hB n l b i j (3 + 2 * b.sl))⟩

theorem b0_ev (n : Nat) (l : Int → Src) (b : Sus) (i j : Int) (k : Nat) (X : VEx → List VV → List VB → Prop) : codeE Try.prog (callN Try.prog noSpec noL 10 20) (fun _ => none) true 10 98 0 (loopB 0 (bodyOf Try.prog 25)) (dsB.zip (VBd k)) ⟨8, nsB.zip (hB n l b i j (3 + 2 * k))⟩ (obs 8 dsB nsB X) =
  (bif decide ((↑k : Int) < (↑b.sl : Int)) then
 bif decide ((0 : Int) ≤ (↑k : Int) ∧ (↑k : Int) < (↑(l i).vl : Int)) then
 (∃ i_1, [i] = [i_1] ∧ (0 : Int) ≤ i_1 ∧ i_1 < (↑n : Int) ∧ (0 : Int) ≤ (0 : Int) + (↑k : Int) ∧ (0 : Int) + (↑k : Int) < (↑(l i_1).vl : Int)) ∧ bif decide ((0 : Int) ≤ (↑k : Int) ∧ (↑k : Int) < (↑(l j).vl : Int)) then
 (∃ i, [j] = [i] ∧ (0 : Int) ≤ i ∧ i < (↑n : Int) ∧ (0 : Int) ≤ (0 : Int) + (↑k : Int) ∧ (0 : Int) + (↑k : Int) < (↑(l i).vl : Int)) ∧ bif inK IntKind.i64 (at1 (fun i => (l i).hi) [i] ((0 : Int) + (↑k : Int)) - at1 (fun i => (l i).hi) [j] ((0 : Int) + (↑k : Int))) then
 bif decide ((0 : Int) ≤ (↑k : Int) ∧ (↑k : Int) < (↑b.sl : Int)) then
 (([] : List Int) = [] ∧ (0 : Int) ≤ (0 : Int) + (↑k : Int) ∧ (0 : Int) + (↑k : Int) < (↑b.sl : Int)) ∧ bif decide ((0 : Int) ≤ (↑k : Int) ∧ (↑k : Int) < (↑(l j).vl : Int)) then
 (∃ i, [j] = [i] ∧ (0 : Int) ≤ i ∧ i < (↑n : Int) ∧ (0 : Int) ≤ (0 : Int) + (↑k : Int) ∧ (0 : Int) + (↑k : Int) < (↑(l i).vl : Int)) ∧ bif inK IntKind.i64 ((kLo b) [] ((0 : Int) + (↑k : Int)) - at1 (fun i => (l i).hi) [j] ((0 : Int) + (↑k : Int))) then
 bif (3 + 2 * k).beq (3 + 2 * k) then
 bif roomB (3 + 2 * k + 1) (16) then
 bif decide ((0 : Int) ≤ (↑k : Int) ∧ (↑k : Int) < (↑(l j).vl : Int)) then
 (∃ i, [j] = [i] ∧ (0 : Int) ≤ i ∧ i < (↑n : Int) ∧ (0 : Int) ≤ (0 : Int) + (↑k : Int) ∧ (0 : Int) + (↑k : Int) < (↑(l i).vl : Int)) ∧ bif decide ((0 : Int) ≤ (↑k : Int) ∧ (↑k : Int) < (↑(l i).vl : Int)) then
 (∃ i_1, [i] = [i_1] ∧ (0 : Int) ≤ i_1 ∧ i_1 < (↑n : Int) ∧ (0 : Int) ≤ (0 : Int) + (↑k : Int) ∧ (0 : Int) + (↑k : Int) < (↑(l i_1).vl : Int)) ∧ bif inK IntKind.i64 (at1 (fun i => (l i).lo) [j] ((0 : Int) + (↑k : Int)) - at1 (fun i => (l i).lo) [i] ((0 : Int) + (↑k : Int))) then
 bif decide ((0 : Int) ≤ (↑k : Int) ∧ (↑k : Int) < (↑(l j).vl : Int)) then
 (∃ i, [j] = [i] ∧ (0 : Int) ≤ i ∧ i < (↑n : Int) ∧ (0 : Int) ≤ (0 : Int) + (↑k : Int) ∧ (0 : Int) + (↑k : Int) < (↑(l i).vl : Int)) ∧ bif decide ((0 : Int) ≤ (↑k : Int) ∧ (↑k : Int) < (↑b.sl : Int)) then
 (([] : List Int) = [] ∧ (0 : Int) ≤ (0 : Int) + (↑k : Int) ∧ (0 : Int) + (↑k : Int) < (↑b.sl : Int)) ∧ bif inK IntKind.i64 (at1 (fun i => (l i).lo) [j] ((0 : Int) + (↑k : Int)) - (kHi b) [] ((0 : Int) + (↑k : Int))) then
 bif (3 + 2 * k + 1).beq (3 + 2 * k + 1) then
 bif roomB (3 + 2 * k + 1 + 1) (16) then
 bif inK IntKind.i64 ((↑k : Int) + (1 : Int)) then
 X VEx.normal [VV.sl 6 (3 + 2 * k + 1 + 1), I ((↑k : Int) + (1 : Int)), VV.ptr (VA.own 3 0), VV.ptr (VA.own 4 0), VV.ptr (VA.own 5 0)] [srcA n l, valA n l, seenA b, cSu b, cSo l i, cSo l j, VB.vec (3 + 2 * k + 1 + 1) (catG (3 + 2 * k + 1) (catG (3 + 2 * k) (fun q => [I (bdF b (l i) (l j) q).fst, I (bdF b (l i) (l j) q).snd]) fun j_1 => List.take (2) (List.drop (j_1 * (2)) [I (at1 (fun i => (l i).hi) [i] ((0 : Int) + (↑k : Int)) - at1 (fun i => (l i).hi) [j] ((0 : Int) + (↑k : Int))), I ((kLo b) [] ((0 : Int) + (↑k : Int)) - at1 (fun i => (l i).hi) [j] ((0 : Int) + (↑k : Int)))])) fun j_1 => List.take (2) (List.drop (j_1 * (2)) [I (at1 (fun i => (l i).lo) [j] ((0 : Int) + (↑k : Int)) - at1 (fun i => (l i).lo) [i] ((0 : Int) + (↑k : Int))), I (at1 (fun i => (l i).lo) [j] ((0 : Int) + (↑k : Int)) - (kHi b) [] ((0 : Int) + (↑k : Int)))])) (2) 85]
 else False
 else False
 else False
 else False
 else False
 else False
 else False
 else False
 else False
 else False
 else False
 else False
 else False
 else False
 else False
 else False
 else False
 else X (VEx.exit 0) [VV.sl 6 (3 + 2 * k), I (↑k : Int), VV.ptr (VA.own 3 0), VV.ptr (VA.own 4 0), VV.ptr (VA.own 5 0)] [srcA n l, valA n l, seenA b, cSu b, cSo l i, cSo l j, vecBd b (l i) (l j) (3 + 2 * k)]) := by kernel_rfl

theorem f25_ev (n : Nat) (l : Int → Src) (b : Sus) (i j : Int) (Q : VRes → VH → Prop) : spBL Try.prog 25 noSpec [(0, LB0 n l b i j)] 10 20 0 [bV b, sV l i, sV l j] (bH n l b) Q =
  (bif inK IntKind.i64 ((l i).shi - (l j).shi) then
 bif inK IntKind.i64 (b.slo - (l j).shi) then
 FitP 0 (VH.mk (8) (nsB.zip (hB0 n l b i j))) (dsB.zip (VBd 0)) (VH.mk (8) (nsB.zip (hB0 n l b i j))) (dsB.zip (VBd 0)) ∧ OkS n l b i j ∧ Q (VRes.ret (VV.sl 6 (3 + 2 * b.sl))) (VH.mk (8) ([(0, srcA n l), (1, valA n l), (2, seenA b), (3, cSu b), (4, cSo l i), (5, cSo l j), (6, VB.vec (3 + 2 * b.sl) (fun q => [I (bdF b (l i) (l j) q).fst, I (bdF b (l i) (l j) q).snd]) 2 (85 : TypeId))]))
 else False
 else False) := by kernel_rfl


end Go.Sx.Gen

/- genuine: the document's bounds. -/

namespace Go.Sx.Gen
open Go Go.Sx Go.Proofs
set_option maxRecDepth 100000

section
variable {n cap : Nat} {l : Int → Src} {b : Sus} {i j : Int}

theorem roomB_t16 {n : Nat} (h : n ≤ 1000) : roomB n 16 = true := by
  simp only [roomB, Bool.and_eq_true]
  exact ⟨Nat.ble_eq_true_of_le (by omega), Nat.ble_eq_true_of_le (by omega)⟩

theorem bdF_hi {b : Sus} {x y : Src} (k : Nat) : bdF b x y (3 + 2 * k) = (x.hi k - y.hi k, b.lo k - y.hi k) := by
  unfold bdF
  rw [if_neg (by omega), if_neg (by omega), if_neg (by omega), if_pos (by omega), show (3 + 2 * k - 3) / 2 = k by omega]

theorem bdF_lo {b : Sus} {x y : Src} (k : Nat) : bdF b x y (3 + 2 * k + 1) = (y.lo k - x.lo k, y.lo k - b.hi k) := by
  unfold bdF
  rw [if_neg (by omega), if_neg (by omega), if_neg (by omega), if_neg (by omega), show (3 + 2 * k + 1 - 3) / 2 = k by omega]

def OB0 (n : Nat) (l : Int → Src) (b : Sus) (i j : Int) (_ : Nat) (e : VEx) (vs : List VV) (bs : List VB) : Prop :=
  e = .exit 0 ∧ vs = VBd b.sl ∧ bs = hB n l b i j (3 + 2 * b.sl)

theorem LB0_ok : LSound Try.prog true (.block 0 (.loop (loopB 0 (bodyOf Try.prog 25)))) 98 (LB0 n l b i j) := by
  by_cases hi : OkS n l b i j
  · obtain ⟨hb, ⟨hi0, hi1⟩, hj0, hj1⟩ := hi
    have sx := srcOk_of hb hi0 hi1
    have sy := srcOk_of hb hj0 hj1
    have sb := susOk_of hb
    have hsl := sb.vl
    refine loop_row hmix good0 (un := 10) (ds := dsB) (ns := nsB) (nx := 8) (fun k : Nat => VBd k) (fun k => hB n l b i j (3 + 2 * k)) (fun k => k ≤ b.sl) (fun k => b.sl - k) (OB0 n l b i j) noL_ok ?_ ?_
    · intro k h1
      rw [b0_ev]
      by_cases hlt : (k : Int) < b.sl
      · have hx := sx.val k (by omega) (by rw [← sx.vl]; exact hlt)
        have hy := sy.val k (by omega) (by rw [← sy.vl]; exact hlt)
        have hv := sb.val k (by omega) hlt
        have vx := sx.vl
        have vy := sy.vl
        refine cond_dk hlt (cond_dk ⟨by omega, by omega⟩ ⟨⟨i, rfl, hi0, hi1, by omega, by omega⟩, cond_dk ⟨by omega, by omega⟩ ⟨⟨j, rfl, hj0, hj1, by omega, by omega⟩, ?_⟩⟩)
        simp only [Int.zero_add, at1, kLo, kHi]
        refine cond_r (by omega) (cond_dk ⟨by omega, by omega⟩ ⟨⟨trivial, by omega, by omega⟩, cond_dk ⟨by omega, by omega⟩ ⟨⟨j, rfl, hj0, hj1, by omega, by omega⟩, cond_r (by omega) (cond_k (beq_t rfl) (cond_k (roomB_t16 (by omega)) (cond_dk ⟨by omega, by omega⟩ ⟨⟨j, rfl, hj0, hj1, by omega, by omega⟩, cond_dk ⟨by omega, by omega⟩ ⟨⟨i, rfl, hi0, hi1, by omega, by omega⟩, cond_r (by omega) (cond_dk ⟨by omega, by omega⟩ ⟨⟨j, rfl, hj0, hj1, by omega, by omega⟩, cond_dk ⟨by omega, by omega⟩ ⟨⟨trivial, by omega, by omega⟩, cond_r (by omega) (cond_k (beq_t rfl) (cond_k (roomB_t16 (by omega)) (cond_r (by omega) ?_)))⟩⟩)⟩⟩)))⟩⟩)
        refine ⟨k + 1, by omega, by dsimp only; omega, rfl, ⟨VB.fit_refl _, VB.fit_refl _, VB.fit_refl _, VB.fit_refl _, VB.fit_refl _, VB.fit_refl _, ?_, trivial⟩, fun e vs bs ho => ho⟩
        refine ⟨rfl, rfl, rfl, fun q hq => ?_⟩
        have hq : q < 3 + 2 * k + 1 + 1 := hq
        simp only [catG]
        by_cases h1 : q < 3 + 2 * k + 1
        · rw [blt_t h1]
          by_cases h2 : q < 3 + 2 * k
          · rw [blt_t h2]; rfl
          · rw [blt_f (by omega)]
            have : q = 3 + 2 * k := by omega
            subst this
            rw [bdF_hi]
            simp
        · rw [blt_f (by omega)]
          have : q = 3 + 2 * k + 1 := by omega
          subst this
          rw [bdF_lo]
          simp
      · refine cond_d (fun h => absurd h hlt) (fun _ => ?_)
        have : k = b.sl := by omega
        subst this
        exact ⟨rfl, rfl, rfl⟩
    · rintro lock t h K ⟨hf, _, hK⟩
      refine ⟨0, ?_, by omega, ?_⟩
      · obtain ⟨⟨f1, f2, g0, g1, g2, g3, g4, g5, g6, _⟩, f3⟩ := hf
        refine ⟨⟨f1, f2, g0, g1, g2, g3, g4, g5, VB.fit_trans ?_ g6, trivial⟩, f3⟩
        refine ⟨rfl, rfl, rfl, fun q hq => ?_⟩
        have : q = 0 ∨ q = 1 ∨ q = 2 := by omega
        rcases this with rfl | rfl | rfl <;> rfl
      · rintro e vs bs ⟨rfl, rfl, rfl⟩
        exact hK
  · rintro lock t h K ⟨hf, hc, hK⟩
    exact (hi hc).elim

theorem bnd_v (hi : OkS n l b i j) : CallsV Try.prog 25 [bV b, sV l i, sV l j] (bH n l b) (.ret (.sl 6 (3 + 2 * b.sl))) ⟨7, [(0, srcA n l), (1, valA n l), (2, seenA b), (6, vecBd b (l i) (l j) (3 + 2 * b.sl))]⟩ := by
  obtain ⟨hb, ⟨hi0, hi1⟩, hj0, hj1⟩ := id hi
  have sx := (srcOk_of hb hi0 hi1).str
  have sy := (srcOk_of hb hj0 hj1).str
  have sb := (susOk_of hb).str
  have hsp := spBL_ok (sp := noSpec) hmix (fun _ _ h => absurd h (by simp [noSpec])) (f := 25) (lo_one (by kernel_rfl) (LB0_ok (n := n) (l := l) (b := b) (i := i) (j := j))) (un := 10) (fu := 20)
  obtain ⟨r, h', hQ, hc⟩ := of_sp hsp (args := [bV b, sV l i, sV l j]) (h := bH n l b) (K := fun r h' => r = .ret (.sl 6 (3 + 2 * b.sl)) ∧ h' = ⟨8, [(0, srcA n l), (1, valA n l), (2, seenA b), (3, cSu b), (4, cSo l i), (5, cSo l j), (6, vecBd b (l i) (l j) (3 + 2 * b.sl))]⟩)
    (by
      rw [f25_ev]
      exact cond_r (by omega) (cond_r (by omega) ⟨fitP_self rfl, hi, rfl, rfl⟩))
  obtain ⟨rfl, rfl⟩ := hQ
  exact calls_weak hc (show 3 ≤ 7 by decide) ⟨VB.fit_refl _, VB.fit_refl _, VB.fit_refl _, VB.fit_refl _, trivial⟩ rfl rfl
end
end Go.Sx.Gen

/- genuine: the document's shares, evaluated. -/

namespace Go.Sx.Gen
open Go Go.Sx Go.Proofs
set_option maxRecDepth 100000

abbrev qN (q : Nat) : Nat := (q : Int).toNat
/-- The document's bounds as a row. -/
def bndT (n : Nat) (l : Int → Src) (b : Sus) : FuncId × Spec1 := (25, fun _ args h K => match args with
  | [.agg [.int .i64 g, .int .i64 p, .int .i64 s, .int .i64 t, .slice (.el 2 [] 0 0) m c], .agg [.int .i64 ck, .int .i64 dr, .int .i64 lo, .int .i64 hi, .slice (.el 1 [i] 0 0) m2 c2], .agg [.int .i64 ck', .int .i64 dr', .int .i64 lo', .int .i64 hi', .slice (.el 1 [j] 0 0) m2' c2']] =>
    ((h.at 0 = srcA n l ∧ h.at 1 = valA n l ∧ h.at 2 = seenA b) ∧ ([bV b, sV l i, sV l j] = [.agg [I g, I p, I s, I t, .slice (.el 2 [] 0 0) m c], .agg [I ck, I dr, I lo, I hi, .slice (.el 1 [i] 0 0) m2 c2], .agg [I ck', I dr', I lo', I hi', .slice (.el 1 [j] 0 0) m2' c2']]) ∧ OkS n l b i j) ∧ K (.ret (.sl (h.nx + 3) (3 + 2 * b.sl))) (pushL h [.gone, .gone, .gone, vecBd b (l i) (l j) (3 + 2 * b.sl)])
  | _ => False)

/-- One bound more. -/
def rfK (s : Shr) (A C : Int) : Shr :=
  if A = 0 then ⟨s.la, s.lb, s.ma, s.mb, s.no || decide (C > 0)⟩
  else if A > 0 then (if s.la * (lowF C A).2 < (lowF C A).1 * s.lb then ⟨(lowF C A).1, (lowF C A).2, s.ma, s.mb, s.no⟩ else s)
  else (if (lowF C A).1 * s.mb < s.ma * (lowF C A).2 then ⟨s.la, s.lb, (lowF C A).1, (lowF C A).2, s.no⟩ else s)
def rfL (b : Sus) (x y : Src) : Nat → Nat → Shr → Shr
  | 0, _, s => s
  | m + 1, q, s => rfL b x y m (q + 1) (rfK s (bdF b x y q).1 (bdF b x y q).2)
def rfF (b : Sus) (x y : Src) : Shr := rfL b x y (3 + 2 * b.sl) 0 (mkS 0 1 1 1 false)

def dsH : List Nat := [12, 11, 9, 10, 3, 4, 5, 6, 7, 8]
def VH' (b : Sus) (q : Nat) : List VV := [I q, .sl 13 (3 + 2 * b.sl), .ptr (.own 8 0), .ptr (.own 9 0), .ptr (.own 3 0), .ptr (.own 4 0), .ptr (.own 5 0), .ptr (.own 6 0), .ptr (.own 7 0), .bool false]
def nsH : List Nat := [0, 1, 2, 3, 4, 5, 6, 7, 8, 9, 13]
def hH (n : Nat) (l : Int → Src) (b : Sus) (i j : Int) (s : Shr) : List VB := [srcA n l, valA n l, seenA b, cSu b, cSo l i, cSo l j, .cells [I 0, I 0] 35, .cells [I 0, I 0] 35, .cells [I s.la, I s.lb] 35, .cells [I s.ma, I s.mb] 35, vecBd b (l i) (l j) (3 + 2 * b.sl)]
def hH1 (n : Nat) (l : Int → Src) (b : Sus) (i j : Int) (s : Shr) : List VB := [srcA n l, valA n l, seenA b, cSu b, cSo l i, cSo l j, .cells [I s.la, I s.lb] 35, .cells [I s.ma, I s.mb] 35, .cells [I s.la, I s.lb] 35, .cells [I s.ma, I s.mb] 35, vecBd b (l i) (l j) (3 + 2 * b.sl)]

def LH0 (n : Nat) (l : Int → Src) (b : Sus) (i j : Int) : LT := fun lock t h K =>
  FitP lock h t ⟨14, nsH.zip (hH n l b i j (mkS 0 1 1 1 false))⟩ (dsH.zip (VH' b 0)) ∧ OkS n l b i j ∧
    ((rfF b (l i) (l j)).no = false → K .normal (dsH.zip (VH' b (3 + 2 * b.sl))) ⟨14, nsH.zip (hH n l b i j (rfF b (l i) (l j)))⟩) ∧
    ((rfF b (l i) (l j)).no = true → ∀ q s, K .ret (dsH.zip (VH' b q)) ⟨14, nsH.zip (hH1 n l b i j s)⟩)

theorem h0_ev (n : Nat) (l : Int → Src) (b : Sus) (i j : Int) (q : Nat) (s : Shr) (X : VEx → List VV → List VB → Prop) : codeE Try.prog (callN Try.prog (tabS [low49T]) noL 10 20) (fun _ => none) true 10 99 0 (loopB 0 (bodyOf Try.prog 37)) (dsH.zip (VH' b q)) ⟨14, nsH.zip (hH n l b i j s)⟩ (obs 14 dsH nsH X) =
  (bif decide ((↑q : Int) < (↑(3 + 2 * b.sl) : Int)) then
 bif decide ((0 : Int) ≤ (↑q : Int) ∧ (↑q : Int) < (↑(3 + 2 * b.sl) : Int)) then
 bif (3 + 2 * b.sl).beq (3 + 2 * b.sl) && true then
 bif (3 + 2 * b.sl).beq (3 + 2 * b.sl) then
 bif decide ((bdF b (l i) (l j) (qN q)).fst = (0 : Int)) then
 bif decide ((0 : Int) ≤ (↑q : Int) ∧ (↑q : Int) < (↑(3 + 2 * b.sl) : Int)) then
 bif (3 + 2 * b.sl).beq (3 + 2 * b.sl) && true then
 bif (3 + 2 * b.sl).beq (3 + 2 * b.sl) then
 bif decide ((bdF b (l i) (l j) (qN q)).snd > (0 : Int)) then
 X VEx.ret [I (↑q : Int), VV.sl 13 (3 + 2 * b.sl), VV.ptr (VA.own 8 0), VV.ptr (VA.own 9 0), VV.ptr (VA.own 3 0), VV.ptr (VA.own 4 0), VV.ptr (VA.own 5 0), VV.ptr (VA.own 6 0), VV.ptr (VA.own 7 0), VV.bool false] [srcA n l, valA n l, seenA b, cSu b, cSo l i, cSo l j, VB.cells [I s.la, I s.lb] (35 : TypeId), VB.cells [I s.ma, I s.mb] (35 : TypeId), VB.cells [I s.la, I s.lb] (35 : TypeId), VB.cells [I s.ma, I s.mb] (35 : TypeId), vecBd b (l i) (l j) (3 + 2 * b.sl)]
 else bif inK IntKind.i64 ((↑q : Int) + (1 : Int)) then
 X VEx.normal [I ((↑q : Int) + (1 : Int)), VV.sl 13 (3 + 2 * b.sl), VV.ptr (VA.own 8 0), VV.ptr (VA.own 9 0), VV.ptr (VA.own 3 0), VV.ptr (VA.own 4 0), VV.ptr (VA.own 5 0), VV.ptr (VA.own 6 0), VV.ptr (VA.own 7 0), VV.bool false] [srcA n l, valA n l, seenA b, cSu b, cSo l i, cSo l j, VB.cells [I 0, I 0] (35 : TypeId), VB.cells [I 0, I 0] (35 : TypeId), VB.cells [I s.la, I s.lb] (35 : TypeId), VB.cells [I s.ma, I s.mb] (35 : TypeId), vecBd b (l i) (l j) (3 + 2 * b.sl)]
 else False
 else False
 else False
 else False
 else bif decide ((0 : Int) ≤ (↑q : Int) ∧ (↑q : Int) < (↑(3 + 2 * b.sl) : Int)) then
 bif (3 + 2 * b.sl).beq (3 + 2 * b.sl) && true then
 bif (3 + 2 * b.sl).beq (3 + 2 * b.sl) then
 bif decide ((0 : Int) ≤ (↑q : Int) ∧ (↑q : Int) < (↑(3 + 2 * b.sl) : Int)) then
 bif (3 + 2 * b.sl).beq (3 + 2 * b.sl) && true then
 bif (3 + 2 * b.sl).beq (3 + 2 * b.sl) then
 (bdI 4194304 (bdF b (l i) (l j) (qN q)).snd ∧ bdI 4194304 (bdF b (l i) (l j) (qN q)).fst ∧ (bdF b (l i) (l j) (qN q)).fst ≠ (0 : Int)) ∧ bif decide ((0 : Int) ≤ (↑q : Int) ∧ (↑q : Int) < (↑(3 + 2 * b.sl) : Int)) then
 bif (3 + 2 * b.sl).beq (3 + 2 * b.sl) && true then
 bif (3 + 2 * b.sl).beq (3 + 2 * b.sl) then
 bif decide ((bdF b (l i) (l j) (qN q)).fst > (0 : Int)) then
 bif inK IntKind.i64 (s.la * (lowF (bdF b (l i) (l j) (qN q)).snd (bdF b (l i) (l j) (qN q)).fst).snd) then
 bif inK IntKind.i64 ((lowF (bdF b (l i) (l j) (qN q)).snd (bdF b (l i) (l j) (qN q)).fst).fst * s.lb) then
 bif decide (s.la * (lowF (bdF b (l i) (l j) (qN q)).snd (bdF b (l i) (l j) (qN q)).fst).snd < (lowF (bdF b (l i) (l j) (qN q)).snd (bdF b (l i) (l j) (qN q)).fst).fst * s.lb) then
 bif decide ((0 : Int) ≤ (↑q : Int) ∧ (↑q : Int) < (↑(3 + 2 * b.sl) : Int)) then
 bif (3 + 2 * b.sl).beq (3 + 2 * b.sl) && true then
 bif (3 + 2 * b.sl).beq (3 + 2 * b.sl) then
 bif decide ((bdF b (l i) (l j) (qN q)).fst < (0 : Int)) then
 bif inK IntKind.i64 ((lowF (bdF b (l i) (l j) (qN q)).snd (bdF b (l i) (l j) (qN q)).fst).fst * s.mb) then
 bif inK IntKind.i64 (s.ma * (lowF (bdF b (l i) (l j) (qN q)).snd (bdF b (l i) (l j) (qN q)).fst).snd) then
 bif decide ((lowF (bdF b (l i) (l j) (qN q)).snd (bdF b (l i) (l j) (qN q)).fst).fst * s.mb < s.ma * (lowF (bdF b (l i) (l j) (qN q)).snd (bdF b (l i) (l j) (qN q)).fst).snd) then
 bif inK IntKind.i64 ((↑q : Int) + (1 : Int)) then
 X VEx.normal [I ((↑q : Int) + (1 : Int)), VV.sl 13 (3 + 2 * b.sl), VV.ptr (VA.own 8 0), VV.ptr (VA.own 9 0), VV.ptr (VA.own 3 0), VV.ptr (VA.own 4 0), VV.ptr (VA.own 5 0), VV.ptr (VA.own 6 0), VV.ptr (VA.own 7 0), VV.bool false] [srcA n l, valA n l, seenA b, cSu b, cSo l i, cSo l j, VB.cells [I 0, I 0] (35 : TypeId), VB.cells [I 0, I 0] (35 : TypeId), VB.cells [I (lowF (bdF b (l i) (l j) (qN q)).snd (bdF b (l i) (l j) (qN q)).fst).fst, I (lowF (bdF b (l i) (l j) (qN q)).snd (bdF b (l i) (l j) (qN q)).fst).snd] (35 : TypeId), VB.cells [I (lowF (bdF b (l i) (l j) (qN q)).snd (bdF b (l i) (l j) (qN q)).fst).fst, I (lowF (bdF b (l i) (l j) (qN q)).snd (bdF b (l i) (l j) (qN q)).fst).snd] (35 : TypeId), vecBd b (l i) (l j) (3 + 2 * b.sl)]
 else False
 else bif inK IntKind.i64 ((↑q : Int) + (1 : Int)) then
 X VEx.normal [I ((↑q : Int) + (1 : Int)), VV.sl 13 (3 + 2 * b.sl), VV.ptr (VA.own 8 0), VV.ptr (VA.own 9 0), VV.ptr (VA.own 3 0), VV.ptr (VA.own 4 0), VV.ptr (VA.own 5 0), VV.ptr (VA.own 6 0), VV.ptr (VA.own 7 0), VV.bool false] [srcA n l, valA n l, seenA b, cSu b, cSo l i, cSo l j, VB.cells [I 0, I 0] (35 : TypeId), VB.cells [I 0, I 0] (35 : TypeId), VB.cells [I (lowF (bdF b (l i) (l j) (qN q)).snd (bdF b (l i) (l j) (qN q)).fst).fst, I (lowF (bdF b (l i) (l j) (qN q)).snd (bdF b (l i) (l j) (qN q)).fst).snd] (35 : TypeId), VB.cells [I s.ma, I s.mb] (35 : TypeId), vecBd b (l i) (l j) (3 + 2 * b.sl)]
 else False
 else False
 else False
 else bif inK IntKind.i64 ((↑q : Int) + (1 : Int)) then
 X VEx.normal [I ((↑q : Int) + (1 : Int)), VV.sl 13 (3 + 2 * b.sl), VV.ptr (VA.own 8 0), VV.ptr (VA.own 9 0), VV.ptr (VA.own 3 0), VV.ptr (VA.own 4 0), VV.ptr (VA.own 5 0), VV.ptr (VA.own 6 0), VV.ptr (VA.own 7 0), VV.bool false] [srcA n l, valA n l, seenA b, cSu b, cSo l i, cSo l j, VB.cells [I 0, I 0] (35 : TypeId), VB.cells [I 0, I 0] (35 : TypeId), VB.cells [I (lowF (bdF b (l i) (l j) (qN q)).snd (bdF b (l i) (l j) (qN q)).fst).fst, I (lowF (bdF b (l i) (l j) (qN q)).snd (bdF b (l i) (l j) (qN q)).fst).snd] (35 : TypeId), VB.cells [I s.ma, I s.mb] (35 : TypeId), vecBd b (l i) (l j) (3 + 2 * b.sl)]
 else False
 else False
 else False
 else False
 else bif decide ((0 : Int) ≤ (↑q : Int) ∧ (↑q : Int) < (↑(3 + 2 * b.sl) : Int)) then
 bif (3 + 2 * b.sl).beq (3 + 2 * b.sl) && true then
 bif (3 + 2 * b.sl).beq (3 + 2 * b.sl) then
 bif decide ((bdF b (l i) (l j) (qN q)).fst < (0 : Int)) then
 bif inK IntKind.i64 ((lowF (bdF b (l i) (l j) (qN q)).snd (bdF b (l i) (l j) (qN q)).fst).fst * s.mb) then
 bif inK IntKind.i64 (s.ma * (lowF (bdF b (l i) (l j) (qN q)).snd (bdF b (l i) (l j) (qN q)).fst).snd) then
 bif decide ((lowF (bdF b (l i) (l j) (qN q)).snd (bdF b (l i) (l j) (qN q)).fst).fst * s.mb < s.ma * (lowF (bdF b (l i) (l j) (qN q)).snd (bdF b (l i) (l j) (qN q)).fst).snd) then
 bif inK IntKind.i64 ((↑q : Int) + (1 : Int)) then
 X VEx.normal [I ((↑q : Int) + (1 : Int)), VV.sl 13 (3 + 2 * b.sl), VV.ptr (VA.own 8 0), VV.ptr (VA.own 9 0), VV.ptr (VA.own 3 0), VV.ptr (VA.own 4 0), VV.ptr (VA.own 5 0), VV.ptr (VA.own 6 0), VV.ptr (VA.own 7 0), VV.bool false] [srcA n l, valA n l, seenA b, cSu b, cSo l i, cSo l j, VB.cells [I 0, I 0] (35 : TypeId), VB.cells [I 0, I 0] (35 : TypeId), VB.cells [I s.la, I s.lb] (35 : TypeId), VB.cells [I (lowF (bdF b (l i) (l j) (qN q)).snd (bdF b (l i) (l j) (qN q)).fst).fst, I (lowF (bdF b (l i) (l j) (qN q)).snd (bdF b (l i) (l j) (qN q)).fst).snd] (35 : TypeId), vecBd b (l i) (l j) (3 + 2 * b.sl)]
 else False
 else bif inK IntKind.i64 ((↑q : Int) + (1 : Int)) then
 X VEx.normal [I ((↑q : Int) + (1 : Int)), VV.sl 13 (3 + 2 * b.sl), VV.ptr (VA.own 8 0), VV.ptr (VA.own 9 0), VV.ptr (VA.own 3 0), VV.ptr (VA.own 4 0), VV.ptr (VA.own 5 0), VV.ptr (VA.own 6 0), VV.ptr (VA.own 7 0), VV.bool false] [srcA n l, valA n l, seenA b, cSu b, cSo l i, cSo l j, VB.cells [I 0, I 0] (35 : TypeId), VB.cells [I 0, I 0] (35 : TypeId), VB.cells [I s.la, I s.lb] (35 : TypeId), VB.cells [I s.ma, I s.mb] (35 : TypeId), vecBd b (l i) (l j) (3 + 2 * b.sl)]
 else False
 else False
 else False
 else bif inK IntKind.i64 ((↑q : Int) + (1 : Int)) then
 X VEx.normal [I ((↑q : Int) + (1 : Int)), VV.sl 13 (3 + 2 * b.sl), VV.ptr (VA.own 8 0), VV.ptr (VA.own 9 0), VV.ptr (VA.own 3 0), VV.ptr (VA.own 4 0), VV.ptr (VA.own 5 0), VV.ptr (VA.own 6 0), VV.ptr (VA.own 7 0), VV.bool false] [srcA n l, valA n l, seenA b, cSu b, cSo l i, cSo l j, VB.cells [I 0, I 0] (35 : TypeId), VB.cells [I 0, I 0] (35 : TypeId), VB.cells [I s.la, I s.lb] (35 : TypeId), VB.cells [I s.ma, I s.mb] (35 : TypeId), vecBd b (l i) (l j) (3 + 2 * b.sl)]
 else False
 else False
 else False
 else False
 else False
 else False
 else bif decide ((0 : Int) ≤ (↑q : Int) ∧ (↑q : Int) < (↑(3 + 2 * b.sl) : Int)) then
 bif (3 + 2 * b.sl).beq (3 + 2 * b.sl) && true then
 bif (3 + 2 * b.sl).beq (3 + 2 * b.sl) then
 bif decide ((bdF b (l i) (l j) (qN q)).fst < (0 : Int)) then
 bif inK IntKind.i64 ((lowF (bdF b (l i) (l j) (qN q)).snd (bdF b (l i) (l j) (qN q)).fst).fst * s.mb) then
 bif inK IntKind.i64 (s.ma * (lowF (bdF b (l i) (l j) (qN q)).snd (bdF b (l i) (l j) (qN q)).fst).snd) then
 bif decide ((lowF (bdF b (l i) (l j) (qN q)).snd (bdF b (l i) (l j) (qN q)).fst).fst * s.mb < s.ma * (lowF (bdF b (l i) (l j) (qN q)).snd (bdF b (l i) (l j) (qN q)).fst).snd) then
 bif inK IntKind.i64 ((↑q : Int) + (1 : Int)) then
 X VEx.normal [I ((↑q : Int) + (1 : Int)), VV.sl 13 (3 + 2 * b.sl), VV.ptr (VA.own 8 0), VV.ptr (VA.own 9 0), VV.ptr (VA.own 3 0), VV.ptr (VA.own 4 0), VV.ptr (VA.own 5 0), VV.ptr (VA.own 6 0), VV.ptr (VA.own 7 0), VV.bool false] [srcA n l, valA n l, seenA b, cSu b, cSo l i, cSo l j, VB.cells [I 0, I 0] (35 : TypeId), VB.cells [I 0, I 0] (35 : TypeId), VB.cells [I s.la, I s.lb] (35 : TypeId), VB.cells [I (lowF (bdF b (l i) (l j) (qN q)).snd (bdF b (l i) (l j) (qN q)).fst).fst, I (lowF (bdF b (l i) (l j) (qN q)).snd (bdF b (l i) (l j) (qN q)).fst).snd] (35 : TypeId), vecBd b (l i) (l j) (3 + 2 * b.sl)]
 else False
 else bif inK IntKind.i64 ((↑q : Int) + (1 : Int)) then
 X VEx.normal [I ((↑q : Int) + (1 : Int)), VV.sl 13 (3 + 2 * b.sl), VV.ptr (VA.own 8 0), VV.ptr (VA.own 9 0), VV.ptr (VA.own 3 0), VV.ptr (VA.own 4 0), VV.ptr (VA.own 5 0), VV.ptr (VA.own 6 0), VV.ptr (VA.own 7 0), VV.bool false] [srcA n l, valA n l, seenA b, cSu b, cSo l i, cSo l j, VB.cells [I 0, I 0] (35 : TypeId), VB.cells [I 0, I 0] (35 : TypeId), VB.cells [I s.la, I s.lb] (35 : TypeId), VB.cells [I s.ma, I s.mb] (35 : TypeId), vecBd b (l i) (l j) (3 + 2 * b.sl)]
 else False
 else False
 else False
 else bif inK IntKind.i64 ((↑q : Int) + (1 : Int)) then
 X VEx.normal [I ((↑q : Int) + (1 : Int)), VV.sl 13 (3 + 2 * b.sl), VV.ptr (VA.own 8 0), VV.ptr (VA.own 9 0), VV.ptr (VA.own 3 0), VV.ptr (VA.own 4 0), VV.ptr (VA.own 5 0), VV.ptr (VA.own 6 0), VV.ptr (VA.own 7 0), VV.bool false] [srcA n l, valA n l, seenA b, cSu b, cSo l i, cSo l j, VB.cells [I 0, I 0] (35 : TypeId), VB.cells [I 0, I 0] (35 : TypeId), VB.cells [I s.la, I s.lb] (35 : TypeId), VB.cells [I s.ma, I s.mb] (35 : TypeId), vecBd b (l i) (l j) (3 + 2 * b.sl)]
 else False
 else False
 else False
 else False
 else False
 else False
 else False
 else False
 else False
 else False
 else False
 else False
 else False
 else False
 else False
 else False
 else X (VEx.exit 0) [I (↑q : Int), VV.sl 13 (3 + 2 * b.sl), VV.ptr (VA.own 8 0), VV.ptr (VA.own 9 0), VV.ptr (VA.own 3 0), VV.ptr (VA.own 4 0), VV.ptr (VA.own 5 0), VV.ptr (VA.own 6 0), VV.ptr (VA.own 7 0), VV.bool false] [srcA n l, valA n l, seenA b, cSu b, cSo l i, cSo l j, VB.cells [I 0, I 0] (35 : TypeId), VB.cells [I 0, I 0] (35 : TypeId), VB.cells [I s.la, I s.lb] (35 : TypeId), VB.cells [I s.ma, I s.mb] (35 : TypeId), vecBd b (l i) (l j) (3 + 2 * b.sl)]) := by kernel_rfl

theorem f37_ev (n : Nat) (l : Int → Src) (b : Sus) (i j : Int) (Q : VRes → VH → Prop) : spBL Try.prog 37 (tabS [bndT n l b]) [(0, LH0 n l b i j)] 10 20 0 [bV b, sV l i, sV l j] (bH n l b) Q =
  (((srcA n l = srcA n l ∧ valA n l = valA n l ∧ seenA b = seenA b) ∧ [VV.agg [I b.glass, I b.paper, I b.slo, I b.shi, VV.slice (VA.el 2 [] (0 : Int) 0) b.sl b.sc], VV.agg [I (l i).cask, I (l i).drawn, I (l i).slo, I (l i).shi, VV.slice (VA.el 1 [i] (0 : Int) 0) (l i).vl (l i).vc], VV.agg [I (l j).cask, I (l j).drawn, I (l j).slo, I (l j).shi, VV.slice (VA.el 1 [j] (0 : Int) 0) (l j).vl (l j).vc]] = [VV.agg [I b.glass, I b.paper, I b.slo, I b.shi, VV.slice (VA.el 2 [] (0 : Int) 0) b.sl b.sc], VV.agg [I (l i).cask, I (l i).drawn, I (l i).slo, I (l i).shi, VV.slice (VA.el 1 [i] (0 : Int) 0) (l i).vl (l i).vc], VV.agg [I (l j).cask, I (l j).drawn, I (l j).slo, I (l j).shi, VV.slice (VA.el 1 [j] (0 : Int) 0) (l j).vl (l j).vc]] ∧ OkS n l b i j) ∧ FitP 0 (VH.mk (14) (nsH.zip (hH n l b i j (mkS (0 : Int) (1 : Int) (1 : Int) (1 : Int) false)))) (dsH.zip (VH' b 0)) (VH.mk (14) (nsH.zip (hH n l b i j (mkS (0 : Int) (1 : Int) (1 : Int) (1 : Int) false)))) (dsH.zip (VH' b 0)) ∧ OkS n l b i j ∧ ((rfF b (l i) (l j)).no = false → bif inK IntKind.i64 ((rfF b (l i) (l j)).ma * (rfF b (l i) (l j)).lb) then
 bif inK IntKind.i64 ((rfF b (l i) (l j)).la * (rfF b (l i) (l j)).mb) then
 bif !decide ((rfF b (l i) (l j)).ma * (rfF b (l i) (l j)).lb < (rfF b (l i) (l j)).la * (rfF b (l i) (l j)).mb) then
 bif decide (min (l i).drawn (l j).drawn ≥ b.glass) then
 Q (VRes.ret (VV.tup [VV.agg [I (rfF b (l i) (l j)).la, I (rfF b (l i) (l j)).lb], VV.agg [I (rfF b (l i) (l j)).ma, I (rfF b (l i) (l j)).mb], VV.bool (decide (min (l i).drawn (l j).drawn ≥ b.paper))])) (VH.mk (14) ([(7, VB.cells [I (rfF b (l i) (l j)).ma, I (rfF b (l i) (l j)).mb] (35 : TypeId)), (6, VB.cells [I (rfF b (l i) (l j)).la, I (rfF b (l i) (l j)).lb] (35 : TypeId)), (0, srcA n l), (1, valA n l), (2, seenA b), (3, cSu b), (4, cSo l i), (5, cSo l j), (6, VB.cells [I 0, I 0] (35 : TypeId)), (7, VB.cells [I 0, I 0] (35 : TypeId)), (8, VB.cells [I (rfF b (l i) (l j)).la, I (rfF b (l i) (l j)).lb] (35 : TypeId)), (9, VB.cells [I (rfF b (l i) (l j)).ma, I (rfF b (l i) (l j)).mb] (35 : TypeId)), (13, vecBd b (l i) (l j) (3 + 2 * b.sl))]))
 else Q (VRes.ret (VV.tup [VV.agg [I (rfF b (l i) (l j)).la, I (rfF b (l i) (l j)).lb], VV.agg [I (rfF b (l i) (l j)).ma, I (rfF b (l i) (l j)).mb], VV.bool false])) (VH.mk (14) ([(7, VB.cells [I (rfF b (l i) (l j)).ma, I (rfF b (l i) (l j)).mb] (35 : TypeId)), (6, VB.cells [I (rfF b (l i) (l j)).la, I (rfF b (l i) (l j)).lb] (35 : TypeId)), (0, srcA n l), (1, valA n l), (2, seenA b), (3, cSu b), (4, cSo l i), (5, cSo l j), (6, VB.cells [I 0, I 0] (35 : TypeId)), (7, VB.cells [I 0, I 0] (35 : TypeId)), (8, VB.cells [I (rfF b (l i) (l j)).la, I (rfF b (l i) (l j)).lb] (35 : TypeId)), (9, VB.cells [I (rfF b (l i) (l j)).ma, I (rfF b (l i) (l j)).mb] (35 : TypeId)), (13, vecBd b (l i) (l j) (3 + 2 * b.sl))]))
 else Q (VRes.ret (VV.tup [VV.agg [I (rfF b (l i) (l j)).la, I (rfF b (l i) (l j)).lb], VV.agg [I (rfF b (l i) (l j)).ma, I (rfF b (l i) (l j)).mb], VV.bool false])) (VH.mk (14) ([(7, VB.cells [I (rfF b (l i) (l j)).ma, I (rfF b (l i) (l j)).mb] (35 : TypeId)), (6, VB.cells [I (rfF b (l i) (l j)).la, I (rfF b (l i) (l j)).lb] (35 : TypeId)), (0, srcA n l), (1, valA n l), (2, seenA b), (3, cSu b), (4, cSo l i), (5, cSo l j), (6, VB.cells [I 0, I 0] (35 : TypeId)), (7, VB.cells [I 0, I 0] (35 : TypeId)), (8, VB.cells [I (rfF b (l i) (l j)).la, I (rfF b (l i) (l j)).lb] (35 : TypeId)), (9, VB.cells [I (rfF b (l i) (l j)).ma, I (rfF b (l i) (l j)).mb] (35 : TypeId)), (13, vecBd b (l i) (l j) (3 + 2 * b.sl))]))
 else False
 else False) ∧ ((rfF b (l i) (l j)).no = true → ∀ (q : Nat) (s : Shr), Q (VRes.ret (VV.tup [VV.agg [I s.la, I s.lb], VV.agg [I s.ma, I s.mb], VV.bool false])) (VH.mk (14) ([(0, srcA n l), (1, valA n l), (2, seenA b), (3, cSu b), (4, cSo l i), (5, cSo l j), (6, VB.cells [I s.la, I s.lb] (35 : TypeId)), (7, VB.cells [I s.ma, I s.mb] (35 : TypeId)), (8, VB.cells [I s.la, I s.lb] (35 : TypeId)), (9, VB.cells [I s.ma, I s.mb] (35 : TypeId)), (13, vecBd b (l i) (l j) (3 + 2 * b.sl))])))) := by kernel_rfl


end Go.Sx.Gen

/- genuine: the document's shares. -/

namespace Go.Sx.Gen
open Go Go.Sx Go.Proofs
set_option maxRecDepth 100000

section
variable {n cap : Nat} {l : Int → Src} {b : Sus} {i j : Int}

/-- What is so at the base, and leaves new blocks, is so over any heap that bears it. -/
theorem base_new {f : FuncId} {args : List VV} {h h' : VH} {r : VRes} {bl : List VB} (hs : CallsV Try.prog f args (bH n l b) r h') (hh : h.at 0 = srcA n l ∧ h.at 1 = valA n l ∧ h.at 2 = seenA b)
    (hsame : h'.at 0 = srcA n l ∧ h'.at 1 = valA n l ∧ h'.at 2 = seenA b) (ha : belL 3 args = true) (hbl : ∀ i, h'.at (3 + i) = (bl[i]?).getD .free) : CallsV Try.prog f args h (r.sh 3 h.nx) (pushL h (bl.map (VB.sh 3 h.nx))) := by
  have hk : 3 ≤ h.nx := by
    rcases Nat.lt_or_ge h.nx 3 with h1 | h1
    · exfalso
      have := hh.2.2
      unfold VH.at at this
      rw [blt_f (by omega)] at this
      cases this
    · exact h1
  have c : ∀ m : Nat, m < 3 → m = 0 ∨ m = 1 ∨ m = 2 := fun m hm => by omega
  refine calls_lift_new hs hk (fun m hm => ?_) (fun m hm => ?_) (fun m hm => ?_) (fun m hm => ?_) ha hbl
  · rcases c m hm with rfl | rfl | rfl
    · exact hh.1
    · exact hh.2.1
    · exact hh.2.2
  · rcases c m hm with rfl | rfl | rfl
    · exact hsame.1
    · exact hsame.2.1
    · exact hsame.2.2
  · rcases c m hm with rfl | rfl | rfl <;> exact fun h => VB.noConfusion (show VB.arr _ _ _ = VB.free from h)
  · rcases c m hm with rfl | rfl | rfl <;> rfl

theorem bl4 {x y z : VB} {c : VB} (i : Nat) : (VH.mk 7 [(0, x), (1, y), (2, z), (6, c)]).at (3 + i) = (([.gone, .gone, .gone, c] : List VB)[i]?).getD .free := by
  match i with
  | 0 => rfl
  | 1 => rfl
  | 2 => rfl
  | 3 => rfl
  | i + 4 =>
    rw [at_ge (by show ¬ 3 + (i + 4) < 7; omega)]
    rfl

theorem bndT_ok : SpOk Try.prog (bndT n l b).1 (bndT n l b).2 := by
  intro lock args h K hK
  simp only [bndT] at hK
  split at hK
  · obtain ⟨⟨hh, ha, hi⟩, hK⟩ := hK
    have hc := bnd_v hi
    rw [ha] at hc
    have h2 := base_new hc hh ⟨rfl, rfl, rfl⟩ rfl bl4
    have e : (VRes.ret (.sl 6 (3 + 2 * b.sl))).sh 3 h.nx = .ret (.sl (h.nx + 3) (3 + 2 * b.sl)) := by
      simp [VRes.sh, VV.sh, shN]; omega
    rw [e] at h2
    exact ⟨_, _, hK, lockP_push _ _, h2⟩
  · exact hK.elim

theorem lowF_bd {a c : Int} (ha : bdI 4194304 a) (hc : bdI 4194304 c) (h : c ≠ 0) : bdI 4194304 (lowF a c).1 ∧ 0 < (lowF a c).2 ∧ bdI 4194304 (lowF a c).2 := by
  unfold lowF
  split
  · obtain ⟨_, _, h1, h2, h3⟩ := red_bd (a := 0 - a) (c := 0 - c) (by omega) (by unfold bdI at *; omega) (by unfold bdI at *; omega)
    exact ⟨h1, h2, by unfold bdI; omega⟩
  · obtain ⟨_, _, h1, h2, h3⟩ := red_bd (a := a) (c := c) (by omega) ha hc
    exact ⟨h1, h2, by unfold bdI; omega⟩

theorem bdF_bd (hi : OkS n l b i j) {q : Nat} (hq : q < 3 + 2 * b.sl) : bdI 4194304 (bdF b (l i) (l j) q).1 ∧ bdI 4194304 (bdF b (l i) (l j) q).2 := by
  obtain ⟨hb, ⟨hi0, hi1⟩, hj0, hj1⟩ := hi
  have sx := srcOk_of hb hi0 hi1
  have sy := srcOk_of hb hj0 hj1
  have sb := susOk_of hb
  have vx := sx.vl
  have vy := sy.vl
  have x1 := sx.str
  have y1 := sy.str
  have b1 := sb.str
  rcases Nat.lt_or_ge q 3 with h | h
  · have : q = 0 ∨ q = 1 ∨ q = 2 := by omega
    rcases this with rfl | rfl | rfl
    · exact ⟨by show bdI _ 1; unfold bdI; omega, by show bdI _ 0; unfold bdI; omega⟩
    · exact ⟨by show bdI _ (-1); unfold bdI; omega, by show bdI _ (-1); unfold bdI; omega⟩
    · exact ⟨by show bdI _ ((l i).shi - (l j).shi); unfold bdI; omega, by show bdI _ (b.slo - (l j).shi); unfold bdI; omega⟩
  · obtain ⟨k, rfl | rfl⟩ : ∃ k, q = 3 + 2 * k ∨ q = 3 + 2 * k + 1 := ⟨(q - 3) / 2, by omega⟩
    · have x2 := sx.val k (by omega) (by omega)
      have y2 := sy.val k (by omega) (by omega)
      have b2 := sb.val k (by omega) (by omega)
      rw [bdF_hi]
      constructor <;> (unfold bdI; dsimp only; omega)
    · have x2 := sx.val k (by omega) (by omega)
      have y2 := sy.val k (by omega) (by omega)
      have b2 := sb.val k (by omega) (by omega)
      rw [bdF_lo]
      constructor <;> (unfold bdI; dsimp only; omega)

theorem idxK {q L : Nat} {p : Prop} (h : q < L) (hp : p) : (bif decide ((0 : Int) ≤ (q : Int) ∧ (q : Int) < (L : Int)) then (bif Nat.beq L L && true then (bif Nat.beq L L then p else False) else False) else False) :=
  cond_dk ⟨by omega, by omega⟩ (cond_k (by rw [beq_t rfl]; rfl) (cond_k (beq_t rfl) hp))

theorem rfL_no {b : Sus} {x y : Src} : ∀ {m q : Nat} {s : Shr}, s.no = true → (rfL b x y m q s).no = true
  | 0, _, _, h => h
  | m + 1, q, s, h => by
    refine rfL_no (m := m) ?_
    unfold rfK
    split
    · simp [h]
    · split
      · split <;> exact h
      · split <;> exact h

theorem rfL_step {b : Sus} {x y : Src} {L q : Nat} {s : Shr} (h : q < L) : rfL b x y (L - q) q s = rfL b x y (L - (q + 1)) (q + 1) (rfK s (bdF b x y q).1 (bdF b x y q).2) := by
  rw [show L - q = (L - (q + 1)) + 1 by omega]; rfl

def OH0 (n : Nat) (l : Int → Src) (b : Sus) (i j : Int) (s : Nat × Shr) (e : VEx) (vs : List VV) (bs : List VB) : Prop :=
  (e = .exit 0 ∧ (rfL b (l i) (l j) (3 + 2 * b.sl - s.1) s.1 s.2).no = false ∧ vs = VH' b (3 + 2 * b.sl) ∧ bs = hH n l b i j (rfL b (l i) (l j) (3 + 2 * b.sl - s.1) s.1 s.2)) ∨
  (e = .ret ∧ (rfL b (l i) (l j) (3 + 2 * b.sl - s.1) s.1 s.2).no = true ∧ (∃ q, vs = VH' b q) ∧ ∃ s', bs = hH1 n l b i j s')

theorem LH0_ok : LSound Try.prog true (.block 0 (.loop (loopB 0 (bodyOf Try.prog 37)))) 99 (LH0 n l b i j) := by
  by_cases hi : OkS n l b i j
  · have hsl := (susOk_of hi.1).vl
    refine loop_row hmix (tab_good (unroll := 10) hmix (l := [low49T]) (by
      intro x hx
      simp only [List.mem_singleton] at hx
      subst hx
      exact low49T_ok) 20) (un := 10) (ds := dsH) (ns := nsH) (nx := 14) (fun s : Nat × Shr => VH' b s.1) (fun s => hH n l b i j s.2) (fun s => s.1 ≤ 3 + 2 * b.sl ∧ Bd s.2 ∧ s.2.no = false) (fun s => 3 + 2 * b.sl - s.1) (OH0 n l b i j) noL_ok ?_ ?_
    · rintro ⟨q, s⟩ ⟨h1, ⟨h2, h3, h4, h5⟩, h6⟩
      dsimp only at h1 h2 h3 h4 h5 h6
      rw [h0_ev]
      rw [show qN q = q from Int.toNat_natCast q]
      by_cases hlt : q < 3 + 2 * b.sl
      · obtain ⟨bA, bC⟩ := bdF_bd hi hlt
        generalize hA : (bdF b (l i) (l j) q).1 = A at *
        generalize hC : (bdF b (l i) (l j) q).2 = C at *
        have hgo : ∀ s', rfK s A C = s' → Bd s' → s'.no = false → RoundQ (fun s : Nat × Shr => VH' b s.1) (fun s => hH n l b i j s.2) (fun s => s.1 ≤ 3 + 2 * b.sl ∧ Bd s.2 ∧ s.2.no = false) (fun s => 3 + 2 * b.sl - s.1) (OH0 n l b i j) (q, s) .normal (VH' b (q + 1)) (hH n l b i j s') := by
          intro s' hs' hB hno
          refine ⟨(q + 1, s'), ⟨by dsimp only; omega, hB, hno⟩, by dsimp only; omega, rfl, fitBs_refl _, fun e vs bs ho => ?_⟩
          have : rfL b (l i) (l j) (3 + 2 * b.sl - q) q s = rfL b (l i) (l j) (3 + 2 * b.sl - (q + 1)) (q + 1) s' := by rw [rfL_step hlt, hA, hC, hs']
          rw [OH0]
          dsimp only
          rw [this]
          exact ho
        refine cond_dk (by omega) (idxK hlt (cond_d (fun a0 => idxK hlt (cond_d (fun c0 => ?_) (fun c0 => cond_r (by omega) (hgo s (by unfold rfK; rw [if_pos a0]; cases s; simp at c0 ⊢; omega) ⟨h2, h3, h4, h5⟩ h6)))) (fun a0 => idxK hlt (idxK hlt ⟨⟨bC, bA, a0⟩, ?_⟩))))
        · refine .inr ⟨rfl, ?_, ⟨q, rfl⟩, s, rfl⟩
          dsimp only
          rw [rfL_step hlt, hA, hC]
          refine rfL_no ?_
          unfold rfK
          rw [if_pos a0]
          simp [c0]
        · obtain ⟨w1, w2, w3⟩ := lowF_bd bC bA a0
          generalize hp : lowF C A = p at *
          obtain ⟨p1, p2⟩ := p
          dsimp only at w1 w2 w3
          refine idxK hlt (cond_d (fun ap => cond_r (mulR h2 w3) (cond_r (mulR w1 h3) (cond_d (fun c1 => idxK hlt (cond_d (fun an => by omega) (fun _ => cond_r (by omega) (hgo ⟨p1, p2, s.ma, s.mb, s.no⟩ (by unfold rfK; rw [if_neg a0, if_pos ap, hp, if_pos c1]) ⟨w1, w3, h4, h5⟩ h6)))) (fun c1 => idxK hlt (cond_d (fun an => by omega) (fun _ => cond_r (by omega) (hgo s (by unfold rfK; rw [if_neg a0, if_pos ap, hp, if_neg c1]) ⟨h2, h3, h4, h5⟩ h6)))))))
            (fun ap => idxK hlt (cond_d (fun an => cond_r (mulR w1 h5) (cond_r (mulR h4 w3) (cond_d (fun c1 => cond_r (by omega) (hgo ⟨s.la, s.lb, p1, p2, s.no⟩ (by unfold rfK; rw [if_neg a0, if_neg ap, hp, if_pos c1]) ⟨h2, h3, w1, w3⟩ h6)) (fun c1 => cond_r (by omega) (hgo s (by unfold rfK; rw [if_neg a0, if_neg ap, hp, if_neg c1]) ⟨h2, h3, h4, h5⟩ h6))))) (fun an => by omega))))
      · refine cond_d (fun h => by omega) (fun _ => ?_)
        have : q = 3 + 2 * b.sl := by omega
        subst this
        refine .inl ⟨rfl, ?_, rfl, ?_⟩ <;> (dsimp only; rw [Nat.sub_self])
        · exact h6
        · rfl
    · rintro lock t h K ⟨hf, _, h1, h2⟩
      refine ⟨(0, mkS 0 1 1 1 false), hf, ⟨by simp, ⟨?_, ?_, ?_, ?_⟩, rfl⟩, ?_⟩
      · show bdI _ 0; unfold bdI; omega
      · show bdI _ 1; unfold bdI; omega
      · show bdI _ 1; unfold bdI; omega
      · show bdI _ 1; unfold bdI; omega
      · rintro e vs bs (⟨rfl, ha, rfl, rfl⟩ | ⟨rfl, ha, ⟨q, rfl⟩, s', rfl⟩)
        · exact h1 ha
        · exact h2 ha q s'
  · rintro lock t h K ⟨hf, hc, hK⟩
    exact (hi hc).elim
end
end Go.Sx.Gen

/- genuine: the shares of both are the same (plain). -/

namespace Go.Sx.Gen
open Go Go.Sx Go.Proofs
set_option maxRecDepth 100000

theorem frac_trans {a b c d e f : Int} (hb : 0 < b) (hd : 0 < d) (hf : 0 < f) (h1 : a * d < c * b) (h2 : c * f < e * d) : a * f < e * b := by
  have k1 := Int.mul_lt_mul_of_pos_right h1 hf
  have k2 := Int.mul_lt_mul_of_pos_right h2 hb
  have e1 : c * b * f = c * f * b := by ac_rfl
  have e2 : a * f * d = a * d * f := by ac_rfl
  have e3 : e * b * d = e * d * b := by ac_rfl
  have k3 : a * f * d < e * b * d := by rw [e2, e3]; omega
  exact Int.lt_of_mul_lt_mul_right k3 (Int.le_of_lt hd)

/-- A fraction is its lowest terms, times something. -/
theorem red_mul {a c : Int} (h : 0 < c) : ∃ g, 0 < g ∧ a = (redF a c).1 * g ∧ c = (redF a c).2 * g ∧ 0 < (redF a c).2 := by
  have hg := gcd_pos (a := a) h
  have h1 : (redF a c).1 * (Int.gcd a c : Int) = a := Int.ediv_mul_cancel (Int.gcd_dvd_left a c)
  have h2 : (redF a c).2 * (Int.gcd a c : Int) = c := Int.ediv_mul_cancel (Int.gcd_dvd_right a c)
  refine ⟨_, hg, h1.symm, h2.symm, ?_⟩
  rcases Int.lt_or_le 0 (redF a c).2 with h3 | h3
  · exact h3
  · have := Int.mul_nonpos_of_nonpos_of_nonneg h3 (Int.le_of_lt hg)
    omega

theorem lt_red {a b c d : Int} (hb : 0 < b) (hd : 0 < d) : a * d < c * b ↔ (redF a b).1 * (redF c d).2 < (redF c d).1 * (redF a b).2 := by
  obtain ⟨g, g0, g1, g2, _⟩ := red_mul (a := a) hb
  obtain ⟨k, k0, k1, k2, _⟩ := red_mul (a := c) hd
  generalize (redF a b).1 = a1 at *
  generalize (redF a b).2 = b1 at *
  generalize (redF c d).1 = c1 at *
  generalize (redF c d).2 = d1 at *
  subst g1 g2 k1 k2
  have e1 : a1 * g * (d1 * k) = a1 * d1 * (g * k) := by ac_rfl
  have e2 : c1 * k * (b1 * g) = c1 * b1 * (g * k) := by ac_rfl
  have hgk : 0 < g * k := Int.mul_pos g0 k0
  rw [e1, e2]
  exact ⟨fun h => Int.lt_of_mul_lt_mul_right h (Int.le_of_lt hgk), fun h => Int.mul_lt_mul_of_pos_right h hgk⟩

structure Rel (early : Bool) (p r : Shr) : Prop where
  lb : 0 < p.lb
  mb : 0 < p.mb
  lo : redF p.la p.lb = (r.la, r.lb)
  hi : redF p.ma p.mb = (r.ma, r.mb)
  no : p.no = (early || r.no || decide (r.ma * r.lb < r.la * r.mb))

theorem Rel.pos {early : Bool} {p r : Shr} (h : Rel early p r) : 0 < r.lb ∧ 0 < r.mb := by
  obtain ⟨_, _, _, _, h1⟩ := red_mul (a := p.la) h.lb
  obtain ⟨_, _, _, _, h2⟩ := red_mul (a := p.ma) h.mb
  rw [h.lo] at h1
  rw [h.hi] at h2
  exact ⟨h1, h2⟩

theorem bool_mono {a c d : Bool} (h : c = true → d = true) : (a || c || d) = (a || d) := by
  cases a <;> cases c <;> cases d <;> simp_all

theorem rel_step {early : Bool} {p r : Shr} (h : Rel early p r) (A C : Int) : Rel early (atF p A C) (rfK r A C) := by
  obtain ⟨rl, rm⟩ := h.pos
  obtain ⟨hlb, hmb, hlo, hhi, hno⟩ := h
  unfold atF rfK
  by_cases a0 : A = 0
  · subst a0
    simp only [gt_iff_lt, Int.lt_irrefl, if_false, if_true]
    refine ⟨hlb, hmb, hlo, hhi, ?_⟩
    dsimp only
    have := lt_red (a := p.ma) (b := p.mb) (c := p.la) (d := p.lb) hmb hlb
    rw [hlo, hhi] at this
    dsimp only at this
    rw [hno, decide_eq_decide.2 this]
    cases early <;> cases r.no <;> cases decide (r.ma * r.lb < r.la * r.mb) <;> simp
  · rw [if_neg a0]
    by_cases ap : A > 0
    · rw [if_pos ap, if_pos ap]
      have hlow : lowF C A = redF C A := by unfold lowF; rw [if_neg (by omega)]
      rw [hlow]
      have hc := lt_red (a := p.la) (b := p.lb) (c := C) (d := A) hlb ap
      rw [hlo] at hc
      dsimp only at hc
      obtain ⟨_, _, _, _, hA2⟩ := red_mul (a := C) ap
      by_cases q : p.la * A < C * p.lb
      · rw [if_pos q, if_pos (hc.1 q)]
        refine ⟨ap, hmb, rfl, hhi, ?_⟩
        dsimp only
        have := lt_red (a := p.ma) (b := p.mb) (c := C) (d := A) hmb ap
        rw [hhi] at this
        dsimp only at this
        rw [hno, decide_eq_decide.2 this]
        exact bool_mono fun h1 => decide_eq_true (frac_trans rm rl hA2 (of_decide_eq_true h1) (hc.1 q))
      · rw [if_neg q, if_neg (fun h => q (hc.2 h))]
        refine ⟨hlb, hmb, hlo, hhi, ?_⟩
        dsimp only
        have := lt_red (a := p.ma) (b := p.mb) (c := p.la) (d := p.lb) hmb hlb
        rw [hlo, hhi] at this
        dsimp only at this
        rw [hno, decide_eq_decide.2 this]
        exact bool_mono fun h1 => h1
    · rw [if_neg ap, if_neg ap]
      have an : A < 0 := by omega
      rw [if_pos an]
      have hlow : lowF C A = redF (-C) (-A) := by unfold lowF; rw [if_pos an, Int.zero_sub, Int.zero_sub]
      rw [hlow]
      have hA : 0 < -A := by omega
      have hc := lt_red (a := -C) (b := -A) (c := p.ma) (d := p.mb) hA hmb
      rw [hhi] at hc
      dsimp only at hc
      obtain ⟨_, _, _, _, hA2⟩ := red_mul (a := -C) hA
      by_cases q : -C * p.mb < p.ma * -A
      · rw [if_pos q, if_pos (hc.1 q)]
        refine ⟨hlb, hA, hlo, rfl, ?_⟩
        dsimp only
        have := lt_red (a := -C) (b := -A) (c := p.la) (d := p.lb) hA hlb
        rw [hlo] at this
        dsimp only at this
        rw [hno, decide_eq_decide.2 this]
        exact bool_mono fun h1 => decide_eq_true (frac_trans hA2 rm rl (hc.1 q) (of_decide_eq_true h1))
      · rw [if_neg q, if_neg (fun h => q (hc.2 h))]
        refine ⟨hlb, hmb, hlo, hhi, ?_⟩
        dsimp only
        have := lt_red (a := p.ma) (b := p.mb) (c := p.la) (d := p.lb) hmb hlb
        rw [hlo, hhi] at this
        dsimp only at this
        rw [hno, decide_eq_decide.2 this]
        exact bool_mono fun h1 => h1

theorem rel_loop {early : Bool} {b : Sus} {x y : Src} : ∀ (m k : Nat) (p r : Shr), Rel early p r → Rel early (shrL b x y m k p) (rfL b x y (2 * m) (3 + 2 * k) r)
  | 0, _, _, _, h => h
  | m + 1, k, p, r, h => by
    have e : rfL b x y (2 * (m + 1)) (3 + 2 * k) r = rfL b x y (2 * m) (3 + 2 * (k + 1)) (rfK (rfK r (bdF b x y (3 + 2 * k)).1 (bdF b x y (3 + 2 * k)).2) (bdF b x y (3 + 2 * k + 1)).1 (bdF b x y (3 + 2 * k + 1)).2) := rfl
    rw [e, bdF_hi, bdF_lo]
    have h2 := rel_step (rel_step h (x.hi k - y.hi k) (b.lo k - y.hi k)) (y.lo k - x.lo k) (y.lo k - b.hi k)
    have h3 := rel_loop (b := b) (x := x) (y := y) m (k + 1) _ _ h2
    have e2 : shrL b x y (m + 1) k p = shrL b x y m ((k + 1 : Nat) : Int) (atF (atF p (x.hi k - y.hi k) (b.lo k - y.hi k)) (y.lo k - x.lo k) (y.lo k - b.hi k)) := by
      show shrL b x y m ((k : Int) + 1) (shrK b x y p k) = _
      unfold shrK
      rw [show 0 - x.lo (k : Int) - (0 - y.lo k) = y.lo k - x.lo k by omega, show 0 - b.hi (k : Int) - (0 - y.lo k) = y.lo k - b.hi k by omega]
      rfl
    rw [e2]
    exact h3

/-- The shares of both. -/
theorem rel_all (b : Sus) (x y : Src) : Rel (decide (min x.drawn y.drawn < max b.glass b.paper)) (sharedF b x y) (rfF b x y) := by
  have e : rfF b x y = rfL b x y (2 * b.sl) (3 + 2 * 0) (rfK (mkS 0 1 1 1 false) (x.shi - y.shi) (b.slo - y.shi)) := by
    unfold rfF
    rw [show 3 + 2 * b.sl = 2 * b.sl + 1 + 1 + 1 by omega]
    show rfL b x y (2 * b.sl) 3 (rfK (rfK (rfK (mkS 0 1 1 1 false) 1 0) (-1) (-1)) _ _) = _
    have e1 : rfK (mkS 0 1 1 1 false) 1 0 = mkS 0 1 1 1 false := by simp [rfK, mkS, lowF, redF]
    have e2 : rfK (mkS 0 1 1 1 false) (-1) (-1) = mkS 0 1 1 1 false := by simp [rfK, mkS, lowF, redF]
    rw [e1, e2]
    rfl
  rw [e]
  refine rel_loop b.sl 0 _ _ (rel_step ⟨by simp [mkS], by simp [mkS], by simp [mkS, redF], by simp [mkS, redF], ?_⟩ _ _)
  simp [mkS]

def shareB (b : Sus) (x y : Src) : Bool := !(sharedF b x y).no

theorem shareB_rf (b : Sus) (x y : Src) : shareB b x y = (!(rfF b x y).no && !decide ((rfF b x y).ma * (rfF b x y).lb < (rfF b x y).la * (rfF b x y).mb) && decide (min x.drawn y.drawn ≥ b.glass) && decide (min x.drawn y.drawn ≥ b.paper)) := by
  unfold shareB
  rw [(rel_all b x y).no]
  have : decide (min x.drawn y.drawn < max b.glass b.paper) = !(decide (min x.drawn y.drawn ≥ b.glass) && decide (min x.drawn y.drawn ≥ b.paper)) := by
    rw [Bool.eq_iff_iff]
    simp
    omega
  rw [this]
  cases (rfF b x y).no <;> cases decide ((rfF b x y).ma * (rfF b x y).lb < (rfF b x y).la * (rfF b x y).mb) <;> cases decide (min x.drawn y.drawn ≥ b.glass) <;> cases decide (min x.drawn y.drawn ≥ b.paper) <;> rfl
end Go.Sx.Gen

/- genuine: the document's shares as a row. -/

namespace Go.Sx.Gen
open Go Go.Sx Go.Proofs
set_option maxRecDepth 100000

section
variable {n cap : Nat} {l : Int → Src} {b : Sus} {i j : Int}

theorem rfL_bd (hi : OkS n l b i j) : ∀ {m q : Nat} {s : Shr}, Bd s → q + m ≤ 3 + 2 * b.sl → Bd (rfL b (l i) (l j) m q s)
  | 0, _, _, h, _ => h
  | m + 1, q, s, h, hq => by
    refine rfL_bd hi (m := m) (q := q + 1) ?_ (by omega)
    obtain ⟨bA, bC⟩ := bdF_bd hi (q := q) (by omega)
    obtain ⟨h1, h2, h3, h4⟩ := h
    unfold rfK
    by_cases a0 : (bdF b (l i) (l j) q).1 = 0
    · rw [if_pos a0]; exact ⟨h1, h2, h3, h4⟩
    · rw [if_neg a0]
      obtain ⟨w1, w2, w3⟩ := lowF_bd bC bA a0
      split
      · split
        · exact ⟨w1, w3, h3, h4⟩
        · exact ⟨h1, h2, h3, h4⟩
      · split
        · exact ⟨h1, h2, w1, w3⟩
        · exact ⟨h1, h2, h3, h4⟩

theorem rfF_bd (hi : OkS n l b i j) : Bd (rfF b (l i) (l j)) := by
  refine rfL_bd hi ⟨?_, ?_, ?_, ?_⟩ (by omega)
  · show bdI _ 0; unfold bdI; omega
  · show bdI _ 1; unfold bdI; omega
  · show bdI _ 1; unfold bdI; omega
  · show bdI _ 1; unfold bdI; omega

theorem ref37_v (hi : OkS n l b i j) : ∃ h' s, ((shareB b (l i) (l j) = true → s = rfF b (l i) (l j)) ∧ CallsV Try.prog 37 [bV b, sV l i, sV l j] (bH n l b) (.ret (.tup [.agg [I s.la, I s.lb], .agg [I s.ma, I s.mb], .bool (shareB b (l i) (l j))])) h') ∧ h'.at 0 = srcA n l ∧ h'.at 1 = valA n l ∧ h'.at 2 = seenA b := by
  have hsp := spBL_ok hmix (tabs_ok (l := [bndT n l b]) (by
      intro x hx
      simp only [List.mem_singleton] at hx
      subst hx
      exact bndT_ok)) (f := 37) (lo_one (by kernel_rfl) (LH0_ok (n := n) (l := l) (b := b) (i := i) (j := j))) (un := 10) (fu := 20)
  obtain ⟨r, h', hQ, hc⟩ := of_sp hsp (args := [bV b, sV l i, sV l j]) (h := bH n l b) (K := fun r h' => (∃ s : Shr, (shareB b (l i) (l j) = true → s = rfF b (l i) (l j)) ∧ r = .ret (.tup [.agg [I s.la, I s.lb], .agg [I s.ma, I s.mb], .bool (shareB b (l i) (l j))])) ∧ h'.at 0 = srcA n l ∧ h'.at 1 = valA n l ∧ h'.at 2 = seenA b)
    (by
      rw [f37_ev, shareB_rf]
      obtain ⟨b1, b2, b3, b4⟩ := rfF_bd hi
      refine ⟨⟨⟨rfl, rfl, rfl⟩, rfl, hi⟩, fitP_self rfl, hi, fun hno => cond_r (mulR b3 b2) (cond_r (mulR b1 b4) (cond_nd (fun q => cond_d (fun q2 => ?_) (fun q2 => ?_)) (fun q => ?_))), fun hno q s => ?_⟩
      · refine ⟨⟨_, fun _ => rfl, ?_⟩, rfl, rfl, rfl⟩
        rw [hno, decide_eq_false q, decide_eq_true q2]; rfl
      · refine ⟨⟨_, fun _ => rfl, ?_⟩, rfl, rfl, rfl⟩
        rw [hno, decide_eq_false q2]; simp
      · refine ⟨⟨_, fun _ => rfl, ?_⟩, rfl, rfl, rfl⟩
        rw [hno, decide_eq_true q]; rfl
      · refine ⟨⟨s, fun h => ?_, ?_⟩, rfl, rfl, rfl⟩
        · rw [hno] at h; cases h
        · rw [hno]; rfl)
  obtain ⟨⟨s, hs, rfl⟩, hh⟩ := hQ
  exact ⟨h', s, ⟨hs, hc⟩, hh⟩

/-- The document's share as a row. -/
def ref37T (n : Nat) (l : Int → Src) (b : Sus) : FuncId × Spec1 := (37, fun _ args h K => match args with
  | [.agg [.int .i64 g, .int .i64 p, .int .i64 s, .int .i64 t, .slice (.el 2 [] 0 0) m c], .agg [.int .i64 ck, .int .i64 dr, .int .i64 lo, .int .i64 hi, .slice (.el 1 [i] 0 0) m2 c2], .agg [.int .i64 ck', .int .i64 dr', .int .i64 lo', .int .i64 hi', .slice (.el 1 [j] 0 0) m2' c2']] =>
    ((h.at 0 = srcA n l ∧ h.at 1 = valA n l ∧ h.at 2 = seenA b) ∧ ([bV b, sV l i, sV l j] = [.agg [I g, I p, I s, I t, .slice (.el 2 [] 0 0) m c], .agg [I ck, I dr, I lo, I hi, .slice (.el 1 [i] 0 0) m2 c2], .agg [I ck', I dr', I lo', I hi', .slice (.el 1 [j] 0 0) m2' c2']]) ∧ OkS n l b i j) ∧
      ∀ s : Shr, (shareB b (l i) (l j) = true → s = rfF b (l i) (l j)) → K (.ret (.tup [.agg [I s.la, I s.lb], .agg [I s.ma, I s.mb], .bool (shareB b (l i) (l j))])) h
  | _ => False)

theorem ref37T_ok : SpOk Try.prog (ref37T n l b).1 (ref37T n l b).2 := by
  intro lock args h K hK
  simp only [ref37T] at hK
  split at hK
  · obtain ⟨⟨hh, ha, hi⟩, hK⟩ := hK
    obtain ⟨h', s, ⟨hs, hc⟩, h3⟩ := ref37_v hi
    rw [ha] at hc
    exact ⟨_, h, hK s hs, lockP_refl _ _, base_lift hc hh h3 rfl rfl⟩
  · exact hK.elim

/-- The document's reasons as a row. -/
def r34T (n : Nat) (l : Int → Src) (b : Sus) : FuncId × Spec1 := (34, fun _ args h K => match args with
  | [.agg [.int .i64 g, .int .i64 p, .int .i64 s, .int .i64 t, .slice (.el 2 [] 0 0) m c], .agg [.int .i64 ck, .int .i64 dr, .int .i64 lo, .int .i64 hi, .slice (.el 1 [i] 0 0) m2 c2]] =>
    ((h.at 0 = srcA n l ∧ h.at 1 = valA n l ∧ h.at 2 = seenA b) ∧ ([bV b, sV l i] = [.agg [I g, I p, I s, I t, .slice (.el 2 [] 0 0) m c], .agg [I ck, I dr, I lo, I hi, .slice (.el 1 [i] 0 0) m2 c2]]) ∧ OkI n l b i) ∧ match h with | ⟨nx, bs⟩ => K (.ret (.sl (nx + 3) (reasonsF b (l i)).length)) ⟨nx + 4, (nx + 3, vecI (reasonsF b (l i))) :: (nx + 2, .gone) :: (nx + 1, .gone) :: (nx, .gone) :: bs⟩
  | _ => False)

theorem r34T_ok : SpOk Try.prog (r34T n l b).1 (r34T n l b).2 := by
  intro lock args h K hK
  simp only [r34T] at hK
  split at hK
  · obtain ⟨⟨hh, ha, hi⟩, hK⟩ := hK
    have hc := r34_v hi
    rw [ha] at hc
    have h2 := base_new hc hh ⟨rfl, rfl, rfl⟩ rfl bl4
    have e : ∀ L, (VRes.ret (.sl 6 L)).sh 3 h.nx = .ret (.sl (h.nx + 3) L) := by
      intro L
      simp [VRes.sh, VV.sh, shN]; omega
    rw [e] at h2
    exact ⟨_, _, (by cases h; exact hK), lockP_push _ _, h2⟩
  · exact hK.elim

def t4 (n : Nat) (l : Int → Src) (b : Sus) : List (FuncId × Spec1) := sharedT n l b :: ref37T n l b :: r34T n l b :: bndT n l b :: low49T :: por36T :: t3r n l b

theorem t4_ok (hw : Wf n l b) : ∀ x ∈ t4 n l b, SpOk Try.prog x.1 x.2 := by
  intro x hx
  simp only [t4, List.mem_cons] at hx
  rcases hx with rfl | rfl | rfl | rfl | rfl | rfl | hx
  · exact sharedT_ok
  · exact ref37T_ok
  · exact r34T_ok
  · exact bndT_ok
  · exact low49T_ok
  · exact por36T_ok
  · exact t3r_ok hw x hx
end
end Go.Sx.Gen
