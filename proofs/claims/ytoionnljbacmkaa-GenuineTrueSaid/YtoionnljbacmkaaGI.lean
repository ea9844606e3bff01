/- genuine: Gi1 Gi2 Gi3 Gj1 Gj2, in one text. -/
import Derived.Test.YtoionnljbacmkaaGH
/- genuine: Origins, evaluated. -/

namespace Go.Sx.Gen
open Go Go.Sx Go.Proofs
set_option maxRecDepth 100000

def vecP (ps : List (Int × Int)) : VB := .vec ps.length (fun q => [I (ps.getD q (0, 0)).1, I (ps.getD q (0, 0)).2]) 2 55

/-- Can a suspect come from a source? From two? -/
def fitB1 (b : Sus) (l : Int → Src) (i : Int) : Bool := eN (reasonsF b (l i))
def prB (b : Sus) (l : Int → Src) (i k : Int) : Bool := !fitB1 b l k && shareB b (l i) (l k)
def pairs1 (n : Nat) (b : Sus) (l : Int → Src) (i k : Int) : List (Int × Int) := (filt (prB b l i) (n - k).toNat k).map (fun k => (i, k))
def pairsF (n : Nat) (b : Sus) (l : Int → Src) : Nat → Int → List (Int × Int)
  | 0, _ => []
  | m + 1, i => (bif fitB1 b l i then [] else pairs1 n b l i (i + 1)) ++ pairsF n b l m (i + 1)

def dsO2 : List Nat := [8, 7, 2, 1, 15, 14, 4, 5]
def VO2 (n cap : Nat) (i k : Int) (sl pl : Nat) : List VV := [I k, I i, .ptr (.own 3 0), lV n cap, I i, I n, .sl 4 sl, .sl 5 pl]
def nsO2 : List Nat := [0, 1, 2, 3, 4, 5]
def hO (n : Nat) (l : Int → Src) (b : Sus) (S : List Int) (P : List (Int × Int)) : List VB := [srcA n l, valA n l, seenA b, cSu b, vecI S, vecP P]

def LO2 (n cap : Nat) (l : Int → Src) (b : Sus) (i : Int) (S : List Int) (P : List (Int × Int)) : LT := fun lock t h K =>
  (FitP lock h t ⟨6, nsO2.zip (hO n l b S P)⟩ (dsO2.zip (VO2 n cap i (i + 1) S.length P.length)) ∧ 0 ≤ i ∧ i < n ∧ P.length ≤ 64 * i ∧ okB n l b = true ∧ fitB1 b l i = false) ∧
    K .normal (dsO2.zip (VO2 n cap i n S.length (P ++ pairs1 n b l i (i + 1)).length)) ⟨6, nsO2.zip (hO n l b S (P ++ pairs1 n b l i (i + 1)))⟩

def dsO0 : List Nat := [4, 5, 15, 14, 1, 2]
def VO0 (n cap : Nat) (i : Int) (sl pl : Nat) : List VV := [.sl 4 sl, .sl 5 pl, I i, I n, lV n cap, .ptr (.own 3 0)]
def LO0 (n cap : Nat) (l : Int → Src) (b : Sus) : LT := fun lock t h K =>
  (FitP lock h t ⟨4, [0, 1, 2, 3].zip [srcA n l, valA n l, seenA b, cSu b]⟩ ([4, 5, 15, 14, 1, 2].zip [.nils, .nils, I 0, I n, lV n cap, .ptr (.own 3 0)]) ∧ okB n l b = true) ∧
    K .normal (dsO0.zip (VO0 n cap n (filt (fitB1 b l) n 0).length (pairsF n b l n 0).length)) ⟨6, nsO2.zip (hO n l b (filt (fitB1 b l) n 0) (pairsF n b l n 0))⟩

theorem o2_ev (n cap : Nat) (l : Int → Src) (b : Sus) (i k : Int) (S : List Int) (P : List (Int × Int)) (X : VEx → List VV → List VB → Prop) : codeE Try.prog (callN Try.prog (tabS (t4 n l b)) noL 10 20) (fun _ => none) true 10 66 0 (loopB 2 (bodyOf Try.prog 15)) (dsO2.zip (VO2 n cap i k S.length P.length)) ⟨6, nsO2.zip (hO n l b S P)⟩ (obs 6 dsO2 nsO2 X) =
  (bif decide (k < (↑n : Int)) then
 bif decide ((0 : Int) ≤ k ∧ k < (↑n : Int)) then
 (([] : List Int) = [] ∧ (0 : Int) ≤ (0 : Int) + k ∧ (0 : Int) + k < (↑n : Int)) ∧ ((srcA n l = srcA n l ∧ valA n l = valA n l ∧ seenA b = seenA b) ∧ [bV b, VV.agg [I (l ((0 : Int) + k)).cask, I (l ((0 : Int) + k)).drawn, I (l ((0 : Int) + k)).slo, I (l ((0 : Int) + k)).shi, VV.slice (VA.el 1 [(0 : Int) + k] (0 : Int) 0) (l ((0 : Int) + k)).vl (l ((0 : Int) + k)).vc]] = [bV b, VV.agg [I (l ((0 : Int) + k)).cask, I (l ((0 : Int) + k)).drawn, I (l ((0 : Int) + k)).slo, I (l ((0 : Int) + k)).shi, VV.slice (VA.el 1 [(0 : Int) + k] (0 : Int) 0) (l ((0 : Int) + k)).vl (l ((0 : Int) + k)).vc]] ∧ OkI n l b ((0 : Int) + k)) ∧ bif !eN (reasonsF b (l ((0 : Int) + k))) then
 bif decide ((0 : Int) ≤ i ∧ i < (↑n : Int)) then
 (([] : List Int) = [] ∧ (0 : Int) ≤ (0 : Int) + i ∧ (0 : Int) + i < (↑n : Int)) ∧ bif decide ((0 : Int) ≤ k ∧ k < (↑n : Int)) then
 (([] : List Int) = [] ∧ (0 : Int) ≤ (0 : Int) + k ∧ (0 : Int) + k < (↑n : Int)) ∧ ((srcA n l = srcA n l ∧ valA n l = valA n l ∧ seenA b = seenA b) ∧ [bV b, VV.agg [I (l ((0 : Int) + i)).cask, I (l ((0 : Int) + i)).drawn, I (l ((0 : Int) + i)).slo, I (l ((0 : Int) + i)).shi, VV.slice (VA.el 1 [(0 : Int) + i] (0 : Int) 0) (l ((0 : Int) + i)).vl (l ((0 : Int) + i)).vc], VV.agg [I (l ((0 : Int) + k)).cask, I (l ((0 : Int) + k)).drawn, I (l ((0 : Int) + k)).slo, I (l ((0 : Int) + k)).shi, VV.slice (VA.el 1 [(0 : Int) + k] (0 : Int) 0) (l ((0 : Int) + k)).vl (l ((0 : Int) + k)).vc]] = [bV b, VV.agg [I (l ((0 : Int) + i)).cask, I (l ((0 : Int) + i)).drawn, I (l ((0 : Int) + i)).slo, I (l ((0 : Int) + i)).shi, VV.slice (VA.el 1 [(0 : Int) + i] (0 : Int) 0) (l ((0 : Int) + i)).vl (l ((0 : Int) + i)).vc], VV.agg [I (l ((0 : Int) + k)).cask, I (l ((0 : Int) + k)).drawn, I (l ((0 : Int) + k)).slo, I (l ((0 : Int) + k)).shi, VV.slice (VA.el 1 [(0 : Int) + k] (0 : Int) 0) (l ((0 : Int) + k)).vl (l ((0 : Int) + k)).vc]] ∧ OkS n l b ((0 : Int) + i) ((0 : Int) + k)) ∧ bif !(sharedF b (l ((0 : Int) + i)) (l ((0 : Int) + k))).no then
 bif P.length.beq P.length then
 bif roomB (P.length + 1) (16) then
 bif inK IntKind.i64 (k + (1 : Int)) then
 X VEx.normal [I (k + (1 : Int)), I i, VV.ptr (VA.own 3 0), lV n cap, I i, I (↑n : Int), VV.sl 4 S.length, VV.sl 5 (P.length + 1)] [srcA n l, valA n l, seenA b, cSu b, vecI S, VB.vec (P.length + 1) (catG P.length (fun q => [I (P.getD q ((0 : Int), (0 : Int))).fst, I (P.getD q ((0 : Int), (0 : Int))).snd]) fun j => List.take (2) (List.drop (j * (2)) [I i, I k])) (2) 55]
 else False
 else False
 else False
 else bif inK IntKind.i64 (k + (1 : Int)) then
 X VEx.normal [I (k + (1 : Int)), I i, VV.ptr (VA.own 3 0), lV n cap, I i, I (↑n : Int), VV.sl 4 S.length, VV.sl 5 P.length] [srcA n l, valA n l, seenA b, cSu b, vecI S, vecP P]
 else False
 else False
 else False
 else bif inK IntKind.i64 (k + (1 : Int)) then
 X VEx.normal [I (k + (1 : Int)), I i, VV.ptr (VA.own 3 0), lV n cap, I i, I (↑n : Int), VV.sl 4 S.length, VV.sl 5 P.length] [srcA n l, valA n l, seenA b, cSu b, vecI S, vecP P]
 else False
 else False
 else X (VEx.exit 2) [I k, I i, VV.ptr (VA.own 3 0), lV n cap, I i, I (↑n : Int), VV.sl 4 S.length, VV.sl 5 P.length] [srcA n l, valA n l, seenA b, cSu b, vecI S, vecP P]) := by kernel_rfl

theorem o0_ev (n cap : Nat) (l : Int → Src) (b : Sus) (i : Int) (S : List Int) (P : List (Int × Int)) (X : VEx → List VV → List VB → Prop) : codeE Try.prog (callN Try.prog (tabS (t4 n l b)) noL 10 20) (tabB [(2, LO2 n cap l b i S P)]) true 10 66 0 (loopB 0 (bodyOf Try.prog 15)) (dsO0.zip (VO0 n cap i S.length P.length)) ⟨6, nsO2.zip (hO n l b S P)⟩ (obs 6 dsO0 nsO2 X) =
  (bif decide (i < (↑n : Int)) then
 bif decide ((0 : Int) ≤ i ∧ i < (↑n : Int)) then
 (([] : List Int) = [] ∧ (0 : Int) ≤ (0 : Int) + i ∧ (0 : Int) + i < (↑n : Int)) ∧ ((srcA n l = srcA n l ∧ valA n l = valA n l ∧ seenA b = seenA b) ∧ [bV b, VV.agg [I (l ((0 : Int) + i)).cask, I (l ((0 : Int) + i)).drawn, I (l ((0 : Int) + i)).slo, I (l ((0 : Int) + i)).shi, VV.slice (VA.el 1 [(0 : Int) + i] (0 : Int) 0) (l ((0 : Int) + i)).vl (l ((0 : Int) + i)).vc]] = [bV b, VV.agg [I (l ((0 : Int) + i)).cask, I (l ((0 : Int) + i)).drawn, I (l ((0 : Int) + i)).slo, I (l ((0 : Int) + i)).shi, VV.slice (VA.el 1 [(0 : Int) + i] (0 : Int) 0) (l ((0 : Int) + i)).vl (l ((0 : Int) + i)).vc]] ∧ OkI n l b ((0 : Int) + i)) ∧ bif eN (reasonsF b (l ((0 : Int) + i))) then
 bif S.length.beq S.length then
 bif roomB (S.length + 1) (8) then
 bif inK IntKind.i64 (i + (1 : Int)) then
 X VEx.normal [VV.sl 4 (S.length + 1), VV.sl 5 P.length, I (i + (1 : Int)), I (↑n : Int), lV n cap, VV.ptr (VA.own 3 0)] [srcA n l, valA n l, seenA b, cSu b, VB.vec (S.length + 1) (catG S.length (fun i => [I (S.getD i (0 : Int))]) fun j => List.take (1) (List.drop (j * (1)) [I i])) (1) 3, vecP P]
 else False
 else False
 else False
 else bif inK IntKind.i64 (i + (1 : Int)) then
 (FitP 0 (VH.mk (6) (nsO2.zip (hO n l b S P))) (dsO2.zip (VO2 n cap i (i + (1 : Int)) S.length P.length)) (VH.mk (6) (nsO2.zip (hO n l b S P))) (dsO2.zip (VO2 n cap i (i + (1 : Int)) S.length P.length)) ∧ (0 : Int) ≤ i ∧ i < (↑n : Int) ∧ (↑P.length : Int) ≤ (64 : Int) * i ∧ okB n l b = true ∧ fitB1 b l i = false) ∧ bif inK IntKind.i64 (i + (1 : Int)) then
 X VEx.normal [VV.sl 4 S.length, VV.sl 5 (P ++ pairs1 n b l i (i + (1 : Int))).length, I (i + (1 : Int)), I (↑n : Int), lV n cap, VV.ptr (VA.own 3 0)] [srcA n l, valA n l, seenA b, cSu b, vecI S, VB.vec (P ++ pairs1 n b l i (i + (1 : Int))).length (fun q => [I ((P ++ pairs1 n b l i (i + (1 : Int))).getD q ((0 : Int), (0 : Int))).fst, I ((P ++ pairs1 n b l i (i + (1 : Int))).getD q ((0 : Int), (0 : Int))).snd]) 2 (55 : TypeId)]
 else False
 else False
 else False
 else X (VEx.exit 0) [VV.sl 4 S.length, VV.sl 5 P.length, I i, I (↑n : Int), lV n cap, VV.ptr (VA.own 3 0)] [srcA n l, valA n l, seenA b, cSu b, vecI S, vecP P]) := by kernel_rfl

theorem f15_ev (n cap : Nat) (l : Int → Src) (b : Sus) (Q : VRes → VH → Prop) : spBL Try.prog 15 (tabS (t4 n l b)) [(0, LO0 n cap l b)] 10 20 0 [bV b, lV n cap] (bH n l b) Q =
  (((srcA n l = srcA n l ∧ valA n l = valA n l ∧ seenA b = seenA b) ∧ [bV b, lV n cap] = [bV b, lV n cap]) ∧ bif !okB n l b then
 Q (VRes.ret (VV.tup [VV.nils, VV.nils, I 1])) (VH.mk (4) ([(3, VB.cells [I b.glass, I b.paper, I b.slo, I b.shi, VV.slice (VA.el 2 [] (0 : Int) 0) b.sl b.sc] 26), (0, srcA n l), (1, valA n l), (2, seenA b)]))
 else (FitP 0 (VH.mk (4) ([0, 1, 2, 3].zip [srcA n l, valA n l, seenA b, cSu b])) ([4, 5, 15, 14, 1, 2].zip [VV.nils, VV.nils, I 0, I (↑n : Int), lV n cap, VV.ptr (VA.own 3 0)]) (VH.mk (4) ([0, 1, 2, 3].zip [srcA n l, valA n l, seenA b, cSu b])) ([4, 5, 15, 14, 1, 2].zip [VV.nils, VV.nils, I 0, I (↑n : Int), lV n cap, VV.ptr (VA.own 3 0)]) ∧ okB n l b = true) ∧ Q (VRes.ret (VV.tup [VV.sl 4 (filt (fitB1 b l) n (0 : Int)).length, VV.sl 5 (pairsF n b l n (0 : Int)).length, I 0])) (VH.mk (6) ([(0, srcA n l), (1, valA n l), (2, seenA b), (3, cSu b), (4, VB.vec (filt (fitB1 b l) n (0 : Int)).length (fun i => [I ((filt (fitB1 b l) n (0 : Int)).getD i (0 : Int))]) 1 (3 : TypeId)), (5, VB.vec (pairsF n b l n (0 : Int)).length (fun q => [I ((pairsF n b l n (0 : Int)).getD q ((0 : Int), (0 : Int))).fst, I ((pairsF n b l n (0 : Int)).getD q ((0 : Int), (0 : Int))).snd]) 2 (55 : TypeId))]))) := by kernel_rfl


end Go.Sx.Gen

/- genuine: Origins. -/

namespace Go.Sx.Gen
open Go Go.Sx Go.Proofs
set_option maxRecDepth 100000

section
variable {n cap : Nat} {l : Int → Src} {b : Sus} {i j : Int}

theorem one_blkI {f id n : Nat} {b : Code} {T : LT} (hb : blocksOf id b = [.loop (loopB id (bodyOf Try.prog f))]) (hs : LSound Try.prog true (.block id (.loop (loopB id (bodyOf Try.prog f)))) n T) : ∀ id' T', tabB [(id, T)] id' = some T' → ∀ b' ∈ blocksOf id' b, LSound Try.prog true (.block id' b') n T' := by
  intro id' T' h b' hb'
  have hm := tabB_some h
  simp only [List.mem_singleton, Prod.mk.injEq] at hm
  obtain ⟨rfl, rfl⟩ := hm
  rw [hb] at hb'
  simp only [List.mem_singleton] at hb'
  subst hb'
  exact hs

theorem okB_n (h : okB n l b = true) : n ≤ 64 := by
  simp only [okB, srcsB, Bool.and_eq_true, decide_eq_true_eq] at h
  omega

theorem room8 {n : Nat} (h : n ≤ 1048576) : roomB n 8 = true := by
  simp only [roomB, Bool.and_eq_true]
  exact ⟨Nat.ble_eq_true_of_le (by omega), Nat.ble_eq_true_of_le (by omega)⟩

theorem room16 {n : Nat} (h : n ≤ 1048576) : roomB n 16 = true := by
  simp only [roomB, Bool.and_eq_true]
  exact ⟨Nat.ble_eq_true_of_le (by omega), Nat.ble_eq_true_of_le (by omega)⟩

theorem fit_snocP (P : List (Int × Int)) (v w : Int) : (vecP (P ++ [(v, w)])).fit (.vec (P.length + 1) (catG P.length (fun q => [I (P.getD q (0, 0)).1, I (P.getD q (0, 0)).2]) fun j => List.take 2 (List.drop (j * 2) [I v, I w])) 2 55) := by
  refine ⟨by simp, rfl, rfl, fun j hj => ?_⟩
  simp only [List.length_append, List.length_singleton] at hj
  simp only [catG]
  by_cases h : j < P.length
  · rw [blt_t h]
    simp [List.getD_eq_getElem?_getD, List.getElem?_append_left h]
  · rw [blt_f (by omega)]
    have : j = P.length := by omega
    subst this
    simp

theorem pairs1_step (h : j < n) : pairs1 n b l i j = (bif prB b l i j then [(i, j)] else []) ++ pairs1 n b l i (j + 1) := by
  unfold pairs1
  rw [filt_step (p := prB b l i) h]
  cases prB b l i j <;> rfl

theorem pairs1_len {k : Int} : ((pairs1 n b l i k).length : Int) ≤ (n - k).toNat := by
  unfold pairs1
  rw [List.length_map]
  exact_mod_cast filt_le

def OO2 (n cap : Nat) (l : Int → Src) (b : Sus) (i : Int) (S : List Int) (s : Int × List (Int × Int)) (e : VEx) (vs : List VV) (bs : List VB) : Prop :=
  e = .exit 2 ∧ vs = VO2 n cap i n S.length (s.2 ++ pairs1 n b l i s.1).length ∧ bs = hO n l b S (s.2 ++ pairs1 n b l i s.1)

theorem goodT4 (hw : Wf n l b) : Good Try.prog (callN Try.prog (tabS (t4 n l b)) noL 10 20) := tab_good hmix (t4_ok hw) 20

theorem LO2_ok (hw : Wf n l b) {S : List Int} {P : List (Int × Int)} : LSound Try.prog true (.block 2 (.loop (loopB 2 (bodyOf Try.prog 15)))) 66 (LO2 n cap l b i S P) := by
  by_cases hc : 0 ≤ i ∧ i < n ∧ P.length ≤ 64 * i ∧ okB n l b = true ∧ fitB1 b l i = false
  · obtain ⟨hi0, hi1, hP, hok, hfi⟩ := hc
    have hn := okB_n hok
    refine loop_row hmix (goodT4 hw) (un := 10) (ds := dsO2) (ns := nsO2) (nx := 6) (fun s : Int × List (Int × Int) => VO2 n cap i s.1 S.length s.2.length) (fun s => hO n l b S s.2) (fun s => 0 ≤ s.1 ∧ s.1 ≤ n ∧ (s.2.length : Int) ≤ 64 * i + s.1) (fun s => (n - s.1).toNat) (OO2 n cap l b i S) noL_ok ?_ ?_
    · rintro ⟨k, Q⟩ ⟨h0, h1, h2⟩
      dsimp only at h0 h1 h2
      rw [o2_ev]
      by_cases hlt : k < n
      · have hno : prB b l i k = false → RoundQ (fun s : Int × List (Int × Int) => VO2 n cap i s.1 S.length s.2.length) (fun s => hO n l b S s.2) (fun s => 0 ≤ s.1 ∧ s.1 ≤ n ∧ (s.2.length : Int) ≤ 64 * i + s.1) (fun s => (n - s.1).toNat) (OO2 n cap l b i S) (k, Q) .normal (VO2 n cap i (k + 1) S.length Q.length) (hO n l b S Q) := by
          intro hp
          refine ⟨(k + 1, Q), ⟨by dsimp only; omega, by dsimp only; omega, by dsimp only; omega⟩, by dsimp only; omega, rfl, fitBs_refl _, fun e vs bs ho => ?_⟩
          rw [OO2]
          dsimp only
          rw [pairs1_step hlt, hp]
          exact ho
        refine cond_dk hlt (cond_dk ⟨h0, hlt⟩ ⟨⟨rfl, by omega, by omega⟩, ?_⟩)
        simp only [Int.zero_add]
        refine ⟨⟨⟨trivial, trivial, trivial⟩, trivial, okI_of hok h0 hlt⟩, cond_b (fun q1 => cond_dk ⟨hi0, hi1⟩ ⟨⟨trivial, hi0, hi1⟩, cond_dk ⟨h0, hlt⟩ ⟨⟨trivial, h0, hlt⟩, ⟨⟨trivial, trivial, trivial⟩, trivial, hok, ⟨hi0, hi1⟩, h0, hlt⟩, cond_b (fun q2 => cond_k (beq_t rfl) (cond_k (room16 (by omega)) (cond_r (by omega) ?_))) (fun q2 => cond_r (by omega) (hno ?_))⟩⟩) (fun q1 => cond_r (by omega) (hno ?_))⟩
        · have hp : prB b l i k = true := by simp [prB, fitB1, shareB] at *; simp [q1, q2]
          refine ⟨(k + 1, Q ++ [(i, k)]), ⟨by dsimp only; omega, by dsimp only; omega, by simp; omega⟩, by dsimp only; omega, by simp [VO2], ⟨VB.fit_refl _, VB.fit_refl _, VB.fit_refl _, VB.fit_refl _, VB.fit_refl _, fit_snocP Q i k, trivial⟩, fun e vs bs ho => ?_⟩
          rw [OO2]
          dsimp only
          rw [pairs1_step hlt, hp]
          simpa [OO2] using ho
        · simp [prB, fitB1, shareB] at *; simp [q1, q2]
        · simp [prB, fitB1, shareB] at *; simp [q1]
      · refine cond_d (fun h => absurd h hlt) (fun _ => ?_)
        have : k = n := by omega
        subst this
        have e : pairs1 n b l i n = [] := by unfold pairs1; rw [filt_end (by omega)]; rfl
        refine ⟨rfl, ?_, ?_⟩ <;> (dsimp only; rw [e, List.append_nil]; rfl)
    · rintro lock t h K ⟨⟨hf, _⟩, hK⟩
      refine ⟨(i + 1, P), hf, ⟨by dsimp only; omega, by dsimp only; omega, by dsimp only; omega⟩, ?_⟩
      rintro e vs bs ⟨rfl, rfl, rfl⟩
      exact hK
  · rintro lock t h K ⟨⟨hf, hc'⟩, hK⟩
    exact (hc hc').elim

/-- The outer loop, that begins with lists. -/
def LO0s (n cap : Nat) (l : Int → Src) (b : Sus) : LT := fun lock t h K =>
  (FitP lock h t ⟨6, nsO2.zip (hO n l b [] [])⟩ (dsO0.zip (VO0 n cap 0 0 0)) ∧ okB n l b = true) ∧
    K .normal (dsO0.zip (VO0 n cap n (filt (fitB1 b l) n 0).length (pairsF n b l n 0).length)) ⟨6, nsO2.zip (hO n l b (filt (fitB1 b l) n 0) (pairsF n b l n 0))⟩

theorem pairsF_step (h : i < n) : pairsF n b l ((n : Int) - i).toNat i = (bif fitB1 b l i then [] else pairs1 n b l i (i + 1)) ++ pairsF n b l ((n : Int) - (i + 1)).toNat (i + 1) := by
  rw [show ((n : Int) - i).toNat = ((n : Int) - (i + 1)).toNat + 1 by omega]; rfl

def OO0 (n cap : Nat) (l : Int → Src) (b : Sus) (s : Int × List Int × List (Int × Int)) (e : VEx) (vs : List VV) (bs : List VB) : Prop :=
  e = .exit 0 ∧ ∃ S P, S = s.2.1 ++ filt (fitB1 b l) ((n : Int) - s.1).toNat s.1 ∧ P = s.2.2 ++ pairsF n b l ((n : Int) - s.1).toNat s.1 ∧ vs = VO0 n cap n S.length P.length ∧ bs = hO n l b S P

theorem LO0s_ok (hw : Wf n l b) : LSound Try.prog true (.block 0 (.loop (loopB 0 (bodyOf Try.prog 15)))) 66 (LO0s n cap l b) := by
  by_cases hok : okB n l b = true
  · have hn := okB_n hok
    refine loop_rowD hmix (goodT4 hw) (lsp := fun s => tabB [(2, LO2 n cap l b s.1 s.2.1 s.2.2)]) (un := 10) (ds := dsO0) (ns := nsO2) (nx := 6) (fun s : Int × List Int × List (Int × Int) => VO0 n cap s.1 s.2.1.length s.2.2.length) (fun s => hO n l b s.2.1 s.2.2) (fun s => 0 ≤ s.1 ∧ s.1 ≤ n ∧ (s.2.1.length : Int) ≤ s.1 ∧ (s.2.2.length : Int) ≤ 64 * s.1) (fun s => (n - s.1).toNat) (OO0 n cap l b) ?_ ?_ ?_
    · rintro ⟨i, S, P⟩ _ id' T' hT b' hb'
      exact one_blkI (by kernel_rfl) (LO2_ok hw) id' T' hT b' hb'
    · rintro ⟨i, S, P⟩ ⟨h0, h1, h2, h3⟩
      dsimp only at h0 h1 h2 h3
      rw [o0_ev]
      by_cases hlt : i < n
      · refine cond_dk hlt (cond_dk ⟨h0, hlt⟩ ⟨⟨rfl, by omega, by omega⟩, ?_⟩)
        simp only [Int.zero_add]
        refine ⟨⟨⟨trivial, trivial, trivial⟩, trivial, okI_of hok h0 hlt⟩, cond_b (fun q1 => cond_k (beq_t rfl) (cond_k (room8 (by omega)) (cond_r (by omega) ?_))) (fun q1 => cond_r (by omega) ⟨⟨fitP_self rfl, h0, hlt, h3, hok, q1⟩, cond_r (by omega) ?_⟩)⟩
        · have hp : fitB1 b l i = true := q1
          refine ⟨(i + 1, S ++ [i], P), ⟨by dsimp only; omega, by dsimp only; omega, by simp; omega, by dsimp only; omega⟩, by dsimp only; omega, by simp [VO0], ⟨VB.fit_refl _, VB.fit_refl _, VB.fit_refl _, VB.fit_refl _, fit_snoc S i, VB.fit_refl _, trivial⟩, ?_⟩
          rintro e vs bs ⟨rfl, S', P', rfl, rfl, rfl, rfl⟩
          refine ⟨rfl, _, _, rfl, rfl, ?_⟩
          dsimp only
          rw [filt_step (p := fitB1 b l) hlt, pairsF_step hlt, hp]
          simp
        · have hp : fitB1 b l i = false := q1
          have hl := pairs1_len (n := n) (b := b) (l := l) (i := i) (k := i + 1)
          refine ⟨(i + 1, S, P ++ pairs1 n b l i (i + 1)), ⟨by dsimp only; omega, by dsimp only; omega, by dsimp only; omega, by simp; omega⟩, by dsimp only; omega, rfl, fitBs_refl _, ?_⟩
          rintro e vs bs ⟨rfl, S', P', rfl, rfl, rfl, rfl⟩
          refine ⟨rfl, _, _, rfl, rfl, ?_⟩
          dsimp only
          rw [filt_step (p := fitB1 b l) hlt, pairsF_step hlt, hp]
          simp
      · refine cond_d (fun h => absurd h hlt) (fun _ => ?_)
        have : i = n := by omega
        subst this
        refine ⟨rfl, S, P, ?_, ?_, rfl, rfl⟩
        · dsimp only; rw [filt_end (by omega), List.append_nil]
        · dsimp only
          rw [show ((n : Int) - n).toNat = 0 by omega]
          simp [pairsF]
    · rintro lock t h K ⟨⟨hf, _⟩, hK⟩
      refine ⟨(0, [], []), hf, ⟨by simp, by simp, by simp, by simp⟩, ?_⟩
      rintro e vs bs ⟨rfl, S', P', rfl, rfl, rfl, rfl⟩
      simp only [show ((n : Int) - 0).toNat = n by omega, List.nil_append]
      exact hK
  · rintro lock t h K ⟨⟨hf, hc'⟩, hK⟩
    exact (hok hc').elim
end
end Go.Sx.Gen

/- genuine: Origins as a row. -/

namespace Go.Sx.Gen
open Go Go.Sx Go.Proofs
set_option maxRecDepth 100000

section
variable {n cap : Nat} {l : Int → Src} {b : Sus} {i j : Int}

def LO0m (n cap : Nat) (l : Int → Src) (b : Sus) : LT := fun lock t h K =>
  (FitP lock h t ⟨5, [(4, vecI []), (0, srcA n l), (1, valA n l), (2, seenA b), (3, cSu b)]⟩ [(5, .nils), (4, .sl 4 0), (15, I 0), (14, I n), (1, lV n cap), (2, .ptr (.own 3 0))] ∧ okB n l b = true) ∧
    K .normal (dsO0.zip (VO0 n cap n (filt (fitB1 b l) n 0).length (pairsF n b l n 0).length)) ⟨6, nsO2.zip (hO n l b (filt (fitB1 b l) n 0) (pairsF n b l n 0))⟩

theorem LO0_ok (hw : Wf n l b) : LSound Try.prog true (.block 0 (.loop (loopB 0 (bodyOf Try.prog 15)))) 66 (LO0 n cap l b) := by
  have h1 : LSound Try.prog true (.block 0 (.loop (loopB 0 (bodyOf Try.prog 15)))) 66 (LO0m n cap l b) :=
    ghost_row (d := 5) (nx := 5) (bs := [(4, vecI []), (0, srcA n l), (1, valA n l), (2, seenA b), (3, cSu b)]) (t0 := [(4, .sl 4 0), (15, I 0), (14, I n), (1, lV n cap), (2, .ptr (.own 3 0))]) (fun q => [I (([] : List (Int × Int)).getD q (0, 0)).1, I (([] : List (Int × Int)).getD q (0, 0)).2]) 2 55 (LO0s_ok hw (cap := cap)) (by
      rintro lock t h K ⟨⟨hf, hi⟩, hK⟩
      exact ⟨hf, ⟨⟨⟨rfl, rfl, VB.fit_refl _, VB.fit_refl _, VB.fit_refl _, VB.fit_refl _, VB.fit_refl _, VB.fit_refl _, trivial⟩, rfl, rfl, rfl, rfl, rfl, rfl, trivial⟩, hi⟩, hK⟩)
  exact ghost_row (d := 4) (nx := 4) (bs := [0, 1, 2, 3].zip [srcA n l, valA n l, seenA b, cSu b]) (t0 := [(5, .nils), (15, I 0), (14, I n), (1, lV n cap), (2, .ptr (.own 3 0))]) (fun i => [I (([] : List Int).getD i 0)]) 1 3 h1 (by
      rintro lock t h K ⟨⟨hf, hi⟩, hK⟩
      exact ⟨hf, ⟨⟨⟨rfl, rfl, VB.fit_refl _, VB.fit_refl _, VB.fit_refl _, VB.fit_refl _, VB.fit_refl _, trivial⟩, rfl, rfl, rfl, rfl, rfl, rfl, trivial⟩, hi⟩, hK⟩)

/-- What Origins tells. -/
def orS (n : Nat) (b : Sus) (l : Int → Src) : List Int := bif okB n l b then filt (fitB1 b l) n 0 else []
def orP (n : Nat) (b : Sus) (l : Int → Src) : List (Int × Int) := bif okB n l b then pairsF n b l n 0 else []
def orE (n : Nat) (b : Sus) (l : Int → Src) : Int := bif okB n l b then 0 else 1

theorem two_ghosts {f : FuncId} {args : List VV} {h : VH} {bs : List (Nat × VB)} {e : Int} (hc : CallsV Try.prog f args h (.ret (.tup [.nils, .nils, I e])) ⟨4, bs⟩) : CallsV Try.prog f args h (.ret (.tup [.sl 4 0, .sl 5 0, I e])) (((VH.mk 4 bs).new (vecI [])).new (vecP [])) := by
  have h1 := calls_ghost (v2 := .tup [.sl 4 0, .nils, I e]) (fun i => [I (([] : List Int).getD i 0)]) 1 3 hc (fun R x hv hx => by
    obtain ⟨xs, ⟨y, ys, g1, ⟨y2, ys2, g2, ⟨y3, ys3, g3, g4, rfl⟩, rfl⟩, rfl⟩, hx⟩ := hx
    exact ⟨_, ⟨y, _, nil_ghost hv g1, ⟨y2, _, g2, ⟨y3, _, g3, g4, rfl⟩, rfl⟩, rfl⟩, hx⟩)
  exact calls_ghost (v2 := .tup [.sl 4 0, .sl 5 0, I e]) (fun q => [I (([] : List (Int × Int)).getD q (0, 0)).1, I (([] : List (Int × Int)).getD q (0, 0)).2]) 2 55 h1 (fun R x hv hx => by
    obtain ⟨xs, ⟨y, ys, g1, ⟨y2, ys2, g2, ⟨y3, ys3, g3, g4, rfl⟩, rfl⟩, rfl⟩, hx⟩ := hx
    exact ⟨_, ⟨y, _, g1, ⟨y2, _, nil_ghost hv g2, ⟨y3, _, g3, g4, rfl⟩, rfl⟩, rfl⟩, hx⟩)

def hOr (n : Nat) (b : Sus) (l : Int → Src) : VH := ⟨6, [(0, srcA n l), (1, valA n l), (2, seenA b), (4, vecI (orS n b l)), (5, vecP (orP n b l))]⟩

theorem or15_v (hw : Wf n l b) : CallsV Try.prog 15 [bV b, lV n cap] (bH n l b) (.ret (.tup [.sl 4 (orS n b l).length, .sl 5 (orP n b l).length, I (orE n b l)])) (hOr n b l) := by
  have hsp := spBL_ok hmix (tabs_ok (t4_ok hw)) (f := 15) (lo_one (by kernel_rfl) (LO0_ok hw (cap := cap))) (un := 10) (fu := 20)
  obtain ⟨r, h', hQ, hc⟩ := of_sp hsp (args := [bV b, lV n cap]) (h := bH n l b) (K := fun r h' => (okB n l b = false ∧ r = .ret (.tup [.nils, .nils, I 1]) ∧ h' = ⟨4, [(3, cSu b), (0, srcA n l), (1, valA n l), (2, seenA b)]⟩) ∨
      (okB n l b = true ∧ r = .ret (.tup [.sl 4 (filt (fitB1 b l) n 0).length, .sl 5 (pairsF n b l n 0).length, I 0]) ∧ h' = ⟨6, nsO2.zip (hO n l b (filt (fitB1 b l) n 0) (pairsF n b l n 0))⟩))
    (by
      rw [f15_ev]
      refine ⟨⟨⟨rfl, rfl, rfl⟩, rfl⟩, ?_⟩
      cases hok : okB n l b with
      | false => exact .inl ⟨rfl, rfl, rfl⟩
      | true => exact ⟨⟨fitP_self rfl, rfl⟩, .inr ⟨rfl, rfl, rfl⟩⟩)
  unfold hOr orS orP orE
  rcases hQ with ⟨hok, rfl, rfl⟩ | ⟨hok, rfl, rfl⟩
  · rw [hok]
    exact calls_weak (two_ghosts hc) (show 3 ≤ 6 by decide) ⟨VB.fit_refl _, VB.fit_refl _, VB.fit_refl _, VB.fit_refl _, VB.fit_refl _, trivial⟩ rfl rfl
  · rw [hok]
    exact calls_weak hc (show 3 ≤ 6 by decide) ⟨VB.fit_refl _, VB.fit_refl _, VB.fit_refl _, VB.fit_refl _, VB.fit_refl _, trivial⟩ rfl rfl
end
end Go.Sx.Gen

/- genuine: the document's Origins, evaluated. -/

namespace Go.Sx.Gen
open Go Go.Sx Go.Proofs
set_option maxRecDepth 100000

def prC (b : Sus) (l : Int → Src) (i k : Int) : Bool := !fitB1 b l i && prB b l i k
def pairsC (n : Nat) (b : Sus) (l : Int → Src) (i k : Int) : List (Int × Int) := (filt (prC b l i) (n - k).toNat k).map (fun k => (i, k))

def dsQ2 : List Nat := [10, 9, 2, 1, 7, 8]
def VQ2 (n cap : Nat) (i k : Int) (sl pl : Nat) : List VV := [I k, I i, .ptr (.own 3 0), lV n cap, .sl 4 sl, .sl 5 pl]

def hOc (n : Nat) (l : Int → Src) (b : Sus) (c : VB) (P : List (Int × Int)) : List VB := [srcA n l, valA n l, seenA b, cSu b, c, vecP P]

def LQ2 (n cap : Nat) (l : Int → Src) (b : Sus) (i : Int) (P : List (Int × Int)) : LT := fun lock t h K => match look t 7, h.at 4, h with
  | .sl 4 sl, .vec L g s ty, ⟨nx, bs⟩ =>
    ((nx = 10 ∨ nx = 11) ∧ FitP lock ⟨nx, bs⟩ t ⟨nx, nsO2.zip (hOc n l b (.vec L g s ty) P)⟩ (dsQ2.zip (VQ2 n cap i (i + 1) sl P.length)) ∧ 0 ≤ i ∧ i < n ∧ P.length ≤ 64 * i ∧ okB n l b = true) ∧
    K .normal (dsQ2.zip (VQ2 n cap i n sl (P ++ pairsC n b l i (i + 1)).length)) ⟨nx, nsO2.zip (hOc n l b (.vec L g s ty) (P ++ pairsC n b l i (i + 1)))⟩
  | _, _, _ => False

def dsQ0 : List Nat := [7, 8, 9, 1, 2]
def VQ0 (n cap : Nat) (i : Int) (sl pl : Nat) : List VV := [.sl 4 sl, .sl 5 pl, I i, lV n cap, .ptr (.own 3 0)]
def LQ0 (n cap : Nat) (l : Int → Src) (b : Sus) : LT := fun lock t h K =>
  (FitP lock h t ⟨4, [0, 1, 2, 3].zip [srcA n l, valA n l, seenA b, cSu b]⟩ (dsQ0.zip [.nils, .nils, I 0, lV n cap, .ptr (.own 3 0)]) ∧ okB n l b = true) ∧
    K .normal (dsQ0.zip (VQ0 n cap n (filt (fitB1 b l) n 0).length (pairsF n b l n 0).length)) ⟨6, nsO2.zip (hO n l b (filt (fitB1 b l) n 0) (pairsF n b l n 0))⟩

theorem q2_ev {nx : Nat} (hnx : nx = 10 ∨ nx = 11) (n cap : Nat) (l : Int → Src) (b : Sus) (i k : Int) (sl L : Nat) (g : Nat → List VV) (s : Nat) (ty : TypeId) (P : List (Int × Int)) (X : VEx → List VV → List VB → Prop) : codeE Try.prog (callN Try.prog (tabS (t4 n l b)) noL 10 20) (fun _ => none) true 10 92 0 (loopB 2 (bodyOf Try.prog 16)) (dsQ2.zip (VQ2 n cap i k sl P.length)) ⟨nx, nsO2.zip (hOc n l b (.vec L g s ty) P)⟩ (obs nx dsQ2 nsO2 X) =
  (bif decide (k < (↑n : Int)) then
 bif decide ((0 : Int) ≤ i ∧ i < (↑n : Int)) then
 (([] : List Int) = [] ∧ (0 : Int) ≤ (0 : Int) + i ∧ (0 : Int) + i < (↑n : Int)) ∧ bif decide ((0 : Int) ≤ k ∧ k < (↑n : Int)) then
 (([] : List Int) = [] ∧ (0 : Int) ≤ (0 : Int) + k ∧ (0 : Int) + k < (↑n : Int)) ∧ ((srcA n l = srcA n l ∧ valA n l = valA n l ∧ seenA b = seenA b) ∧ [bV b, VV.agg [I (l ((0 : Int) + i)).cask, I (l ((0 : Int) + i)).drawn, I (l ((0 : Int) + i)).slo, I (l ((0 : Int) + i)).shi, VV.slice (VA.el 1 [(0 : Int) + i] (0 : Int) 0) (l ((0 : Int) + i)).vl (l ((0 : Int) + i)).vc], VV.agg [I (l ((0 : Int) + k)).cask, I (l ((0 : Int) + k)).drawn, I (l ((0 : Int) + k)).slo, I (l ((0 : Int) + k)).shi, VV.slice (VA.el 1 [(0 : Int) + k] (0 : Int) 0) (l ((0 : Int) + k)).vl (l ((0 : Int) + k)).vc]] = [bV b, VV.agg [I (l ((0 : Int) + i)).cask, I (l ((0 : Int) + i)).drawn, I (l ((0 : Int) + i)).slo, I (l ((0 : Int) + i)).shi, VV.slice (VA.el 1 [(0 : Int) + i] (0 : Int) 0) (l ((0 : Int) + i)).vl (l ((0 : Int) + i)).vc], VV.agg [I (l ((0 : Int) + k)).cask, I (l ((0 : Int) + k)).drawn, I (l ((0 : Int) + k)).slo, I (l ((0 : Int) + k)).shi, VV.slice (VA.el 1 [(0 : Int) + k] (0 : Int) 0) (l ((0 : Int) + k)).vl (l ((0 : Int) + k)).vc]] ∧ OkS n l b ((0 : Int) + i) ((0 : Int) + k)) ∧ ∀ (s_1 : Shr), (shareB b (l ((0 : Int) + i)) (l ((0 : Int) + k)) = true → s_1 = rfF b (l ((0 : Int) + i)) (l ((0 : Int) + k))) → bif shareB b (l ((0 : Int) + i)) (l ((0 : Int) + k)) then
 bif decide ((0 : Int) ≤ i ∧ i < (↑n : Int)) then
 (([] : List Int) = [] ∧ (0 : Int) ≤ (0 : Int) + i ∧ (0 : Int) + i < (↑n : Int)) ∧ ((srcA n l = srcA n l ∧ valA n l = valA n l ∧ seenA b = seenA b) ∧ [bV b, VV.agg [I (l ((0 : Int) + i)).cask, I (l ((0 : Int) + i)).drawn, I (l ((0 : Int) + i)).slo, I (l ((0 : Int) + i)).shi, VV.slice (VA.el 1 [(0 : Int) + i] (0 : Int) 0) (l ((0 : Int) + i)).vl (l ((0 : Int) + i)).vc]] = [bV b, VV.agg [I (l ((0 : Int) + i)).cask, I (l ((0 : Int) + i)).drawn, I (l ((0 : Int) + i)).slo, I (l ((0 : Int) + i)).shi, VV.slice (VA.el 1 [(0 : Int) + i] (0 : Int) 0) (l ((0 : Int) + i)).vl (l ((0 : Int) + i)).vc]] ∧ OkI n l b ((0 : Int) + i)) ∧ bif decide ((↑(reasonsF b (l ((0 : Int) + i))).length : Int) > (0 : Int)) then
 bif decide ((0 : Int) ≤ k ∧ k < (↑n : Int)) then
 (([] : List Int) = [] ∧ (0 : Int) ≤ (0 : Int) + k ∧ (0 : Int) + k < (↑n : Int)) ∧ ((srcA n l = srcA n l ∧ valA n l = valA n l ∧ seenA b = seenA b) ∧ [bV b, VV.agg [I (l ((0 : Int) + k)).cask, I (l ((0 : Int) + k)).drawn, I (l ((0 : Int) + k)).slo, I (l ((0 : Int) + k)).shi, VV.slice (VA.el 1 [(0 : Int) + k] (0 : Int) 0) (l ((0 : Int) + k)).vl (l ((0 : Int) + k)).vc]] = [bV b, VV.agg [I (l ((0 : Int) + k)).cask, I (l ((0 : Int) + k)).drawn, I (l ((0 : Int) + k)).slo, I (l ((0 : Int) + k)).shi, VV.slice (VA.el 1 [(0 : Int) + k] (0 : Int) 0) (l ((0 : Int) + k)).vl (l ((0 : Int) + k)).vc]] ∧ OkI n l b ((0 : Int) + k)) ∧ bif decide ((↑(reasonsF b (l ((0 : Int) + k))).length : Int) > (0 : Int)) then
 bif P.length.beq P.length then
 bif roomB (P.length + 1) (16) then
 bif inK IntKind.i64 (k + (1 : Int)) then
 X VEx.normal [I (k + (1 : Int)), I i, VV.ptr (VA.own 3 0), lV n cap, VV.sl 4 sl, VV.sl 5 (P.length + 1)] [srcA n l, valA n l, seenA b, cSu b, VB.vec L g s ty, VB.vec (P.length + 1) (catG P.length (fun q => [I (P.getD q ((0 : Int), (0 : Int))).fst, I (P.getD q ((0 : Int), (0 : Int))).snd]) fun j => List.take (2) (List.drop (j * (2)) [I i, I k])) (2) 55]
 else False
 else False
 else False
 else bif inK IntKind.i64 (k + (1 : Int)) then
 X VEx.normal [I (k + (1 : Int)), I i, VV.ptr (VA.own 3 0), lV n cap, VV.sl 4 sl, VV.sl 5 P.length] [srcA n l, valA n l, seenA b, cSu b, VB.vec L g s ty, vecP P]
 else False
 else False
 else bif inK IntKind.i64 (k + (1 : Int)) then
 X VEx.normal [I (k + (1 : Int)), I i, VV.ptr (VA.own 3 0), lV n cap, VV.sl 4 sl, VV.sl 5 P.length] [srcA n l, valA n l, seenA b, cSu b, VB.vec L g s ty, vecP P]
 else False
 else False
 else bif inK IntKind.i64 (k + (1 : Int)) then
 X VEx.normal [I (k + (1 : Int)), I i, VV.ptr (VA.own 3 0), lV n cap, VV.sl 4 sl, VV.sl 5 P.length] [srcA n l, valA n l, seenA b, cSu b, VB.vec L g s ty, vecP P]
 else False
 else False
 else False
 else X (VEx.exit 2) [I k, I i, VV.ptr (VA.own 3 0), lV n cap, VV.sl 4 sl, VV.sl 5 P.length] [srcA n l, valA n l, seenA b, cSu b, VB.vec L g s ty, vecP P]) := by rcases hnx with rfl | rfl <;> kernel_rfl

theorem q0_ev (n cap : Nat) (l : Int → Src) (b : Sus) (i : Int) (S : List Int) (P : List (Int × Int)) (X : VEx → List VV → List VB → Prop) : codeE Try.prog (callN Try.prog (tabS (t4 n l b)) noL 10 20) (tabB [(2, LQ2 n cap l b i P)]) true 10 92 0 (loopB 0 (bodyOf Try.prog 16)) (dsQ0.zip (VQ0 n cap i S.length P.length)) ⟨6, nsO2.zip (hO n l b S P)⟩ (obs 6 dsQ0 nsO2 X) =
  (bif decide (i < (↑n : Int)) then
 bif decide ((0 : Int) ≤ i ∧ i < (↑n : Int)) then
 (([] : List Int) = [] ∧ (0 : Int) ≤ (0 : Int) + i ∧ (0 : Int) + i < (↑n : Int)) ∧ ((srcA n l = srcA n l ∧ valA n l = valA n l ∧ seenA b = seenA b) ∧ [bV b, VV.agg [I (l ((0 : Int) + i)).cask, I (l ((0 : Int) + i)).drawn, I (l ((0 : Int) + i)).slo, I (l ((0 : Int) + i)).shi, VV.slice (VA.el 1 [(0 : Int) + i] (0 : Int) 0) (l ((0 : Int) + i)).vl (l ((0 : Int) + i)).vc]] = [bV b, VV.agg [I (l ((0 : Int) + i)).cask, I (l ((0 : Int) + i)).drawn, I (l ((0 : Int) + i)).slo, I (l ((0 : Int) + i)).shi, VV.slice (VA.el 1 [(0 : Int) + i] (0 : Int) 0) (l ((0 : Int) + i)).vl (l ((0 : Int) + i)).vc]] ∧ OkI n l b ((0 : Int) + i)) ∧ bif decide ((↑(reasonsF b (l ((0 : Int) + i))).length : Int) = (0 : Int)) then
 bif S.length.beq S.length then
 bif roomB (S.length + 1) (8) then
 bif inK IntKind.i64 (i + (1 : Int)) then
 ((11 = 10 ∨ 11 = 11) ∧ FitP 0 (VH.mk (11) (nsO2.zip (hOc n l b (VB.vec (S.length + 1) (catG S.length (fun i => [I (S.getD i (0 : Int))]) fun j => List.take (1) (List.drop (j * (1)) [I i])) (1) 3) P))) (dsQ2.zip (VQ2 n cap i (i + (1 : Int)) (S.length + 1) P.length)) (VH.mk (11) (nsO2.zip (hOc n l b (VB.vec (S.length + 1) (catG S.length (fun i => [I (S.getD i (0 : Int))]) fun j => List.take (1) (List.drop (j * (1)) [I i])) (1) 3) P))) (dsQ2.zip (VQ2 n cap i (i + (1 : Int)) (S.length + 1) P.length)) ∧ (0 : Int) ≤ i ∧ i < (↑n : Int) ∧ (↑P.length : Int) ≤ (64 : Int) * i ∧ okB n l b = true) ∧ bif inK IntKind.i64 (i + (1 : Int)) then
 X VEx.normal [VV.sl 4 (S.length + 1), VV.sl 5 (P ++ pairsC n b l i (i + (1 : Int))).length, I (i + (1 : Int)), lV n cap, VV.ptr (VA.own 3 0)] [srcA n l, valA n l, seenA b, cSu b, VB.vec (S.length + 1) (catG S.length (fun i => [I (S.getD i (0 : Int))]) fun j => List.take (1) (List.drop (j * (1)) [I i])) (1) 3, VB.vec (P ++ pairsC n b l i (i + (1 : Int))).length (fun q => [I ((P ++ pairsC n b l i (i + (1 : Int))).getD q ((0 : Int), (0 : Int))).fst, I ((P ++ pairsC n b l i (i + (1 : Int))).getD q ((0 : Int), (0 : Int))).snd]) 2 (55 : TypeId)]
 else False
 else False
 else False
 else False
 else bif inK IntKind.i64 (i + (1 : Int)) then
 ((6 + 4 = 10 ∨ 6 + 4 = 11) ∧ FitP 0 (VH.mk (6 + 4) (nsO2.zip (hOc n l b (vecI S) P))) (dsQ2.zip (VQ2 n cap i (i + (1 : Int)) S.length P.length)) (VH.mk (6 + 4) (nsO2.zip (hOc n l b (vecI S) P))) (dsQ2.zip (VQ2 n cap i (i + (1 : Int)) S.length P.length)) ∧ (0 : Int) ≤ i ∧ i < (↑n : Int) ∧ (↑P.length : Int) ≤ (64 : Int) * i ∧ okB n l b = true) ∧ bif inK IntKind.i64 (i + (1 : Int)) then
 X VEx.normal [VV.sl 4 S.length, VV.sl 5 (P ++ pairsC n b l i (i + (1 : Int))).length, I (i + (1 : Int)), lV n cap, VV.ptr (VA.own 3 0)] [srcA n l, valA n l, seenA b, cSu b, vecI S, VB.vec (P ++ pairsC n b l i (i + (1 : Int))).length (fun q => [I ((P ++ pairsC n b l i (i + (1 : Int))).getD q ((0 : Int), (0 : Int))).fst, I ((P ++ pairsC n b l i (i + (1 : Int))).getD q ((0 : Int), (0 : Int))).snd]) 2 (55 : TypeId)]
 else False
 else False
 else False
 else X (VEx.exit 0) [VV.sl 4 S.length, VV.sl 5 P.length, I i, lV n cap, VV.ptr (VA.own 3 0)] [srcA n l, valA n l, seenA b, cSu b, vecI S, vecP P]) := by kernel_rfl

theorem f16_ev (n cap : Nat) (l : Int → Src) (b : Sus) (Q : VRes → VH → Prop) : spBL Try.prog 16 (tabS (t4 n l b)) [(0, LQ0 n cap l b)] 10 20 0 [bV b, lV n cap] (bH n l b) Q =
  (((srcA n l = srcA n l ∧ valA n l = valA n l ∧ seenA b = seenA b) ∧ n = n) ∧ bif !srcsB n l then
 Q (VRes.ret (VV.tup [VV.nils, VV.nils, I 1])) (VH.mk (4) ([(3, VB.cells [I b.glass, I b.paper, I b.slo, I b.shi, VV.slice (VA.el 2 [] (0 : Int) 0) b.sl b.sc] 26), (0, srcA n l), (1, valA n l), (2, seenA b)]))
 else ((srcA n l = srcA n l ∧ valA n l = valA n l ∧ seenA b = seenA b) ∧ [bV b, lV n cap] = [bV b, lV n cap]) ∧ bif !bothB b n l then
 Q (VRes.ret (VV.tup [VV.nils, VV.nils, I 1])) (VH.mk (4) ([(3, VB.cells [I b.glass, I b.paper, I b.slo, I b.shi, VV.slice (VA.el 2 [] (0 : Int) 0) b.sl b.sc] 26), (0, srcA n l), (1, valA n l), (2, seenA b)]))
 else (FitP 0 (VH.mk (4) ([0, 1, 2, 3].zip [srcA n l, valA n l, seenA b, cSu b])) (dsQ0.zip [VV.nils, VV.nils, I 0, lV n cap, VV.ptr (VA.own 3 0)]) (VH.mk (4) ([0, 1, 2, 3].zip [srcA n l, valA n l, seenA b, cSu b])) (dsQ0.zip [VV.nils, VV.nils, I 0, lV n cap, VV.ptr (VA.own 3 0)]) ∧ okB n l b = true) ∧ Q (VRes.ret (VV.tup [VV.sl 4 (filt (fitB1 b l) n (0 : Int)).length, VV.sl 5 (pairsF n b l n (0 : Int)).length, I 0])) (VH.mk (6) ([(0, srcA n l), (1, valA n l), (2, seenA b), (3, cSu b), (4, VB.vec (filt (fitB1 b l) n (0 : Int)).length (fun i => [I ((filt (fitB1 b l) n (0 : Int)).getD i (0 : Int))]) 1 (3 : TypeId)), (5, VB.vec (pairsF n b l n (0 : Int)).length (fun q => [I ((pairsF n b l n (0 : Int)).getD q ((0 : Int), (0 : Int))).fst, I ((pairsF n b l n (0 : Int)).getD q ((0 : Int), (0 : Int))).snd]) 2 (55 : TypeId))]))) := by kernel_rfl


end Go.Sx.Gen

/- genuine: the document's Origins. -/

namespace Go.Sx.Gen
open Go Go.Sx Go.Proofs
set_option maxRecDepth 100000

section
variable {n cap : Nat} {l : Int → Src} {b : Sus} {i j : Int}

theorem pairsC_step (h : j < n) : pairsC n b l i j = (bif prC b l i j then [(i, j)] else []) ++ pairsC n b l i (j + 1) := by
  unfold pairsC
  rw [filt_step (p := prC b l i) h]
  cases prC b l i j <;> rfl

theorem filt_congr {p q : Int → Bool} : ∀ {m : Nat} {i : Int}, (∀ k, p k = q k) → filt p m i = filt q m i
  | 0, _, _ => rfl
  | m + 1, i, h => by
    simp only [filt]
    rw [h i, filt_congr (m := m) (i := i + 1) h]

theorem filt_none {m : Nat} {i : Int} : filt (fun _ => false) m i = [] := by
  induction m generalizing i with
  | zero => rfl
  | succ m ih => simp only [filt, cond_false]; exact ih

theorem pairsC_eq {k : Int} : pairsC n b l i k = bif fitB1 b l i then [] else pairs1 n b l i k := by
  unfold pairsC pairs1
  cases h : fitB1 b l i with
  | true =>
    rw [filt_congr (q := fun _ => false) (fun k => by simp [prC, h]), filt_none]
    rfl
  | false =>
    rw [filt_congr (q := prB b l i) (fun k => by simp [prC, h])]
    rfl

theorem pairsC_len {k : Int} : ((pairsC n b l i k).length : Int) ≤ (n - k).toNat := by
  unfold pairsC
  rw [List.length_map]
  exact_mod_cast filt_le

theorem eN_len {xs : List Int} : decide ((xs.length : Int) > 0) = !eN xs := by
  cases xs <;> simp [eN]

theorem eN_len0 {xs : List Int} : decide ((xs.length : Int) = 0) = eN xs := by
  cases xs <;> simp [eN]
  omega

def OQ2 (n cap : Nat) (l : Int → Src) (b : Sus) (i : Int) (sl : Nat) (c : VB) (s : Int × List (Int × Int)) (e : VEx) (vs : List VV) (bs : List VB) : Prop :=
  e = .exit 2 ∧ vs = VQ2 n cap i n sl (s.2 ++ pairsC n b l i s.1).length ∧ bs = hOc n l b c (s.2 ++ pairsC n b l i s.1)

theorem LQ2_key (hw : Wf n l b) {P : List (Int × Int)} {nx : Nat} (hnx : nx = 10 ∨ nx = 11) {sl L : Nat} {g : Nat → List VV} {s : Nat} {ty : TypeId} (hi0 : 0 ≤ i) (hi1 : i < n) (hP : P.length ≤ 64 * i) (hok : okB n l b = true) : LSound Try.prog true (.block 2 (.loop (loopB 2 (bodyOf Try.prog 16)))) 92
    (fun lock t h K => FitP lock h t ⟨nx, nsO2.zip (hOc n l b (.vec L g s ty) P)⟩ (dsQ2.zip (VQ2 n cap i (i + 1) sl P.length)) ∧ K .normal (dsQ2.zip (VQ2 n cap i n sl (P ++ pairsC n b l i (i + 1)).length)) ⟨nx, nsO2.zip (hOc n l b (.vec L g s ty) (P ++ pairsC n b l i (i + 1)))⟩) := by
  have hn := okB_n hok
  refine loop_row hmix (goodT4 hw) (un := 10) (ds := dsQ2) (ns := nsO2) (nx := nx) (fun s : Int × List (Int × Int) => VQ2 n cap i s.1 sl s.2.length) (fun q => hOc n l b (.vec L g s ty) q.2) (fun s => 0 ≤ s.1 ∧ s.1 ≤ n ∧ (s.2.length : Int) ≤ 64 * i + s.1) (fun s => (n - s.1).toNat) (OQ2 n cap l b i sl (.vec L g s ty)) noL_ok ?_ ?_
  · rintro ⟨k, Q⟩ ⟨h0, h1, h2⟩
    dsimp only at h0 h1 h2
    rw [q2_ev hnx]
    by_cases hlt : k < n
    · have hno : prC b l i k = false → RoundQ (fun s : Int × List (Int × Int) => VQ2 n cap i s.1 sl s.2.length) (fun q => hOc n l b (.vec L g s ty) q.2) (fun s => 0 ≤ s.1 ∧ s.1 ≤ n ∧ (s.2.length : Int) ≤ 64 * i + s.1) (fun s => (n - s.1).toNat) (OQ2 n cap l b i sl (.vec L g s ty)) (k, Q) .normal (VQ2 n cap i (k + 1) sl Q.length) (hOc n l b (.vec L g s ty) Q) := by
        intro hp
        refine ⟨(k + 1, Q), ⟨by dsimp only; omega, by dsimp only; omega, by dsimp only; omega⟩, by dsimp only; omega, rfl, fitBs_refl _, fun e vs bs ho => ?_⟩
        rw [OQ2]
        dsimp only
        rw [pairsC_step hlt, hp]
        exact ho
      refine cond_dk hlt (cond_dk ⟨hi0, hi1⟩ ⟨⟨rfl, by omega, by omega⟩, cond_dk ⟨h0, hlt⟩ ⟨⟨rfl, by omega, by omega⟩, ?_⟩⟩)
      simp only [Int.zero_add, eN_len]
      refine ⟨⟨⟨trivial, trivial, trivial⟩, trivial, hok, ⟨hi0, hi1⟩, h0, hlt⟩, fun s' _ => cond_b (fun q1 => cond_dk ⟨hi0, hi1⟩ ⟨⟨trivial, hi0, hi1⟩, ⟨⟨trivial, trivial, trivial⟩, trivial, okI_of hok hi0 hi1⟩, cond_b (fun q2 => cond_dk ⟨h0, hlt⟩ ⟨⟨trivial, h0, hlt⟩, ⟨⟨trivial, trivial, trivial⟩, trivial, okI_of hok h0 hlt⟩, cond_b (fun q3 => cond_k (beq_t rfl) (cond_k (room16 (by omega)) (cond_r (by omega) ?_))) (fun q3 => cond_r (by omega) (hno ?_))⟩) (fun q2 => cond_r (by omega) (hno ?_))⟩) (fun q1 => cond_r (by omega) (hno ?_))⟩
      · have hp : prC b l i k = true := by simp [prC, prB, fitB1] at *; simp [q1, q2, q3]
        refine ⟨(k + 1, Q ++ [(i, k)]), ⟨by dsimp only; omega, by dsimp only; omega, by simp; omega⟩, by dsimp only; omega, by simp [VQ2], ⟨VB.fit_refl _, VB.fit_refl _, VB.fit_refl _, VB.fit_refl _, VB.fit_refl _, fit_snocP Q i k, trivial⟩, fun e vs bs ho => ?_⟩
        rw [OQ2]
        dsimp only
        rw [pairsC_step hlt, hp]
        simpa [OQ2] using ho
      · simp [prC, prB, fitB1] at *; simp [q3]
      · simp [prC, prB, fitB1] at *; simp [q2]
      · simp [prC, prB, fitB1] at *; simp [q1]
    · refine cond_d (fun h => absurd h hlt) (fun _ => ?_)
      have : k = n := by omega
      subst this
      have e : pairsC n b l i n = [] := by unfold pairsC; rw [filt_end (by omega)]; rfl
      refine ⟨rfl, ?_, ?_⟩ <;> (dsimp only; rw [e, List.append_nil]; rfl)
  · rintro lock t h K ⟨hf, hK⟩
    refine ⟨(i + 1, P), hf, ⟨by dsimp only; omega, by dsimp only; omega, by dsimp only; omega⟩, ?_⟩
    rintro e vs bs ⟨rfl, rfl, rfl⟩
    exact hK

theorem LQ2_ok (hw : Wf n l b) {P : List (Int × Int)} : LSound Try.prog true (.block 2 (.loop (loopB 2 (bodyOf Try.prog 16)))) 92 (LQ2 n cap l b i P) := by
  intro lock t h K hK
  unfold LQ2 at hK
  split at hK
  · obtain ⟨⟨h1, h2, h3, h4, h5, h6⟩, hK⟩ := hK
    exact LQ2_key hw h1 h3 h4 h5 h6 _ _ _ _ ⟨h2, hK⟩
  · exact hK.elim

/-- The outer loop, that begins with lists. -/
def LQ0s (n cap : Nat) (l : Int → Src) (b : Sus) : LT := fun lock t h K =>
  (FitP lock h t ⟨6, nsO2.zip (hO n l b [] [])⟩ (dsQ0.zip (VQ0 n cap 0 0 0)) ∧ okB n l b = true) ∧
    K .normal (dsQ0.zip (VQ0 n cap n (filt (fitB1 b l) n 0).length (pairsF n b l n 0).length)) ⟨6, nsO2.zip (hO n l b (filt (fitB1 b l) n 0) (pairsF n b l n 0))⟩

def OQ0 (n cap : Nat) (l : Int → Src) (b : Sus) (s : Int × List Int × List (Int × Int)) (e : VEx) (vs : List VV) (bs : List VB) : Prop :=
  e = .exit 0 ∧ ∃ S P, S = s.2.1 ++ filt (fitB1 b l) ((n : Int) - s.1).toNat s.1 ∧ P = s.2.2 ++ pairsF n b l ((n : Int) - s.1).toNat s.1 ∧ vs = VQ0 n cap n S.length P.length ∧ bs = hO n l b S P

theorem LQ0s_ok (hw : Wf n l b) : LSound Try.prog true (.block 0 (.loop (loopB 0 (bodyOf Try.prog 16)))) 92 (LQ0s n cap l b) := by
  by_cases hok : okB n l b = true
  · have hn := okB_n hok
    refine loop_rowD hmix (goodT4 hw) (lsp := fun s => tabB [(2, LQ2 n cap l b s.1 s.2.2)]) (un := 10) (ds := dsQ0) (ns := nsO2) (nx := 6) (fun s : Int × List Int × List (Int × Int) => VQ0 n cap s.1 s.2.1.length s.2.2.length) (fun s => hO n l b s.2.1 s.2.2) (fun s => 0 ≤ s.1 ∧ s.1 ≤ n ∧ (s.2.1.length : Int) ≤ s.1 ∧ (s.2.2.length : Int) ≤ 64 * s.1) (fun s => (n - s.1).toNat) (OQ0 n cap l b) ?_ ?_ ?_
    · rintro ⟨i, S, P⟩ _ id' T' hT b' hb'
      exact one_blkI (by kernel_rfl) (LQ2_ok hw) id' T' hT b' hb'
    · rintro ⟨i, S, P⟩ ⟨h0, h1, h2, h3⟩
      dsimp only at h0 h1 h2 h3
      rw [q0_ev]
      by_cases hlt : i < n
      · have hl := pairsC_len (n := n) (b := b) (l := l) (i := i) (k := i + 1)
        refine cond_dk hlt (cond_dk ⟨h0, hlt⟩ ⟨⟨rfl, by omega, by omega⟩, ?_⟩)
        simp only [Int.zero_add, eN_len0]
        refine ⟨⟨⟨trivial, trivial, trivial⟩, trivial, okI_of hok h0 hlt⟩, cond_b (fun q1 => cond_k (beq_t rfl) (cond_k (room8 (by omega)) (cond_r (by omega) ⟨⟨.inr trivial, fitP_self rfl, h0, hlt, h3, hok⟩, cond_r (by omega) ?_⟩))) (fun q1 => cond_r (by omega) ⟨⟨.inl trivial, fitP_self rfl, h0, hlt, h3, hok⟩, cond_r (by omega) ?_⟩)⟩
        · have hp : fitB1 b l i = true := q1
          refine ⟨(i + 1, S ++ [i], P ++ pairsC n b l i (i + 1)), ⟨by dsimp only; omega, by dsimp only; omega, by simp; omega, by simp; omega⟩, by dsimp only; omega, by simp [VQ0], ⟨VB.fit_refl _, VB.fit_refl _, VB.fit_refl _, VB.fit_refl _, fit_snoc S i, VB.fit_refl _, trivial⟩, ?_⟩
          rintro e vs bs ⟨rfl, S', P', rfl, rfl, rfl, rfl⟩
          refine ⟨rfl, _, _, rfl, rfl, ?_⟩
          dsimp only
          rw [filt_step (p := fitB1 b l) hlt, pairsF_step hlt, pairsC_eq, hp]
          simp
        · have hp : fitB1 b l i = false := q1
          refine ⟨(i + 1, S, P ++ pairsC n b l i (i + 1)), ⟨by dsimp only; omega, by dsimp only; omega, by dsimp only; omega, by simp; omega⟩, by dsimp only; omega, rfl, fitBs_refl _, ?_⟩
          rintro e vs bs ⟨rfl, S', P', rfl, rfl, rfl, rfl⟩
          refine ⟨rfl, _, _, rfl, rfl, ?_⟩
          dsimp only
          rw [filt_step (p := fitB1 b l) hlt, pairsF_step hlt, pairsC_eq, hp]
          simp
      · refine cond_d (fun h => absurd h hlt) (fun _ => ?_)
        have : i = n := by omega
        subst this
        refine ⟨rfl, S, P, ?_, ?_, rfl, rfl⟩
        · dsimp only; rw [filt_end (by omega), List.append_nil]
        · dsimp only
          rw [show ((n : Int) - n).toNat = 0 by omega]
          simp [pairsF]
    · rintro lock t h K ⟨⟨hf, _⟩, hK⟩
      refine ⟨(0, [], []), hf, ⟨by simp, by simp, by simp, by simp⟩, ?_⟩
      rintro e vs bs ⟨rfl, S', P', rfl, rfl, rfl, rfl⟩
      simp only [show ((n : Int) - 0).toNat = n by omega, List.nil_append]
      exact hK
  · rintro lock t h K ⟨⟨hf, hc'⟩, hK⟩
    exact (hok hc').elim

def LQ0m (n cap : Nat) (l : Int → Src) (b : Sus) : LT := fun lock t h K =>
  (FitP lock h t ⟨5, [(4, vecI []), (0, srcA n l), (1, valA n l), (2, seenA b), (3, cSu b)]⟩ [(8, .nils), (7, .sl 4 0), (9, I 0), (1, lV n cap), (2, .ptr (.own 3 0))] ∧ okB n l b = true) ∧
    K .normal (dsQ0.zip (VQ0 n cap n (filt (fitB1 b l) n 0).length (pairsF n b l n 0).length)) ⟨6, nsO2.zip (hO n l b (filt (fitB1 b l) n 0) (pairsF n b l n 0))⟩

theorem LQ0_ok (hw : Wf n l b) : LSound Try.prog true (.block 0 (.loop (loopB 0 (bodyOf Try.prog 16)))) 92 (LQ0 n cap l b) := by
  have h1 : LSound Try.prog true (.block 0 (.loop (loopB 0 (bodyOf Try.prog 16)))) 92 (LQ0m n cap l b) :=
    ghost_row (d := 8) (nx := 5) (bs := [(4, vecI []), (0, srcA n l), (1, valA n l), (2, seenA b), (3, cSu b)]) (t0 := [(7, .sl 4 0), (9, I 0), (1, lV n cap), (2, .ptr (.own 3 0))]) (fun q => [I (([] : List (Int × Int)).getD q (0, 0)).1, I (([] : List (Int × Int)).getD q (0, 0)).2]) 2 55 (LQ0s_ok hw (cap := cap)) (by
      rintro lock t h K ⟨⟨hf, hi⟩, hK⟩
      exact ⟨hf, ⟨⟨⟨rfl, rfl, VB.fit_refl _, VB.fit_refl _, VB.fit_refl _, VB.fit_refl _, VB.fit_refl _, VB.fit_refl _, trivial⟩, rfl, rfl, rfl, rfl, rfl, trivial⟩, hi⟩, hK⟩)
  exact ghost_row (d := 7) (nx := 4) (bs := [0, 1, 2, 3].zip [srcA n l, valA n l, seenA b, cSu b]) (t0 := [(8, .nils), (9, I 0), (1, lV n cap), (2, .ptr (.own 3 0))]) (fun i => [I (([] : List Int).getD i 0)]) 1 3 h1 (by
      rintro lock t h K ⟨⟨hf, hi⟩, hK⟩
      exact ⟨hf, ⟨⟨⟨rfl, rfl, VB.fit_refl _, VB.fit_refl _, VB.fit_refl _, VB.fit_refl _, VB.fit_refl _, trivial⟩, rfl, rfl, rfl, rfl, rfl, trivial⟩, hi⟩, hK⟩)

theorem or16_v (hw : Wf n l b) : CallsV Try.prog 16 [bV b, lV n cap] (bH n l b) (.ret (.tup [.sl 4 (orS n b l).length, .sl 5 (orP n b l).length, I (orE n b l)])) (hOr n b l) := by
  have hsp := spBL_ok hmix (tabs_ok (t4_ok hw)) (f := 16) (lo_one (by kernel_rfl) (LQ0_ok hw (cap := cap))) (un := 10) (fu := 20)
  obtain ⟨r, h', hQ, hc⟩ := of_sp hsp (args := [bV b, lV n cap]) (h := bH n l b) (K := fun r h' => (okB n l b = false ∧ r = .ret (.tup [.nils, .nils, I 1]) ∧ h' = ⟨4, [(3, cSu b), (0, srcA n l), (1, valA n l), (2, seenA b)]⟩) ∨
      (okB n l b = true ∧ r = .ret (.tup [.sl 4 (filt (fitB1 b l) n 0).length, .sl 5 (pairsF n b l n 0).length, I 0]) ∧ h' = ⟨6, nsO2.zip (hO n l b (filt (fitB1 b l) n 0) (pairsF n b l n 0))⟩))
    (by
      rw [f16_ev]
      refine ⟨⟨⟨rfl, rfl, rfl⟩, rfl⟩, cond_b (fun q1 => .inl ⟨?_, rfl, rfl⟩) (fun q1 => ⟨⟨⟨rfl, rfl, rfl⟩, rfl⟩, cond_b (fun q2 => .inl ⟨?_, rfl, rfl⟩) (fun q2 => ?_)⟩)⟩
      · simp at q1; simp [okB, q1]
      · simp at q2; simp [okB, q2]
      · have hok : okB n l b = true := by simp at q1 q2; simp [okB, q1, q2]
        exact ⟨⟨fitP_self rfl, hok⟩, .inr ⟨hok, rfl, rfl⟩⟩)
  unfold hOr orS orP orE
  rcases hQ with ⟨hok, rfl, rfl⟩ | ⟨hok, rfl, rfl⟩
  · rw [hok]
    exact calls_weak (two_ghosts hc) (show 3 ≤ 6 by decide) ⟨VB.fit_refl _, VB.fit_refl _, VB.fit_refl _, VB.fit_refl _, VB.fit_refl _, trivial⟩ rfl rfl
  · rw [hok]
    exact calls_weak hc (show 3 ≤ 6 by decide) ⟨VB.fit_refl _, VB.fit_refl _, VB.fit_refl _, VB.fit_refl _, VB.fit_refl _, trivial⟩ rfl rfl
end
end Go.Sx.Gen
