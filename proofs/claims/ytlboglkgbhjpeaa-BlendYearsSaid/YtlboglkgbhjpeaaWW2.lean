/- stream: Bn4 Bn5 Bo1 Bo2 Bp1 Bo3 Bp2 Bp3 Bp4 Ca1 Cb1 Cb2 Cc1 Cc2 Cc3 BbW1 BbW2 BbNd1 BbNd2 BbPt1 BbPt2 Cd1 CxRd Da1 Da2 Da3 Cd2 Da4 Da5 Db1 Db2 Db3, in one text. -/
import Derived.Test.YtlboglkgbhjpeaaWW1
import Derived.Test.YtlboglkgbhjpeaaSxRd
/- blend: the document's blend, evaluated. -/

namespace Go.Sx.Bln
open Go Go.Sx Go.Proofs
set_option maxRecDepth 1000000

end Go.Sx.Bln

/- blend: the document's blend, as a row. -/

namespace Go.Sx.Bln
open Go Go.Sx Go.Proofs
set_option maxRecDepth 1000000

section
variable {l : List Stk} {t : Tst} {y a : Int} {b : Bool} {D : List Int}

end
end Go.Sx.Bln

/- blend: the document's Blend, evaluated. -/

namespace Go.Sx.Bln
open Go Go.Sx Go.Proofs
set_option maxRecDepth 1000000

end Go.Sx.Bln

/- blend: the document's Blend, as a row. -/

namespace Go.Sx.Bln
open Go Go.Sx Go.Proofs
set_option maxRecDepth 1000000

section
variable {l : List Stk} {t : Tst} {y : Int} {D : List Int}

theorem isD_t {h : VH} {k : Nat} : isD h (k + 2) (.agg [.tl t.T.length 1 (dG t.T), I t.far, I t.least]) (.agg (tsL t)) := ⟨⟨rfl, rfl, fun _ _ => rfl⟩, ⟨rfl, rfl⟩, ⟨rfl, rfl⟩, trivial⟩

end
end Go.Sx.Bln

/- blend: great; the law BlendMade, evaluated. -/

namespace Go.Sx.Bln
open Go Go.Sx Go.Proofs
set_option maxRecDepth 1000000

def alT : FuncId × Spec1 := (16, fun _ args h K => match args with
  | [] => K (.ret (.bool true)) h
  | _ => False)

end Go.Sx.Bln

/- blend: the document's Blend, as a row. -/

namespace Go.Sx.Bln
open Go Go.Sx Go.Proofs
set_option maxRecDepth 1000000

end Go.Sx.Bln

/- blend: great, evaluated. -/

namespace Go.Sx.Bln
open Go Go.Sx Go.Proofs
set_option maxRecDepth 1000000

def dsE : List Nat := [21, 20, 19, 7, 6, 4, 0, 1, 2]
def VE (l : List Stk) (t : Tst) (m i p : Int) : List VV := [I i, I l.length, stD l, I p, .bool false, .ptr (.own 0 0), stD l, .agg (tsL t), I m]
theorem ge_ev (l : List Stk) (t : Tst) (m i p : Int) (X : VEx → List VV → List VB → Prop) : codeE Try.prog (callN Try.prog noSpec noL 10 20) (fun _ => none) true 10 (ntOf Try.prog 14) 0 (loopB 0 (bodyOf Try.prog 14)) (dsE.zip (VE l t m i p)) ⟨1, [0].zip (BJ t)⟩ (obs 1 dsE [0] X) =
  (bif decide (i < (↑l.length : Int)) then
 bif decide ((0 : Int) ≤ i ∧ i < (↑l.length : Int)) then
 bif decide ((↑(l.getD i.toNat k0).prof.length : Int) > (6 : Int)) then
 X VEx.ret [I i, I (↑l.length : Int), VV.tl l.length 5 (stG l), I p, VV.bool true, VV.ptr (VA.own 0 0), VV.tl l.length 5 (stG l), VV.agg [VV.tl t.T.length 1 (dG t.T), I t.far, I t.least], I m] [VB.cells [VV.tl t.T.length 1 (dG t.T), I t.far, I t.least] (25 : TypeId)]
 else bif inK IntKind.i64 ((1 : Int) + max (0 : Int) (min (l.getD i.toNat k0).casks (7 : Int))) then
 bif inK IntKind.i64 (p * ((1 : Int) + max (0 : Int) (min (l.getD i.toNat k0).casks (7 : Int)))) then
 bif inK IntKind.i64 (i + (1 : Int)) then
 X VEx.normal [I (i + (1 : Int)), I (↑l.length : Int), VV.tl l.length 5 (stG l), I (p * ((1 : Int) + max (0 : Int) (min (l.getD i.toNat k0).casks (7 : Int)))), VV.bool false, VV.ptr (VA.own 0 0), VV.tl l.length 5 (stG l), VV.agg [VV.tl t.T.length 1 (dG t.T), I t.far, I t.least], I m] [VB.cells [VV.tl t.T.length 1 (dG t.T), I t.far, I t.least] (25 : TypeId)]
 else False
 else False
 else False
 else False
 else X (VEx.exit 0) [I i, I (↑l.length : Int), VV.tl l.length 5 (stG l), I p, VV.bool false, VV.ptr (VA.own 0 0), VV.tl l.length 5 (stG l), VV.agg [VV.tl t.T.length 1 (dG t.T), I t.far, I t.least], I m] [VB.cells [VV.tl t.T.length 1 (dG t.T), I t.far, I t.least] (25 : TypeId)]) := by kernel_rfl

def pF (l : List Stk) : Nat → Int
  | 0 => 1
  | k + 1 => pF l k * (1 + max 0 (min (l.getD k k0).casks 7))
def anyG (l : List Stk) : Bool := (List.range l.length).any fun i => decide ((l.getD i k0).prof.length > 6)
def greatF (l : List Stk) (t : Tst) (m : Int) : Bool := decide (l.length > 8 ∨ t.T.length > 6) || anyG l || decide (pF l l.length > m)
def lE (l : List Stk) (t : Tst) (m : Int) : LT := fun lock tt h K =>
  FitP lock h tt ⟨1, [0].zip (BJ t)⟩ (dsE.zip (VE l t m 0 1)) ∧ l.length ≤ 8 ∧ (anyG l = false → K .normal (dsE.zip (VE l t m l.length (pF l l.length))) ⟨1, [0].zip (BJ t)⟩) ∧ (anyG l = true → ∀ i p : Int, K .ret (dsE.zip [I i, I l.length, stD l, I p, .bool true, .ptr (.own 0 0), stD l, .agg (tsL t), I m]) ⟨1, [0].zip (BJ t)⟩)
theorem gef_ev (l : List Stk) (t : Tst) (m : Int) (Q : VRes → Prop) : callN Try.prog noSpec (atF 14 [(0, lE l t m)]) 10 20 0 (.fn 14) [stD l, .agg (tsL t), I m] ⟨0, []⟩ (fun r h => Q r) =
  (bif decide ((↑l.length : Int) > (8 : Int)) then
 Q (VRes.ret (VV.bool true))
 else bif decide ((↑t.T.length : Int) > (6 : Int)) then
 Q (VRes.ret (VV.bool true))
 else FitP 0 (VH.mk 1 ([0].zip (BJ t))) (dsE.zip (VE l t m (0 : Int) (1 : Int))) (VH.mk 1 ([0].zip (BJ t))) (dsE.zip (VE l t m (0 : Int) (1 : Int))) ∧ l.length ≤ 8 ∧ (anyG l = false → Q (VRes.ret (VV.bool (decide (pF l l.length > m))))) ∧ (anyG l = true → ∀ (i p : Int), Q (VRes.ret (VV.bool true)))) := by kernel_rfl

end Go.Sx.Bln

/- blend: great. -/

namespace Go.Sx.Bln
open Go Go.Sx Go.Proofs
set_option maxRecDepth 1000000

section
variable {l : List Stk} {t : Tst} {m : Int}

theorem pF_bd : ∀ k, k ≤ 8 → 1 ≤ pF l k ∧ pF l k ≤ ((8 ^ k : Nat) : Int)
  | 0, _ => by simp [pF]
  | k + 1, h => by
    obtain ⟨h1, h2⟩ := pF_bd k (by omega)
    have h3 : 1 ≤ 1 + max 0 (min (l.getD k k0).casks 7) ∧ 1 + max 0 (min (l.getD k k0).casks 7) ≤ 8 := by omega
    unfold pF
    generalize 1 + max 0 (min (l.getD k k0).casks 7) = q at h3
    have h4 := mul_bd (show 0 ≤ pF l k ∧ pF l k ≤ ((8 ^ k : Nat) : Int) by omega) (show 0 ≤ q ∧ q ≤ 8 by omega)
    have h5 : pF l k * 1 ≤ pF l k * q := Int.mul_le_mul_of_nonneg_left h3.1 (by omega)
    rw [Nat.pow_succ]
    refine ⟨by omega, ?_⟩
    rw [Int.natCast_mul]
    exact h4.2

def oE (l : List Stk) (t : Tst) (m : Int) (_ : Nat) (e : VEx) (vs : List VV) (bs : List VB) : Prop :=
  bs = BJ t ∧ ((anyG l = false ∧ e = .exit 0 ∧ vs = VE l t m l.length (pF l l.length)) ∨ (anyG l = true ∧ e = .ret ∧ ∃ i p : Int, vs = [I i, I l.length, stD l, I p, .bool true, .ptr (.own 0 0), stD l, .agg (tsL t), I m]))

theorem lE_ok : LSound Try.prog true (.block 0 (.loop (loopB 0 (bodyOf Try.prog 14)))) (ntOf Try.prog 14) (lE l t m) := by
  by_cases hn : l.length ≤ 8
  · refine loop_row hmix good0 (un := 10) (ds := dsE) (ns := [0]) (nx := 1) (fun i : Nat => VE l t m i (pF l i)) (fun _ => BJ t) (fun i => i ≤ l.length ∧ ∀ j, j < i → ¬ (l.getD j k0).prof.length > 6) (fun i => l.length - i) (oE l t m) noL_ok ?_ ?_
    · rintro i ⟨h0, h1⟩
      refine cast (ge_ev l t m i _ _).symm ?_
      by_cases hlt : i < l.length
      · obtain ⟨p1, p2⟩ := pF_bd (l := l) (i + 1) (by omega)
        have p3 : (8 ^ (i + 1) : Nat) ≤ 8 ^ 8 := Nat.pow_le_pow_right (by omega) (by omega)
        have p4 : (((8 ^ (i + 1) : Nat)) : Int) ≤ 16777216 := by
          have : (8 ^ (i + 1) : Nat) ≤ 16777216 := p3
          generalize 8 ^ (i + 1) = q at this ⊢
          omega
        have hs : pF l (i + 1) = pF l i * (1 + max 0 (min (l.getD i k0).casks 7)) := rfl
        rw [hs] at p1 p2
        refine cond_dk (by omega) (cond_dk ⟨by omega, by omega⟩ ?_)
        rw [show (i : Int).toNat = i by omega]
        refine cond_d (fun g => ⟨rfl, .inr ⟨?_, rfl, _, _, rfl⟩⟩) (fun g => cond_r (by omega) (cond_r (by omega) (cond_r (by omega) ⟨i + 1, ⟨by omega, fun j hj => ?_⟩, by dsimp only; omega, rfl, fitBs_refl _, fun _ _ _ h => h⟩)))
        · unfold anyG
          rw [List.any_eq_true]
          exact ⟨i, List.mem_range.2 hlt, decide_eq_true (by omega)⟩
        · by_cases e : j = i
          · subst e; omega
          · exact h1 j (by omega)
      · obtain rfl : i = l.length := by omega
        refine cond_d (fun h => by omega) (fun _ => ⟨rfl, .inl ⟨?_, rfl, rfl⟩⟩)
        unfold anyG
        rw [List.any_eq_false]
        intro j hj
        rw [decide_eq_true_eq]
        exact h1 j (List.mem_range.1 hj)
    · rintro lock tt h K ⟨hf, _, k1, k2⟩
      refine ⟨0, hf, ⟨Nat.zero_le _, fun j hj => by omega⟩, ?_⟩
      rintro e vs bs ⟨rfl, ⟨g, rfl, rfl⟩ | ⟨g, rfl, i, p, rfl⟩⟩
      · exact k1 g
      · exact k2 g i p
  · rintro lock tt h K ⟨hf, hc, _⟩
    exact (hn hc).elim
end
end Go.Sx.Bln

/- blend: great, as a row. -/

namespace Go.Sx.Bln
open Go Go.Sx Go.Proofs
set_option maxRecDepth 1000000

theorem great_v (l : List Stk) (t : Tst) (m : Int) : ∃ h', CallsV Try.prog 14 [stD l, .agg (tsL t), I m] ⟨0, []⟩ (.ret (.bool (greatF l t m))) h' := by
  have hall : LoopsOk Try.prog 14 [(0, lE l t m)] := fun x hx => by
    simp only [List.mem_singleton] at hx
    subst hx
    exact ⟨by kernel_rfl, lE_ok⟩
  obtain ⟨r, h', rfl, hc⟩ := of_callN (callL_good hmix noSp hall (un := 10) 20) (f := 14) (args := [stD l, .agg (tsL t), I m]) (h := ⟨0, []⟩) (K := fun r _ => r = .ret (.bool (greatF l t m))) (by
    refine cast (gef_ev l t m _).symm ?_
    unfold greatF
    refine cond_d (fun h => ?_) (fun h1 => cond_d (fun h => ?_) (fun h2 => ⟨fitP_self rfl, by omega, fun h => ?_, fun h _ _ => ?_⟩))
    · rw [decide_eq_true (.inl (by omega))]; rfl
    · rw [decide_eq_true (.inr (by omega))]; rfl
    · rw [decide_eq_false (show ¬ (l.length > 8 ∨ t.T.length > 6) by omega), h]; rfl
    · rw [h]; simp)
  exact ⟨h', hc⟩
def greatT : FuncId × Spec1 := (14, fun _ args h K => match args with
  | [x, z, .int .i64 m] => ∃ (l : List Stk) (t : Tst), isD h 4 x (stD l) ∧ isD h 4 z (.agg (tsL t)) ∧ K (.ret (.bool (greatF l t m))) h
  | _ => False)
theorem greatT_ok : SpOk Try.prog greatT.1 greatT.2 := by
  intro lock args h K hK
  simp only [greatT] at hK
  split at hK
  · obtain ⟨l, t, hx, hz, hK⟩ := hK
    obtain ⟨h', hv⟩ := great_v l t _
    exact ⟨_, h, hK, lockP_refl _ _, calls_lendDP 4 hv rfl ⟨hx, hz, ⟨rfl, rfl⟩, trivial⟩⟩
  · exact hK.elim
end Go.Sx.Bln

/- blend: all choices, in their order (plain). -/

namespace Go.Sx.Bln
open Go Go.Sx Go.Proofs
set_option maxRecDepth 100000

/-- One number of a choice, turned. -/
abbrev setC (n : Nat → Int) (i : Nat) (x : Int) : Nat → Int := setF n i [x]
theorem setC_get (n : Nat → Int) (i : Nat) (x : Int) (k : Nat) : setC n i x k = if k = i then x else n k := by
  show (bif Nat.beq k i then x else n k) = _
  by_cases h : k = i
  · subst h; rw [Nat.beq_refl, if_pos rfl]; rfl
  · rw [beq_f h, if_neg h]; rfl
theorem setC_same (n : Nat → Int) (i : Nat) (x : Int) : setC n i x i = x := by rw [setC_get, if_pos rfl]
theorem setC_id {n : Nat → Int} {i : Nat} {x : Int} (h : n i = x) : setC n i x = n := by
  funext k
  rw [setC_get]
  split
  · rename_i e; rw [e, h]
  · rfl
theorem setC_set (n : Nat → Int) (i : Nat) (x y : Int) : setC (setC n i x) i y = setC n i y := by
  funext k
  rw [setC_get, setC_get, setC_get]
  split <;> rfl

/-- The choice behind one; none behind the last. -/
def nxtC (most : Nat → Int) : Nat → (Nat → Int) → Option (Nat → Int)
  | 0, _ => none
  | k + 1, n => if n k = most k then nxtC most k (setC n k 0) else some (setC n k (n k + 1))
def rowC (most : Nat → Int) (k : Nat) (c : Nat → Int) : List (Nat → Int) := (List.range ((most k).toNat + 1)).map fun (a : Nat) => setC c k a
/-- All choices. -/
def allC (most : Nat → Int) : Nat → List (Nat → Int)
  | 0 => [fun _ => 0]
  | k + 1 => (allC most k).flatMap (rowC most k)

/-- Each is behind the one ahead of it, and none behind the last. -/
def Run (nx : (Nat → Int) → Option (Nat → Int)) : List (Nat → Int) → Prop
  | [] => True
  | [x] => nx x = none
  | x :: y :: r => nx x = some y ∧ Run nx (y :: r)

theorem run_get {nx : (Nat → Int) → Option (Nat → Int)} : ∀ {L : List (Nat → Int)}, Run nx L → ∀ (j : Nat) (x : Nat → Int), L[j]? = some x → nx x = L[j + 1]?
  | [], _, j, x, h => by simp at h
  | [y], hr, j, x, h => by
    cases j with
    | zero => simp at h; subst h; rw [hr]; rfl
    | succ j => simp at h
  | y :: z :: r, ⟨h1, h2⟩, j, x, h => by
    cases j with
    | zero => simp at h; subst h; rw [h1]; rfl
    | succ j => exact run_get h2 j x (by simpa using h)

theorem run_cons {nx : (Nat → Int) → Option (Nat → Int)} {x : Nat → Int} {T : List (Nat → Int)} (h : nx x = T.head?) (hT : Run nx T) : Run nx (x :: T) := by
  cases T with
  | nil => exact h
  | cons y r => exact ⟨h, hT⟩

section
variable {most : Nat → Int} {k : Nat}

theorem run_row {c : Nat → Int} (hc : c k = 0) (hm : 0 ≤ most k) {T : List (Nat → Int)} (hn : nxtC most k c = T.head?) (hT : Run (nxtC most (k + 1)) T) :
    ∀ (m a : Nat), a + m = (most k).toNat → Run (nxtC most (k + 1)) (((List.range' a (m + 1)).map fun (a : Nat) => setC c k a) ++ T)
  | 0, a, h => by
    refine run_cons ?_ hT
    show nxtC most (k + 1) (setC c k a) = _
    unfold nxtC
    rw [setC_same, if_pos (by omega), setC_set, setC_id hc]
    exact hn
  | m + 1, a, h => by
    have ih := run_row hc hm hn hT m (a + 1) (by omega)
    refine run_cons ?_ ih
    show nxtC most (k + 1) (setC c k a) = _
    unfold nxtC
    rw [setC_same, if_neg (by omega), setC_set]
    rfl

theorem row_head {c : Nat → Int} (hc : c k = 0) {r : List (Nat → Int)} : (rowC most k c ++ r).head? = some c := by
  unfold rowC
  rw [List.range_eq_range']
  show some (setC c k ((0 : Nat) : Int)) = _
  rw [setC_id (x := ((0 : Nat) : Int)) hc]

theorem run_flat (hm : 0 ≤ most k) : ∀ {L : List (Nat → Int)}, (∀ c ∈ L, c k = 0) → Run (nxtC most k) L → Run (nxtC most (k + 1)) (L.flatMap (rowC most k))
  | [], _, _ => trivial
  | [c], hc, hr => by
    have := run_row (T := []) (hc c (by simp)) hm hr trivial (most k).toNat 0 (by omega)
    rw [List.flatMap_cons, List.flatMap_nil]
    unfold rowC
    rw [List.range_eq_range']
    exact this
  | c :: d :: r, hc, ⟨h1, h2⟩ => by
    have ih := run_flat hm (L := d :: r) (fun x hx => hc x (List.mem_cons_of_mem _ hx)) h2
    have := run_row (T := (d :: r).flatMap (rowC most k)) (hc c (by simp)) hm (by
      rw [h1, List.flatMap_cons, row_head (hc d (by simp))]) ih (most k).toNat 0 (by omega)
    rw [List.flatMap_cons]
    have e : rowC most k c = (List.range' 0 ((most k).toNat + 1)).map fun (a : Nat) => setC c k a := by unfold rowC; rw [List.range_eq_range']
    rw [e]
    exact this

/-- What the choices are. -/
theorem all_mem (hm : ∀ i, i < k → 0 ≤ most i) {c : Nat → Int} : c ∈ allC most k ↔ (∀ i, i < k → 0 ≤ c i ∧ c i ≤ most i) ∧ ∀ i, k ≤ i → c i = 0 := by
  induction k generalizing c with
  | zero =>
    unfold allC
    rw [List.mem_singleton]
    constructor
    · rintro rfl; exact ⟨fun i h => by omega, fun _ _ => rfl⟩
    · rintro ⟨_, h⟩; funext i; exact h i (Nat.zero_le _)
  | succ k ih =>
    have ih' := fun {c} => ih (fun i hi => hm i (by omega)) (c := c)
    unfold allC
    rw [List.mem_flatMap]
    constructor
    · rintro ⟨d, hd, hc⟩
      obtain ⟨h1, h2⟩ := ih'.1 hd
      unfold rowC at hc
      rw [List.mem_map] at hc
      obtain ⟨a, ha, rfl⟩ := hc
      rw [List.mem_range] at ha
      have := hm k (by omega)
      refine ⟨fun i hi => ?_, fun i hi => ?_⟩
      · rw [setC_get]
        split
        · rename_i e; subst e; omega
        · exact h1 i (by omega)
      · rw [setC_get, if_neg (by omega)]
        exact h2 i (by omega)
    · rintro ⟨h1, h2⟩
      refine ⟨setC c k 0, ih'.2 ⟨fun i hi => ?_, fun i hi => ?_⟩, ?_⟩
      · rw [setC_get, if_neg (by omega)]; exact h1 i (by omega)
      · rw [setC_get]
        split
        · rfl
        · exact h2 i (by omega)
      · unfold rowC
        rw [List.mem_map]
        obtain ⟨g1, g2⟩ := h1 k (by omega)
        refine ⟨(c k).toNat, List.mem_range.2 (by omega), ?_⟩
        rw [setC_set]
        exact setC_id (by omega)

theorem all_run : ∀ k : Nat, (∀ i, i < k → 0 ≤ most i) → Run (nxtC most k) (allC most k)
  | 0, _ => rfl
  | k + 1, h => by
    have h' := fun i (hi : i < k) => h i (by omega)
    exact run_flat (h k (by omega)) (fun c hc => ((all_mem h').1 hc).2 k (Nat.le_refl _)) (all_run k h')

theorem all_head : ∀ k : Nat, (∀ i, i < k → 0 ≤ most i) → (allC most k).head? = some (fun _ => 0)
  | 0, _ => rfl
  | k + 1, h => by
    have h' := fun i (hi : i < k) => h i (by omega)
    have ih := all_head k h'
    unfold allC
    cases hL : allC most k with
    | nil => rw [hL] at ih; cases ih
    | cons c r =>
      rw [hL] at ih
      cases ih
      rw [List.flatMap_cons, row_head (c := fun _ => 0) (k := k) rfl]

/-- The choice number j. -/
def chAt (most : Nat → Int) (k j : Nat) : Nat → Int := (allC most k).getD j (fun _ => 0)
theorem chAt_zero (h : ∀ i, i < k → 0 ≤ most i) : chAt most k 0 = fun _ => 0 := by
  have := all_head k h
  unfold chAt
  cases hL : allC most k with
  | nil => rfl
  | cons c r => rw [hL] at this; cases this; rfl
theorem all_pos (h : ∀ i, i < k → 0 ≤ most i) : 0 < (allC most k).length := by
  have := all_head k h
  cases hL : allC most k with
  | nil => rw [hL] at this; cases this
  | cons c r => simp
theorem chAt_mem {j : Nat} (hj : j < (allC most k).length) : chAt most k j ∈ allC most k := by
  unfold chAt
  rw [List.getD_eq_getElem?_getD, List.getElem?_eq_getElem hj]
  exact List.getElem_mem _
theorem chAt_next (h : ∀ i, i < k → 0 ≤ most i) {j : Nat} (hj : j < (allC most k).length) :
    (j + 1 = (allC most k).length ∧ nxtC most k (chAt most k j) = none) ∨ (j + 1 < (allC most k).length ∧ nxtC most k (chAt most k j) = some (chAt most k (j + 1))) := by
  have := run_get (all_run k h) j (chAt most k j) (by unfold chAt; rw [List.getD_eq_getElem?_getD, List.getElem?_eq_getElem hj]; rfl)
  by_cases hl : j + 1 < (allC most k).length
  · right
    refine ⟨hl, ?_⟩
    rw [this]
    unfold chAt
    rw [List.getD_eq_getElem?_getD, List.getElem?_eq_getElem hl]
    rfl
  · left
    refine ⟨by omega, ?_⟩
    rw [this]
    exact List.getElem?_eq_none (by omega)
end
end Go.Sx.Bln

/- blend: casks, meets, list, evaluated. -/

namespace Go.Sx.Bln
open Go Go.Sx Go.Proofs
set_option maxRecDepth 1000000

def mostF (l : List Stk) (i : Nat) : Int := (l.getD i k0).casks
def dsCk : List Nat := [10, 9, 8, 2, 0]
def VCk (l : List Stk) (t : Tst) (i : Int) : List VV := [I i, I l.length, stD l, .ptr (.own 0 0), .tp (stD l :: tsL t)]
theorem ck_ev (l : List Stk) (t : Tst) (i : Int) (g : Nat → Int) (X : VEx → List VV → List VB → Prop) : codeE Try.prog (callN Try.prog noSpec noL 10 20) (fun _ => none) true 10 (ntOf Try.prog 45) 0 (loopB 0 (bodyOf Try.prog 45)) (dsCk.zip (VCk l t i)) ⟨1, [0].zip [.fam [] 6 g 80]⟩ (obs 1 dsCk [0] X) =
  (bif decide (i < (↑l.length : Int)) then
 bif decide ((0 : Int) ≤ i ∧ i < (↑l.length : Int)) then
 bif decide ((0 : Int) ≤ i ∧ i < (↑6 : Int)) then
 bif decide (i.toNat * (1) + (1) ≤ 6) then
 bif inK IntKind.i64 (i + (1 : Int)) then
 X VEx.normal [I (i + (1 : Int)), I (↑l.length : Int), VV.tl l.length 5 (stG l), VV.ptr (VA.own 0 0), VV.tp [VV.tl l.length 5 (stG l), VV.tl t.T.length 1 (dG t.T), I t.far, I t.least]] [VB.fam [] 6 (setF g (i.toNat * (1)) [(l.getD i.toNat k0).casks]) (80 : TypeId)]
 else False
 else False
 else False
 else False
 else X (VEx.exit 0) [I i, I (↑l.length : Int), VV.tl l.length 5 (stG l), VV.ptr (VA.own 0 0), VV.tp [VV.tl l.length 5 (stG l), VV.tl t.T.length 1 (dG t.T), I t.far, I t.least]] [VB.fam [] 6 g (80 : TypeId)]) := by kernel_rfl

theorem li_ev (n : Nat → Int) (m : Nat) (Q : VRes → VH → Prop) : callN Try.prog noSpec noL 10 20 0 (.fn 46) [.agg (nL n), I m] ⟨0, []⟩ (fun r h => Q r h) =
  (bif decide ((0 : Int) ≤ (0 : Int) ∧ (0 : Int) ≤ (↑m : Int) ∧ (↑m : Int) ≤ (↑6 : Int)) then
 bif decide (Int.toNat (0 : Int) * (1) + ((↑m : Int) - (0 : Int)).toNat ≤ 6) then
 bif roomB (0 + ((↑m : Int) - (0 : Int)).toNat) (8) then
 Q (VRes.ret (VV.sl (1) (0 + ((↑m : Int) - (0 : Int)).toNat))) (VH.mk (2) [(1, VB.vec (0 + ((↑m : Int) - (0 : Int)).toNat) (catG 0 (fun j => List.take (1) (List.drop (j * (1)) [])) fun j => [I ((fun k => [n 0, n 1, n 2, n 3, n 4, n 5].getD k (0 : Int)) (Int.toNat (0 : Int) * (1) + j))]) (1) 3), (1, VB.vec 0 (fun j => List.take (1) (List.drop (j * (1)) [])) (1) 3), (0, VB.fam [] (6) (fun k => [n 0, n 1, n 2, n 3, n 4, n 5].getD k (0 : Int)) 80)])
 else False
 else False
 else False) := by kernel_rfl

theorem me_ev (l : List Stk) (t : Tst) (n : Nat → Int) (y m : Int) (Q : VRes → Prop) : callN Try.prog (tabS [volT, blT]) noL 10 20 0 (.fn 42) [.tp (stD l :: tsL t), .agg (nL n), I y, I m] ⟨0, []⟩ (fun r h => Q r) =
  (∃ l_1 t_1 n_1, isD (VH.mk (0 + 1) [(0, VB.fam [] (6) (fun k => [n 0, n 1, n 2, n 3, n 4, n 5].getD k (0 : Int)) 80)]) 4 (VV.tp (stD l :: tsL t)) (VV.tp (stD l_1 :: tsL t_1)) ∧ [I ((fun k => [n 0, n 1, n 2, n 3, n 4, n 5].getD k (0 : Int)) (0 + 0)), I ((fun k => [n 0, n 1, n 2, n 3, n 4, n 5].getD k (0 : Int)) (0 + 1)), I ((fun k => [n 0, n 1, n 2, n 3, n 4, n 5].getD k (0 : Int)) (0 + 2)), I ((fun k => [n 0, n 1, n 2, n 3, n 4, n 5].getD k (0 : Int)) (0 + 3)), I ((fun k => [n 0, n 1, n 2, n 3, n 4, n 5].getD k (0 : Int)) (0 + 4)), I ((fun k => [n 0, n 1, n 2, n 3, n 4, n 5].getD k (0 : Int)) (0 + 5))] = nL n_1 ∧ nB n_1 ∧ lB l_1 ∧ bif decide (m = (0 : Int)) then
 Q (VRes.ret (VV.bool (decide (sumF (tmV l_1 n_1) l_1.length = (0 : Int)))))
 else bif decide (sumF (tmV l_1 n_1) l_1.length < m) then
 Q (VRes.ret (VV.bool false))
 else ∃ l_2 t_2 n_2, isD (VH.mk (0 + 1) [(0, VB.fam [] (6) (fun k => [n 0, n 1, n 2, n 3, n 4, n 5].getD k (0 : Int)) 80)]) 4 (VV.tp (stD l :: tsL t)) (VV.tp (stD l_2 :: tsL t_2)) ∧ [I ((fun k => [n 0, n 1, n 2, n 3, n 4, n 5].getD k (0 : Int)) (0 + 0)), I ((fun k => [n 0, n 1, n 2, n 3, n 4, n 5].getD k (0 : Int)) (0 + 1)), I ((fun k => [n 0, n 1, n 2, n 3, n 4, n 5].getD k (0 : Int)) (0 + 2)), I ((fun k => [n 0, n 1, n 2, n 3, n 4, n 5].getD k (0 : Int)) (0 + 3)), I ((fun k => [n 0, n 1, n 2, n 3, n 4, n 5].getD k (0 : Int)) (0 + 4)), I ((fun k => [n 0, n 1, n 2, n 3, n 4, n 5].getD k (0 : Int)) (0 + 5))] = nL n_2 ∧ (conB l_2 t_2 n_2 ∧ (0 : Int) ≤ y ∧ y ≤ (1000 : Int)) ∧ ∀ (V : Vt), V = vtF l_2 t_2 n_2 y → Q (VRes.ret (VV.bool V.k))) := by kernel_rfl

def lCk (l : List Stk) (t : Tst) : LT := fun lock tt h K =>
  FitP lock h tt ⟨1, [0].zip [.fam [] 6 (fun _ => 0) 80]⟩ (dsCk.zip (VCk l t 0)) ∧ l.length ≤ 6 ∧ K .normal (dsCk.zip (VCk l t l.length)) ⟨1, [0].zip [.fam [] 6 (mostF l) 80]⟩
theorem ckf_ev (l : List Stk) (t : Tst) (Q : VRes → Prop) : callN Try.prog noSpec (atF 45 [(0, lCk l t)]) 10 20 0 (.fn 45) [.tp (stD l :: tsL t)] ⟨0, []⟩ (fun r h => Q r) =
  (FitP 0 (VH.mk 1 ([0].zip [VB.fam [] 6 (fun x => (0 : Int)) (80 : TypeId)])) (dsCk.zip (VCk l t (0 : Int))) (VH.mk 1 ([0].zip [VB.fam [] 6 (fun x => (0 : Int)) (80 : TypeId)])) (dsCk.zip (VCk l t (0 : Int))) ∧ l.length ≤ 6 ∧ Q (VRes.ret (VV.agg [I (setF (mostF l) 0 [mostF l (0 + 0), mostF l (0 + 1), mostF l (0 + 2), mostF l (0 + 3), mostF l (0 + 4), mostF l (0 + 5)] (0 + 0)), I (setF (mostF l) 0 [mostF l (0 + 0), mostF l (0 + 1), mostF l (0 + 2), mostF l (0 + 3), mostF l (0 + 4), mostF l (0 + 5)] (0 + 1)), I (setF (mostF l) 0 [mostF l (0 + 0), mostF l (0 + 1), mostF l (0 + 2), mostF l (0 + 3), mostF l (0 + 4), mostF l (0 + 5)] (0 + 2)), I (setF (mostF l) 0 [mostF l (0 + 0), mostF l (0 + 1), mostF l (0 + 2), mostF l (0 + 3), mostF l (0 + 4), mostF l (0 + 5)] (0 + 3)), I (setF (mostF l) 0 [mostF l (0 + 0), mostF l (0 + 1), mostF l (0 + 2), mostF l (0 + 3), mostF l (0 + 4), mostF l (0 + 5)] (0 + 4)), I (setF (mostF l) 0 [mostF l (0 + 0), mostF l (0 + 1), mostF l (0 + 2), mostF l (0 + 3), mostF l (0 + 4), mostF l (0 + 5)] (0 + 5))]))) := by kernel_rfl

/-- Does a choice meet a need? -/
def meetsF (l : List Stk) (t : Tst) (n : Nat → Int) (y m : Int) : Bool := if m = 0 then decide (volF l n = 0) else !decide (volF l n < m) && (vtF l t n y).k
def casksT : FuncId × Spec1 := (45, fun _ args h K => match args with
  | [c] => ∃ (l : List Stk) (t : Tst), isD h 4 c (.tp (stD l :: tsL t)) ∧ l.length ≤ 6 ∧ K (.ret (.agg (nL (mostF l)))) h
  | _ => False)
def meetsT : FuncId × Spec1 := (42, fun _ args h K => match args with
  | [c, .agg ns, .int .i64 y, .int .i64 m] => ∃ (l : List Stk) (t : Tst) (n : Nat → Int), isD h 4 c (.tp (stD l :: tsL t)) ∧ ns = nL n ∧ (conB l t n ∧ 0 ≤ y ∧ y ≤ 1000) ∧ K (.ret (.bool (meetsF l t n y m))) h
  | _ => False)
def chG (n : Nat → Int) (j : Nat) : List VV := [I (n j)]
def listT : FuncId × Spec1 := (46, fun _ args h K => match args with
  | [.agg ns, .int .i64 m'] => ∃ (n : Nat → Int) (m : Nat), ns = nL n ∧ m' = m ∧ m ≤ 6 ∧ K (.ret (.tl m 1 (chG n))) h
  | _ => False)

end Go.Sx.Bln

/- blend: casks, meets, list. -/

namespace Go.Sx.Bln
open Go Go.Sx Go.Proofs
set_option maxRecDepth 1000000

section
variable {l : List Stk} {t : Tst} {n : Nat → Int}

theorem mostF_ge {i : Nat} (h : l.length ≤ i) : mostF l i = 0 := by
  unfold mostF
  rw [List.getD_eq_getElem?_getD, List.getElem?_eq_none h]
  rfl

def ckF (l : List Stk) (k : Nat) : Nat → Int := fun i => if i < k then mostF l i else 0
theorem ckF_s {k : Nat} : setC (ckF l k) k (mostF l k) = ckF l (k + 1) := by
  funext i
  rw [setC_get]
  unfold ckF
  by_cases h : i = k
  · subst h; rw [if_pos rfl, if_pos (by omega)]
  · rw [if_neg h]
    by_cases h2 : i < k
    · rw [if_pos h2, if_pos (by omega)]
    · rw [if_neg h2, if_neg (by omega)]
theorem ckF_all : ckF l l.length = mostF l := by
  funext i
  unfold ckF
  split
  · rfl
  · rename_i h
    rw [mostF_ge (by omega)]

theorem lCk_ok : LSound Try.prog true (.block 0 (.loop (loopB 0 (bodyOf Try.prog 45)))) (ntOf Try.prog 45) (lCk l t) := by
  by_cases hn : l.length ≤ 6
  · refine loop_row hmix good0 (un := 10) (ds := dsCk) (ns := [0]) (nx := 1) (fun i : Nat => VCk l t i) (fun i => [.fam [] 6 (ckF l i) 80]) (fun i => i ≤ l.length) (fun i => l.length - i) (fun _ e vs bs => e = .exit 0 ∧ bs = [.fam [] 6 (mostF l) 80] ∧ vs = VCk l t l.length) noL_ok ?_ ?_
    · rintro i h0
      refine cast (ck_ev l t i _ _).symm ?_
      by_cases hlt : i < l.length
      · refine cond_dk (by omega) (cond_dk ⟨by omega, by omega⟩ (cond_dk ⟨by omega, by omega⟩ (cond_dk (by omega) (cond_r (by omega) ⟨i + 1, by omega, by dsimp only; omega, rfl, ?_, fun _ _ _ h => h⟩))))
        rw [show (i : Int).toNat = i by omega, Nat.mul_one]
        dsimp only
        rw [← ckF_s]
        exact fitBs_refl _
      · obtain rfl : i = l.length := by omega
        refine cond_d (fun h => by omega) (fun _ => ⟨rfl, ?_, rfl⟩)
        rw [ckF_all]
    · rintro lock tt h K ⟨hf, _, k1⟩
      refine ⟨0, hf, Nat.zero_le _, ?_⟩
      rintro e vs bs ⟨rfl, rfl, rfl⟩
      exact k1
  · rintro lock tt h K ⟨hf, hc, _⟩
    exact (hn hc).elim

theorem casks_v (hn : l.length ≤ 6) : ∃ h', CallsV Try.prog 45 [.tp (stD l :: tsL t)] ⟨0, []⟩ (.ret (.agg (nL (mostF l)))) h' := by
  have hall : LoopsOk Try.prog 45 [(0, lCk l t)] := fun x hx => by
    simp only [List.mem_singleton] at hx
    subst hx
    exact ⟨by kernel_rfl, lCk_ok⟩
  obtain ⟨r, h', rfl, hc⟩ := of_callN (callL_good hmix noSp hall (un := 10) 20) (f := 45) (args := [.tp (stD l :: tsL t)]) (h := ⟨0, []⟩) (K := fun r _ => r = .ret (.agg (nL (mostF l)))) (by
    refine cast (ckf_ev l t _).symm ?_
    exact ⟨fitP_self rfl, hn, rfl⟩)
  exact ⟨h', hc⟩
theorem casksT_ok : SpOk Try.prog casksT.1 casksT.2 := by
  intro lock args h K hK
  simp only [casksT] at hK
  split at hK
  · obtain ⟨l, t, hc, hn, hK⟩ := hK
    obtain ⟨h', hv⟩ := casks_v (t := t) hn
    exact ⟨_, h, hK, lockP_refl _ _, calls_lendDP 4 hv rfl ⟨hc, trivial⟩⟩
  · exact hK.elim

theorem vb_tab : ∀ f T, tabS [volT, blT] f = some T → SpOk Try.prog f T := tab_ok _ (fun x hx => by
  simp only [List.mem_cons, List.not_mem_nil, or_false] at hx
  rcases hx with rfl | rfl
  · exact volT_ok
  · exact blT_ok)
theorem meets_v {y m : Int} (hh : conB l t n) (hy : 0 ≤ y ∧ y ≤ 1000) : ∃ h', CallsV Try.prog 42 [.tp (stD l :: tsL t), .agg (nL n), I y, I m] ⟨0, []⟩ (.ret (.bool (meetsF l t n y m))) h' := by
  obtain ⟨r, h', rfl, hc⟩ := of_callN (noL_good vb_tab) (f := 42) (args := [.tp (stD l :: tsL t), .agg (nL n), I y, I m]) (h := ⟨0, []⟩) (K := fun r _ => r = .ret (.bool (meetsF l t n y m))) (by
    refine cast (me_ev l t n y m _).symm ⟨l, t, n, rfl, rfl, hh.1, hh.2.1, ?_⟩
    unfold meetsF
    refine cond_d (fun h => ?_) (fun h1 => cond_d (fun h => ?_) (fun h2 => ⟨l, t, n, rfl, rfl, ⟨hh, hy⟩, ?_⟩))
    · rw [if_pos h]
    · rw [if_neg h1, decide_eq_true h]; rfl
    · rintro V rfl
      rw [if_neg h1, decide_eq_false h2]; rfl)
  exact ⟨h', hc⟩
theorem meetsT_ok : SpOk Try.prog meetsT.1 meetsT.2 := by
  intro lock args h K hK
  simp only [meetsT] at hK
  split at hK
  · obtain ⟨l, t, n, hc, rfl, ⟨hh, hy⟩, hK⟩ := hK
    obtain ⟨h', hv⟩ := meets_v hh hy
    exact ⟨_, h, hK, lockP_refl _ _, calls_lendDP 4 hv rfl ⟨hc, isD_nL, ⟨rfl, rfl⟩, ⟨rfl, rfl⟩, trivial⟩⟩
  · exact hK.elim

theorem li_get {m j : Nat} (hm : m ≤ 6) (hj : j < m) : chG n j = [I ((ch n).getD j 0)] := by
  rw [ch_get (by omega)]; rfl
theorem list_v {m : Nat} (hm : m ≤ 6) : CallsV Try.prog 46 [.agg (nL n), I m] ⟨0, []⟩ (.ret (.sl 1 m)) ⟨2, [(1, .vec m (chG n) 1 3)]⟩ := by
  obtain ⟨r, h', ⟨rfl, h1⟩, hc⟩ := of_callN good0 (f := 46) (args := [.agg (nL n), I m]) (h := ⟨0, []⟩) (K := fun r h' => r = .ret (.sl 1 m) ∧ (VB.vec m (chG n) 1 3).fit (h'.at 1)) (by
    refine cast (li_ev n m _).symm ?_
    have e : ((m : Int) - 0).toNat = m := by omega
    refine cond_dk (by omega) (cond_dk (by omega) (cond_k ?_ ⟨?_, ?_⟩))
    · rw [e]
      unfold roomB
      simp only [Bool.and_eq_true, Nat.ble_eq]
      omega
    · rw [e, Nat.zero_add]
    · rw [e]
      refine ⟨Nat.zero_add m, rfl, rfl, fun j hj => ?_⟩
      rw [li_get hm hj]
      show catG 0 _ _ j = _
      unfold catG
      rw [blt_f (by omega), Nat.sub_zero]
      show [I ((ch n).getD (0 * 1 + j) 0)] = _
      rw [Nat.zero_mul, Nat.zero_add])
  exact calls_weak hc (Nat.zero_le _) ⟨h1, trivial⟩ rfl rfl
theorem listT_ok : SpOk Try.prog listT.1 listT.2 := by
  intro lock args h K hK
  simp only [listT] at hK
  split at hK
  · obtain ⟨n, m, rfl, rfl, hm, hK⟩ := hK
    exact ⟨_, _, hK, lockP_refl _ _, calls_lift0 (calls_tell (list_v (n := n) hm) rfl (fun R R' x _ hv hx => hv x hx)) rfl rfl⟩
  · exact hK.elim
end
end Go.Sx.Bln

/- blend: Cheapest, evaluated. -/

namespace Go.Sx.Bln
open Go Go.Sx Go.Proofs
set_option maxRecDepth 1000000

def rfOf : Code → Option (Code × Code)
  | .rangeFunc _ _ ac bd => some (ac, bd)
  | .seq a b => match rfOf a with
    | some r => some r
    | none => rfOf b
  | .block _ b => rfOf b
  | _ => none
def rfAs (P : Program) (f : FuncId) : Code := match rfOf (bodyOf P f) with
  | some (ac, _) => ac
  | none => .skip
def rfBd (P : Program) (f : FuncId) : Code := match rfOf (bodyOf P f) with
  | some (_, bd) => bd
  | none => .skip
noncomputable def asC : Code := rfAs Try.prog 18
noncomputable def bdC : Code := rfBd Try.prog 18
def slC (l : List Stk) (t : Tst) (y m : Int) (w : Bool) : Slots := [(38, VV.func 74 [] [VV.ptr (VA.own (9) 0), VV.ptr (VA.own (10) 0)]), (37, VV.agg (nL (mostF l))), (36, VV.ptr (VA.own (6) 0)), (35, VV.ptr (VA.own (6) 0)), (12, VV.ptr (VA.own (8) 0)), (34, VV.func 42 [VV.ptr (VA.own (6) 0)] []), (33, VV.ptr (VA.own (6) 0)), (11, VV.ptr (VA.own (7) 0)), (32, VV.ptr (VA.own (6) 0)), (31, VV.agg [VV.tl l.length 5 (stG l), VV.tl t.T.length 1 (dG t.T), I t.far, I t.least]), (30, VV.agg [VV.tl t.T.length 1 (dG t.T), I t.far, I t.least]), (29, VV.tl l.length 5 (stG l)), (20, VV.bool false), (20, VV.bool !decide (m ≤ (1048576 : Int))), (28, VV.bool !decide (m ≤ (1048576 : Int))), (27, VV.bool !decide (m ≤ (1048576 : Int))), (24, VV.bool false), (26, VV.bool (decide (m ≤ (1048576 : Int)))), (24, VV.bool false), (25, I m), (24, VV.bool false), (24, VV.bool !decide (y ≤ (100 : Int))), (23, VV.bool !decide (y ≤ (100 : Int))), (22, VV.bool (decide (y ≤ (100 : Int)))), (21, I y), (15, VV.bool false), (15, VV.bool !w), (19, VV.bool !w), (18, VV.bool w), (17, VV.agg [VV.tl t.T.length 1 (dG t.T), I t.far, I t.least]), (16, VV.tl l.length 5 (stG l)), (10, I 0), (9, VV.ptr (VA.own (5) 0)), (8, VV.ptr (VA.own (4) 0)), (7, VV.ptr (VA.own (3) 0)), (6, VV.ptr (VA.own (2) 0)), (5, VV.ptr (VA.own (1) 0)), (4, VV.ptr (VA.own 0 0)), (0, stD l), (1, VV.agg (tsL t)), (2, I y), (3, I m)]
noncomputable def recC (l : List Stk) (t : Tst) (y m : Int) (w : Bool) : VB := .loop true none (slC l t y m w) 66 [39] asC bdC
def dsC : List Nat := [4, 0, 1, 2]
def VC : List VV := [.ptr (.own 12 0), .yld 11, .ptr (.own 9 0), .ptr (.own 10 0)]
def nsC : List Nat := [0, 1, 2, 3, 4, 5, 6, 7, 8, 9, 10, 11, 12]
noncomputable def BC (l : List Stk) (t : Tst) (y m : Int) (w : Bool) (best : VV) (least : Int) (n : Nat → Int) : List VB := [.cells [stD l] 22, .cells (tsL t) 25, .cells [I y] 3, .cells [I m] 3, .cells [best] 23, .cells [I least] 3, .cells (stD l :: tsL t) 74, .cells [.ptr (.own 6 0)] 72, .cells [.func 42 [.ptr (.own 6 0)] []] 86, .cells [.ptr (.own 6 0)] 72, faN (mostF l), recC l t y m w, .fam [] 6 n 80]
def bV (L : Nat) : Option (Nat → Int) → VV
  | none => .nils
  | some c => .tl L 1 (chG c)
def asR (l : List Stk) (t : Tst) : FuncId × Spec1 := (38, fun _ args h K => match args with
  | [x, y] => isD h 2 x (stD l) ∧ isD h 2 y (.agg (tsL t)) ∧ K (.ret (.bool (okAll l t))) h
  | _ => False)
def casksR (l : List Stk) (t : Tst) : FuncId × Spec1 := (45, fun _ args h K => match args with
  | [c] => isD h 4 c (.tp (stD l :: tsL t)) ∧ l.length ≤ 6 ∧ K (.ret (.agg (nL (mostF l)))) h
  | _ => False)
def costR (l : List Stk) (t : Tst) : FuncId × Spec1 := (49, fun _ args h K => match args with
  | [c, .agg ns] => ∃ (n : Nat → Int), isD h 4 c (.tp (stD l :: tsL t)) ∧ ns = nL n ∧ nB n ∧ lB l ∧ K (.ret (I (costF l n))) h
  | _ => False)
def meetsR (l : List Stk) (t : Tst) : FuncId × Spec1 := (42, fun _ args h K => match args with
  | [c, .agg ns, .int .i64 y, .int .i64 m] => ∃ (n : Nat → Int), isD h 4 c (.tp (stD l :: tsL t)) ∧ ns = nL n ∧ (conB l t n ∧ 0 ≤ y ∧ y ≤ 1000) ∧ K (.ret (.bool (meetsF l t n y m))) h
  | _ => False)
/-- The number of a choice that is turned next (one more; 0: none), and the choice, with 0 behind it. -/
def scanC (most : Nat → Int) : Nat → (Nat → Int) → Nat × (Nat → Int)
  | 0, n => (0, n)
  | k + 1, n => if n k = most k then scanC most k (setC n k 0) else (k + 1, n)
def dsI : List Nat := [5, 4, 0, 1, 2]
def VI (i : Int) : List VV := [I i, .ptr (.own 12 0), .yld 11, .ptr (.own 9 0), .ptr (.own 10 0)]
theorem in_ev (l : List Stk) (t : Tst) (y m : Int) (w : Bool) (b : Option (Nat → Int)) (least i : Int) (n : Nat → Int) (X : VEx → List VV → List VB → Prop) : codeE Try.prog (callN Try.prog noSpec noL 10 20) (fun _ => none) true 10 (ntOf Try.prog 74) 0 (loopB 2 (bodyOf Try.prog 74)) (dsI.zip (VI i)) ⟨14, nsC.zip (BC l t y m w (bV l.length b) least n)⟩ (obs 14 dsI nsC X) =
  (bif decide (i ≥ (0 : Int)) then
 bif decide ((0 : Int) ≤ i ∧ i < (↑6 : Int)) then
 bif decide (i.toNat * (1) < 6) then
 bif decide ((0 : Int) ≤ i ∧ i < (↑6 : Int)) then
 bif decide (i.toNat * (1) < 6) then
 bif decide (n (i.toNat * (1)) = (fun (k : Nat) => (ch (mostF l)).getD k (0 : Int)) (i.toNat * (1))) then
 bif decide ((0 : Int) ≤ i ∧ i < (↑6 : Int)) then
 bif decide (i.toNat * (1) + (1) ≤ 6) then
 bif inK IntKind.i64 (i - (1 : Int)) then
 bif belBs 14 (List.map (VH.mk 14 ((12, VB.fam [] 6 (setF n (i.toNat * (1)) [(0 : Int)]) (80 : TypeId)) :: nsC.zip (BC l t y m w (bV l.length b) least n))).at nsC) && VEx.bel 14 VEx.normal then
 X VEx.normal [I (i - (1 : Int)), VV.ptr (VA.own 12 0), VV.yld 11, VV.ptr (VA.own 9 0), VV.ptr (VA.own 10 0)] [VB.cells [VV.tl l.length 5 (stG l)] (22 : TypeId), VB.cells [VV.tl t.T.length 1 (dG t.T), I t.far, I t.least] (25 : TypeId), VB.cells [I y] (3 : TypeId), VB.cells [I m] (3 : TypeId), VB.cells [bV l.length b] (23 : TypeId), VB.cells [I least] (3 : TypeId), VB.cells [VV.tl l.length 5 (stG l), VV.tl t.T.length 1 (dG t.T), I t.far, I t.least] (74 : TypeId), VB.cells [VV.ptr (VA.own 6 0)] (72 : TypeId), VB.cells [VV.func (42 : FuncId) [VV.ptr (VA.own 6 0)] []] (86 : TypeId), VB.cells [VV.ptr (VA.own 6 0)] (72 : TypeId), VB.fam [] 6 (fun (k : Nat) => (ch (mostF l)).getD k (0 : Int)) (80 : TypeId), VB.loop true none (slC l t y m w) 66 [39] asC bdC, VB.fam [] 6 (setF n (i.toNat * (1)) [(0 : Int)]) (80 : TypeId)]
 else False
 else False
 else False
 else False
 else bif belBs 14 (List.map (VH.mk 14 (nsC.zip (BC l t y m w (bV l.length b) least n))).at nsC) && VEx.bel 14 (VEx.exit 2) then
 X (VEx.exit 2) [I i, VV.ptr (VA.own 12 0), VV.yld 11, VV.ptr (VA.own 9 0), VV.ptr (VA.own 10 0)] [VB.cells [VV.tl l.length 5 (stG l)] (22 : TypeId), VB.cells [VV.tl t.T.length 1 (dG t.T), I t.far, I t.least] (25 : TypeId), VB.cells [I y] (3 : TypeId), VB.cells [I m] (3 : TypeId), VB.cells [bV l.length b] (23 : TypeId), VB.cells [I least] (3 : TypeId), VB.cells [VV.tl l.length 5 (stG l), VV.tl t.T.length 1 (dG t.T), I t.far, I t.least] (74 : TypeId), VB.cells [VV.ptr (VA.own 6 0)] (72 : TypeId), VB.cells [VV.func (42 : FuncId) [VV.ptr (VA.own 6 0)] []] (86 : TypeId), VB.cells [VV.ptr (VA.own 6 0)] (72 : TypeId), VB.fam [] 6 (fun (k : Nat) => (ch (mostF l)).getD k (0 : Int)) (80 : TypeId), VB.loop true none (slC l t y m w) 66 [39] asC bdC, VB.fam [] 6 n (80 : TypeId)]
 else False
 else False
 else False
 else False
 else False
 else bif belBs 14 (List.map (VH.mk 14 (nsC.zip (BC l t y m w (bV l.length b) least n))).at nsC) && VEx.bel 14 (VEx.exit 2) then
 X (VEx.exit 2) [I i, VV.ptr (VA.own 12 0), VV.yld 11, VV.ptr (VA.own 9 0), VV.ptr (VA.own 10 0)] [VB.cells [VV.tl l.length 5 (stG l)] (22 : TypeId), VB.cells [VV.tl t.T.length 1 (dG t.T), I t.far, I t.least] (25 : TypeId), VB.cells [I y] (3 : TypeId), VB.cells [I m] (3 : TypeId), VB.cells [bV l.length b] (23 : TypeId), VB.cells [I least] (3 : TypeId), VB.cells [VV.tl l.length 5 (stG l), VV.tl t.T.length 1 (dG t.T), I t.far, I t.least] (74 : TypeId), VB.cells [VV.ptr (VA.own 6 0)] (72 : TypeId), VB.cells [VV.func (42 : FuncId) [VV.ptr (VA.own 6 0)] []] (86 : TypeId), VB.cells [VV.ptr (VA.own 6 0)] (72 : TypeId), VB.fam [] 6 (fun (k : Nat) => (ch (mostF l)).getD k (0 : Int)) (80 : TypeId), VB.loop true none (slC l t y m w) 66 [39] asC bdC, VB.fam [] 6 n (80 : TypeId)]
 else False) := by kernel_rfl

noncomputable def lI (l : List Stk) (t : Tst) (y m : Int) (w : Bool) : LT := fun lock tt h K =>
  ∃ b least n, FitP lock h tt ⟨14, nsC.zip (BC l t y m w (bV l.length b) least n)⟩ (dsI.zip (VI (l.length - 1))) ∧ l.length ≤ 6 ∧ ∀ (k : Nat) (n' : Nat → Int), scanC (mostF l) l.length n = (k, n') → K .normal (dsI.zip (VI (k - 1))) ⟨14, nsC.zip (BC l t y m w (bV l.length b) least n')⟩
theorem cr_ev (l : List Stk) (t : Tst) (y m : Int) (w : Bool) (b : Option (Nat → Int)) (least : Int) (n : Nat → Int) (X : VEx → List VV → List VB → Prop) : codeE Try.prog (callN Try.prog (tabS [costR l t, meetsR l t, listT]) noL 10 20) (tabB [(2, lI l t y m w)]) true 10 (ntOf Try.prog 74) 0 (loopB 0 (bodyOf Try.prog 74)) (dsC.zip VC) ⟨13, nsC.zip (BC l t y m w (bV l.length b) least n)⟩ (obs 13 dsC nsC X) =
  (∃ (n_1 : Nat → Int), isD (VH.mk (14) ((11, VB.gone) :: (13, VB.fam [] (6) (setF (fun (_ : Nat) => (0 : Int)) 0 [n (0 + 0), n (0 + 1), n (0 + 2), n (0 + 3), n (0 + 4), n (0 + 5)]) 80) :: (13, VB.fam [] (6) (fun (_ : Nat) => (0 : Int)) 80) :: nsC.zip (BC l t y m w (bV l.length b) least n))) 4 (VV.ptr (VA.own 6 0)) (VV.tp (stD l :: tsL t)) ∧ [I (setF (fun (_ : Nat) => (0 : Int)) 0 [n (0 + 0), n (0 + 1), n (0 + 2), n (0 + 3), n (0 + 4), n (0 + 5)] (0 + 0)), I (setF (fun (_ : Nat) => (0 : Int)) 0 [n (0 + 0), n (0 + 1), n (0 + 2), n (0 + 3), n (0 + 4), n (0 + 5)] (0 + 1)), I (setF (fun (_ : Nat) => (0 : Int)) 0 [n (0 + 0), n (0 + 1), n (0 + 2), n (0 + 3), n (0 + 4), n (0 + 5)] (0 + 2)), I (setF (fun (_ : Nat) => (0 : Int)) 0 [n (0 + 0), n (0 + 1), n (0 + 2), n (0 + 3), n (0 + 4), n (0 + 5)] (0 + 3)), I (setF (fun (_ : Nat) => (0 : Int)) 0 [n (0 + 0), n (0 + 1), n (0 + 2), n (0 + 3), n (0 + 4), n (0 + 5)] (0 + 4)), I (setF (fun (_ : Nat) => (0 : Int)) 0 [n (0 + 0), n (0 + 1), n (0 + 2), n (0 + 3), n (0 + 4), n (0 + 5)] (0 + 5))] = nL n_1 ∧ nB n_1 ∧ lB l ∧ bif decide (least < (0 : Int)) then
 ∃ (n_2 : Nat → Int), isD (VH.mk (14) ((11, VB.gone) :: (13, VB.fam [] (6) (setF (fun (_ : Nat) => (0 : Int)) 0 [n (0 + 0), n (0 + 1), n (0 + 2), n (0 + 3), n (0 + 4), n (0 + 5)]) 80) :: (13, VB.fam [] (6) (fun (_ : Nat) => (0 : Int)) 80) :: nsC.zip (BC l t y m w (bV l.length b) least n))) 4 (VV.ptr (VA.own 6 0)) (VV.tp (stD l :: tsL t)) ∧ [I (setF (fun (_ : Nat) => (0 : Int)) 0 [n (0 + 0), n (0 + 1), n (0 + 2), n (0 + 3), n (0 + 4), n (0 + 5)] (0 + 0)), I (setF (fun (_ : Nat) => (0 : Int)) 0 [n (0 + 0), n (0 + 1), n (0 + 2), n (0 + 3), n (0 + 4), n (0 + 5)] (0 + 1)), I (setF (fun (_ : Nat) => (0 : Int)) 0 [n (0 + 0), n (0 + 1), n (0 + 2), n (0 + 3), n (0 + 4), n (0 + 5)] (0 + 2)), I (setF (fun (_ : Nat) => (0 : Int)) 0 [n (0 + 0), n (0 + 1), n (0 + 2), n (0 + 3), n (0 + 4), n (0 + 5)] (0 + 3)), I (setF (fun (_ : Nat) => (0 : Int)) 0 [n (0 + 0), n (0 + 1), n (0 + 2), n (0 + 3), n (0 + 4), n (0 + 5)] (0 + 4)), I (setF (fun (_ : Nat) => (0 : Int)) 0 [n (0 + 0), n (0 + 1), n (0 + 2), n (0 + 3), n (0 + 4), n (0 + 5)] (0 + 5))] = nL n_2 ∧ (conB l t n_2 ∧ (0 : Int) ≤ y ∧ y ≤ (1000 : Int)) ∧ bif meetsF l t n_2 y m then
 ∃ (n_3 : Nat → Int), ∃ (m_1 : Nat), [I (setF (fun (_ : Nat) => (0 : Int)) 0 [n (0 + 0), n (0 + 1), n (0 + 2), n (0 + 3), n (0 + 4), n (0 + 5)] (0 + 0)), I (setF (fun (_ : Nat) => (0 : Int)) 0 [n (0 + 0), n (0 + 1), n (0 + 2), n (0 + 3), n (0 + 4), n (0 + 5)] (0 + 1)), I (setF (fun (_ : Nat) => (0 : Int)) 0 [n (0 + 0), n (0 + 1), n (0 + 2), n (0 + 3), n (0 + 4), n (0 + 5)] (0 + 2)), I (setF (fun (_ : Nat) => (0 : Int)) 0 [n (0 + 0), n (0 + 1), n (0 + 2), n (0 + 3), n (0 + 4), n (0 + 5)] (0 + 3)), I (setF (fun (_ : Nat) => (0 : Int)) 0 [n (0 + 0), n (0 + 1), n (0 + 2), n (0 + 3), n (0 + 4), n (0 + 5)] (0 + 4)), I (setF (fun (_ : Nat) => (0 : Int)) 0 [n (0 + 0), n (0 + 1), n (0 + 2), n (0 + 3), n (0 + 4), n (0 + 5)] (0 + 5))] = nL n_3 ∧ (↑l.length : Int) = (↑m_1 : Int) ∧ m_1 ≤ 6 ∧ bif inK IntKind.i64 ((↑l.length : Int) - (1 : Int)) then
 ∃ (b_1 : Option (Nat → Int)), ∃ (least_1 : Int), ∃ (n_4 : Nat → Int), FitP 0 (VH.mk (14) ((11, VB.loop true none (slC l t y m w) 66 [39] asC bdC) :: (5, VB.cells [I (costF l n_1)] (3 : TypeId)) :: (4, VB.cells [VV.tl m_1 1 (chG n_3)] (23 : TypeId)) :: (11, VB.gone) :: (13, VB.fam [] (6) (setF (fun (_ : Nat) => (0 : Int)) 0 [n (0 + 0), n (0 + 1), n (0 + 2), n (0 + 3), n (0 + 4), n (0 + 5)]) 80) :: (13, VB.fam [] (6) (fun (_ : Nat) => (0 : Int)) 80) :: nsC.zip (BC l t y m w (bV l.length b) least n))) ((5, I ((↑l.length : Int) - (1 : Int))) :: (15, I ((↑l.length : Int) - (1 : Int))) :: (14, I (↑l.length : Int)) :: (13, VV.tl l.length 5 (stG l)) :: (12, VV.ptr (VA.own 6 0)) :: (11, VV.ptr (VA.own 6 0)) :: (10, VV.ptr (VA.own 6 0)) :: (9, VV.bool false) :: (9, VV.bool !true) :: (8, VV.bool true) :: (7, VV.agg [I (n (0 + 0)), I (n (0 + 1)), I (n (0 + 2)), I (n (0 + 3)), I (n (0 + 4)), I (n (0 + 5))]) :: (6, VV.yld 11) :: dsC.zip VC) (VH.mk 14 (nsC.zip (BC l t y m w (bV l.length b_1) least_1 n_4))) (dsI.zip (VI ((↑l.length : Int) - (1 : Int)))) ∧ l.length ≤ 6 ∧ ∀ (k : Nat) (n' : Nat → Int), scanC (mostF l) l.length n_4 = (k, n') → bif decide ((↑k : Int) - (1 : Int) < (0 : Int)) then
 bif belBs 13 (List.map (VH.mk 14 (nsC.zip (BC l t y m w (bV l.length b_1) least_1 n'))).at nsC) && VEx.bel 13 VEx.ret then
 X VEx.ret [VV.ptr (VA.own 12 0), VV.yld 11, VV.ptr (VA.own 9 0), VV.ptr (VA.own 10 0)] [VB.cells [VV.tl l.length 5 (stG l)] (22 : TypeId), VB.cells [VV.tl t.T.length 1 (dG t.T), I t.far, I t.least] (25 : TypeId), VB.cells [I y] (3 : TypeId), VB.cells [I m] (3 : TypeId), VB.cells [bV l.length b_1] (23 : TypeId), VB.cells [I least_1] (3 : TypeId), VB.cells [VV.tl l.length 5 (stG l), VV.tl t.T.length 1 (dG t.T), I t.far, I t.least] (74 : TypeId), VB.cells [VV.ptr (VA.own 6 0)] (72 : TypeId), VB.cells [VV.func (42 : FuncId) [VV.ptr (VA.own 6 0)] []] (86 : TypeId), VB.cells [VV.ptr (VA.own 6 0)] (72 : TypeId), VB.fam [] 6 (fun (k : Nat) => (ch (mostF l)).getD k (0 : Int)) (80 : TypeId), VB.loop true none (slC l t y m w) 66 [39] asC bdC, VB.fam [] 6 n' (80 : TypeId)]
 else False
 else bif decide ((0 : Int) ≤ (↑k : Int) - (1 : Int) ∧ (↑k : Int) - (1 : Int) < (↑6 : Int)) then
 bif decide (((↑k : Int) - (1 : Int)).toNat * (1) < 6) then
 bif inK IntKind.i64 (n' (((↑k : Int) - (1 : Int)).toNat * (1)) + (1 : Int)) then
 bif decide ((0 : Int) ≤ (↑k : Int) - (1 : Int) ∧ (↑k : Int) - (1 : Int) < (↑6 : Int)) then
 bif decide (((↑k : Int) - (1 : Int)).toNat * (1) + (1) ≤ 6) then
 bif belBs 13 (List.map (VH.mk 14 ((12, VB.fam [] 6 (setF n' (((↑k : Int) - (1 : Int)).toNat * (1)) [n' (((↑k : Int) - (1 : Int)).toNat * (1)) + (1 : Int)]) (80 : TypeId)) :: nsC.zip (BC l t y m w (bV l.length b_1) least_1 n'))).at nsC) && VEx.bel 13 VEx.normal then
 X VEx.normal [VV.ptr (VA.own 12 0), VV.yld 11, VV.ptr (VA.own 9 0), VV.ptr (VA.own 10 0)] [VB.cells [VV.tl l.length 5 (stG l)] (22 : TypeId), VB.cells [VV.tl t.T.length 1 (dG t.T), I t.far, I t.least] (25 : TypeId), VB.cells [I y] (3 : TypeId), VB.cells [I m] (3 : TypeId), VB.cells [bV l.length b_1] (23 : TypeId), VB.cells [I least_1] (3 : TypeId), VB.cells [VV.tl l.length 5 (stG l), VV.tl t.T.length 1 (dG t.T), I t.far, I t.least] (74 : TypeId), VB.cells [VV.ptr (VA.own 6 0)] (72 : TypeId), VB.cells [VV.func (42 : FuncId) [VV.ptr (VA.own 6 0)] []] (86 : TypeId), VB.cells [VV.ptr (VA.own 6 0)] (72 : TypeId), VB.fam [] 6 (fun (k : Nat) => (ch (mostF l)).getD k (0 : Int)) (80 : TypeId), VB.loop true none (slC l t y m w) 66 [39] asC bdC, VB.fam [] 6 (setF n' (((↑k : Int) - (1 : Int)).toNat * (1)) [n' (((↑k : Int) - (1 : Int)).toNat * (1)) + (1 : Int)]) (80 : TypeId)]
 else False
 else False
 else False
 else False
 else False
 else False
 else False
 else bif inK IntKind.i64 ((↑l.length : Int) - (1 : Int)) then
 ∃ (b_1 : Option (Nat → Int)), ∃ (least_1 : Int), ∃ (n_3 : Nat → Int), FitP 0 (VH.mk (14) ((11, VB.loop true none (slC l t y m w) 66 [39] asC bdC) :: (11, VB.gone) :: (13, VB.fam [] (6) (setF (fun (_ : Nat) => (0 : Int)) 0 [n (0 + 0), n (0 + 1), n (0 + 2), n (0 + 3), n (0 + 4), n (0 + 5)]) 80) :: (13, VB.fam [] (6) (fun (_ : Nat) => (0 : Int)) 80) :: nsC.zip (BC l t y m w (bV l.length b) least n))) ((5, I ((↑l.length : Int) - (1 : Int))) :: (15, I ((↑l.length : Int) - (1 : Int))) :: (14, I (↑l.length : Int)) :: (13, VV.tl l.length 5 (stG l)) :: (12, VV.ptr (VA.own 6 0)) :: (11, VV.ptr (VA.own 6 0)) :: (10, VV.ptr (VA.own 6 0)) :: (9, VV.bool false) :: (9, VV.bool !true) :: (8, VV.bool true) :: (7, VV.agg [I (n (0 + 0)), I (n (0 + 1)), I (n (0 + 2)), I (n (0 + 3)), I (n (0 + 4)), I (n (0 + 5))]) :: (6, VV.yld 11) :: dsC.zip VC) (VH.mk 14 (nsC.zip (BC l t y m w (bV l.length b_1) least_1 n_3))) (dsI.zip (VI ((↑l.length : Int) - (1 : Int)))) ∧ l.length ≤ 6 ∧ ∀ (k : Nat) (n' : Nat → Int), scanC (mostF l) l.length n_3 = (k, n') → bif decide ((↑k : Int) - (1 : Int) < (0 : Int)) then
 bif belBs 13 (List.map (VH.mk 14 (nsC.zip (BC l t y m w (bV l.length b_1) least_1 n'))).at nsC) && VEx.bel 13 VEx.ret then
 X VEx.ret [VV.ptr (VA.own 12 0), VV.yld 11, VV.ptr (VA.own 9 0), VV.ptr (VA.own 10 0)] [VB.cells [VV.tl l.length 5 (stG l)] (22 : TypeId), VB.cells [VV.tl t.T.length 1 (dG t.T), I t.far, I t.least] (25 : TypeId), VB.cells [I y] (3 : TypeId), VB.cells [I m] (3 : TypeId), VB.cells [bV l.length b_1] (23 : TypeId), VB.cells [I least_1] (3 : TypeId), VB.cells [VV.tl l.length 5 (stG l), VV.tl t.T.length 1 (dG t.T), I t.far, I t.least] (74 : TypeId), VB.cells [VV.ptr (VA.own 6 0)] (72 : TypeId), VB.cells [VV.func (42 : FuncId) [VV.ptr (VA.own 6 0)] []] (86 : TypeId), VB.cells [VV.ptr (VA.own 6 0)] (72 : TypeId), VB.fam [] 6 (fun (k : Nat) => (ch (mostF l)).getD k (0 : Int)) (80 : TypeId), VB.loop true none (slC l t y m w) 66 [39] asC bdC, VB.fam [] 6 n' (80 : TypeId)]
 else False
 else bif decide ((0 : Int) ≤ (↑k : Int) - (1 : Int) ∧ (↑k : Int) - (1 : Int) < (↑6 : Int)) then
 bif decide (((↑k : Int) - (1 : Int)).toNat * (1) < 6) then
 bif inK IntKind.i64 (n' (((↑k : Int) - (1 : Int)).toNat * (1)) + (1 : Int)) then
 bif decide ((0 : Int) ≤ (↑k : Int) - (1 : Int) ∧ (↑k : Int) - (1 : Int) < (↑6 : Int)) then
 bif decide (((↑k : Int) - (1 : Int)).toNat * (1) + (1) ≤ 6) then
 bif belBs 13 (List.map (VH.mk 14 ((12, VB.fam [] 6 (setF n' (((↑k : Int) - (1 : Int)).toNat * (1)) [n' (((↑k : Int) - (1 : Int)).toNat * (1)) + (1 : Int)]) (80 : TypeId)) :: nsC.zip (BC l t y m w (bV l.length b_1) least_1 n'))).at nsC) && VEx.bel 13 VEx.normal then
 X VEx.normal [VV.ptr (VA.own 12 0), VV.yld 11, VV.ptr (VA.own 9 0), VV.ptr (VA.own 10 0)] [VB.cells [VV.tl l.length 5 (stG l)] (22 : TypeId), VB.cells [VV.tl t.T.length 1 (dG t.T), I t.far, I t.least] (25 : TypeId), VB.cells [I y] (3 : TypeId), VB.cells [I m] (3 : TypeId), VB.cells [bV l.length b_1] (23 : TypeId), VB.cells [I least_1] (3 : TypeId), VB.cells [VV.tl l.length 5 (stG l), VV.tl t.T.length 1 (dG t.T), I t.far, I t.least] (74 : TypeId), VB.cells [VV.ptr (VA.own 6 0)] (72 : TypeId), VB.cells [VV.func (42 : FuncId) [VV.ptr (VA.own 6 0)] []] (86 : TypeId), VB.cells [VV.ptr (VA.own 6 0)] (72 : TypeId), VB.fam [] 6 (fun (k : Nat) => (ch (mostF l)).getD k (0 : Int)) (80 : TypeId), VB.loop true none (slC l t y m w) 66 [39] asC bdC, VB.fam [] 6 (setF n' (((↑k : Int) - (1 : Int)).toNat * (1)) [n' (((↑k : Int) - (1 : Int)).toNat * (1)) + (1 : Int)]) (80 : TypeId)]
 else False
 else False
 else False
 else False
 else False
 else False
 else False
 else bif decide (costF l n_1 < least) then
 ∃ (n_2 : Nat → Int), isD (VH.mk (14) ((11, VB.gone) :: (13, VB.fam [] (6) (setF (fun (_ : Nat) => (0 : Int)) 0 [n (0 + 0), n (0 + 1), n (0 + 2), n (0 + 3), n (0 + 4), n (0 + 5)]) 80) :: (13, VB.fam [] (6) (fun (_ : Nat) => (0 : Int)) 80) :: nsC.zip (BC l t y m w (bV l.length b) least n))) 4 (VV.ptr (VA.own 6 0)) (VV.tp (stD l :: tsL t)) ∧ [I (setF (fun (_ : Nat) => (0 : Int)) 0 [n (0 + 0), n (0 + 1), n (0 + 2), n (0 + 3), n (0 + 4), n (0 + 5)] (0 + 0)), I (setF (fun (_ : Nat) => (0 : Int)) 0 [n (0 + 0), n (0 + 1), n (0 + 2), n (0 + 3), n (0 + 4), n (0 + 5)] (0 + 1)), I (setF (fun (_ : Nat) => (0 : Int)) 0 [n (0 + 0), n (0 + 1), n (0 + 2), n (0 + 3), n (0 + 4), n (0 + 5)] (0 + 2)), I (setF (fun (_ : Nat) => (0 : Int)) 0 [n (0 + 0), n (0 + 1), n (0 + 2), n (0 + 3), n (0 + 4), n (0 + 5)] (0 + 3)), I (setF (fun (_ : Nat) => (0 : Int)) 0 [n (0 + 0), n (0 + 1), n (0 + 2), n (0 + 3), n (0 + 4), n (0 + 5)] (0 + 4)), I (setF (fun (_ : Nat) => (0 : Int)) 0 [n (0 + 0), n (0 + 1), n (0 + 2), n (0 + 3), n (0 + 4), n (0 + 5)] (0 + 5))] = nL n_2 ∧ (conB l t n_2 ∧ (0 : Int) ≤ y ∧ y ≤ (1000 : Int)) ∧ bif meetsF l t n_2 y m then
 ∃ (n_3 : Nat → Int), ∃ (m_1 : Nat), [I (setF (fun (_ : Nat) => (0 : Int)) 0 [n (0 + 0), n (0 + 1), n (0 + 2), n (0 + 3), n (0 + 4), n (0 + 5)] (0 + 0)), I (setF (fun (_ : Nat) => (0 : Int)) 0 [n (0 + 0), n (0 + 1), n (0 + 2), n (0 + 3), n (0 + 4), n (0 + 5)] (0 + 1)), I (setF (fun (_ : Nat) => (0 : Int)) 0 [n (0 + 0), n (0 + 1), n (0 + 2), n (0 + 3), n (0 + 4), n (0 + 5)] (0 + 2)), I (setF (fun (_ : Nat) => (0 : Int)) 0 [n (0 + 0), n (0 + 1), n (0 + 2), n (0 + 3), n (0 + 4), n (0 + 5)] (0 + 3)), I (setF (fun (_ : Nat) => (0 : Int)) 0 [n (0 + 0), n (0 + 1), n (0 + 2), n (0 + 3), n (0 + 4), n (0 + 5)] (0 + 4)), I (setF (fun (_ : Nat) => (0 : Int)) 0 [n (0 + 0), n (0 + 1), n (0 + 2), n (0 + 3), n (0 + 4), n (0 + 5)] (0 + 5))] = nL n_3 ∧ (↑l.length : Int) = (↑m_1 : Int) ∧ m_1 ≤ 6 ∧ bif inK IntKind.i64 ((↑l.length : Int) - (1 : Int)) then
 ∃ (b_1 : Option (Nat → Int)), ∃ (least_1 : Int), ∃ (n_4 : Nat → Int), FitP 0 (VH.mk (14) ((11, VB.loop true none (slC l t y m w) 66 [39] asC bdC) :: (5, VB.cells [I (costF l n_1)] (3 : TypeId)) :: (4, VB.cells [VV.tl m_1 1 (chG n_3)] (23 : TypeId)) :: (11, VB.gone) :: (13, VB.fam [] (6) (setF (fun (_ : Nat) => (0 : Int)) 0 [n (0 + 0), n (0 + 1), n (0 + 2), n (0 + 3), n (0 + 4), n (0 + 5)]) 80) :: (13, VB.fam [] (6) (fun (_ : Nat) => (0 : Int)) 80) :: nsC.zip (BC l t y m w (bV l.length b) least n))) ((5, I ((↑l.length : Int) - (1 : Int))) :: (15, I ((↑l.length : Int) - (1 : Int))) :: (14, I (↑l.length : Int)) :: (13, VV.tl l.length 5 (stG l)) :: (12, VV.ptr (VA.own 6 0)) :: (11, VV.ptr (VA.own 6 0)) :: (10, VV.ptr (VA.own 6 0)) :: (9, VV.bool false) :: (9, VV.bool !true) :: (8, VV.bool true) :: (7, VV.agg [I (n (0 + 0)), I (n (0 + 1)), I (n (0 + 2)), I (n (0 + 3)), I (n (0 + 4)), I (n (0 + 5))]) :: (6, VV.yld 11) :: dsC.zip VC) (VH.mk 14 (nsC.zip (BC l t y m w (bV l.length b_1) least_1 n_4))) (dsI.zip (VI ((↑l.length : Int) - (1 : Int)))) ∧ l.length ≤ 6 ∧ ∀ (k : Nat) (n' : Nat → Int), scanC (mostF l) l.length n_4 = (k, n') → bif decide ((↑k : Int) - (1 : Int) < (0 : Int)) then
 bif belBs 13 (List.map (VH.mk 14 (nsC.zip (BC l t y m w (bV l.length b_1) least_1 n'))).at nsC) && VEx.bel 13 VEx.ret then
 X VEx.ret [VV.ptr (VA.own 12 0), VV.yld 11, VV.ptr (VA.own 9 0), VV.ptr (VA.own 10 0)] [VB.cells [VV.tl l.length 5 (stG l)] (22 : TypeId), VB.cells [VV.tl t.T.length 1 (dG t.T), I t.far, I t.least] (25 : TypeId), VB.cells [I y] (3 : TypeId), VB.cells [I m] (3 : TypeId), VB.cells [bV l.length b_1] (23 : TypeId), VB.cells [I least_1] (3 : TypeId), VB.cells [VV.tl l.length 5 (stG l), VV.tl t.T.length 1 (dG t.T), I t.far, I t.least] (74 : TypeId), VB.cells [VV.ptr (VA.own 6 0)] (72 : TypeId), VB.cells [VV.func (42 : FuncId) [VV.ptr (VA.own 6 0)] []] (86 : TypeId), VB.cells [VV.ptr (VA.own 6 0)] (72 : TypeId), VB.fam [] 6 (fun (k : Nat) => (ch (mostF l)).getD k (0 : Int)) (80 : TypeId), VB.loop true none (slC l t y m w) 66 [39] asC bdC, VB.fam [] 6 n' (80 : TypeId)]
 else False
 else bif decide ((0 : Int) ≤ (↑k : Int) - (1 : Int) ∧ (↑k : Int) - (1 : Int) < (↑6 : Int)) then
 bif decide (((↑k : Int) - (1 : Int)).toNat * (1) < 6) then
 bif inK IntKind.i64 (n' (((↑k : Int) - (1 : Int)).toNat * (1)) + (1 : Int)) then
 bif decide ((0 : Int) ≤ (↑k : Int) - (1 : Int) ∧ (↑k : Int) - (1 : Int) < (↑6 : Int)) then
 bif decide (((↑k : Int) - (1 : Int)).toNat * (1) + (1) ≤ 6) then
 bif belBs 13 (List.map (VH.mk 14 ((12, VB.fam [] 6 (setF n' (((↑k : Int) - (1 : Int)).toNat * (1)) [n' (((↑k : Int) - (1 : Int)).toNat * (1)) + (1 : Int)]) (80 : TypeId)) :: nsC.zip (BC l t y m w (bV l.length b_1) least_1 n'))).at nsC) && VEx.bel 13 VEx.normal then
 X VEx.normal [VV.ptr (VA.own 12 0), VV.yld 11, VV.ptr (VA.own 9 0), VV.ptr (VA.own 10 0)] [VB.cells [VV.tl l.length 5 (stG l)] (22 : TypeId), VB.cells [VV.tl t.T.length 1 (dG t.T), I t.far, I t.least] (25 : TypeId), VB.cells [I y] (3 : TypeId), VB.cells [I m] (3 : TypeId), VB.cells [bV l.length b_1] (23 : TypeId), VB.cells [I least_1] (3 : TypeId), VB.cells [VV.tl l.length 5 (stG l), VV.tl t.T.length 1 (dG t.T), I t.far, I t.least] (74 : TypeId), VB.cells [VV.ptr (VA.own 6 0)] (72 : TypeId), VB.cells [VV.func (42 : FuncId) [VV.ptr (VA.own 6 0)] []] (86 : TypeId), VB.cells [VV.ptr (VA.own 6 0)] (72 : TypeId), VB.fam [] 6 (fun (k : Nat) => (ch (mostF l)).getD k (0 : Int)) (80 : TypeId), VB.loop true none (slC l t y m w) 66 [39] asC bdC, VB.fam [] 6 (setF n' (((↑k : Int) - (1 : Int)).toNat * (1)) [n' (((↑k : Int) - (1 : Int)).toNat * (1)) + (1 : Int)]) (80 : TypeId)]
 else False
 else False
 else False
 else False
 else False
 else False
 else False
 else bif inK IntKind.i64 ((↑l.length : Int) - (1 : Int)) then
 ∃ (b_1 : Option (Nat → Int)), ∃ (least_1 : Int), ∃ (n_3 : Nat → Int), FitP 0 (VH.mk (14) ((11, VB.loop true none (slC l t y m w) 66 [39] asC bdC) :: (11, VB.gone) :: (13, VB.fam [] (6) (setF (fun (_ : Nat) => (0 : Int)) 0 [n (0 + 0), n (0 + 1), n (0 + 2), n (0 + 3), n (0 + 4), n (0 + 5)]) 80) :: (13, VB.fam [] (6) (fun (_ : Nat) => (0 : Int)) 80) :: nsC.zip (BC l t y m w (bV l.length b) least n))) ((5, I ((↑l.length : Int) - (1 : Int))) :: (15, I ((↑l.length : Int) - (1 : Int))) :: (14, I (↑l.length : Int)) :: (13, VV.tl l.length 5 (stG l)) :: (12, VV.ptr (VA.own 6 0)) :: (11, VV.ptr (VA.own 6 0)) :: (10, VV.ptr (VA.own 6 0)) :: (9, VV.bool false) :: (9, VV.bool !true) :: (8, VV.bool true) :: (7, VV.agg [I (n (0 + 0)), I (n (0 + 1)), I (n (0 + 2)), I (n (0 + 3)), I (n (0 + 4)), I (n (0 + 5))]) :: (6, VV.yld 11) :: dsC.zip VC) (VH.mk 14 (nsC.zip (BC l t y m w (bV l.length b_1) least_1 n_3))) (dsI.zip (VI ((↑l.length : Int) - (1 : Int)))) ∧ l.length ≤ 6 ∧ ∀ (k : Nat) (n' : Nat → Int), scanC (mostF l) l.length n_3 = (k, n') → bif decide ((↑k : Int) - (1 : Int) < (0 : Int)) then
 bif belBs 13 (List.map (VH.mk 14 (nsC.zip (BC l t y m w (bV l.length b_1) least_1 n'))).at nsC) && VEx.bel 13 VEx.ret then
 X VEx.ret [VV.ptr (VA.own 12 0), VV.yld 11, VV.ptr (VA.own 9 0), VV.ptr (VA.own 10 0)] [VB.cells [VV.tl l.length 5 (stG l)] (22 : TypeId), VB.cells [VV.tl t.T.length 1 (dG t.T), I t.far, I t.least] (25 : TypeId), VB.cells [I y] (3 : TypeId), VB.cells [I m] (3 : TypeId), VB.cells [bV l.length b_1] (23 : TypeId), VB.cells [I least_1] (3 : TypeId), VB.cells [VV.tl l.length 5 (stG l), VV.tl t.T.length 1 (dG t.T), I t.far, I t.least] (74 : TypeId), VB.cells [VV.ptr (VA.own 6 0)] (72 : TypeId), VB.cells [VV.func (42 : FuncId) [VV.ptr (VA.own 6 0)] []] (86 : TypeId), VB.cells [VV.ptr (VA.own 6 0)] (72 : TypeId), VB.fam [] 6 (fun (k : Nat) => (ch (mostF l)).getD k (0 : Int)) (80 : TypeId), VB.loop true none (slC l t y m w) 66 [39] asC bdC, VB.fam [] 6 n' (80 : TypeId)]
 else False
 else bif decide ((0 : Int) ≤ (↑k : Int) - (1 : Int) ∧ (↑k : Int) - (1 : Int) < (↑6 : Int)) then
 bif decide (((↑k : Int) - (1 : Int)).toNat * (1) < 6) then
 bif inK IntKind.i64 (n' (((↑k : Int) - (1 : Int)).toNat * (1)) + (1 : Int)) then
 bif decide ((0 : Int) ≤ (↑k : Int) - (1 : Int) ∧ (↑k : Int) - (1 : Int) < (↑6 : Int)) then
 bif decide (((↑k : Int) - (1 : Int)).toNat * (1) + (1) ≤ 6) then
 bif belBs 13 (List.map (VH.mk 14 ((12, VB.fam [] 6 (setF n' (((↑k : Int) - (1 : Int)).toNat * (1)) [n' (((↑k : Int) - (1 : Int)).toNat * (1)) + (1 : Int)]) (80 : TypeId)) :: nsC.zip (BC l t y m w (bV l.length b_1) least_1 n'))).at nsC) && VEx.bel 13 VEx.normal then
 X VEx.normal [VV.ptr (VA.own 12 0), VV.yld 11, VV.ptr (VA.own 9 0), VV.ptr (VA.own 10 0)] [VB.cells [VV.tl l.length 5 (stG l)] (22 : TypeId), VB.cells [VV.tl t.T.length 1 (dG t.T), I t.far, I t.least] (25 : TypeId), VB.cells [I y] (3 : TypeId), VB.cells [I m] (3 : TypeId), VB.cells [bV l.length b_1] (23 : TypeId), VB.cells [I least_1] (3 : TypeId), VB.cells [VV.tl l.length 5 (stG l), VV.tl t.T.length 1 (dG t.T), I t.far, I t.least] (74 : TypeId), VB.cells [VV.ptr (VA.own 6 0)] (72 : TypeId), VB.cells [VV.func (42 : FuncId) [VV.ptr (VA.own 6 0)] []] (86 : TypeId), VB.cells [VV.ptr (VA.own 6 0)] (72 : TypeId), VB.fam [] 6 (fun (k : Nat) => (ch (mostF l)).getD k (0 : Int)) (80 : TypeId), VB.loop true none (slC l t y m w) 66 [39] asC bdC, VB.fam [] 6 (setF n' (((↑k : Int) - (1 : Int)).toNat * (1)) [n' (((↑k : Int) - (1 : Int)).toNat * (1)) + (1 : Int)]) (80 : TypeId)]
 else False
 else False
 else False
 else False
 else False
 else False
 else False
 else bif inK IntKind.i64 ((↑l.length : Int) - (1 : Int)) then
 ∃ (b_1 : Option (Nat → Int)), ∃ (least_1 : Int), ∃ (n_2 : Nat → Int), FitP 0 (VH.mk (14) ((11, VB.loop true none (slC l t y m w) 66 [39] asC bdC) :: (11, VB.gone) :: (13, VB.fam [] (6) (setF (fun (_ : Nat) => (0 : Int)) 0 [n (0 + 0), n (0 + 1), n (0 + 2), n (0 + 3), n (0 + 4), n (0 + 5)]) 80) :: (13, VB.fam [] (6) (fun (_ : Nat) => (0 : Int)) 80) :: nsC.zip (BC l t y m w (bV l.length b) least n))) ((5, I ((↑l.length : Int) - (1 : Int))) :: (15, I ((↑l.length : Int) - (1 : Int))) :: (14, I (↑l.length : Int)) :: (13, VV.tl l.length 5 (stG l)) :: (12, VV.ptr (VA.own 6 0)) :: (11, VV.ptr (VA.own 6 0)) :: (10, VV.ptr (VA.own 6 0)) :: (9, VV.bool false) :: (9, VV.bool !true) :: (8, VV.bool true) :: (7, VV.agg [I (n (0 + 0)), I (n (0 + 1)), I (n (0 + 2)), I (n (0 + 3)), I (n (0 + 4)), I (n (0 + 5))]) :: (6, VV.yld 11) :: dsC.zip VC) (VH.mk 14 (nsC.zip (BC l t y m w (bV l.length b_1) least_1 n_2))) (dsI.zip (VI ((↑l.length : Int) - (1 : Int)))) ∧ l.length ≤ 6 ∧ ∀ (k : Nat) (n' : Nat → Int), scanC (mostF l) l.length n_2 = (k, n') → bif decide ((↑k : Int) - (1 : Int) < (0 : Int)) then
 bif belBs 13 (List.map (VH.mk 14 (nsC.zip (BC l t y m w (bV l.length b_1) least_1 n'))).at nsC) && VEx.bel 13 VEx.ret then
 X VEx.ret [VV.ptr (VA.own 12 0), VV.yld 11, VV.ptr (VA.own 9 0), VV.ptr (VA.own 10 0)] [VB.cells [VV.tl l.length 5 (stG l)] (22 : TypeId), VB.cells [VV.tl t.T.length 1 (dG t.T), I t.far, I t.least] (25 : TypeId), VB.cells [I y] (3 : TypeId), VB.cells [I m] (3 : TypeId), VB.cells [bV l.length b_1] (23 : TypeId), VB.cells [I least_1] (3 : TypeId), VB.cells [VV.tl l.length 5 (stG l), VV.tl t.T.length 1 (dG t.T), I t.far, I t.least] (74 : TypeId), VB.cells [VV.ptr (VA.own 6 0)] (72 : TypeId), VB.cells [VV.func (42 : FuncId) [VV.ptr (VA.own 6 0)] []] (86 : TypeId), VB.cells [VV.ptr (VA.own 6 0)] (72 : TypeId), VB.fam [] 6 (fun (k : Nat) => (ch (mostF l)).getD k (0 : Int)) (80 : TypeId), VB.loop true none (slC l t y m w) 66 [39] asC bdC, VB.fam [] 6 n' (80 : TypeId)]
 else False
 else bif decide ((0 : Int) ≤ (↑k : Int) - (1 : Int) ∧ (↑k : Int) - (1 : Int) < (↑6 : Int)) then
 bif decide (((↑k : Int) - (1 : Int)).toNat * (1) < 6) then
 bif inK IntKind.i64 (n' (((↑k : Int) - (1 : Int)).toNat * (1)) + (1 : Int)) then
 bif decide ((0 : Int) ≤ (↑k : Int) - (1 : Int) ∧ (↑k : Int) - (1 : Int) < (↑6 : Int)) then
 bif decide (((↑k : Int) - (1 : Int)).toNat * (1) + (1) ≤ 6) then
 bif belBs 13 (List.map (VH.mk 14 ((12, VB.fam [] 6 (setF n' (((↑k : Int) - (1 : Int)).toNat * (1)) [n' (((↑k : Int) - (1 : Int)).toNat * (1)) + (1 : Int)]) (80 : TypeId)) :: nsC.zip (BC l t y m w (bV l.length b_1) least_1 n'))).at nsC) && VEx.bel 13 VEx.normal then
 X VEx.normal [VV.ptr (VA.own 12 0), VV.yld 11, VV.ptr (VA.own 9 0), VV.ptr (VA.own 10 0)] [VB.cells [VV.tl l.length 5 (stG l)] (22 : TypeId), VB.cells [VV.tl t.T.length 1 (dG t.T), I t.far, I t.least] (25 : TypeId), VB.cells [I y] (3 : TypeId), VB.cells [I m] (3 : TypeId), VB.cells [bV l.length b_1] (23 : TypeId), VB.cells [I least_1] (3 : TypeId), VB.cells [VV.tl l.length 5 (stG l), VV.tl t.T.length 1 (dG t.T), I t.far, I t.least] (74 : TypeId), VB.cells [VV.ptr (VA.own 6 0)] (72 : TypeId), VB.cells [VV.func (42 : FuncId) [VV.ptr (VA.own 6 0)] []] (86 : TypeId), VB.cells [VV.ptr (VA.own 6 0)] (72 : TypeId), VB.fam [] 6 (fun (k : Nat) => (ch (mostF l)).getD k (0 : Int)) (80 : TypeId), VB.loop true none (slC l t y m w) 66 [39] asC bdC, VB.fam [] 6 (setF n' (((↑k : Int) - (1 : Int)).toNat * (1)) [n' (((↑k : Int) - (1 : Int)).toNat * (1)) + (1 : Int)]) (80 : TypeId)]
 else False
 else False
 else False
 else False
 else False
 else False
 else False) := by kernel_rfl

/-- The best choice so far. -/
def stepC (l : List Stk) (t : Tst) (y m : Int) (b : Option (Nat → Int)) (c : Nat → Int) : Option (Nat → Int) := match b with
  | none => if meetsF l t c y m then some c else none
  | some d => if costF l c < costF l d ∧ meetsF l t c y m = true then some c else some d
def bestF (l : List Stk) (t : Tst) (y m : Int) : Nat → Option (Nat → Int)
  | 0 => none
  | j + 1 => stepC l t y m (bestF l t y m j) (chAt (mostF l) l.length j)
def lstF (l : List Stk) : Option (Nat → Int) → Int
  | none => -1
  | some c => costF l c
abbrev nAll (l : List Stk) : Nat := (allC (mostF l) l.length).length
/-- The choice that is cheapest. -/
def chpF (l : List Stk) (t : Tst) (y m : Int) : Option (Nat → Int) := bestF l t y m (nAll l)
noncomputable def lC (l : List Stk) (t : Tst) (y m : Int) (w : Bool) : LT := fun lock tt h K =>
  FitP lock h tt ⟨13, nsC.zip (BC l t y m w .nils (-1) fun _ => 0)⟩ (dsC.zip VC) ∧ (lB l ∧ pB l t.T.length ∧ tB t ∧ 0 ≤ y ∧ y ≤ 1000) ∧
    (chpF l t y m = none → ∀ n', K .ret (dsC.zip VC) ⟨13, nsC.zip (BC l t y m w .nils (-1) n')⟩) ∧
    ∀ c n', chpF l t y m = some c → K .ret (dsC.zip VC) ⟨13, nsC.zip (BC l t y m w (.tl l.length 1 (chG c)) (costF l c) n')⟩
theorem c_ev (l : List Stk) (t : Tst) (y m : Int) (Q : VRes → Prop) : callN Try.prog (tabS [asR l t, casksR l t]) (atF 74 [(0, lC l t y m (okAll l t))]) 10 20 0 (.fn 18) [stD l, .agg (tsL t), I y, I m] ⟨0, []⟩ (fun r h => Q r) =
  (isD (VH.mk (6) [(5, VB.cells [I 0] 3), (4, VB.cells [VV.nils] 23), (3, VB.cells [I m] 3), (2, VB.cells [I y] 3), (1, VB.cells [VV.tl t.T.length 1 (dG t.T), I t.far, I t.least] 25), (0, VB.cells [VV.tl l.length 5 (stG l)] 22)]) 2 (VV.tl l.length 5 (stG l)) (stD l) ∧ isD (VH.mk (6) [(5, VB.cells [I 0] 3), (4, VB.cells [VV.nils] 23), (3, VB.cells [I m] 3), (2, VB.cells [I y] 3), (1, VB.cells [VV.tl t.T.length 1 (dG t.T), I t.far, I t.least] 25), (0, VB.cells [VV.tl l.length 5 (stG l)] 22)]) 2 (VV.agg [VV.tl t.T.length 1 (dG t.T), I t.far, I t.least]) (VV.agg (tsL t)) ∧ bif !okAll l t then
 Q (VRes.ret (VV.tup [VV.nils, I 0, I 1]))
 else bif decide ((0 : Int) ≤ y) then
 bif !decide (y ≤ (100 : Int)) then
 Q (VRes.ret (VV.tup [VV.nils, I 0, I 2]))
 else bif decide ((0 : Int) ≤ m) then
 bif !decide (m ≤ (1048576 : Int)) then
 Q (VRes.ret (VV.tup [VV.nils, I 0, I 2]))
 else isD (maskH [0, 1, 2, 3, 4, 5, 6, 7, 8] (VH.mk (9) [(5, VB.cells [I (-1)] 3), (8, VB.cells [VV.func 42 [VV.ptr (VA.own (6) 0)] []] 86), (8, VB.cells [VV.nilf] 86), (7, VB.cells [VV.ptr (VA.own (6) 0)] 72), (7, VB.cells [VV.nilp] 72), (6, VB.cells [VV.tl l.length 5 (stG l), VV.tl t.T.length 1 (dG t.T), I t.far, I t.least] 74), (5, VB.cells [I 0] 3), (4, VB.cells [VV.nils] 23), (3, VB.cells [I m] 3), (2, VB.cells [I y] 3), (1, VB.cells [VV.tl t.T.length 1 (dG t.T), I t.far, I t.least] 25), (0, VB.cells [VV.tl l.length 5 (stG l)] 22)])) 4 (VV.ptr (VA.own (6) 0)) (VV.tp (stD l :: tsL t)) ∧ l.length ≤ 6 ∧ FitP 0 (VH.mk 13 (nsC.zip (BC l t y m (okAll l t) VV.nils (-1 : Int) fun (_ : Nat) => (0 : Int)))) (dsC.zip VC) (VH.mk 13 (nsC.zip (BC l t y m (okAll l t) VV.nils (-1 : Int) fun (_ : Nat) => (0 : Int)))) (dsC.zip VC) ∧ (lB l ∧ pB l t.T.length ∧ tB t ∧ (0 : Int) ≤ y ∧ y ≤ (1000 : Int)) ∧ (chpF l t y m = none → ∀ (n' : Nat → Int), Q (VRes.ret (VV.tup [VV.nils, I 0, I 4]))) ∧ ∀ (c n' : Nat → Int), chpF l t y m = some c → bif decide (costF l c < (0 : Int)) then
 Q (VRes.ret (VV.tup [VV.nils, I 0, I 4]))
 else Q (VRes.ret (VV.tup [VV.tl l.length 1 (chG c), I (costF l c), I 0]))
 else Q (VRes.ret (VV.tup [VV.nils, I 0, I 2]))
 else Q (VRes.ret (VV.tup [VV.nils, I 0, I 2]))) := by kernel_rfl

end Go.Sx.Bln

/- blend: Cheapest. -/

namespace Go.Sx.Bln
open Go Go.Sx Go.Proofs
set_option maxRecDepth 1000000

theorem costR_ok (l : List Stk) (t : Tst) : SpOk Try.prog (costR l t).1 (costR l t).2 := by
  intro lock args h K hK
  simp only [costR] at hK
  split at hK
  · obtain ⟨n, hc, rfl, h1, h2, hK⟩ := hK
    exact costT_ok lock _ h K ⟨l, t, n, hc, rfl, h1, h2, hK⟩
  · exact hK.elim
theorem meetsR_ok (l : List Stk) (t : Tst) : SpOk Try.prog (meetsR l t).1 (meetsR l t).2 := by
  intro lock args h K hK
  simp only [meetsR] at hK
  split at hK
  · obtain ⟨n, hc, rfl, h1, hK⟩ := hK
    exact meetsT_ok lock _ h K ⟨l, t, n, hc, rfl, h1, hK⟩
  · exact hK.elim
theorem asR_ok (l : List Stk) (t : Tst) : SpOk Try.prog (asR l t).1 (asR l t).2 := by
  intro lock args h K hK
  simp only [asR] at hK
  split at hK
  · obtain ⟨h1, h2, hK⟩ := hK
    exact asT_ok lock _ h K ⟨l, t, h1, h2, hK⟩
  · exact hK.elim
theorem casksR_ok (l : List Stk) (t : Tst) : SpOk Try.prog (casksR l t).1 (casksR l t).2 := by
  intro lock args h K hK
  simp only [casksR] at hK
  split at hK
  · obtain ⟨h1, h2, hK⟩ := hK
    exact casksT_ok lock _ h K ⟨l, t, h1, h2, hK⟩
  · exact hK.elim

theorem scan_nxt {most : Nat → Int} : ∀ (k : Nat) (n : Nat → Int), (scanC most k n).1 ≤ k ∧ nxtC most k n = match scanC most k n with
    | (0, _) => none
    | (i + 1, n') => some (setC n' i (n' i + 1))
  | 0, n => ⟨Nat.le_refl _, rfl⟩
  | k + 1, n => by
    unfold scanC nxtC
    by_cases h : n k = most k
    · rw [if_pos h, if_pos h]
      obtain ⟨h1, h2⟩ := scan_nxt (most := most) k (setC n k 0)
      exact ⟨by omega, h2⟩
    · rw [if_neg h, if_neg h]
      exact ⟨Nat.le_refl _, rfl⟩

section
variable {l : List Stk} {t : Tst} {y m : Int} {w : Bool}

abbrev SI := (Option (Nat → Int) × Int) × Nat × (Nat → Int)
noncomputable def OI (l : List Stk) (t : Tst) (y m : Int) (w : Bool) (s : SI) (e : VEx) (vs : List VV) (bs : List VB) : Prop :=
  e = .exit 2 ∧ vs = VI ((scanC (mostF l) s.2.1 s.2.2).1 - 1) ∧ bs = BC l t y m w (bV l.length s.1.1) s.1.2 (scanC (mostF l) s.2.1 s.2.2).2

theorem lI_ok : LSound Try.prog true (.block 2 (.loop (loopB 2 (bodyOf Try.prog 74)))) (ntOf Try.prog 74) (lI l t y m w) := by
  by_cases hn : l.length ≤ 6
  · refine loop_row hmix good0 (un := 10) (ds := dsI) (ns := nsC) (nx := 14) (fun s : SI => VI (s.2.1 - 1)) (fun s => BC l t y m w (bV l.length s.1.1) s.1.2 s.2.2) (fun s => s.2.1 ≤ l.length) (fun s => s.2.1) (OI l t y m w) noL_ok ?_ ?_
    · rintro ⟨⟨b, least⟩, k, n⟩ h0
      dsimp only at h0 ⊢
      refine cast (in_ev l t y m w b least (k - 1) n _).symm ?_
      have hbel : ∀ (n' : Nat → Int) (e : VEx), e.bel 14 = true → (belBs 14 (BC l t y m w (bV l.length b) least n') && e.bel 14) = true := fun n' e he => by
        rw [he]
        cases b <;> rfl
      cases k with
      | zero =>
        refine cond_d (fun h => by omega) (fun _ => cond_k (hbel n _ rfl) ⟨rfl, rfl, rfl⟩)
      | succ k =>
        have e : (((k + 1 : Nat) : Int) - 1) = (k : Int) := by omega
        rw [e]
        have e2 : (k : Int).toNat * 1 = k := by omega
        rw [e2, show (fun k => (ch (mostF l)).getD k (0 : Int)) k = mostF l k from ch_get (by omega)]
        refine cond_d (fun _ => ?_) (fun h => by omega)
        refine cond_dk ⟨by omega, by omega⟩ (cond_dk (by omega) (cond_dk ⟨by omega, by omega⟩ (cond_dk (by omega) (cond_d (fun g => cond_dk ⟨by omega, by omega⟩ (cond_dk (by omega) (cond_r (by omega) (cond_k (hbel (setC n k 0) _ rfl) ?_)))) (fun g => cond_k (hbel n _ rfl) ?_)))))
        · refine ⟨((b, least), k, setC n k 0), ?_, ?_, rfl, fitBs_refl _, fun e vs bs he => ?_⟩
          · show k ≤ _; omega
          · show k < k + 1; omega
          · have hs : scanC (mostF l) (k + 1) n = scanC (mostF l) k (setC n k 0) := by
              show (if _ then _ else _) = _
              rw [if_pos g]
            obtain ⟨h1, h2, h3⟩ := he
            refine ⟨h1, ?_, ?_⟩
            · rw [h2]; dsimp only; rw [hs]
            · rw [h3]; dsimp only; rw [hs]
        · have hs : scanC (mostF l) (k + 1) n = (k + 1, n) := by
            show (if _ then _ else _) = _
            rw [if_neg g]
          refine ⟨rfl, ?_, ?_⟩
          · dsimp only; rw [hs]; dsimp only; rw [e]; rfl
          · dsimp only; rw [hs]; rfl
    · rintro lock tt h K ⟨b, least, n, hf, _, k1⟩
      refine ⟨((b, least), l.length, n), hf, Nat.le_refl _, ?_⟩
      rintro e vs bs ⟨rfl, rfl, rfl⟩
      exact k1 _ _ rfl
  · rintro lock tt h K ⟨b, least, n, hf, hc, _⟩
    exact (hn hc).elim

/-- One loop inside another one. -/
theorem lsp_one {f : FuncId} {o i n : Nat} {b : Code} {T0 : LT} (hb0 : blocksOf i (loopB o (bodyOf Try.prog f)) = [b]) (h0 : LSound Try.prog true (.block i b) n T0) : ∀ id T, tabB [(i, T0)] id = some T → ∀ b' ∈ blocksOf id (loopB o (bodyOf Try.prog f)), LSound Try.prog true (.block id b') n T := by
  intro id T hT b' hb
  simp only [tabB] at hT
  cases hid : Nat.beq id i with
  | false => rw [hid] at hT; cases hT
  | true =>
    rw [hid] at hT
    have := Nat.eq_of_beq_eq_true hid
    subst this
    cases hT
    rw [hb0] at hb
    simp only [List.mem_singleton] at hb
    subst hb
    exact h0
theorem cm_tab : ∀ f T, tabS [costR l t, meetsR l t, listT] f = some T → SpOk Try.prog f T := tab_ok _ (fun x hx => by
  simp only [List.mem_cons, List.not_mem_nil, or_false] at hx
  rcases hx with rfl | rfl | rfl
  · exact costR_ok l t
  · exact meetsR_ok l t
  · exact listT_ok)

theorem mostF_bd (hl : lB l) (i : Nat) : 0 ≤ mostF l i ∧ mostF l i ≤ 6 := by
  by_cases h : i < l.length
  · exact (hl.2 i h).1
  · rw [mostF_ge (by omega)]; omega
theorem chAt_nB (hl : lB l) {j : Nat} (hj : j < nAll l) : nB (chAt (mostF l) l.length j) := fun i hi => by
  obtain ⟨h1, h2⟩ := (all_mem (fun i _ => (mostF_bd hl i).1)).1 (chAt_mem hj)
  by_cases h : i < l.length
  · have := h1 i h
    have := mostF_bd hl i
    omega
  · rw [h2 i (by omega)]; omega
theorem bestF_mem : ∀ {j : Nat} {c : Nat → Int}, bestF l t y m j = some c → ∃ i, i < j ∧ c = chAt (mostF l) l.length i
  | 0, _, h => by cases h
  | j + 1, c, h => by
    unfold bestF stepC at h
    cases hb : bestF l t y m j with
    | none =>
      rw [hb] at h
      dsimp only at h
      split at h
      · cases h; exact ⟨j, by omega, rfl⟩
      · cases h
    | some d =>
      rw [hb] at h
      dsimp only at h
      have hd := hb
      split at h
      · cases h; exact ⟨j, by omega, rfl⟩
      · cases h
        obtain ⟨i, hi, e⟩ := bestF_mem hd
        exact ⟨i, by omega, e⟩

noncomputable def OC (l : List Stk) (t : Tst) (y m : Int) (w : Bool) (_ : Nat) (e : VEx) (vs : List VV) (bs : List VB) : Prop :=
  e = .ret ∧ vs = VC ∧ ∃ n', bs = BC l t y m w (bV l.length (chpF l t y m)) (lstF l (chpF l t y m)) n'

theorem lC_ok : LSound Try.prog true (.block 0 (.loop (loopB 0 (bodyOf Try.prog 74)))) (ntOf Try.prog 74) (lC l t y m w) := by
  by_cases hh : lB l ∧ pB l t.T.length ∧ tB t ∧ 0 ≤ y ∧ y ≤ 1000
  · obtain ⟨hl, hp, ht, hy⟩ := hh
    have hl6 := hl.1
    have hm0 : ∀ i, i < l.length → 0 ≤ mostF l i := fun i _ => (mostF_bd hl i).1
    refine loop_row hmix (noL_good (cm_tab (l := l) (t := t))) (lsp := tabB [(2, lI l t y m w)]) (un := 10) (ds := dsC) (ns := nsC) (nx := 13) (fun _ : Nat => VC) (fun j => BC l t y m w (bV l.length (bestF l t y m j)) (lstF l (bestF l t y m j)) (chAt (mostF l) l.length j)) (fun j => j < nAll l) (fun j => nAll l - j) (OC l t y m w) (lsp_one (by kernel_rfl) lI_ok) ?_ ?_
    · rintro j hj
      refine cast (cr_ev l t y m w _ _ _ _).symm ?_
      have hn := chAt_nB hl hj
      have hnx := scan_nxt (most := mostF l) l.length (chAt (mostF l) l.length j)
      have hnext := chAt_next hm0 hj
      have hs : bestF l t y m (j + 1) = stepC l t y m (bestF l t y m j) (chAt (mostF l) l.length j) := rfl
      have hcost := cost_bd (n := chAt (mostF l) l.length j) hn hl
      have hbn : ∀ d, bestF l t y m j = some d → 0 ≤ costF l d := fun d hd => by
        obtain ⟨i, hi, rfl⟩ := bestF_mem hd
        exact (cost_bd (chAt_nB hl (Nat.lt_trans hi hj)) hl).1
      generalize hRQ : RoundQ (σ := Nat) _ _ _ _ _ j = RQ
      -- behind the body: the next choice
      have fin : ∀ (b' : Option (Nat → Int)) (least : Int), bestF l t y m (j + 1) = b' → least = lstF l b' → ∀ (k : Nat) (n' : Nat → Int), scanC (mostF l) l.length (chAt (mostF l) l.length j) = (k, n') →
        (bif decide ((k : Int) - 1 < 0) then (bif belBs 13 (BC l t y m w (bV l.length b') least n') && VEx.bel 13 VEx.ret then RQ .ret VC (BC l t y m w (bV l.length b') least n') else False)
        else bif decide (0 ≤ (k : Int) - 1 ∧ (k : Int) - 1 < (6 : Nat)) then (bif decide (((k : Int) - 1).toNat * 1 < 6) then (bif inK .i64 (n' (((k : Int) - 1).toNat * 1) + 1) then (bif decide (0 ≤ (k : Int) - 1 ∧ (k : Int) - 1 < (6 : Nat)) then (bif decide (((k : Int) - 1).toNat * 1 + 1 ≤ 6) then
          (bif belBs 13 (BC l t y m w (bV l.length b') least (setF n' (((k : Int) - 1).toNat * 1) [n' (((k : Int) - 1).toNat * 1) + 1])) && VEx.bel 13 VEx.normal then RQ .normal VC (BC l t y m w (bV l.length b') least (setF n' (((k : Int) - 1).toNat * 1) [n' (((k : Int) - 1).toNat * 1) + 1])) else False) else False) else False) else False) else False) else False) := by
        rintro b' least hb rfl k n' hk
        have hbel : ∀ (n' : Nat → Int) (e : VEx), e.bel 13 = true → (belBs 13 (BC l t y m w (bV l.length b') (lstF l b') n') && e.bel 13) = true := fun n' e he => by
          rw [he]
          cases b' <;> rfl
        rw [hk] at hnx
        obtain ⟨hk1, hnx⟩ := hnx
        dsimp only at hk1
        cases k with
        | zero =>
          dsimp only at hnx
          have hj1 : j + 1 = nAll l := by
            rcases hnext with ⟨h1, _⟩ | ⟨_, h2⟩
            · exact h1
            · rw [hnx] at h2; cases h2
          refine cond_d (fun _ => cond_k (hbel n' _ rfl) ?_) (fun h => by omega)
          rw [← hRQ]
          have hc : chpF l t y m = b' := by rw [← hb, hj1]; rfl
          exact ⟨rfl, rfl, n', by rw [hc]⟩
        | succ k =>
          dsimp only at hnx
          have e : (((k + 1 : Nat) : Int) - 1) = (k : Int) := by omega
          rw [e]
          have e2 : (k : Int).toNat * 1 = k := by omega
          rw [e2]
          obtain ⟨hj1, hch⟩ : j + 1 < nAll l ∧ chAt (mostF l) l.length (j + 1) = setC n' k (n' k + 1) := by
            rcases hnext with ⟨_, h2⟩ | ⟨h1, h2⟩
            · rw [hnx] at h2; cases h2
            · rw [hnx] at h2
              injection h2 with h2
              exact ⟨h1, h2.symm⟩
          have hb6 := chAt_nB hl hj1 k (by omega)
          rw [hch, setC_same] at hb6
          refine cond_d (fun h => by omega) (fun _ => cond_dk ⟨by omega, by omega⟩ (cond_dk (by omega) (cond_r (by omega) (cond_dk ⟨by omega, by omega⟩ (cond_dk (by omega) (cond_k (hbel _ _ rfl) ?_))))))
          rw [← hRQ]
          refine ⟨j + 1, hj1, by dsimp only; omega, rfl, ?_, fun _ _ _ h => h⟩
          dsimp only
          rw [hb, hch]
          exact fitBs_refl _
      refine ⟨chAt (mostF l) l.length j, ⟨_, _, rfl, isD_l, ⟨rfl, rfl, fun _ _ => rfl⟩, ⟨rfl, rfl⟩, ⟨rfl, rfl⟩, trivial⟩, rfl, hn, hl, ?_⟩
      have hF : ∀ (b' : Option (Nat → Int)) (least : Int) (h : VH) (tt : Slots), h.nx = 14 → fitB (nsC.zip (BC l t y m w (bV l.length b') least (chAt (mostF l) l.length j))) h → fitS (dsI.zip (VI (l.length - 1))) tt → FitP 0 h tt ⟨14, nsC.zip (BC l t y m w (bV l.length b') least (chAt (mostF l) l.length j))⟩ (dsI.zip (VI (l.length - 1))) := fun _ _ _ _ h1 h2 h3 => ⟨⟨rfl, h1, h2⟩, h3⟩
      have hir : -9223372036854775808 ≤ (l.length : Int) - 1 ∧ (l.length : Int) - 1 ≤ 9223372036854775807 := by omega
      have hcon : conB l t (chAt (mostF l) l.length j) ∧ 0 ≤ y ∧ y ≤ 1000 := ⟨⟨hn, hl, hp, ht⟩, hy⟩
      have hc6 : ∀ h : VH, (h.at 6).cs? = some (stD l :: tsL t, 74) → isD h 4 (.ptr (.own 6 0)) (.tp (stD l :: tsL t)) := fun h h6 => ⟨_, _, h6, isD_l, ⟨rfl, rfl, fun _ _ => rfl⟩, ⟨rfl, rfl⟩, ⟨rfl, rfl⟩, trivial⟩
      cases hb : bestF l t y m j with
      | none =>
        rw [hb] at hs
        refine cond_d (fun _ => ⟨chAt (mostF l) l.length j, hc6 _ rfl, rfl, hcon, cond_i (fun g => ?_) (fun g => ?_)⟩) (fun h => (h (by show (-1 : Int) < 0; omega)).elim)
        · refine ⟨chAt (mostF l) l.length j, l.length, rfl, rfl, hl6, cond_r hir ⟨some (chAt (mostF l) l.length j), _, chAt (mostF l) l.length j, hF _ _ _ _ rfl ?_ ?_, hl6, fin _ _ ?_ rfl⟩⟩
          · exact ⟨VB.fit_refl _, VB.fit_refl _, VB.fit_refl _, VB.fit_refl _, VB.fit_refl _, VB.fit_refl _, VB.fit_refl _, VB.fit_refl _, VB.fit_refl _, VB.fit_refl _, VB.fit_refl _, VB.fit_refl _, VB.fit_refl _, trivial⟩
          · exact ⟨rfl, rfl, rfl, rfl, rfl, trivial⟩
          · rw [hs]; unfold stepC; dsimp only; rw [if_pos g]
        · refine cond_r hir ⟨none, _, chAt (mostF l) l.length j, hF _ _ _ _ rfl ?_ ?_, hl6, fin _ _ ?_ rfl⟩
          · exact ⟨VB.fit_refl _, VB.fit_refl _, VB.fit_refl _, VB.fit_refl _, VB.fit_refl _, VB.fit_refl _, VB.fit_refl _, VB.fit_refl _, VB.fit_refl _, VB.fit_refl _, VB.fit_refl _, VB.fit_refl _, VB.fit_refl _, trivial⟩
          · exact ⟨rfl, rfl, rfl, rfl, rfl, trivial⟩
          · rw [hs]; unfold stepC; dsimp only; rw [if_neg (by rw [g]; simp)]
      | some d =>
        rw [hb] at hs
        have hd0 := hbn d hb
        have hsame : bestF l t y m (j + 1) = some d → _ := fun e => fin (some d) (costF l d) e rfl
        refine cond_d (fun h => (by have h : costF l d < 0 := h; omega)) (fun _ => cond_d (fun g1 => ⟨chAt (mostF l) l.length j, hc6 _ rfl, rfl, hcon, cond_i (fun g => ?_) (fun g => ?_)⟩) (fun g1 => ?_))
        · refine ⟨chAt (mostF l) l.length j, l.length, rfl, rfl, hl6, cond_r hir ⟨some (chAt (mostF l) l.length j), _, chAt (mostF l) l.length j, hF _ _ _ _ rfl ?_ ?_, hl6, fin _ _ ?_ rfl⟩⟩
          · exact ⟨VB.fit_refl _, VB.fit_refl _, VB.fit_refl _, VB.fit_refl _, VB.fit_refl _, VB.fit_refl _, VB.fit_refl _, VB.fit_refl _, VB.fit_refl _, VB.fit_refl _, VB.fit_refl _, VB.fit_refl _, VB.fit_refl _, trivial⟩
          · exact ⟨rfl, rfl, rfl, rfl, rfl, trivial⟩
          · rw [hs]; unfold stepC; dsimp only; rw [if_pos ⟨g1, g⟩]
        · refine cond_r hir ⟨some d, _, chAt (mostF l) l.length j, hF _ _ _ _ rfl ?_ ?_, hl6, hsame ?_⟩
          · exact ⟨VB.fit_refl _, VB.fit_refl _, VB.fit_refl _, VB.fit_refl _, VB.fit_refl _, VB.fit_refl _, VB.fit_refl _, VB.fit_refl _, VB.fit_refl _, VB.fit_refl _, VB.fit_refl _, VB.fit_refl _, VB.fit_refl _, trivial⟩
          · exact ⟨rfl, rfl, rfl, rfl, rfl, trivial⟩
          · rw [hs]; unfold stepC; dsimp only; rw [if_neg (by rw [g]; simp)]
        · refine cond_r hir ⟨some d, _, chAt (mostF l) l.length j, hF _ _ _ _ rfl ?_ ?_, hl6, hsame ?_⟩
          · exact ⟨VB.fit_refl _, VB.fit_refl _, VB.fit_refl _, VB.fit_refl _, VB.fit_refl _, VB.fit_refl _, VB.fit_refl _, VB.fit_refl _, VB.fit_refl _, VB.fit_refl _, VB.fit_refl _, VB.fit_refl _, VB.fit_refl _, trivial⟩
          · exact ⟨rfl, rfl, rfl, rfl, rfl, trivial⟩
          · rw [hs]; unfold stepC; dsimp only; rw [if_neg (by intro h; exact g1 h.1)]
    · rintro lock tt h K ⟨hf, _, k1, k2⟩
      refine ⟨0, ?_, all_pos hm0, ?_⟩
      · rw [chAt_zero hm0]; exact hf
      · rintro e vs bs ⟨rfl, rfl, n', rfl⟩
        cases hb : chpF l t y m with
        | none => exact k1 hb n'
        | some c => exact k2 c n' hb
  · rintro lock tt h K ⟨hf, hc, _⟩
    exact (hh hc).elim
end
end Go.Sx.Bln

/- blend: Cheapest, as rows. -/

namespace Go.Sx.Bln
open Go Go.Sx Go.Proofs
set_option maxRecDepth 1000000

section
variable (l : List Stk) (t : Tst) (y m : Int)

open Classical in
/-- Cheapest's error. -/
noncomputable def chpE : Int := if okAll l t = false then 1 else if ¬ ((0 ≤ y ∧ y ≤ 100) ∧ 0 ≤ m ∧ m ≤ 1048576) then 2 else if chpF l t y m = none then 4 else 0
def rErr (e : Int) : VRes := .ret (.tup [.nils, I 0, I e])
def rChp (c : Nat → Int) : VRes := .ret (.tup [.tl l.length 1 (chG c), I (costF l c), I 0])

theorem chp_v : ∃ r h', CallsV Try.prog 18 [stD l, .agg (tsL t), I y, I m] ⟨0, []⟩ r h' ∧ ((chpE l t y m ≠ 0 ∧ r = rErr (chpE l t y m)) ∨ (chpE l t y m = 0 ∧ ∃ c, chpF l t y m = some c ∧ r = rChp l c)) := by
  have hall : LoopsOk Try.prog 74 [(0, lC l t y m (okAll l t))] := fun x hx => by
    simp only [List.mem_singleton] at hx
    subst hx
    exact ⟨by kernel_rfl, lC_ok⟩
  have htab : ∀ f T, tabS [asR l t, casksR l t] f = some T → SpOk Try.prog f T := tab_ok _ (fun x hx => by
    simp only [List.mem_cons, List.not_mem_nil, or_false] at hx
    rcases hx with rfl | rfl
    · exact asR_ok l t
    · exact casksR_ok l t)
  obtain ⟨r, h', hr, hc⟩ := of_callN (callL_good hmix htab hall (un := 10) 20) (f := 18) (args := [stD l, .agg (tsL t), I y, I m]) (h := ⟨0, []⟩) (K := fun r _ => (chpE l t y m ≠ 0 ∧ r = rErr (chpE l t y m)) ∨ (chpE l t y m = 0 ∧ ∃ c, chpF l t y m = some c ∧ r = rChp l c)) (by
    refine cast (c_ev l t y m _).symm ⟨isD_l, ⟨⟨rfl, rfl, fun _ _ => rfl⟩, ⟨rfl, rfl⟩, ⟨rfl, rfl⟩, trivial⟩, ?_⟩
    have err : ∀ e : Int, e ≠ 0 → chpE l t y m = e → (chpE l t y m ≠ 0 ∧ rErr e = rErr (chpE l t y m)) ∨ (chpE l t y m = 0 ∧ ∃ c, chpF l t y m = some c ∧ rErr e = rChp l c) := fun e h h' => .inl ⟨by rw [h']; exact h, by rw [h']⟩
    refine cond_i (fun h1 => err 1 (by decide) ?_) (fun h1 => ?_)
    · unfold chpE; rw [if_pos (by simpa using h1)]
    have h1 : okAll l t = true := by simpa using h1
    have e1 : chpE l t y m = if ¬ ((0 ≤ y ∧ y ≤ 100) ∧ 0 ≤ m ∧ m ≤ 1048576) then 2 else if chpF l t y m = none then 4 else 0 := by unfold chpE; rw [if_neg (by rw [h1]; simp)]
    refine cond_d (fun g1 => cond_nd (fun g2 => err 2 (by decide) ?_) (fun g2 => cond_d (fun g3 => cond_nd (fun g4 => err 2 (by decide) ?_) (fun g4 => ?_)) (fun g3 => err 2 (by decide) ?_))) (fun g1 => err 2 (by decide) ?_)
    · rw [e1, if_pos (by omega)]
    · rw [e1, if_pos (by omega)]
    · rw [if_neg (by omega)] at e1
      obtain ⟨hl, hp, ht, _⟩ := okAll_l h1
      refine ⟨⟨_, _, rfl, isD_l, ⟨rfl, rfl, fun _ _ => rfl⟩, ⟨rfl, rfl⟩, ⟨rfl, rfl⟩, trivial⟩, hl.1, fitP_self rfl, ⟨hl, hp, okT_tB ht, by omega, by omega⟩, fun hb n' => err 4 (by decide) ?_, fun c n' hb => ?_⟩
      · rw [e1, if_pos hb]
      · rw [if_neg (by rw [hb]; simp)] at e1
        refine cond_d (fun h => ?_) (fun _ => .inr ⟨e1, c, hb, rfl⟩)
        obtain ⟨i, hi, rfl⟩ := bestF_mem hb
        have := (cost_bd (chAt_nB hl hi) hl).1
        omega
    · rw [e1, if_pos (by omega)]
    · rw [e1, if_pos (by omega)])
  exact ⟨r, h', hc, hr⟩

/-- Cheapest over data that nobody changes. -/
noncomputable def cheapR : FuncId × Spec1 := (18, fun _ args h K => match args with
  | [x, z, .int .i64 y, .int .i64 m] => x = stD l ∧ z = .agg (tsL t) ∧ (chpE l t y m ≠ 0 → K (rErr (chpE l t y m)) h) ∧ (chpE l t y m = 0 → ∀ c, chpF l t y m = some c → K (rChp l c) h)
  | _ => False)
theorem cheapR_ok : SpOk Try.prog (cheapR l t).1 (cheapR l t).2 := by
  intro lock args h K hK
  simp only [cheapR] at hK
  split at hK
  · rename_i x z y m
    obtain ⟨rfl, rfl, k1, k2⟩ := hK
    obtain ⟨r, h', hc, ⟨e, rfl⟩ | ⟨e, c, hb, rfl⟩⟩ := chp_v l t y m
    · exact ⟨_, h, k1 e, lockP_refl _ _, calls_lift0 hc rfl rfl⟩
    · exact ⟨_, h, k2 e c hb, lockP_refl _ _, calls_lift0 hc rfl rfl⟩
  · exact hK.elim

theorem calls_res {P : Program} {f : FuncId} {args : List VV} {h h' : VH} {v v2 : VV} (hs : CallsV P f args h (.ret v) h') (hv : ∀ (R : Rn) (x : Value), VRel R v x → VRel R v2 x) : CallsV P f args h (.ret v2) h' := by
  intro B R w xs em hx
  refine (hs B R w xs em hx).mono ?_
  rintro e w' ⟨R', n1, e1, x, hx1, he⟩
  exact ⟨R', n1, e1, x, hv R' x hx1, he⟩

end
end Go.Sx.Bln

/- blend: W, evaluated. -/

namespace Go.Sx.Bln
open Go Go.Sx Go.Proofs
set_option maxRecDepth 1000000

def okW (n : Int) : Bool := decide (0 ≤ n ∧ n ≤ 1048576)
/-- Is a weight odd, as a row. -/
def rowW : FuncId × Spec1 := (59, fun _ args h K => match args with
  | [.int .i64 n] => K (.ret (.bool (!okW n))) h
  | _ => False)
def dsW : List Nat := [8, 7, 6, 4, 0, 1]
def VW (D : List Int) (i : Int) : List VV := [I i, I D.length, inD D, I 0, inD D, .func 59 [] []]
theorem W_ev (D : List Int) (i : Int) (X : VEx → List VV → List VB → Prop) : codeE Try.prog (callN Try.prog (tabS [rowW]) noL 10 20) (fun _ => none) true 10 19 0 (loopB 0 (bodyOf Try.prog 81)) (dsW.zip (VW D i)) ⟨0, ([] : List Nat).zip []⟩ (obs 0 dsW [] X) =
  (bif decide (i < (↑D.length : Int)) then
 bif decide ((0 : Int) ≤ i ∧ i < (↑D.length : Int)) then
 bif !okW (D.getD i.toNat (0 : Int)) then
 X VEx.ret [I i, I (↑D.length : Int), VV.tl D.length 1 (dG D), I i, VV.tl D.length 1 (dG D), VV.func (59 : FuncId) [] []] []
 else bif inK IntKind.i64 (i + (1 : Int)) then
 X VEx.normal [I (i + (1 : Int)), I (↑D.length : Int), VV.tl D.length 1 (dG D), I 0, VV.tl D.length 1 (dG D), VV.func (59 : FuncId) [] []] []
 else False
 else False
 else X (VEx.exit 0) [I i, I (↑D.length : Int), VV.tl D.length 1 (dG D), I 0, VV.tl D.length 1 (dG D), VV.func (59 : FuncId) [] []] []) := by kernel_rfl

def qW (D : List Int) (i : Nat) : Bool := !okW (D.getD i 0)
/-- Is there one such? -/
def anyW (D : List Int) : Bool := (List.range D.length).any (qW D)
def lW (D : List Int) : LT := fun lock t h K =>
  FitP lock h t ⟨0, ([] : List Nat).zip []⟩ (dsW.zip (VW D 0)) ∧ D.length ≤ 100000 ∧ (anyW D = false → K .normal (dsW.zip (VW D D.length)) ⟨0, ([] : List Nat).zip []⟩) ∧ (anyW D = true → ∀ i : Nat, K .ret (dsW.zip [I i, I D.length, inD D, I i, inD D, .func 59 [] []]) ⟨0, ([] : List Nat).zip []⟩)
theorem Wf_ev (D : List Int) (Q : VRes → Prop) : callN Try.prog noSpec (atF 81 [(0, lW D)]) 10 20 0 (.fn 60) [inD D, .func 59 [] []] ⟨0, []⟩ (fun r _ => Q r) =
  (FitP 0 (VH.mk 0 ([].zip [])) (dsW.zip (VW D (0 : Int))) (VH.mk 0 ([].zip [])) (dsW.zip (VW D (0 : Int))) ∧ D.length ≤ 100000 ∧ (anyW D = false → Q (VRes.ret (VV.bool (decide ((-1 : Int) ≥ (0 : Int)))))) ∧ (anyW D = true → ∀ (i : Nat), Q (VRes.ret (VV.bool (decide ((↑i : Int) ≥ (0 : Int))))))) := by kernel_rfl

end Go.Sx.Bln

/- blend: W. -/

namespace Go.Sx.Bln
open Go Go.Sx Go.Proofs
set_option maxRecDepth 1000000

section
variable {D : List Int}

def OW (D : List Int) (_ : Nat) (e : VEx) (vs : List VV) (bs : List VB) : Prop :=
  bs = [] ∧ ((anyW D = false ∧ e = .exit 0 ∧ vs = VW D D.length) ∨ (anyW D = true ∧ e = .ret ∧ ∃ i : Nat, vs = [I i, I D.length, inD D, I i, inD D, .func 59 [] []]))

theorem lW_ok (hrow : SpOk Try.prog rowW.1 rowW.2) : LSound Try.prog true (.block 0 (.loop (loopB 0 (bodyOf Try.prog 81)))) 19 (lW D) := by
  by_cases hn : D.length ≤ 100000
  · refine loop_row hmix (noL_good (tab_ok [rowW] (fun x hx => by
      simp only [List.mem_singleton] at hx
      subst hx
      exact hrow))) (un := 10) (ds := dsW) (ns := []) (nx := 0) (fun i : Nat => VW D i) (fun _ => []) (fun i => i ≤ D.length ∧ ∀ j, j < i → qW D j = false) (fun i => D.length - i) (OW D) noL_ok ?_ ?_
    · rintro i ⟨h0, h1⟩
      refine cast (W_ev D i _).symm ?_
      by_cases hlt : i < D.length
      · refine cond_dk (by omega) (cond_dk ⟨by omega, by omega⟩ ?_)
        rw [show (i : Int).toNat = i by omega]
        have key : ∀ b : Bool, b = qW D i → (bif b then RoundQ (fun i : Nat => VW D i) (fun _ => []) (fun i => i ≤ D.length ∧ ∀ j, j < i → qW D j = false) (fun i => D.length - i) (OW D) i .ret [I i, I D.length, inD D, I i, inD D, .func 59 [] []] [] else bif inK .i64 ((i : Int) + 1) then RoundQ (fun i : Nat => VW D i) (fun _ => []) (fun i => i ≤ D.length ∧ ∀ j, j < i → qW D j = false) (fun i => D.length - i) (OW D) i .normal (VW D (i + 1)) [] else False) := by
          rintro b rfl
          refine cond_i (fun h => ⟨rfl, .inr ⟨?_, rfl, i, rfl⟩⟩) (fun h => cond_r (by omega) ⟨i + 1, ⟨by omega, fun j hj => ?_⟩, by dsimp only; omega, rfl, fitBs_refl _, fun _ _ _ h => h⟩)
          · unfold anyW
            rw [List.any_eq_true]
            exact ⟨i, List.mem_range.2 hlt, h⟩
          · by_cases e : j = i
            · subst e; exact h
            · exact h1 j (by omega)
        exact key _ rfl
      · obtain rfl : i = D.length := by omega
        refine cond_d (fun h => by omega) (fun _ => ⟨rfl, .inl ⟨?_, rfl, rfl⟩⟩)
        unfold anyW
        rw [List.any_eq_false]
        intro j hj
        rw [h1 j (List.mem_range.1 hj)]
        simp
    · rintro lock t h K ⟨hf, _, k1, k2⟩
      refine ⟨0, hf, ⟨Nat.zero_le _, fun j hj => by omega⟩, ?_⟩
      rintro e vs bs ⟨rfl, ⟨g, rfl, rfl⟩ | ⟨g, rfl, i, rfl⟩⟩
      · exact k1 g
      · exact k2 g i
  · rintro lock t h K ⟨hf, hc, _⟩
    exact (hn hc).elim

theorem anyW_v (hrow : SpOk Try.prog rowW.1 rowW.2) (hn : D.length ≤ 100000) : ∃ h', CallsV Try.prog 60 [inD D, .func 59 [] []] ⟨0, []⟩ (.ret (.bool (anyW D))) h' := by
  have hall : LoopsOk Try.prog 81 [(0, lW D)] := fun x hx => by
    simp only [List.mem_singleton] at hx
    subst hx
    exact ⟨by kernel_rfl, lW_ok hrow⟩
  obtain ⟨r, h', rfl, hc⟩ := of_callN (callL_good hmix noSp hall (un := 10) 20) (f := 60) (args := [inD D, .func 59 [] []]) (h := ⟨0, []⟩) (K := fun r _ => r = .ret (.bool (anyW D))) (by
    refine cast (Wf_ev D _).symm ?_
    refine ⟨fitP_self rfl, hn, fun h => by rw [h]; rfl, fun h i => by rw [h, decide_eq_true (by omega)]⟩)
  exact ⟨h', hc⟩
end
end Go.Sx.Bln

/- blend: Nd, evaluated. -/

namespace Go.Sx.Bln
open Go Go.Sx Go.Proofs
set_option maxRecDepth 1000000

/-- Is a need odd, as a row. -/
def rowNd : FuncId × Spec1 := (72, fun _ args h K => match args with
  | [.int .i64 n] => K (.ret (.bool (!okW n))) h
  | _ => False)
def dsNd : List Nat := [8, 7, 6, 4, 0, 1]
def VNd (D : List Int) (i : Int) : List VV := [I i, I D.length, inD D, I 0, inD D, .func 72 [] []]
theorem Nd_ev (D : List Int) (i : Int) (X : VEx → List VV → List VB → Prop) : codeE Try.prog (callN Try.prog (tabS [rowNd]) noL 10 20) (fun _ => none) true 10 19 0 (loopB 0 (bodyOf Try.prog 81)) (dsNd.zip (VNd D i)) ⟨0, ([] : List Nat).zip []⟩ (obs 0 dsNd [] X) =
  (bif decide (i < (↑D.length : Int)) then
 bif decide ((0 : Int) ≤ i ∧ i < (↑D.length : Int)) then
 bif !okW (D.getD i.toNat (0 : Int)) then
 X VEx.ret [I i, I (↑D.length : Int), VV.tl D.length 1 (dG D), I i, VV.tl D.length 1 (dG D), VV.func (72 : FuncId) [] []] []
 else bif inK IntKind.i64 (i + (1 : Int)) then
 X VEx.normal [I (i + (1 : Int)), I (↑D.length : Int), VV.tl D.length 1 (dG D), I 0, VV.tl D.length 1 (dG D), VV.func (72 : FuncId) [] []] []
 else False
 else False
 else X (VEx.exit 0) [I i, I (↑D.length : Int), VV.tl D.length 1 (dG D), I 0, VV.tl D.length 1 (dG D), VV.func (72 : FuncId) [] []] []) := by kernel_rfl

def qNd (D : List Int) (i : Nat) : Bool := !okW (D.getD i 0)
/-- Is there one such? -/
def anyNd (D : List Int) : Bool := (List.range D.length).any (qNd D)
def lNd (D : List Int) : LT := fun lock t h K =>
  FitP lock h t ⟨0, ([] : List Nat).zip []⟩ (dsNd.zip (VNd D 0)) ∧ D.length ≤ 100000 ∧ (anyNd D = false → K .normal (dsNd.zip (VNd D D.length)) ⟨0, ([] : List Nat).zip []⟩) ∧ (anyNd D = true → ∀ i : Nat, K .ret (dsNd.zip [I i, I D.length, inD D, I i, inD D, .func 72 [] []]) ⟨0, ([] : List Nat).zip []⟩)
theorem Ndf_ev (D : List Int) (Q : VRes → Prop) : callN Try.prog noSpec (atF 81 [(0, lNd D)]) 10 20 0 (.fn 60) [inD D, .func 72 [] []] ⟨0, []⟩ (fun r _ => Q r) =
  (FitP 0 (VH.mk 0 ([].zip [])) (dsNd.zip (VNd D (0 : Int))) (VH.mk 0 ([].zip [])) (dsNd.zip (VNd D (0 : Int))) ∧ D.length ≤ 100000 ∧ (anyNd D = false → Q (VRes.ret (VV.bool (decide ((-1 : Int) ≥ (0 : Int)))))) ∧ (anyNd D = true → ∀ (i : Nat), Q (VRes.ret (VV.bool (decide ((↑i : Int) ≥ (0 : Int))))))) := by kernel_rfl

end Go.Sx.Bln

/- blend: Nd. -/

namespace Go.Sx.Bln
open Go Go.Sx Go.Proofs
set_option maxRecDepth 1000000

section
variable {D : List Int}

def ONd (D : List Int) (_ : Nat) (e : VEx) (vs : List VV) (bs : List VB) : Prop :=
  bs = [] ∧ ((anyNd D = false ∧ e = .exit 0 ∧ vs = VNd D D.length) ∨ (anyNd D = true ∧ e = .ret ∧ ∃ i : Nat, vs = [I i, I D.length, inD D, I i, inD D, .func 72 [] []]))

theorem lNd_ok (hrow : SpOk Try.prog rowNd.1 rowNd.2) : LSound Try.prog true (.block 0 (.loop (loopB 0 (bodyOf Try.prog 81)))) 19 (lNd D) := by
  by_cases hn : D.length ≤ 100000
  · refine loop_row hmix (noL_good (tab_ok [rowNd] (fun x hx => by
      simp only [List.mem_singleton] at hx
      subst hx
      exact hrow))) (un := 10) (ds := dsNd) (ns := []) (nx := 0) (fun i : Nat => VNd D i) (fun _ => []) (fun i => i ≤ D.length ∧ ∀ j, j < i → qNd D j = false) (fun i => D.length - i) (ONd D) noL_ok ?_ ?_
    · rintro i ⟨h0, h1⟩
      refine cast (Nd_ev D i _).symm ?_
      by_cases hlt : i < D.length
      · refine cond_dk (by omega) (cond_dk ⟨by omega, by omega⟩ ?_)
        rw [show (i : Int).toNat = i by omega]
        have key : ∀ b : Bool, b = qNd D i → (bif b then RoundQ (fun i : Nat => VNd D i) (fun _ => []) (fun i => i ≤ D.length ∧ ∀ j, j < i → qNd D j = false) (fun i => D.length - i) (ONd D) i .ret [I i, I D.length, inD D, I i, inD D, .func 72 [] []] [] else bif inK .i64 ((i : Int) + 1) then RoundQ (fun i : Nat => VNd D i) (fun _ => []) (fun i => i ≤ D.length ∧ ∀ j, j < i → qNd D j = false) (fun i => D.length - i) (ONd D) i .normal (VNd D (i + 1)) [] else False) := by
          rintro b rfl
          refine cond_i (fun h => ⟨rfl, .inr ⟨?_, rfl, i, rfl⟩⟩) (fun h => cond_r (by omega) ⟨i + 1, ⟨by omega, fun j hj => ?_⟩, by dsimp only; omega, rfl, fitBs_refl _, fun _ _ _ h => h⟩)
          · unfold anyNd
            rw [List.any_eq_true]
            exact ⟨i, List.mem_range.2 hlt, h⟩
          · by_cases e : j = i
            · subst e; exact h
            · exact h1 j (by omega)
        exact key _ rfl
      · obtain rfl : i = D.length := by omega
        refine cond_d (fun h => by omega) (fun _ => ⟨rfl, .inl ⟨?_, rfl, rfl⟩⟩)
        unfold anyNd
        rw [List.any_eq_false]
        intro j hj
        rw [h1 j (List.mem_range.1 hj)]
        simp
    · rintro lock t h K ⟨hf, _, k1, k2⟩
      refine ⟨0, hf, ⟨Nat.zero_le _, fun j hj => by omega⟩, ?_⟩
      rintro e vs bs ⟨rfl, ⟨g, rfl, rfl⟩ | ⟨g, rfl, i, rfl⟩⟩
      · exact k1 g
      · exact k2 g i
  · rintro lock t h K ⟨hf, hc, _⟩
    exact (hn hc).elim

theorem anyNd_v (hrow : SpOk Try.prog rowNd.1 rowNd.2) (hn : D.length ≤ 100000) : ∃ h', CallsV Try.prog 60 [inD D, .func 72 [] []] ⟨0, []⟩ (.ret (.bool (anyNd D))) h' := by
  have hall : LoopsOk Try.prog 81 [(0, lNd D)] := fun x hx => by
    simp only [List.mem_singleton] at hx
    subst hx
    exact ⟨by kernel_rfl, lNd_ok hrow⟩
  obtain ⟨r, h', rfl, hc⟩ := of_callN (callL_good hmix noSp hall (un := 10) 20) (f := 60) (args := [inD D, .func 72 [] []]) (h := ⟨0, []⟩) (K := fun r _ => r = .ret (.bool (anyNd D))) (by
    refine cast (Ndf_ev D _).symm ?_
    refine ⟨fitP_self rfl, hn, fun h => by rw [h]; rfl, fun h i => by rw [h, decide_eq_true (by omega)]⟩)
  exact ⟨h', hc⟩
end
end Go.Sx.Bln

/- blend: Pt, evaluated. -/

namespace Go.Sx.Bln
open Go Go.Sx Go.Proofs
set_option maxRecDepth 1000000

def pthG (p : List (List Int)) (j : Nat) : List VV := [inD (p.getD j [])]
def pthD (p : List (List Int)) : VV := .tl p.length 1 (pthG p)
def okPt (p : List (List Int)) (D : List Int) : Bool := decide (D.length = (p.getD 0 []).length) && !anyNd D
/-- Is a path odd, as a row. -/
def rowPt : FuncId × Spec1 := (71, fun _ args h K => match args with
  | [x, .tp ts] => ∃ (D : List Int) (p : List (List Int)), x = inD D ∧ ts = [pthD p] ∧ (1 ≤ p.length ∧ D.length ≤ 100000) ∧ K (.ret (.bool (!okPt p D))) h
  | _ => False)
def dsPt : List Nat := [8, 7, 6, 4, 0, 1]
def VPt (p : List (List Int)) (i : Int) : List VV := [I i, I p.length, pthD p, I 0, pthD p, .func 71 [] [.tp [pthD p]]]
theorem Pt_ev (p : List (List Int)) (i : Int) (X : VEx → List VV → List VB → Prop) : codeE Try.prog (callN Try.prog (tabS [rowPt]) noL 10 20) (fun _ => none) true 10 19 0 (loopB 0 (bodyOf Try.prog 86)) (dsPt.zip (VPt p i)) ⟨0, ([] : List Nat).zip []⟩ (obs 0 dsPt [] X) =
  (bif decide (i < (↑p.length : Int)) then
 bif decide ((0 : Int) ≤ i ∧ i < (↑p.length : Int)) then
 ∃ (D : List Int), ∃ (p_1 : List (List Int)), VV.tl (p.getD i.toNat []).length 1 (dG (p.getD i.toNat [])) = inD D ∧ [pthD p] = [pthD p_1] ∧ (1 ≤ p_1.length ∧ D.length ≤ 100000) ∧ bif !okPt p_1 D then
 X VEx.ret [I i, I (↑p.length : Int), VV.tl p.length 1 (pthG p), I i, VV.tl p.length 1 (pthG p), VV.func (71 : FuncId) [] [VV.tp [VV.tl p.length 1 (pthG p)]]] []
 else bif inK IntKind.i64 (i + (1 : Int)) then
 X VEx.normal [I (i + (1 : Int)), I (↑p.length : Int), VV.tl p.length 1 (pthG p), I 0, VV.tl p.length 1 (pthG p), VV.func (71 : FuncId) [] [VV.tp [VV.tl p.length 1 (pthG p)]]] []
 else False
 else False
 else X (VEx.exit 0) [I i, I (↑p.length : Int), VV.tl p.length 1 (pthG p), I 0, VV.tl p.length 1 (pthG p), VV.func (71 : FuncId) [] [VV.tp [VV.tl p.length 1 (pthG p)]]] []) := by kernel_rfl

def qPt (p : List (List Int)) (i : Nat) : Bool := !okPt p (p.getD i [])
/-- Is there one such? -/
def anyPt (p : List (List Int)) : Bool := (List.range p.length).any (qPt p)
def lPt (p : List (List Int)) : LT := fun lock t h K =>
  FitP lock h t ⟨0, ([] : List Nat).zip []⟩ (dsPt.zip (VPt p 0)) ∧ p.length ≤ 100000 ∧ (anyPt p = false → K .normal (dsPt.zip (VPt p p.length)) ⟨0, ([] : List Nat).zip []⟩) ∧ (anyPt p = true → ∀ i : Nat, K .ret (dsPt.zip [I i, I p.length, pthD p, I i, pthD p, .func 71 [] [.tp [pthD p]]]) ⟨0, ([] : List Nat).zip []⟩)
theorem Ptf_ev (p : List (List Int)) (Q : VRes → Prop) : callN Try.prog noSpec (atF 86 [(0, lPt p)]) 10 20 0 (.fn 73) [pthD p, .func 71 [] [.tp [pthD p]]] ⟨0, []⟩ (fun r _ => Q r) =
  (FitP 0 (VH.mk 0 ([].zip [])) (dsPt.zip (VPt p (0 : Int))) (VH.mk 0 ([].zip [])) (dsPt.zip (VPt p (0 : Int))) ∧ p.length ≤ 100000 ∧ (anyPt p = false → Q (VRes.ret (VV.bool (decide ((-1 : Int) ≥ (0 : Int)))))) ∧ (anyPt p = true → ∀ (i : Nat), Q (VRes.ret (VV.bool (decide ((↑i : Int) ≥ (0 : Int))))))) := by kernel_rfl

end Go.Sx.Bln

/- blend: Pt. -/

namespace Go.Sx.Bln
open Go Go.Sx Go.Proofs
set_option maxRecDepth 1000000

section
variable {p : List (List Int)}

def OPt (p : List (List Int)) (_ : Nat) (e : VEx) (vs : List VV) (bs : List VB) : Prop :=
  bs = [] ∧ ((anyPt p = false ∧ e = .exit 0 ∧ vs = VPt p p.length) ∨ (anyPt p = true ∧ e = .ret ∧ ∃ i : Nat, vs = [I i, I p.length, pthD p, I i, pthD p, .func 71 [] [.tp [pthD p]]]))

theorem lPt_ok (hp : ∀ i, (p.getD i []).length ≤ 100000) (hrow : SpOk Try.prog rowPt.1 rowPt.2) : LSound Try.prog true (.block 0 (.loop (loopB 0 (bodyOf Try.prog 86)))) 19 (lPt p) := by
  by_cases hn : p.length ≤ 100000
  · refine loop_row hmix (noL_good (tab_ok [rowPt] (fun x hx => by
      simp only [List.mem_singleton] at hx
      subst hx
      exact hrow))) (un := 10) (ds := dsPt) (ns := []) (nx := 0) (fun i : Nat => VPt p i) (fun _ => []) (fun i => i ≤ p.length ∧ ∀ j, j < i → qPt p j = false) (fun i => p.length - i) (OPt p) noL_ok ?_ ?_
    · rintro i ⟨h0, h1⟩
      refine cast (Pt_ev p i _).symm ?_
      by_cases hlt : i < p.length
      · refine cond_dk (by omega) (cond_dk ⟨by omega, by omega⟩ ?_)
        rw [show (i : Int).toNat = i by omega]
        have key : ∀ b : Bool, b = qPt p i → (bif b then RoundQ (fun i : Nat => VPt p i) (fun _ => []) (fun i => i ≤ p.length ∧ ∀ j, j < i → qPt p j = false) (fun i => p.length - i) (OPt p) i .ret [I i, I p.length, pthD p, I i, pthD p, .func 71 [] [.tp [pthD p]]] [] else bif inK .i64 ((i : Int) + 1) then RoundQ (fun i : Nat => VPt p i) (fun _ => []) (fun i => i ≤ p.length ∧ ∀ j, j < i → qPt p j = false) (fun i => p.length - i) (OPt p) i .normal (VPt p (i + 1)) [] else False) := by
          rintro b rfl
          refine cond_i (fun h => ⟨rfl, .inr ⟨?_, rfl, i, rfl⟩⟩) (fun h => cond_r (by omega) ⟨i + 1, ⟨by omega, fun j hj => ?_⟩, by dsimp only; omega, rfl, fitBs_refl _, fun _ _ _ h => h⟩)
          · unfold anyPt
            rw [List.any_eq_true]
            exact ⟨i, List.mem_range.2 hlt, h⟩
          · by_cases e : j = i
            · subst e; exact h
            · exact h1 j (by omega)
        exact ⟨p.getD i [], p, rfl, rfl, ⟨by omega, hp i⟩, key _ rfl⟩
      · obtain rfl : i = p.length := by omega
        refine cond_d (fun h => by omega) (fun _ => ⟨rfl, .inl ⟨?_, rfl, rfl⟩⟩)
        unfold anyPt
        rw [List.any_eq_false]
        intro j hj
        rw [h1 j (List.mem_range.1 hj)]
        simp
    · rintro lock t h K ⟨hf, _, k1, k2⟩
      refine ⟨0, hf, ⟨Nat.zero_le _, fun j hj => by omega⟩, ?_⟩
      rintro e vs bs ⟨rfl, ⟨g, rfl, rfl⟩ | ⟨g, rfl, i, rfl⟩⟩
      · exact k1 g
      · exact k2 g i
  · rintro lock t h K ⟨hf, hc, _⟩
    exact (hn hc).elim

theorem anyPt_v (hp : ∀ i, (p.getD i []).length ≤ 100000) (hrow : SpOk Try.prog rowPt.1 rowPt.2) (hn : p.length ≤ 100000) : ∃ h', CallsV Try.prog 73 [pthD p, .func 71 [] [.tp [pthD p]]] ⟨0, []⟩ (.ret (.bool (anyPt p))) h' := by
  have hall : LoopsOk Try.prog 86 [(0, lPt p)] := fun x hx => by
    simp only [List.mem_singleton] at hx
    subst hx
    exact ⟨by kernel_rfl, lPt_ok hp hrow⟩
  obtain ⟨r, h', rfl, hc⟩ := of_callN (callL_good hmix noSp hall (un := 10) 20) (f := 73) (args := [pthD p, .func 71 [] [.tp [pthD p]]]) (h := ⟨0, []⟩) (K := fun r _ => r = .ret (.bool (anyPt p))) (by
    refine cast (Ptf_ev p _).symm ?_
    refine ⟨fitP_self rfl, hn, fun h => by rw [h]; rfl, fun h i => by rw [h, decide_eq_true (by omega)]⟩)
  exact ⟨h', hc⟩
end
end Go.Sx.Bln

/- blend: paths, what is left, evaluated. -/

namespace Go.Sx.Bln
open Go Go.Sx Go.Proofs
set_option maxRecDepth 1000000

theorem w59_ev (n : Int) (Q : VRes → Prop) : callN Try.prog noSpec noL 10 20 0 (.fn 59) [I n] ⟨0, []⟩ (fun r h => Q r) =
  (bif decide ((0 : Int) ≤ n) then
 Q (VRes.ret (VV.bool !decide (n ≤ (1048576 : Int))))
 else Q (VRes.ret (VV.bool !false))) := by kernel_rfl

theorem w72_ev (n : Int) (Q : VRes → Prop) : callN Try.prog noSpec noL 10 20 0 (.fn 72) [I n] ⟨0, []⟩ (fun r h => Q r) =
  (bif decide ((0 : Int) ≤ n) then
 Q (VRes.ret (VV.bool !decide (n ≤ (1048576 : Int))))
 else Q (VRes.ret (VV.bool !false))) := by kernel_rfl

/-- Are there odd numbers, as a row. -/
def cfI : FuncId × Spec1 := (60, fun _ args h K => match args with
  | [x, .func 59 [] []] => ∃ (D : List Int), isD h 2 x (inD D) ∧ D.length ≤ 100000 ∧ K (.ret (.bool (anyW D))) h
  | [x, .func 72 [] []] => ∃ (D : List Int), isD h 2 x (inD D) ∧ D.length ≤ 100000 ∧ K (.ret (.bool (anyNd D))) h
  | _ => False)
theorem p71_ev (D : List Int) (p : List (List Int)) (Q : VRes → Prop) : callN Try.prog (tabS [cfI]) noL 10 20 0 (.fn 71) [inD D, .tp [pthD p]] ⟨0, []⟩ (fun r h => Q r) =
  (bif decide ((0 : Int) ≤ (0 : Int) ∧ (0 : Int) < (↑p.length : Int)) then
 bif !decide ((↑D.length : Int) = (↑(p.getD (Int.toNat (0 : Int)) []).length : Int)) then
 Q (VRes.ret (VV.bool true))
 else ∃ (D_1 : List Int), isD (VH.mk 0 []) 2 (VV.tl D.length 1 (dG D)) (inD D_1) ∧ D_1.length ≤ 100000 ∧ Q (VRes.ret (VV.bool (anyNd D_1)))
 else False) := by kernel_rfl

def pthB (p : List (List Int)) : Prop := (1 ≤ p.length ∧ p.length ≤ 100000) ∧ ∀ i, (p.getD i []).length ≤ 100000
/-- Are there odd paths, as a row. -/
def cfPt : FuncId × Spec1 := (73, fun _ args h K => match args with
  | [x, .func 71 [] [c]] => ∃ (p : List (List Int)), isD h 4 x (pthD p) ∧ isD h 3 c (.tp [pthD p]) ∧ pthB p ∧ K (.ret (.bool (anyPt p))) h
  | _ => False)
theorem wi_ev (n a b : Int) (Q : VRes → Prop) : callN Try.prog noSpec noL 10 20 0 (.fn 53) [I n, I a, I b] ⟨0, []⟩ (fun r h => Q r) =
  (bif decide (a ≤ n) then
 Q (VRes.ret (VV.bool (decide (n ≤ b))))
 else Q (VRes.ret (VV.bool false))) := by kernel_rfl

def wiT : FuncId × Spec1 := (53, fun _ args h K => match args with
  | [.int .i64 n, .int .i64 a, .int .i64 b] => K (.ret (.bool (decide (a ≤ n ∧ n ≤ b)))) h
  | _ => False)
theorem ap_ev (p : List (List Int)) (Q : VRes → Prop) : callN Try.prog (tabS [cfPt, wiT]) noL 10 20 0 (.fn 39) [pthD p] ⟨0, []⟩ (fun r h => Q r) =
  (bif !decide ((1 : Int) ≤ (↑p.length : Int) ∧ (↑p.length : Int) ≤ (4 : Int)) then
 Q (VRes.ret (VV.bool false))
 else bif decide ((0 : Int) ≤ (0 : Int) ∧ (0 : Int) < (↑p.length : Int)) then
 bif !decide ((1 : Int) ≤ (↑(p.getD (Int.toNat (0 : Int)) []).length : Int) ∧ (↑(p.getD (Int.toNat (0 : Int)) []).length : Int) ≤ (4 : Int)) then
 Q (VRes.ret (VV.bool false))
 else ∃ (p_1 : List (List Int)), isD (VH.mk (0 + 1) [(0, VB.cells [VV.tl p.length 1 (pthG p)] 26)]) 4 (VV.tl p.length 1 (pthG p)) (pthD p_1) ∧ isD (VH.mk (0 + 1) [(0, VB.cells [VV.tl p.length 1 (pthG p)] 26)]) 3 (VV.ptr (VA.own 0 0)) (VV.tp [pthD p_1]) ∧ pthB p_1 ∧ Q (VRes.ret (VV.bool !anyPt p_1))
 else False) := by kernel_rfl

def okPaths (p : List (List Int)) : Bool := decide (1 ≤ p.length ∧ p.length ≤ 4) && decide (1 ≤ (p.getD 0 []).length ∧ (p.getD 0 []).length ≤ 4) && !anyPt p
/-- Are paths as they should be, as a row. -/
def apR (p : List (List Int)) : FuncId × Spec1 := (39, fun _ args h K => match args with
  | [x] => isD h 4 x (pthD p) ∧ pthB p ∧ K (.ret (.bool (okPaths p))) h
  | _ => False)
def dsLs : List Nat := [6, 4, 3, 2, 0, 1]
def VLs (a b : Nat → Int) (i : Int) : List VV := [I i, .ptr (.own 2 0), .ptr (.own 1 0), .ptr (.own 0 0), .agg (nL a), .agg (nL b)]
def BLs (b g : Nat → Int) : List VB := [.fam [] 6 g 80, faN b, .fam [] 6 (fun _ => 0) 80]
theorem lr_ev (a b g : Nat → Int) (i : Int) (X : VEx → List VV → List VB → Prop) : codeE Try.prog (callN Try.prog noSpec noL 10 20) (fun _ => none) true 10 (ntOf Try.prog 43) 0 (loopB 0 (bodyOf Try.prog 43)) (dsLs.zip (VLs a b i)) ⟨3, [0, 1, 2].zip (BLs b g)⟩ (obs 3 dsLs [0, 1, 2] X) =
  (bif decide (i < (6 : Int)) then
 bif decide ((0 : Int) ≤ i ∧ i < (↑6 : Int)) then
 bif decide (i.toNat * (1) < 6) then
 bif decide ((0 : Int) ≤ i ∧ i < (↑6 : Int)) then
 bif decide (i.toNat * (1) < 6) then
 bif inK IntKind.i64 (g (i.toNat * (1)) - (fun (k : Nat) => (ch b).getD k (0 : Int)) (i.toNat * (1))) then
 bif decide ((0 : Int) ≤ i ∧ i < (↑6 : Int)) then
 bif decide (i.toNat * (1) + (1) ≤ 6) then
 bif inK IntKind.i64 (i + (1 : Int)) then
 X VEx.normal [I (i + (1 : Int)), VV.ptr (VA.own 2 0), VV.ptr (VA.own 1 0), VV.ptr (VA.own 0 0), VV.agg [I (a 0), I (a 1), I (a 2), I (a 3), I (a 4), I (a 5)], VV.agg [I (b 0), I (b 1), I (b 2), I (b 3), I (b 4), I (b 5)]] [VB.fam [] 6 (setF g (i.toNat * (1)) [g (i.toNat * (1)) - (fun (k : Nat) => (ch b).getD k (0 : Int)) (i.toNat * (1))]) (80 : TypeId), VB.fam [] 6 (fun (k : Nat) => (ch b).getD k (0 : Int)) (80 : TypeId), VB.fam [] 6 (fun (_ : Nat) => (0 : Int)) (80 : TypeId)]
 else False
 else False
 else False
 else False
 else False
 else False
 else False
 else False
 else X (VEx.exit 0) [I i, VV.ptr (VA.own 2 0), VV.ptr (VA.own 1 0), VV.ptr (VA.own 0 0), VV.agg [I (a 0), I (a 1), I (a 2), I (a 3), I (a 4), I (a 5)], VV.agg [I (b 0), I (b 1), I (b 2), I (b 3), I (b 4), I (b 5)]] [VB.fam [] 6 g (80 : TypeId), VB.fam [] 6 (fun (k : Nat) => (ch b).getD k (0 : Int)) (80 : TypeId), VB.fam [] 6 (fun (_ : Nat) => (0 : Int)) (80 : TypeId)]) := by kernel_rfl

def lsF (a b : Nat → Int) (k : Nat) (i : Nat) : Int := if i < k then a i - b i else a i
def bdL (a b : Nat → Int) : Prop := ∀ i, i < 6 → (0 ≤ a i ∧ a i ≤ 1000) ∧ 0 ≤ b i ∧ b i ≤ 1000
def lLs (a b : Nat → Int) : LT := fun lock tt h K =>
  FitP lock h tt ⟨3, [0, 1, 2].zip (BLs b (lsF a b 0))⟩ (dsLs.zip (VLs a b 0)) ∧ bdL a b ∧ K .normal (dsLs.zip (VLs a b 6)) ⟨3, [0, 1, 2].zip (BLs b (lsF a b 6))⟩
theorem lsf_ev (a b : Nat → Int) (Q : VRes → Prop) : callN Try.prog noSpec (atF 43 [(0, lLs a b)]) 10 20 0 (.fn 43) [.agg (nL a), .agg (nL b)] ⟨0, []⟩ (fun r h => Q r) =
  (FitP 0 (VH.mk (3) [(2, VB.fam [] (6) (fun (_ : Nat) => (0 : Int)) 80), (1, VB.fam [] (6) (fun (k : Nat) => [b 0, b 1, b 2, b 3, b 4, b 5].getD k (0 : Int)) 80), (0, VB.fam [] (6) (fun (k : Nat) => [a 0, a 1, a 2, a 3, a 4, a 5].getD k (0 : Int)) 80)]) [(6, I 0), (4, VV.ptr (VA.own (2) 0)), (3, VV.ptr (VA.own (1) 0)), (2, VV.ptr (VA.own 0 0)), (0, VV.agg (nL a)), (1, VV.agg (nL b))] (VH.mk 3 ([0, 1, 2].zip (BLs b (lsF a b 0)))) (dsLs.zip (VLs a b (0 : Int))) ∧ bdL a b ∧ Q (VRes.ret (VV.agg [I (setF (fun (_ : Nat) => (0 : Int)) 0 [lsF a b 6 (0 + 0), lsF a b 6 (0 + 1), lsF a b 6 (0 + 2), lsF a b 6 (0 + 3), lsF a b 6 (0 + 4), lsF a b 6 (0 + 5)] (0 + 0)), I (setF (fun (_ : Nat) => (0 : Int)) 0 [lsF a b 6 (0 + 0), lsF a b 6 (0 + 1), lsF a b 6 (0 + 2), lsF a b 6 (0 + 3), lsF a b 6 (0 + 4), lsF a b 6 (0 + 5)] (0 + 1)), I (setF (fun (_ : Nat) => (0 : Int)) 0 [lsF a b 6 (0 + 0), lsF a b 6 (0 + 1), lsF a b 6 (0 + 2), lsF a b 6 (0 + 3), lsF a b 6 (0 + 4), lsF a b 6 (0 + 5)] (0 + 2)), I (setF (fun (_ : Nat) => (0 : Int)) 0 [lsF a b 6 (0 + 0), lsF a b 6 (0 + 1), lsF a b 6 (0 + 2), lsF a b 6 (0 + 3), lsF a b 6 (0 + 4), lsF a b 6 (0 + 5)] (0 + 3)), I (setF (fun (_ : Nat) => (0 : Int)) 0 [lsF a b 6 (0 + 0), lsF a b 6 (0 + 1), lsF a b 6 (0 + 2), lsF a b 6 (0 + 3), lsF a b 6 (0 + 4), lsF a b 6 (0 + 5)] (0 + 4)), I (setF (fun (_ : Nat) => (0 : Int)) 0 [lsF a b 6 (0 + 0), lsF a b 6 (0 + 1), lsF a b 6 (0 + 2), lsF a b 6 (0 + 3), lsF a b 6 (0 + 4), lsF a b 6 (0 + 5)] (0 + 5))]))) := by kernel_rfl

end Go.Sx.Bln

/- blend: stocks, tastes, paths and remainders at a row's arguments. -/

namespace Go.Sx.Bln
open Go Go.Sx Go.Proofs Go.ChangeShapes Go.WideShapes Go.RowKit
set_option maxRecDepth 100000

theorem leavesP34 : leavesT Try.prog 5 34 = some [3, 3] := by kernel_rfl
theorem leavesP32 : leavesT Try.prog 5 32 = some [3, 3, 3, 3, 30] := by kernel_rfl
theorem leavesP25 : leavesT Try.prog 5 25 = some [23, 3, 3] := by kernel_rfl
theorem leavesP3 : leavesT Try.prog 5 3 = some [3] := by kernel_rfl
theorem undP3 : Try.prog.underlying 3 = some (.int .i64) := by kernel_rfl
theorem undP22 : Try.prog.underlying 22 = some (.slice 32) := by kernel_rfl
theorem undP23 : Try.prog.underlying 23 = some (.slice 3) := by kernel_rfl
theorem undP30 : Try.prog.underlying 30 = some (.slice 34) := by kernel_rfl
theorem strP25 : isStrB Try.prog 25 = true := by kernel_rfl
theorem cellsP34 : Try.prog.cellsOf 34 = 2 := by kernel_rfl
theorem cellsP32 : Try.prog.cellsOf 32 = 5 := by kernel_rfl
theorem cellsP3 : Try.prog.cellsOf 3 = 1 := by kernel_rfl

section
variable {H : Type} {enc : TypeId × Value → H} {w : World} {base : Nat} {spare : Nat → Bool} {held : Bool} {v : Value} {fuel : Nat} {y : DataW H × List MemPlace}

theorem len1 {xs : List Value} (h : xs.length = 1) : ∃ a, xs = [a] := by
  match xs, h with
  | [a], _ => exact ⟨a, rfl⟩
theorem len2 {xs : List Value} (h : xs.length = 2) : ∃ a b, xs = [a, b] := by
  match xs, h with
  | [a, b], _ => exact ⟨a, b, rfl⟩
theorem len3 {xs : List Value} (h : xs.length = 3) : ∃ a b c, xs = [a, b, c] := by
  match xs, h with
  | [a, b, c], _ => exact ⟨a, b, c, rfl⟩
theorem len5 {xs : List Value} (h : xs.length = 5) : ∃ a b c d e, xs = [a, b, c, d, e] := by
  match xs, h with
  | [a, b, c, d, e], _ => exact ⟨a, b, c, d, e, rfl⟩

theorem leafI {v : Value} (h : ∃ m v' y, some v = some v' ∧ DataW.trod enc Try.prog w base spare held m 3 [v'] = some y) : ∃ n : Int, v = .int .i64 n := by
  obtain ⟨m, v', y, e, h⟩ := h
  cases e
  obtain ⟨n, rfl, _⟩ := leaf_int undP3 h
  exact ⟨n, rfl⟩

theorem ints_rd (h : DataW.trod enc Try.prog w base spare held fuel 23 [v] = some y) : ∃ D : List Int, VRel (dataR w) (inD D) v := by
  obtain ⟨l, hl⟩ := read_list (α := Int) (f := fun n => [I n]) (d0 := 0) undP23 leavesP3 cellsP3 (by decide) (fun _ => rfl) (fun xs hx hc => by
    obtain ⟨a, rfl⟩ := len1 hx
    obtain ⟨n, rfl⟩ := leafI (hc 0 3 rfl)
    exact ⟨n, _, _, rfl, rfl, rfl⟩) h
  exact ⟨l, hl⟩
theorem spans_rd (h : DataW.trod enc Try.prog w base spare held fuel 30 [v] = some y) : ∃ D : List Sp, VRel (dataR w) (spD D) v := by
  obtain ⟨l, hl⟩ := read_list (α := Sp) (f := fun s => [I s.lo, I s.hi]) (d0 := s0) undP30 leavesP34 cellsP34 (by decide) (fun _ => rfl) (fun xs hx hc => by
    obtain ⟨a, b, rfl⟩ := len2 hx
    obtain ⟨n, rfl⟩ := leafI (hc 0 3 rfl)
    obtain ⟨m, rfl⟩ := leafI (hc 1 3 rfl)
    exact ⟨⟨n, m⟩, _, _, rfl, ⟨_, _, rfl, rfl, rfl⟩, rfl⟩) h
  exact ⟨l, hl⟩
theorem stocks_rd (h : DataW.trod enc Try.prog w base spare held fuel 22 [v] = some y) : ∃ l : List Stk, VRel (dataR w) (stD l) v := by
  obtain ⟨l, hl⟩ := read_list (α := Stk) (f := stL) (d0 := k0) undP22 leavesP32 cellsP32 (by decide) (fun _ => rfl) (fun xs hx hc => by
    obtain ⟨a, b, c, d, e, rfl⟩ := len5 hx
    obtain ⟨n1, rfl⟩ := leafI (hc 0 3 rfl)
    obtain ⟨n2, rfl⟩ := leafI (hc 1 3 rfl)
    obtain ⟨n3, rfl⟩ := leafI (hc 2 3 rfl)
    obtain ⟨n4, rfl⟩ := leafI (hc 3 3 rfl)
    obtain ⟨m, v', y, e5, h5⟩ := hc 4 30 rfl
    cases e5
    obtain ⟨D, hD⟩ := spans_rd h5
    exact ⟨⟨n1, n2, n3, n4, D⟩, _, _, rfl, ⟨_, _, rfl, ⟨_, _, rfl, ⟨_, _, rfl, ⟨_, _, hD, rfl, rfl⟩, rfl⟩, rfl⟩, rfl⟩, rfl⟩) h
  exact ⟨l, hl⟩

variable {b0 : Nat} {d : DataW H} {p : List MemPlace}
theorem stocks_in (s : Value.okWide Try.prog w .any b0 22 v) (h : DataW.Trod enc Try.prog w base spare held 22 v d p) : ∃ l : List Stk, VRel (dataR w) (stD l) v := by
  obtain ⟨_, _, h⟩ := open_list undP22 s h
  exact stocks_rd h
theorem taste_in (s : Value.okWide Try.prog w .any b0 25 v) (h : DataW.Trod enc Try.prog w base spare held 25 v d p) : ∃ t : Tst, VRel (dataR w) (.agg (tsL t)) v := by
  obtain ⟨xs, rfl, hl, hc⟩ := open_agg strP25 leavesP25 s h
  obtain ⟨a, b, c, rfl⟩ := len3 hl
  obtain ⟨m, v', y, e5, h5⟩ := hc 0 23 rfl
  cases e5
  obtain ⟨D, hD⟩ := ints_rd h5
  obtain ⟨n1, rfl⟩ := leafI (hc 1 3 rfl)
  obtain ⟨n2, rfl⟩ := leafI (hc 2 3 rfl)
  exact ⟨⟨D, n1, n2⟩, _, ⟨_, _, hD, ⟨_, _, rfl, ⟨_, _, rfl, rfl, rfl⟩, rfl⟩, rfl⟩, rfl⟩
end
end Go.Sx.Bln

/- blend: Bound's inner sum, evaluated. -/

namespace Go.Sx.Bln
open Go Go.Sx Go.Proofs
set_option maxRecDepth 1000000

end Go.Sx.Bln

/- blend: Bound's inner sum. -/

namespace Go.Sx.Bln
open Go Go.Sx Go.Proofs
set_option maxRecDepth 1000000

section
variable {D : List Int} {t : Tst} {s : Stk}

end

end Go.Sx.Bln

/- blend: Bound's outer sum, evaluated. -/

namespace Go.Sx.Bln
open Go Go.Sx Go.Proofs
set_option maxRecDepth 1000000

end Go.Sx.Bln

/- blend: paths and what is left; plans (plain). -/

namespace Go.Sx.Bln
open Go Go.Sx Go.Proofs
set_option maxRecDepth 1000000

/-! The small functions. -/
theorem rowNd_ok : SpOk Try.prog rowNd.1 rowNd.2 := by
  intro lock args h K hK
  simp only [rowNd] at hK
  split at hK
  · rename_i n
    obtain ⟨r, h', rfl, hc⟩ := of_callN good0 (f := 72) (args := [I n]) (h := ⟨0, []⟩) (K := fun r _ => r = .ret (.bool (!okW n))) (by
      refine cast (w72_ev n _).symm ?_
      unfold okW
      refine cond_d (fun h => ?_) (fun h => ?_)
      · by_cases h2 : n ≤ 1048576
        · rw [decide_eq_true h2, decide_eq_true (by omega)]
        · rw [decide_eq_false h2, decide_eq_false (by omega)]
      · rw [decide_eq_false (by omega)])
    exact ⟨_, h, hK, lockP_refl _ _, calls_lift0 hc rfl rfl⟩
  · exact hK.elim
theorem rowW_ok : SpOk Try.prog rowW.1 rowW.2 := by
  intro lock args h K hK
  simp only [rowW] at hK
  split at hK
  · rename_i n
    obtain ⟨r, h', rfl, hc⟩ := of_callN good0 (f := 59) (args := [I n]) (h := ⟨0, []⟩) (K := fun r _ => r = .ret (.bool (!okW n))) (by
      refine cast (w59_ev n _).symm ?_
      unfold okW
      refine cond_d (fun h => ?_) (fun h => ?_)
      · by_cases h2 : n ≤ 1048576
        · rw [decide_eq_true h2, decide_eq_true (by omega)]
        · rw [decide_eq_false h2, decide_eq_false (by omega)]
      · rw [decide_eq_false (by omega)])
    exact ⟨_, h, hK, lockP_refl _ _, calls_lift0 hc rfl rfl⟩
  · exact hK.elim
theorem cfI_ok : SpOk Try.prog cfI.1 cfI.2 := by
  intro lock args h K hK
  simp only [cfI] at hK
  split at hK
  · obtain ⟨D, hx, hD, hK⟩ := hK
    obtain ⟨h', hv⟩ := anyW_v (D := D) rowW_ok hD
    exact ⟨_, h, hK, lockP_refl _ _, calls_lendDP 2 hv rfl ⟨hx, ⟨rfl, trivial, trivial⟩, trivial⟩⟩
  · obtain ⟨D, hx, hD, hK⟩ := hK
    obtain ⟨h', hv⟩ := anyNd_v (D := D) rowNd_ok hD
    exact ⟨_, h, hK, lockP_refl _ _, calls_lendDP 2 hv rfl ⟨hx, ⟨rfl, trivial, trivial⟩, trivial⟩⟩
  · exact hK.elim
theorem rowPt_ok : SpOk Try.prog rowPt.1 rowPt.2 := by
  intro lock args h K hK
  simp only [rowPt] at hK
  split at hK
  · obtain ⟨D, p, rfl, rfl, ⟨hp, hD⟩, hK⟩ := hK
    obtain ⟨r, h', rfl, hc⟩ := of_callN (noL_good (tab1 cfI_ok)) (f := 71) (args := [inD D, .tp [pthD p]]) (h := ⟨0, []⟩) (K := fun r _ => r = .ret (.bool (!okPt p D))) (by
      refine cast (p71_ev D p _).symm (cond_dk (by omega) ?_)
      unfold okPt
      refine cond_nd (fun h => ?_) (fun h => ⟨D, ⟨rfl, rfl, fun _ _ => rfl⟩, hD, ?_⟩)
      · have h : ¬ (D.length : Int) = ((p.getD 0 []).length : Nat) := h
        rw [decide_eq_false (by omega)]; rfl
      · have h : (D.length : Int) = ((p.getD 0 []).length : Nat) := h
        rw [decide_eq_true (by omega)]; simp)
    exact ⟨_, h, hK, lockP_refl _ _, calls_lift0 hc rfl rfl⟩
  · exact hK.elim
theorem cfPt_ok : SpOk Try.prog cfPt.1 cfPt.2 := by
  intro lock args h K hK
  simp only [cfPt] at hK
  split at hK
  · obtain ⟨p, hx, hc, ⟨⟨h1, h2⟩, h3⟩, hK⟩ := hK
    obtain ⟨h', hv⟩ := anyPt_v (p := p) h3 rowPt_ok h2
    exact ⟨_, h, hK, lockP_refl _ _, calls_lendDP 4 hv rfl ⟨hx, ⟨rfl, trivial, hc, trivial⟩, trivial⟩⟩
  · exact hK.elim
theorem wiT_ok : SpOk Try.prog wiT.1 wiT.2 := by
  intro lock args h K hK
  simp only [wiT] at hK
  split at hK
  · rename_i n a b
    obtain ⟨r, h', rfl, hc⟩ := of_callN good0 (f := 53) (args := [I n, I a, I b]) (h := ⟨0, []⟩) (K := fun r _ => r = .ret (.bool (decide (a ≤ n ∧ n ≤ b)))) (by
      refine cast (wi_ev n a b _).symm ?_
      refine cond_d (fun h => ?_) (fun h => ?_)
      · by_cases h2 : n ≤ b
        · rw [decide_eq_true h2, decide_eq_true ⟨h, h2⟩]
        · rw [decide_eq_false h2, decide_eq_false (by omega)]
      · rw [decide_eq_false (by omega)])
    exact ⟨_, h, hK, lockP_refl _ _, calls_lift0 hc rfl rfl⟩
  · exact hK.elim
theorem pw_tab : ∀ f T, tabS [cfPt, wiT] f = some T → SpOk Try.prog f T := tab_ok _ (fun x hx => by
  simp only [List.mem_cons, List.not_mem_nil, or_false] at hx
  rcases hx with rfl | rfl
  · exact cfPt_ok
  · exact wiT_ok)
theorem paths_v {p : List (List Int)} (hp : ∀ i, (p.getD i []).length ≤ 100000) : ∃ h', CallsV Try.prog 39 [pthD p] ⟨0, []⟩ (.ret (.bool (okPaths p))) h' := by
  obtain ⟨r, h', rfl, hc⟩ := of_callN (noL_good pw_tab) (f := 39) (args := [pthD p]) (h := ⟨0, []⟩) (K := fun r _ => r = .ret (.bool (okPaths p))) (by
    refine cast (ap_ev p _).symm ?_
    unfold okPaths
    refine cond_nd (fun h => ?_) (fun h => cond_dk (by omega) (cond_nd (fun h2 => ?_) (fun h2 => ⟨p, ⟨rfl, rfl, fun _ _ => rfl⟩, ⟨_, _, rfl, ⟨rfl, rfl, fun _ _ => rfl⟩, trivial⟩, ⟨⟨by omega, by omega⟩, hp⟩, ?_⟩)))
    · rw [decide_eq_false (p := 1 ≤ p.length ∧ p.length ≤ 4) (by omega)]; rfl
    · have h2 : ¬ ((1 : Int) ≤ ((p.getD 0 []).length : Nat) ∧ (((p.getD 0 []).length : Nat) : Int) ≤ 4) := h2
      rw [decide_eq_false (p := 1 ≤ (p.getD 0 []).length ∧ (p.getD 0 []).length ≤ 4) (by omega)]; simp
    · have h2 : (1 : Int) ≤ ((p.getD 0 []).length : Nat) ∧ (((p.getD 0 []).length : Nat) : Int) ≤ 4 := h2
      rw [decide_eq_true (p := 1 ≤ p.length ∧ p.length ≤ 4) (by omega), decide_eq_true (p := 1 ≤ (p.getD 0 []).length ∧ (p.getD 0 []).length ≤ 4) (by omega)]; rfl)
  exact ⟨h', hc⟩
theorem apR_ok (p : List (List Int)) : SpOk Try.prog (apR p).1 (apR p).2 := by
  intro lock args h K hK
  simp only [apR] at hK
  split at hK
  · obtain ⟨hx, hp, hK⟩ := hK
    obtain ⟨h', hv⟩ := paths_v hp.2
    exact ⟨_, h, hK, lockP_refl _ _, calls_lendDP 4 hv rfl ⟨hx, trivial⟩⟩
  · exact hK.elim

theorem lsF_s {a b : Nat → Int} {k : Nat} : setC (lsF a b k) k (lsF a b k k - b k) = lsF a b (k + 1) := by
  funext i
  rw [setC_get]
  unfold lsF
  by_cases h : i = k
  · subst h; rw [if_pos rfl, if_neg (by omega), if_pos (by omega)]
  · rw [if_neg h]
    by_cases h2 : i < k
    · rw [if_pos h2, if_pos (by omega)]
    · rw [if_neg h2, if_neg (by omega)]
theorem lLs_ok {a b : Nat → Int} : LSound Try.prog true (.block 0 (.loop (loopB 0 (bodyOf Try.prog 43)))) (ntOf Try.prog 43) (lLs a b) := by
  by_cases hh : bdL a b
  · refine loop_row hmix good0 (un := 10) (ds := dsLs) (ns := [0, 1, 2]) (nx := 3) (fun i : Nat => VLs a b i) (fun i => BLs b (lsF a b i)) (fun i => i ≤ 6) (fun i => 6 - i) (fun _ e vs bs => e = .exit 0 ∧ bs = BLs b (lsF a b 6) ∧ vs = VLs a b 6) noL_ok ?_ ?_
    · rintro i h0
      refine cast (lr_ev a b _ i _).symm ?_
      by_cases hlt : i < 6
      · obtain ⟨h1, h2⟩ := hh i hlt
        have e2 : (i : Int).toNat * 1 = i := by omega
        rw [e2, show (fun k => (ch b).getD k (0 : Int)) i = b i from ch_get (by omega)]
        have e3 : lsF a b i i = a i := by unfold lsF; rw [if_neg (by omega)]
        refine cond_dk (by omega) (cond_dk ⟨by omega, by omega⟩ (cond_dk (by omega) (cond_dk ⟨by omega, by omega⟩ (cond_dk (by omega) (cond_r (by rw [e3]; omega) (cond_dk ⟨by omega, by omega⟩ (cond_dk (by omega) (cond_r (by omega) ⟨i + 1, by omega, by dsimp only; omega, rfl, ?_, fun _ _ _ h => h⟩))))))))
        dsimp only
        rw [← lsF_s]
        exact fitBs_refl _
      · obtain rfl : i = 6 := by omega
        exact cond_d (fun h => by omega) (fun _ => ⟨rfl, rfl, rfl⟩)
    · rintro lock tt h K ⟨hf, _, k1⟩
      refine ⟨0, hf, Nat.zero_le _, ?_⟩
      rintro e vs bs ⟨rfl, rfl, rfl⟩
      exact k1
  · rintro lock tt h K ⟨hf, hc, _⟩
    exact (hh hc).elim
theorem less_v {a b : Nat → Int} (hh : bdL a b) : ∃ h', CallsV Try.prog 43 [.agg (nL a), .agg (nL b)] ⟨0, []⟩ (.ret (.agg (nL (lsF a b 6)))) h' := by
  have hall : LoopsOk Try.prog 43 [(0, lLs a b)] := fun x hx => by
    simp only [List.mem_singleton] at hx
    subst hx
    exact ⟨by kernel_rfl, lLs_ok⟩
  obtain ⟨r, h', rfl, hc⟩ := of_callN (callL_good hmix noSp hall (un := 10) 20) (f := 43) (args := [.agg (nL a), .agg (nL b)]) (h := ⟨0, []⟩) (K := fun r _ => r = .ret (.agg (nL (lsF a b 6)))) (by
    refine cast (lsf_ev a b _).symm ⟨⟨⟨rfl, rfl, ⟨rfl, rfl, rfl, fun i hi => ?_⟩, VB.fit_refl _, VB.fit_refl _, trivial⟩, rfl, rfl, rfl, rfl, rfl, rfl, trivial⟩, hh, rfl⟩
    have : (ch a).getD i 0 = a i := ch_get hi
    show (fun k => (ch a).getD k 0) i = lsF a b 0 i
    rw [show (fun k => (ch a).getD k 0) i = a i from this]
    unfold lsF
    rw [if_neg (by omega)])
  exact ⟨h', hc⟩
/-- What is left, as a row. -/
def lessT : FuncId × Spec1 := (43, fun _ args h K => match args with
  | [.agg u, .agg v] => ∃ (a b : Nat → Int), u = nL a ∧ v = nL b ∧ bdL a b ∧ K (.ret (.agg (nL (lsF a b 6)))) h
  | _ => False)
theorem lessT_ok : SpOk Try.prog lessT.1 lessT.2 := by
  intro lock args h K hK
  simp only [lessT] at hK
  split at hK
  · obtain ⟨a, b, rfl, rfl, hb, hK⟩ := hK
    obtain ⟨h', hv⟩ := less_v hb
    exact ⟨_, h, hK, lockP_refl _ _, calls_lift0 hv rfl rfl⟩
  · exact hK.elim
end Go.Sx.Bln

/- blend: Bound. -/

namespace Go.Sx.Bln
open Go Go.Sx Go.Proofs
set_option maxRecDepth 1000000

section
variable {l : List Stk} {t : Tst} {y m u : Int} {D : List Int}

end
end Go.Sx.Bln

/- blend: Bound, as a row. -/

namespace Go.Sx.Bln
open Go Go.Sx Go.Proofs
set_option maxRecDepth 1000000

section
variable {l : List Stk} {t : Tst} {y m u : Int} {D : List Int}

end

end Go.Sx.Bln

/- blend: the document's Bound, evaluated. -/

namespace Go.Sx.Bln
open Go Go.Sx Go.Proofs
set_option maxRecDepth 1000000

end Go.Sx.Bln

/- blend: the document's Bound. -/

namespace Go.Sx.Bln
open Go Go.Sx Go.Proofs
set_option maxRecDepth 1000000

section
variable {l : List Stk} {t : Tst} {y m u : Int} {D : List Int}

end
end Go.Sx.Bln

/- blend: the document's Bound, as a row. -/

namespace Go.Sx.Bln
open Go Go.Sx Go.Proofs
set_option maxRecDepth 1000000

section
variable {l : List Stk} {t : Tst} {y m u : Int} {D : List Int}

end

end Go.Sx.Bln
