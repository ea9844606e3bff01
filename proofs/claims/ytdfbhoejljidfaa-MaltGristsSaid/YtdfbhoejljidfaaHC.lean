/- stream: Hc1 Hc2 Hc3 Hc4 Hc5 Hc6 Hc7, in one text. -/
import Derived.Test.YtdfbhoejljidfaaHB
import Derived.Test.YtdfbhoejljidfaaSxK
import Derived.Test.YtdfbhoejljidfaaSxJ
/- malt: all sets of indices, evaluated. -/

namespace Go.Sx.Grs
open Go Go.Sx Go.Proofs
set_option maxRecDepth 1000000

def ddG (D : List (List Int)) (j : Nat) : List VV := [inD (D.getD j [])]
def ddB (D : List (List Int)) : VB := .vec D.length (ddG D) 1 60
def sT : Nat → Nat → List Int → List (List Int)
  | 0, _, _ => []
  | k + 1, i, b => ((b ++ [(i : Int)]) :: sT k (i + 1) (b ++ [(i : Int)])) ++ sT k (i + 1) b
def nxt (b : List Int) : Int := if b.length = 0 then 0 else b.getD (b.length - 1) 0 + 1
/-- All sets that go on from one, as a row. -/
def setsR (n N : Nat) : FuncId × Spec1 := (55, fun lock args h K => match args with
  | [.int .i64 n', .sl p Lb, .sl m Ld] => n' = (n : Int) ∧ ∃ (b : List Int) (D : List (List Int)) (k i : Nat), (k < N ∧ i + k = n ∧ nxt b = i ∧ D.length + 2 ^ k ≤ 65536 ∧ b.length ≤ i) ∧ (Lb = b.length ∧ Ld = D.length ∧ p ≠ m ∧ lock ≤ p ∧ lock ≤ m) ∧ (∃ g t, h.at p = .vec Lb g 1 t ∧ ∀ j, j < b.length → g j = dG b j) ∧ h.at m = .vec Ld (ddG D) 1 60 ∧ ∀ D', D' = D ++ b :: sT k i b → K (.ret (.sl m D'.length)) ((⟨h.nx, (p, .gone) :: h.bs⟩ : VH).put m (ddB D'))
  | _ => False)
def dsS : List Nat := [8, 2, 0, 1]
def VS (n : Nat) (b : List Int) (i : Int) (L : Nat) : List VV := [I i, .sl 0 L, I n, inD b]
theorem st_ev (n N : Nat) (b : List Int) (D : List (List Int)) (i : Int) (X : VEx → List VV → List VB → Prop) : codeE Try.prog (callN Try.prog (tabS [setsR n N]) noL 10 20) (fun _ => none) true 10 39 0 (loopB 0 (bodyOf Try.prog 55)) (dsS.zip (VS n b i D.length)) ⟨2, [0].zip [ddB D]⟩ (obs 2 dsS [0] X) =
  (bif decide (i < (↑n : Int)) then
 bif roomB (0 + b.length) (8) then
 bif (0 + b.length).beq (0 + b.length) then
 bif roomB (0 + b.length + 1) (8) then
 (↑n : Int) = (↑n : Int) ∧ ∃ (b_1 : List Int) (D_1 : List (List Int)) (k i_1 : Nat), (k < N ∧ i_1 + k = n ∧ nxt b_1 = (↑i_1 : Int) ∧ D_1.length + 2 ^ k ≤ 65536 ∧ b_1.length ≤ i_1) ∧ (0 + b.length + 1 = b_1.length ∧ D.length = D_1.length ∧ 2 ≠ 0 ∧ 0 ≤ 2 ∧ 0 ≤ 0) ∧ (∃ g t, (VH.mk (4) ((2, VB.vec (0 + b.length + 1) (catG (0 + b.length) (catG 0 (fun j => List.take (1) (List.drop (j * (1)) [])) (dG b)) fun j => List.take (1) (List.drop (j * (1)) [I i])) (1) 3) :: (3, VB.vec 1 (fun j => List.take (1) (List.drop (j * (1)) [I i])) (1) 3) :: (2, VB.vec (0 + b.length) (catG 0 (fun j => List.take (1) (List.drop (j * (1)) [])) (dG b)) (1) 3) :: (2, VB.vec 0 (fun j => List.take (1) (List.drop (j * (1)) [])) (1) 3) :: [0].zip [ddB D])).at (2) = VB.vec (0 + b.length + 1) g 1 t ∧ ∀ (j : Nat), j < b_1.length → g j = dG b_1 j) ∧ (VH.mk (4) ((2, VB.vec (0 + b.length + 1) (catG (0 + b.length) (catG 0 (fun j => List.take (1) (List.drop (j * (1)) [])) (dG b)) fun j => List.take (1) (List.drop (j * (1)) [I i])) (1) 3) :: (3, VB.vec 1 (fun j => List.take (1) (List.drop (j * (1)) [I i])) (1) 3) :: (2, VB.vec (0 + b.length) (catG 0 (fun j => List.take (1) (List.drop (j * (1)) [])) (dG b)) (1) 3) :: (2, VB.vec 0 (fun j => List.take (1) (List.drop (j * (1)) [])) (1) 3) :: [0].zip [ddB D])).at 0 = VB.vec D.length (ddG D_1) 1 (60 : TypeId) ∧ ∀ (D' : List (List Int)), D' = D_1 ++ b_1 :: sT k i_1 b_1 → bif inK IntKind.i64 (i + (1 : Int)) then
 X VEx.normal [I (i + (1 : Int)), VV.sl 0 D'.length, I (↑n : Int), VV.tl b.length 1 (dG b)] [VB.vec D'.length (ddG D') 1 (60 : TypeId)]
 else False
 else False
 else False
 else False
 else X (VEx.exit 0) [I i, VV.sl 0 D.length, I (↑n : Int), VV.tl b.length 1 (dG b)] [VB.vec D.length (ddG D) 1 (60 : TypeId)]) := by kernel_rfl

def lS (n N : Nat) (b : List Int) (D : List (List Int)) : LT := fun lock t h K =>
  ∃ (D0 : List (List Int)) (k i : Nat), FitP lock h t ⟨2, [0].zip [ddB D0]⟩ (dsS.zip (VS n b i D0.length)) ∧ (k < N + 1 ∧ i + k = n ∧ nxt b = i ∧ D0.length + 2 ^ k ≤ 65537 ∧ n ≤ 16 ∧ b.length ≤ i ∧ D = D0 ++ sT k i b) ∧ K .normal (dsS.zip (VS n b n D.length)) ⟨2, [0].zip [ddB D]⟩
theorem sf_ev (n N : Nat) (b : List Int) (D D' : List (List Int)) (Q : VRes → VH → Prop) : callN Try.prog noSpec (atF 55 [(0, lS n N b D')]) 10 20 0 (.fn 55) [I n, inD b, .sl 0 D.length] ⟨1, [(0, ddB D)]⟩ (fun r h => Q r h) =
  (bif D.length.beq D.length then
 bif roomB (D.length + 1) (24) then
 bif decide ((↑b.length : Int) > (0 : Int)) then
 bif inK IntKind.i64 ((↑b.length : Int) - (1 : Int)) then
 bif decide ((0 : Int) ≤ (↑b.length : Int) - (1 : Int) ∧ (↑b.length : Int) - (1 : Int) < (↑b.length : Int)) then
 bif inK IntKind.i64 (b.getD ((↑b.length : Int) - (1 : Int)).toNat (0 : Int) + (1 : Int)) then
 ∃ (D0 : List (List Int)) (k i : Nat), FitP 0 (VH.mk (2) [(0, VB.vec (D.length + 1) (catG D.length (ddG D) fun j => List.take (1) (List.drop (j * (1)) [VV.tl b.length 1 (dG b)])) (1) 60), (1, VB.vec 1 (fun j => List.take (1) (List.drop (j * (1)) [VV.tl b.length 1 (dG b)])) (1) 60), (0, ddB D)]) [(8, I (b.getD ((↑b.length : Int) - (1 : Int)).toNat (0 : Int) + (1 : Int))), (23, I (b.getD ((↑b.length : Int) - (1 : Int)).toNat (0 : Int) + (1 : Int))), (7, I (b.getD ((↑b.length : Int) - (1 : Int)).toNat (0 : Int) + (1 : Int))), (22, I (b.getD ((↑b.length : Int) - (1 : Int)).toNat (0 : Int) + (1 : Int))), (21, I (b.getD ((↑b.length : Int) - (1 : Int)).toNat (0 : Int))), (20, VV.tp [I (b.getD ((↑b.length : Int) - (1 : Int)).toNat (0 : Int))]), (19, I ((↑b.length : Int) - (1 : Int))), (18, I (↑b.length : Int)), (17, VV.tl b.length 1 (dG b)), (16, VV.tl b.length 1 (dG b)), (15, VV.bool true), (15, VV.bool (decide ((↑b.length : Int) > (0 : Int)))), (14, I (↑b.length : Int)), (13, VV.tl b.length 1 (dG b)), (7, I 0), (2, VV.sl 0 (D.length + 1)), (12, VV.sl 0 (D.length + 1)), (11, VV.sl (1) 1), (10, VV.tl b.length 1 (dG b)), (9, VV.sl 0 D.length), (6, VV.nils), (0, I (↑n : Int)), (1, inD b), (2, VV.sl 0 D.length)] (VH.mk 2 ([0].zip [ddB D0])) (dsS.zip (VS n b (↑i : Int) D0.length)) ∧ (k < N + 1 ∧ i + k = n ∧ nxt b = (↑i : Int) ∧ D0.length + 2 ^ k ≤ 65537 ∧ n ≤ 16 ∧ b.length ≤ i ∧ D' = D0 ++ sT k i b) ∧ Q (VRes.ret (VV.sl 0 D'.length)) (VH.mk 2 [(0, VB.vec D'.length (ddG D') 1 (60 : TypeId))])
 else False
 else False
 else False
 else ∃ (D0 : List (List Int)) (k i : Nat), FitP 0 (VH.mk (2) [(0, VB.vec (D.length + 1) (catG D.length (ddG D) fun j => List.take (1) (List.drop (j * (1)) [VV.tl b.length 1 (dG b)])) (1) 60), (1, VB.vec 1 (fun j => List.take (1) (List.drop (j * (1)) [VV.tl b.length 1 (dG b)])) (1) 60), (0, ddB D)]) [(8, I 0), (23, I 0), (15, VV.bool false), (15, VV.bool (decide ((↑b.length : Int) > (0 : Int)))), (14, I (↑b.length : Int)), (13, VV.tl b.length 1 (dG b)), (7, I 0), (2, VV.sl 0 (D.length + 1)), (12, VV.sl 0 (D.length + 1)), (11, VV.sl (1) 1), (10, VV.tl b.length 1 (dG b)), (9, VV.sl 0 D.length), (6, VV.nils), (0, I (↑n : Int)), (1, inD b), (2, VV.sl 0 D.length)] (VH.mk 2 ([0].zip [ddB D0])) (dsS.zip (VS n b (↑i : Int) D0.length)) ∧ (k < N + 1 ∧ i + k = n ∧ nxt b = (↑i : Int) ∧ D0.length + 2 ^ k ≤ 65537 ∧ n ≤ 16 ∧ b.length ≤ i ∧ D' = D0 ++ sT k i b) ∧ Q (VRes.ret (VV.sl 0 D'.length)) (VH.mk 2 [(0, VB.vec D'.length (ddG D') 1 (60 : TypeId))])
 else False
 else False) := by kernel_rfl


end Go.Sx.Grs

/- malt: all sets of indices. -/

namespace Go.Sx.Grs
open Go Go.Sx Go.Proofs
set_option maxRecDepth 1000000

theorem sT_len : ∀ (k i : Nat) (b : List Int), (sT k i b).length + 1 = 2 ^ k
  | 0, _, _ => rfl
  | k + 1, i, b => by
    unfold sT
    have h1 := sT_len k (i + 1) (b ++ [(i : Int)])
    have h2 := sT_len k (i + 1) b
    rw [List.length_append, List.length_cons, Nat.pow_succ]
    omega

theorem nxt_app {b : List Int} {i : Nat} : nxt (b ++ [(i : Int)]) = ((i + 1 : Nat) : Int) := by
  unfold nxt
  rw [if_neg (by simp), List.length_append, List.length_singleton, Nat.add_sub_cancel, getD_last]
  rfl

theorem fit_dd {D : List (List Int)} {b : List Int} : (ddB (D ++ [b])).fit (.vec (D.length + 1) (catG D.length (ddG D) fun j => List.take 1 (List.drop (j * 1) [VV.tl b.length 1 (dG b)])) 1 60) := by
  refine ⟨by simp, rfl, rfl, fun j hj => ?_⟩
  rw [List.length_append, List.length_singleton] at hj
  unfold catG
  by_cases hjk : j < D.length
  · rw [blt_t hjk]
    unfold ddG
    rw [List.getD_eq_getElem?_getD (l := D ++ [b]), List.getElem?_append_left hjk, ← List.getD_eq_getElem?_getD]
    rfl
  · rw [blt_f (by omega)]
    obtain rfl : j = D.length := by omega
    unfold ddG
    rw [List.getD_eq_getElem?_getD (l := D ++ [b]), List.getElem?_append_right (Nat.le_refl _), Nat.sub_self]
    rfl

theorem cat_b {b : List Int} {i : Int} {G : Nat → List VV} : ∀ j, j < (b ++ [i]).length → catG (0 + b.length) (catG 0 G (dG b)) (fun j => List.take 1 (List.drop (j * 1) [I i])) j = dG (b ++ [i]) j := by
  intro j hj
  rw [List.length_append, List.length_singleton] at hj
  unfold catG
  by_cases h : j < b.length
  · rw [blt_t (by omega), blt_f (by omega), Nat.sub_zero]
    exact dG_l h
  · obtain rfl : j = b.length := by omega
    rw [blt_f (by omega), show b.length - (0 + b.length) = 0 by omega]
    have := dG_r (S := b) (R := [i]) (j := 0)
    exact this.symm

structure SS where
  i : Nat
  D : List (List Int)

section
variable {n N : Nat} {b : List Int} {D : List (List Int)}

def invS (n N : Nat) (b : List Int) (D : List (List Int)) (s : SS) : Prop := (s.i ≤ n ∧ b.length ≤ s.i) ∧ n - s.i < N + 1 ∧ s.D.length + 2 ^ (n - s.i) ≤ 65537 ∧ D = s.D ++ sT (n - s.i) s.i b

theorem lS_ok (hn : n ≤ 16) (hR : SpOk Try.prog (setsR n N).1 (setsR n N).2) (hb : b.length ≤ 20) : LSound Try.prog true (.block 0 (.loop (loopB 0 (bodyOf Try.prog 55)))) 39 (lS n N b D) := by
  refine loop_row hmix (noL_good (tab_ok [setsR n N] (fun x hx => by
    simp only [List.mem_singleton] at hx
    subst hx
    exact hR))) (un := 10) (ds := dsS) (ns := [0]) (nx := 2) (fun s : SS => VS n b s.i s.D.length) (fun s => [ddB s.D]) (invS n N b D) (fun s => n - s.i) (fun _ e vs bs => e = .exit 0 ∧ vs = VS n b n D.length ∧ bs = [ddB D]) noL_ok ?_ ?_
  · rintro ⟨i, D0⟩ ⟨⟨h0, hbi⟩, h1, h2, h3⟩
    dsimp only at h0 hbi h1 h2 h3 ⊢
    refine cast (st_ev n N b D0 i _).symm ?_
    by_cases hlt : i < n
    · obtain ⟨k, hk⟩ : ∃ k, n - i = k + 1 := ⟨n - i - 1, by omega⟩
      rw [hk] at h2 h3
      have hl1 := sT_len k (i + 1) (b ++ [(i : Int)])
      rw [Nat.pow_succ] at h2
      have hk2 : 0 < 2 ^ k := Nat.two_pow_pos k
      refine cond_dk (by omega) (cond_k (room8 (by omega)) (cond_k (Nat.beq_refl _) (cond_k (room8 (by omega)) ⟨rfl, b ++ [(i : Int)], D0, k, i + 1, ⟨by omega, by omega, nxt_app, by omega, by rw [List.length_append, List.length_singleton]; omega⟩, ⟨by simp, rfl, by decide, by decide, by decide⟩, ⟨_, _, rfl, cat_b⟩, rfl, ?_⟩)))
      rintro D' hD'
      refine cond_r (by omega) ⟨⟨i + 1, D'⟩, ⟨⟨by dsimp only; omega, by dsimp only; omega⟩, by dsimp only; omega, ?_, ?_⟩, by dsimp only; omega, rfl, fitBs_refl _, fun _ _ _ h => h⟩
      · dsimp only
        rw [hD', List.length_append, List.length_cons, show n - (i + 1) = k by omega]
        omega
      · dsimp only
        rw [h3, hD', show n - (i + 1) = k by omega]
        conv => lhs; unfold sT
        rw [List.append_assoc]
    · obtain rfl : i = n := by omega
      rw [Nat.sub_self] at h3
      have h3 : D = D0 := by rw [h3]; exact List.append_nil _
      subst h3
      exact cond_d (fun h => by omega) (fun _ => ⟨rfl, rfl, rfl⟩)
  · rintro lock t h K ⟨D0, k, i, hf, ⟨g1, g2, g3, g4, g5, g6, g7⟩, k1⟩
    refine ⟨⟨i, D0⟩, hf, ⟨⟨by dsimp only; omega, by dsimp only; omega⟩, by dsimp only; omega, ?_, ?_⟩, ?_⟩
    · rw [show n - i = k by omega]; exact g4
    · rw [show n - i = k by omega]; exact g7
    · rintro e vs bs ⟨rfl, rfl, rfl⟩
      exact k1

theorem lS_all (hn : n ≤ 16) (hR : SpOk Try.prog (setsR n N).1 (setsR n N).2) (hb : b.length ≤ 20) : LoopsOk Try.prog 55 [(0, lS n N b D)] := fun x hx => by
  simp only [List.mem_singleton] at hx
  subst hx
  exact ⟨by kernel_rfl, lS_ok hn hR hb⟩
end

theorem room24 {n : Nat} (h : n ≤ 100000) : roomB n 24 = true := by
  unfold roomB
  simp only [Bool.and_eq_true, Nat.ble_eq]
  omega

theorem sets_v {n N k i : Nat} {b : List Int} {D D' : List (List Int)} (hn : n ≤ 16) (hR : SpOk Try.prog (setsR n N).1 (setsR n N).2) (hb : b.length ≤ i) (hk : k < N + 1) (hi : i + k = n) (hx : nxt b = i) (hD : D.length + 2 ^ k ≤ 65536) (hD' : D' = D ++ b :: sT k i b) :
    ∃ h', CallsV Try.prog 55 [I n, inD b, .sl 0 D.length] ⟨1, [(0, ddB D)]⟩ (.ret (.sl 0 D'.length)) h' ∧ h'.at 0 = ddB D' := by
  have hk2 : 0 < 2 ^ k := Nat.two_pow_pos k
  obtain ⟨r, h', ⟨rfl, h0⟩, hc⟩ := of_callN (callL_good hmix noSp (lS_all (D := D') (b := b) hn hR (by omega)) (un := 10) 20) (f := 55) (args := [I n, inD b, .sl 0 D.length]) (h := ⟨1, [(0, ddB D)]⟩) (K := fun r h => r = .ret (.sl 0 D'.length) ∧ h.at 0 = ddB D') (by
    refine cast (sf_ev n N b D D' _).symm ?_
    refine cond_k (Nat.beq_refl _) (cond_k (room24 (by omega)) ?_)
    have hl : (D ++ [b]).length = D.length + 1 := by simp
    have hfin : D' = (D ++ [b]) ++ sT k i b := by rw [hD', List.append_assoc]; rfl
    refine cond_d (fun h => ?_) (fun h => ?_)
    · have hx2 : b.getD ((b.length : Int) - 1).toNat 0 + 1 = i := by
        unfold nxt at hx
        rw [if_neg (by omega)] at hx
        rw [show ((b.length : Int) - 1).toNat = b.length - 1 by omega]
        exact hx
      refine cond_r (by omega) (cond_dk ⟨by omega, by omega⟩ (cond_r (by omega) ⟨D ++ [b], k, i, ⟨⟨rfl, rfl, fit_dd, trivial⟩, ?_⟩, ⟨hk, hi, hx, by rw [hl]; omega, hn, hb, hfin⟩, rfl, rfl⟩))
      rw [hx2]
      refine ⟨rfl, ?_, rfl, rfl, trivial⟩
      show VV.sl 0 _ = .sl 0 _
      rw [hl]
    · have hx2 : i = 0 := by
        unfold nxt at hx
        rw [if_pos (by omega)] at hx
        omega
      subst hx2
      refine ⟨D ++ [b], k, 0, ⟨⟨rfl, rfl, fit_dd, trivial⟩, ?_⟩, ⟨hk, hi, hx, by rw [hl]; omega, hn, hb, hfin⟩, rfl, rfl⟩
      refine ⟨rfl, ?_, rfl, rfl, trivial⟩
      show VV.sl 0 _ = .sl 0 _
      rw [hl])
  exact ⟨h', hc, h0⟩

theorem setsR_ok {n : Nat} (hn : n ≤ 16) : ∀ N, N ≤ n + 1 → SpOk Try.prog (setsR n N).1 (setsR n N).2
  | 0, _ => by
    intro lock args h K hK
    simp only [setsR] at hK
    split at hK
    · obtain ⟨_, b, D, k, i, ⟨h1, _⟩, _⟩ := hK
      omega
    · exact hK.elim
  | N + 1, hN => by
    have ih := setsR_ok hn N (by omega)
    intro lock args h K hK
    simp only [setsR] at hK
    split at hK
    · rename_i n' p Lb m Ld
      obtain ⟨rfl, b, D, k, i, ⟨h1, h2, h3, h4, h5⟩, ⟨rfl, rfl, hpm, hlp, hlm⟩, ⟨g, t, hp, hg⟩, hm, hK⟩ := hK
      obtain ⟨h', hc, h0⟩ := sets_v (D := D) hn ih h5 h1 h2 h3 h4 rfl
      have hat : (VH.mk h.nx ((p, .gone) :: h.bs)).at = upd h.at p .gone := VH.at_put h p .gone (by rw [hp]; simp)
      have hm2 : (VH.mk h.nx ((p, .gone) :: h.bs)).at m = ddB D := by rw [hat]; simp only [upd, if_neg (Ne.symm hpm)]; exact hm
      have hc2 := calls_own1 (m := m) hc h0 hm2 rfl rfl
      have hc3 := calls_told (args := [I n, .sl p b.length, .sl m D.length]) hc2 hp (fun R R' xs hle hy hx => by
        obtain ⟨y0, _, k0, ⟨y1, _, k1, ⟨y2, _, k2, rfl, rfl⟩, rfl⟩, rfl⟩ := hx
        exact ⟨_, _, k0, ⟨_, _, tl_congr hg (hy _ k1), ⟨_, _, VRel.mono hle _ _ k2, rfl, rfl⟩, rfl⟩, rfl⟩)
      refine ⟨_, _, hK _ rfl, ?_, hc3⟩
      intro q hq hf
      have hq1 : q ≠ m := by omega
      have hq2 : q ≠ p := by omega
      rw [VH.at_put _ _ _ (by rw [hm2]; simp [ddB]), hat]
      simp [upd, hq1, hq2]
    · exact hK.elim

/-- All sets, as a row. -/
def sets0 (n : Nat) : FuncId × Spec1 := (55, fun _ args h K => match args with
  | [.int .i64 n', .nils, .nils] => n' = n ∧ ∀ D', D' = [] :: sT n 0 [] → K (.ret (.sl h.nx D'.length)) ((h.new (ddB [])).put h.nx (ddB D'))
  | _ => False)
theorem sets0_ok {n : Nat} (hn : n ≤ 15) : SpOk Try.prog (sets0 n).1 (sets0 n).2 := by
  intro lock args h K hK
  simp only [sets0] at hK
  split at hK
  · obtain ⟨rfl, hK⟩ := hK
    have hp : 2 ^ n ≤ 2 ^ 15 := Nat.pow_le_pow_right (by omega) hn
    obtain ⟨h', hc, h0⟩ := sets_v (D := []) (b := []) (k := n) (i := 0) (by omega) (setsR_ok (n := n) (by omega) n (by omega)) (by simp) (by omega) (by omega) rfl (by have : 2 ^ n ≤ 32768 := hp; simp only [List.length_nil]; omega) rfl
    have hnew : (h.new (ddB [])).at h.nx = ddB [] := by rw [VH.at_new]; simp [upd]
    have hc2 := calls_own1 (m := h.nx) hc h0 hnew rfl rfl
    have hc3 := calls_pre_ghost (args := [I n, .nils, .nils]) (h := h) _ _ _ hc2 (fun R xs hv hx => by
      obtain ⟨y0, _, k0, ⟨y1, _, k1, ⟨y2, _, k2, rfl, rfl⟩, rfl⟩, rfl⟩ := hx
      exact ⟨_, _, k0, ⟨_, _, ⟨none, 0, k1, ⟨Nat.le_refl _, fun _ => rfl⟩, fun i hi => absurd hi (Nat.not_lt_zero i)⟩, ⟨_, _, nil_ghost hv k2, rfl, rfl⟩, rfl⟩, rfl⟩)
    refine ⟨_, _, hK _ rfl, ?_, hc3⟩
    intro q hq hf
    have hqn : q ≠ h.nx := fun e => by subst e; exact hf (VH.at_nx h)
    rw [VH.at_put _ _ _ (by rw [hnew]; simp [ddB]), VH.at_new]
    simp [upd, hqn]
  · exact hK.elim
end Go.Sx.Grs

/- malt: the document's Grist, evaluated. -/

namespace Go.Sx.Grs
open Go Go.Sx Go.Proofs
set_option maxRecDepth 1000000

def dsR : List Nat := [14, 13, 12, 11, 10, 9, 8, 0, 1, 2, 3]
def VR (l : List By) (day need nit : Int) (L : Nat) (i least : Int) (best : VV) : List VV := [I i, I least, best, .sl 0 L, I 0, I 0, .nils, byD l, I day, I need, I nit]
theorem r0_ev2 (l : List By) (day need nit i : Int) (S : List (List Int)) (X : VEx → List VV → List VB → Prop) : codeE Try.prog (callN Try.prog (tabS [chT]) noL 10 20) (fun _ => none) true 10 88 0 (loopB 0 (bodyOf Try.prog 29)) (dsR.zip (VR l day need nit S.length i (-1) .nils)) ⟨1, [0].zip [ddB S]⟩ (obs 1 dsR [0] X) =
  (bif decide (i < (↑S.length : Int)) then
 bif decide ((0 : Int) ≤ i ∧ i < (↑S.length : Int)) then
 bif S.length.beq S.length && Nat.ble 1 Try.prog.types[60].size then
 bif S.length.beq S.length then
 ∃ (l_1 : List By) (D : List Int), isT (VH.mk 1 ([0].zip [ddB S])) (VV.tl l.length 6 (byG l)) (byD l_1) ∧ isT (VH.mk 1 ([0].zip [ddB S])) (VV.tl (S.getD i.toNat []).length 1 (dG (S.getD i.toNat []))) (inD D) ∧ (l_1.all okBy = true ∧ D.length ≤ 40 ∧ dOk D l_1.length ∧ (0 : Int) ≤ day ∧ (0 : Int) ≤ nit ∧ nit ≤ (10000 : Int)) ∧ ∀ (x : Sk), x = chF l_1 D D.length → bif fitS day need nit x then
 bif decide ((0 : Int) ≤ i ∧ i < (↑S.length : Int)) then
 bif S.length.beq S.length && Nat.ble 1 Try.prog.types[60].size then
 bif S.length.beq S.length then
 bif inK IntKind.i64 (i + (1 : Int)) then
 X VEx.normal [I (i + (1 : Int)), I x.p, VV.tl (S.getD i.toNat []).length 1 (dG (S.getD i.toNat [])), VV.sl 0 S.length, I 0, I 0, VV.nils, VV.tl l.length 6 (byG l), I day, I need, I nit] [VB.vec S.length (ddG S) 1 (60 : TypeId)]
 else False
 else False
 else False
 else False
 else bif inK IntKind.i64 (i + (1 : Int)) then
 X VEx.normal [I (i + (1 : Int)), I (-1), VV.nils, VV.sl 0 S.length, I 0, I 0, VV.nils, VV.tl l.length 6 (byG l), I day, I need, I nit] [VB.vec S.length (ddG S) 1 (60 : TypeId)]
 else False
 else False
 else False
 else False
 else X (VEx.exit 0) [I i, I (-1), VV.nils, VV.sl 0 S.length, I 0, I 0, VV.nils, VV.tl l.length 6 (byG l), I day, I need, I nit] [VB.vec S.length (ddG S) 1 (60 : TypeId)]) := by kernel_rfl

theorem r1_ev2 (l : List By) (day need nit i p : Int) (b : List Int) (S : List (List Int)) (X : VEx → List VV → List VB → Prop) : codeE Try.prog (callN Try.prog (tabS [chT]) noL 10 20) (fun _ => none) true 10 88 0 (loopB 0 (bodyOf Try.prog 29)) (dsR.zip (VR l day need nit S.length i p (inD b))) ⟨1, [0].zip [ddB S]⟩ (obs 1 dsR [0] X) =
  (bif decide (i < (↑S.length : Int)) then
 bif decide ((0 : Int) ≤ i ∧ i < (↑S.length : Int)) then
 bif S.length.beq S.length && Nat.ble 1 Try.prog.types[60].size then
 bif S.length.beq S.length then
 ∃ (l_1 : List By) (D : List Int), isT (VH.mk 1 ([0].zip [ddB S])) (VV.tl l.length 6 (byG l)) (byD l_1) ∧ isT (VH.mk 1 ([0].zip [ddB S])) (VV.tl (S.getD i.toNat []).length 1 (dG (S.getD i.toNat []))) (inD D) ∧ (l_1.all okBy = true ∧ D.length ≤ 40 ∧ dOk D l_1.length ∧ (0 : Int) ≤ day ∧ (0 : Int) ≤ nit ∧ nit ≤ (10000 : Int)) ∧ ∀ (x : Sk), x = chF l_1 D D.length → bif fitS day need nit x then
 bif decide (p < (0 : Int)) then
 bif decide ((0 : Int) ≤ i ∧ i < (↑S.length : Int)) then
 bif S.length.beq S.length && Nat.ble 1 Try.prog.types[60].size then
 bif S.length.beq S.length then
 bif inK IntKind.i64 (i + (1 : Int)) then
 X VEx.normal [I (i + (1 : Int)), I x.p, VV.tl (S.getD i.toNat []).length 1 (dG (S.getD i.toNat [])), VV.sl 0 S.length, I 0, I 0, VV.nils, VV.tl l.length 6 (byG l), I day, I need, I nit] [VB.vec S.length (ddG S) 1 (60 : TypeId)]
 else False
 else False
 else False
 else False
 else bif decide (x.p < p) then
 bif decide ((0 : Int) ≤ i ∧ i < (↑S.length : Int)) then
 bif S.length.beq S.length && Nat.ble 1 Try.prog.types[60].size then
 bif S.length.beq S.length then
 bif inK IntKind.i64 (i + (1 : Int)) then
 X VEx.normal [I (i + (1 : Int)), I x.p, VV.tl (S.getD i.toNat []).length 1 (dG (S.getD i.toNat [])), VV.sl 0 S.length, I 0, I 0, VV.nils, VV.tl l.length 6 (byG l), I day, I need, I nit] [VB.vec S.length (ddG S) 1 (60 : TypeId)]
 else False
 else False
 else False
 else False
 else bif decide (x.p = p) then
 bif decide ((0 : Int) ≤ i ∧ i < (↑S.length : Int)) then
 bif S.length.beq S.length && Nat.ble 1 Try.prog.types[60].size then
 bif S.length.beq S.length then
 bif decide ((↑(S.getD i.toNat []).length : Int) < (↑b.length : Int)) then
 bif decide ((0 : Int) ≤ i ∧ i < (↑S.length : Int)) then
 bif S.length.beq S.length && Nat.ble 1 Try.prog.types[60].size then
 bif S.length.beq S.length then
 bif inK IntKind.i64 (i + (1 : Int)) then
 X VEx.normal [I (i + (1 : Int)), I x.p, VV.tl (S.getD i.toNat []).length 1 (dG (S.getD i.toNat [])), VV.sl 0 S.length, I 0, I 0, VV.nils, VV.tl l.length 6 (byG l), I day, I need, I nit] [VB.vec S.length (ddG S) 1 (60 : TypeId)]
 else False
 else False
 else False
 else False
 else bif inK IntKind.i64 (i + (1 : Int)) then
 X VEx.normal [I (i + (1 : Int)), I p, VV.tl b.length 1 (dG b), VV.sl 0 S.length, I 0, I 0, VV.nils, VV.tl l.length 6 (byG l), I day, I need, I nit] [VB.vec S.length (ddG S) 1 (60 : TypeId)]
 else False
 else False
 else False
 else False
 else bif inK IntKind.i64 (i + (1 : Int)) then
 X VEx.normal [I (i + (1 : Int)), I p, VV.tl b.length 1 (dG b), VV.sl 0 S.length, I 0, I 0, VV.nils, VV.tl l.length 6 (byG l), I day, I need, I nit] [VB.vec S.length (ddG S) 1 (60 : TypeId)]
 else False
 else bif inK IntKind.i64 (i + (1 : Int)) then
 X VEx.normal [I (i + (1 : Int)), I p, VV.tl b.length 1 (dG b), VV.sl 0 S.length, I 0, I 0, VV.nils, VV.tl l.length 6 (byG l), I day, I need, I nit] [VB.vec S.length (ddG S) 1 (60 : TypeId)]
 else False
 else False
 else False
 else False
 else X (VEx.exit 0) [I i, I p, VV.tl b.length 1 (dG b), VV.sl 0 S.length, I 0, I 0, VV.nils, VV.tl l.length 6 (byG l), I day, I need, I nit] [VB.vec S.length (ddG S) 1 (60 : TypeId)]) := by kernel_rfl

def stepR (l : List By) (day need nit : Int) (o : Option (List Int × Int)) (D : List Int) : Option (List Int × Int) := if fitS day need nit (chF l D D.length) then (match o with
  | none => some (D, (chF l D D.length).p)
  | some (b, p) => if (chF l D D.length).p < p ∨ (chF l D D.length).p = p ∧ D.length < b.length then some (D, (chF l D D.length).p) else some (b, p)) else o
def bestR (l : List By) (day need nit : Int) (S : List (List Int)) : Nat → Option (List Int × Int)
  | 0 => none
  | k + 1 => stepR l day need nit (bestR l day need nit S k) (S.getD k [])
def allOk (S : List (List Int)) (n : Nat) : Prop := ∀ D ∈ S, dOk D n ∧ D.length ≤ 40
def lR (l : List By) (day need nit : Int) (S : List (List Int)) : LT := fun lock t h K =>
  FitP lock h t ⟨1, [0].zip [ddB S]⟩ (dsR.zip (VR l day need nit S.length 0 (-1) .nils)) ∧ (l.all okBy = true ∧ 0 ≤ day ∧ 0 ≤ nit ∧ nit ≤ 10000 ∧ allOk S l.length ∧ S.length ≤ 100000) ∧ (bestR l day need nit S S.length = none → K .normal (dsR.zip (VR l day need nit S.length S.length (-1) .nils)) ⟨1, [0].zip [ddB S]⟩) ∧
    ∀ b p, bestR l day need nit S S.length = some (b, p) → K .normal (dsR.zip (VR l day need nit S.length S.length p (inD b))) ⟨1, [0].zip [ddB S]⟩
theorem rg_ev (l : List By) (n : Nat) (day need nit : Int) (S : List (List Int)) (Q : VRes → Prop) : callN Try.prog (tabS [lotsT, sets0 n]) (atF 29 [(0, lR l day need nit S)]) 10 20 0 (.fn 29) [byD l, I day, I need, I nit] ⟨0, []⟩ (fun r h => Q r) =
  (∃ l_1, isT (VH.mk 0 []) (VV.tl l.length 6 (byG l)) (byD l_1) ∧ l_1.length ≤ 100000 ∧ bif !(l_1.all okBy && decide (l_1.length ≤ 12)) then
 Q (VRes.ret (VV.tup [VV.nils, I 0, I 1]))
 else bif decide (day ≥ (0 : Int)) then
 bif !decide (day ≤ (65536 : Int)) then
 Q (VRes.ret (VV.tup [VV.nils, I 0, I 2]))
 else bif decide (need ≥ (0 : Int)) then
 bif !decide (need ≤ (1099511627776 : Int)) then
 Q (VRes.ret (VV.tup [VV.nils, I 0, I 2]))
 else bif decide (nit ≥ (0 : Int)) then
 bif !decide (nit ≤ (10000 : Int)) then
 Q (VRes.ret (VV.tup [VV.nils, I 0, I 2]))
 else (↑l.length : Int) = (↑n : Int) ∧ ∀ (D' : List (List Int)), D' = [] :: sT n 0 [] → FitP 0 (((VH.mk 0 []).new (ddB [])).put (VH.mk 0 []).nx (ddB D')) [(14, I 0), (13, I (-1)), (12, VV.nils), (11, VV.sl (VH.mk 0 []).nx D'.length), (35, VV.sl (VH.mk 0 []).nx D'.length), (34, I (↑l.length : Int)), (33, VV.tl l.length 6 (byG l)), (32, VV.bool false), (32, VV.bool !decide (nit ≤ (10000 : Int))), (31, VV.bool !decide (nit ≤ (10000 : Int))), (28, VV.bool false), (30, VV.bool (decide (nit ≤ (10000 : Int)))), (28, VV.bool false), (29, I nit), (28, VV.bool false), (28, VV.bool !decide (need ≤ (1099511627776 : Int))), (27, VV.bool !decide (need ≤ (1099511627776 : Int))), (26, VV.bool !decide (need ≤ (1099511627776 : Int))), (23, VV.bool false), (25, VV.bool (decide (need ≤ (1099511627776 : Int)))), (23, VV.bool false), (24, I need), (23, VV.bool false), (23, VV.bool !decide (day ≤ (65536 : Int))), (22, VV.bool !decide (day ≤ (65536 : Int))), (21, VV.bool (decide (day ≤ (65536 : Int)))), (20, I day), (19, VV.bool false), (19, VV.bool !(l_1.all okBy && decide (l_1.length ≤ 12))), (18, VV.bool (l_1.all okBy && decide (l_1.length ≤ 12))), (17, VV.tl l.length 6 (byG l)), (10, I 0), (9, I 0), (8, VV.nils), (0, byD l), (1, I day), (2, I need), (3, I nit)] (VH.mk 1 ([0].zip [ddB S])) (dsR.zip (VR l day need nit S.length (0 : Int) (-1 : Int) VV.nils)) ∧ (l.all okBy = true ∧ (0 : Int) ≤ day ∧ (0 : Int) ≤ nit ∧ nit ≤ (10000 : Int) ∧ allOk S l.length ∧ S.length ≤ 100000) ∧ (bestR l day need nit S S.length = none → Q (VRes.ret (VV.tup [VV.nils, I 0, I 4]))) ∧ ∀ (b : List Int) (p : Int), bestR l day need nit S S.length = some (b, p) → bif decide (p < (0 : Int)) then
 Q (VRes.ret (VV.tup [VV.nils, I 0, I 4]))
 else Q (VRes.ret (VV.tup [VV.tl b.length 1 (dG b), I p, I 0]))
 else Q (VRes.ret (VV.tup [VV.nils, I 0, I 2]))
 else Q (VRes.ret (VV.tup [VV.nils, I 0, I 2]))
 else Q (VRes.ret (VV.tup [VV.nils, I 0, I 2]))) := by kernel_rfl


end Go.Sx.Grs

/- malt: the document's Grist. -/

namespace Go.Sx.Grs
open Go Go.Sx Go.Proofs
set_option maxRecDepth 1000000

theorem ch1_good : Good Try.prog (callN Try.prog (tabS [chT]) noL 10 20) := noL_good (tab_ok _ (fun x hx => by
  simp only [List.mem_singleton] at hx
  subst hx
  exact chT_ok))

def rV : Option (List Int × Int) → Int × VV
  | none => (-1, .nils)
  | some (b, p) => (p, inD b)

section
variable {l : List By} {day need nit : Int} {S : List (List Int)}

theorem bestR_get : ∀ {k : Nat} {b : List Int} {p : Int}, bestR l day need nit S k = some (b, p) → ∃ j, j < k ∧ b = S.getD j [] ∧ p = (chF l b b.length).p ∧ fitS day need nit (chF l b b.length) = true
  | 0, _, _, h => by cases h
  | k + 1, b, p, h => by
    unfold bestR stepR at h
    split at h
    · rename_i hf
      split at h
      · cases h
        exact ⟨k, by omega, rfl, rfl, hf⟩
      · rename_i b1 p1 hb
        split at h
        · cases h
          exact ⟨k, by omega, rfl, rfl, hf⟩
        · cases h
          obtain ⟨j, h1, h2⟩ := bestR_get hb
          exact ⟨j, by omega, h2⟩
    · obtain ⟨j, h1, h2⟩ := bestR_get h
      exact ⟨j, by omega, h2⟩

theorem allOk_get (hS : allOk S l.length) {j : Nat} (hj : j < S.length) : dOk (S.getD j []) l.length ∧ (S.getD j []).length ≤ 40 := by
  rw [List.getD_eq_getElem?_getD, List.getElem?_eq_getElem hj]
  exact hS _ (List.getElem_mem _)

def OR (l : List By) (day need nit : Int) (S : List (List Int)) (_ : Nat) (e : VEx) (vs : List VV) (bs : List VB) : Prop :=
  e = .exit 0 ∧ bs = [ddB S] ∧ vs = VR l day need nit S.length S.length (rV (bestR l day need nit S S.length)).1 (rV (bestR l day need nit S S.length)).2

theorem lR_ok : LSound Try.prog true (.block 0 (.loop (loopB 0 (bodyOf Try.prog 29)))) 88 (lR l day need nit S) := by
  by_cases hn : l.all okBy = true ∧ 0 ≤ day ∧ 0 ≤ nit ∧ nit ≤ 10000 ∧ allOk S l.length ∧ S.length ≤ 100000
  · obtain ⟨hl, hd, hn1, hn2, hS, hlen⟩ := hn
    refine loop_row hmix ch1_good (un := 10) (ds := dsR) (ns := [0]) (nx := 1) (fun k : Nat => VR l day need nit S.length k (rV (bestR l day need nit S k)).1 (rV (bestR l day need nit S k)).2) (fun _ => [ddB S]) (fun k => k ≤ S.length) (fun k => S.length - k) (OR l day need nit S) noL_ok ?_ ?_
    · rintro k h0
      have hs : bestR l day need nit S (k + 1) = stepR l day need nit (bestR l day need nit S k) (S.getD k []) := rfl
      have hq : (Nat.beq S.length S.length && Nat.ble 1 Try.prog.types[60].size) = true := by rw [Nat.beq_refl]; rfl
      have fin : ∀ (o : Option (List Int × Int)), bestR l day need nit S (k + 1) = o → k < S.length → RoundQ (fun k : Nat => VR l day need nit S.length k (rV (bestR l day need nit S k)).1 (rV (bestR l day need nit S k)).2) (fun _ => [ddB S]) (fun k => k ≤ S.length) (fun k => S.length - k) (OR l day need nit S) k .normal (VR l day need nit S.length (k + 1) (rV o).1 (rV o).2) [ddB S] := by
        rintro o rfl hlt
        exact ⟨k + 1, by omega, by dsimp only; omega, rfl, fitBs_refl _, fun _ _ _ h => h⟩
      cases hb : bestR l day need nit S k with
      | none =>
        rw [hb] at hs
        refine cast (r0_ev2 l day need nit k S _).symm ?_
        by_cases hlt : k < S.length
        · obtain ⟨a1, a2⟩ := allOk_get hS hlt
          have hin : (0 : Int) ≤ k ∧ (k : Int) < S.length := ⟨by omega, by omega⟩
          refine cond_dk (by omega) (cond_dk hin (cond_k hq (cond_k (Nat.beq_refl _) ?_)))
          rw [show (k : Int).toNat = k by omega]
          refine ⟨l, S.getD k [], isT_self, ⟨rfl, rfl, fun _ _ => rfl⟩, ⟨hl, a2, a1, hd, hn1, hn2⟩, ?_⟩
          rintro x rfl
          refine cond_i (fun hf => cond_dk hin (cond_k hq (cond_k (Nat.beq_refl _) (cond_r (by omega) (fin (some (S.getD k [], _)) ?_ hlt))))) (fun hf => cond_r (by omega) (fin none ?_ hlt))
          · rw [hs]; unfold stepR; rw [if_pos hf]
          · rw [hs]; unfold stepR; rw [if_neg (by rw [hf]; simp)]
        · obtain rfl : k = S.length := by omega
          refine cond_d (fun h => by omega) (fun _ => ⟨rfl, rfl, ?_⟩)
          rw [hb]; rfl
      | some o =>
        obtain ⟨b, p⟩ := o
        rw [hb] at hs
        obtain ⟨j, hj, hbj, hpj, _⟩ := bestR_get hb
        refine cast (r1_ev2 l day need nit k p b S _).symm ?_
        by_cases hlt : k < S.length
        · obtain ⟨a1, a2⟩ := allOk_get hS hlt
          obtain ⟨a3, a4⟩ := allOk_get hS (show j < S.length by omega)
          rw [← hbj] at a3
          obtain ⟨_, ⟨hp0, _⟩, _⟩ := chF_bd hl a3 b.length (Nat.le_refl _)
          rw [← hpj] at hp0
          have hin : (0 : Int) ≤ k ∧ (k : Int) < S.length := ⟨by omega, by omega⟩
          refine cond_dk (by omega) (cond_dk hin (cond_k hq (cond_k (Nat.beq_refl _) ?_)))
          rw [show (k : Int).toNat = k by omega]
          refine ⟨l, S.getD k [], isT_self, ⟨rfl, rfl, fun _ _ => rfl⟩, ⟨hl, a2, a1, hd, hn1, hn2⟩, ?_⟩
          rintro x rfl
          have yes : fitS day need nit (chF l (S.getD k []) (S.getD k []).length) = true → ((chF l (S.getD k []) (S.getD k []).length).p < p ∨ (chF l (S.getD k []) (S.getD k []).length).p = p ∧ (S.getD k []).length < b.length) → bestR l day need nit S (k + 1) = some (S.getD k [], (chF l (S.getD k []) (S.getD k []).length).p) := fun hf h => by
            rw [hs]; unfold stepR; rw [if_pos hf]; dsimp only; rw [if_pos h]
          have no : fitS day need nit (chF l (S.getD k []) (S.getD k []).length) = true → ¬ ((chF l (S.getD k []) (S.getD k []).length).p < p ∨ (chF l (S.getD k []) (S.getD k []).length).p = p ∧ (S.getD k []).length < b.length) → bestR l day need nit S (k + 1) = some (b, p) := fun hf h => by
            rw [hs]; unfold stepR; rw [if_pos hf]; dsimp only; rw [if_neg h]
          refine cond_i (fun hf => ?_) (fun hf => cond_r (by omega) (fin (some (b, p)) ?_ hlt))
          · refine cond_d (fun h => by omega) (fun _ => cond_d (fun g1 => cond_dk hin (cond_k hq (cond_k (Nat.beq_refl _) (cond_r (by omega) (fin (some (S.getD k [], _)) (yes hf (.inl g1)) hlt))))) (fun g1 => cond_d (fun g2 => cond_dk hin (cond_k hq (cond_k (Nat.beq_refl _) (cond_d (fun g3 => cond_dk hin (cond_k hq (cond_k (Nat.beq_refl _) (cond_r (by omega) (fin (some (S.getD k [], _)) (yes hf (.inr ⟨g2, by omega⟩)) hlt))))) (fun g3 => cond_r (by omega) (fin (some (b, p)) (no hf (by omega)) hlt)))))) (fun g2 => cond_r (by omega) (fin (some (b, p)) (no hf (by omega)) hlt))))
          · rw [hs]; unfold stepR; rw [if_neg (by rw [hf]; simp)]
        · obtain rfl : k = S.length := by omega
          refine cond_d (fun h => by omega) (fun _ => ⟨rfl, rfl, ?_⟩)
          rw [hb]; rfl
    · rintro lock t h K ⟨hf, _, k1, k2⟩
      refine ⟨0, hf, Nat.zero_le _, ?_⟩
      rintro e vs bs ⟨rfl, rfl, rfl⟩
      cases hb : bestR l day need nit S S.length with
      | none => exact k1 hb
      | some o => exact k2 o.1 o.2 hb
  · rintro lock t h K ⟨hf, hc, _⟩
    exact (hn hc).elim

theorem lR_all : LoopsOk Try.prog 29 [(0, lR l day need nit S)] := fun x hx => by
  simp only [List.mem_singleton] at hx
  subst hx
  exact ⟨by kernel_rfl, lR_ok⟩
end

/-- What the document's Grist answers. -/
def refR (l : List By) (day need nit : Int) : VRes :=
  if ¬ l.length ≤ 12 ∨ l.all okBy = false then .ret (.tup [.nils, I 0, I 1])
  else if ¬ ((0 ≤ day ∧ day ≤ 65536) ∧ (0 ≤ need ∧ need ≤ 1099511627776) ∧ 0 ≤ nit ∧ nit ≤ 10000) then .ret (.tup [.nils, I 0, I 2])
  else match bestR l day need nit ([] :: sT l.length 0 []) ([] :: sT l.length 0 []).length with
    | none => .ret (.tup [.nils, I 0, I 4])
    | some (b, p) => .ret (.tup [inD b, I p, I 0])

theorem rg_tab {n : Nat} (hn : n ≤ 15) : ∀ f T, tabS [lotsT, sets0 n] f = some T → SpOk Try.prog f T := tab_ok _ (fun x hx => by
  simp only [List.mem_cons, List.not_mem_nil, or_false] at hx
  rcases hx with rfl | rfl
  · exact lotsT_ok
  · exact sets0_ok hn)

theorem refgrist_v (l : List By) (day need nit : Int) (hn : l.length ≤ 100000) (hS : l.length ≤ 12 → allOk ([] :: sT l.length 0 []) l.length) : ∃ h', CallsV Try.prog 29 [byD l, I day, I need, I nit] ⟨0, []⟩ (refR l day need nit) h' := by
  by_cases h1 : ¬ l.length ≤ 12 ∨ l.all okBy = false
  · have hok : (l.all okBy && decide (l.length ≤ 12)) = false := by
      rcases h1 with h | h
      · rw [decide_eq_false h]; simp
      · rw [h]; rfl
    obtain ⟨r, h', rfl, hc⟩ := of_callN (callL_good hmix (rg_tab (n := 0) (by omega)) (lR_all (l := l) (day := day) (need := need) (nit := nit) (S := [])) (un := 10) 20) (f := 29) (args := [byD l, I day, I need, I nit]) (h := ⟨0, []⟩) (K := fun r _ => r = refR l day need nit) (by
      refine cast (rg_ev l 0 day need nit [] _).symm ⟨l, isT_byD, hn, ?_⟩
      rw [hok]
      unfold refR
      rw [if_pos h1]
      rfl)
    exact ⟨h', hc⟩
  · have hl : l.all okBy = true := by
      cases h : l.all okBy with
      | true => rfl
      | false => exact (h1 (.inr h)).elim
    have hn2 : l.length ≤ 12 := by omega
    have hok : (l.all okBy && decide (l.length ≤ 12)) = true := by rw [hl, decide_eq_true hn2]; rfl
    obtain ⟨r, h', rfl, hc⟩ := of_callN (callL_good hmix (rg_tab (n := l.length) (by omega)) (lR_all (l := l) (day := day) (need := need) (nit := nit) (S := [] :: sT l.length 0 [])) (un := 10) 20) (f := 29) (args := [byD l, I day, I need, I nit]) (h := ⟨0, []⟩) (K := fun r _ => r = refR l day need nit) (by
      refine cast (rg_ev l l.length day need nit ([] :: sT l.length 0 []) _).symm ⟨l, isT_byD, hn, ?_⟩
      rw [hok]
      unfold refR
      rw [if_neg h1]
      refine cond_d (fun g1 => cond_nd (fun g2 => ?_) (fun g2 => cond_d (fun g3 => cond_nd (fun g4 => ?_) (fun g4 => cond_d (fun g5 => cond_nd (fun g6 => ?_) (fun g6 => ?_)) (fun g5 => ?_))) (fun g3 => ?_))) (fun g1 => ?_)
      · rw [if_pos (by omega)]
      · rw [if_pos (by omega)]
      · rw [if_pos (by omega)]
      · rw [if_neg (by omega)]
        refine ⟨rfl, ?_⟩
        rintro D' rfl
        have hlen := sT_len l.length 0 []
        have hp : 2 ^ l.length ≤ 4096 := Nat.pow_le_pow_right (n := 2) (by omega) hn2
        refine ⟨⟨⟨rfl, rfl, VB.fit_refl _, trivial⟩, rfl, rfl, rfl, rfl, rfl, rfl, rfl, rfl, rfl, rfl, rfl, trivial⟩, ⟨hl, g1, g5, g6, hS hn2, by rw [List.length_cons]; omega⟩, fun hb => ?_, fun b p hb => ?_⟩
        · rw [hb]
        · rw [hb]
          obtain ⟨j, hj, hbj, hpj, _⟩ := bestR_get hb
          obtain ⟨a3, a4⟩ := allOk_get (hS hn2) hj
          rw [← hbj] at a3
          obtain ⟨_, ⟨hp0, _⟩, _⟩ := chF_bd hl a3 b.length (Nat.le_refl _)
          rw [← hpj] at hp0
          exact cond_d (fun h => by omega) (fun _ => rfl)
      · rw [if_pos (by omega)]
      · rw [if_pos (by omega)]
      · rw [if_pos (by omega)])
    exact ⟨h', hc⟩
end Go.Sx.Grs

/- malt: the two best choices are the same, in plain Lean. -/

namespace Go.Sx.Grs
open Go Go.Sx Go.Proofs
set_option maxRecDepth 1000000

/-- Indices from i on, below m, ascending. -/
def Srt (m : Nat) : Nat → List Int → Prop
  | _, [] => True
  | i, x :: E => ∃ j : Nat, x = j ∧ i ≤ j ∧ j < m ∧ Srt m (j + 1) E

theorem Srt.mono {m : Nat} : ∀ {E : List Int} {i j : Nat}, j ≤ i → Srt m i E → Srt m j E
  | [], _, _, _, _ => trivial
  | _ :: _, _, _, h, ⟨k, h1, h2, h3, h4⟩ => ⟨k, h1, by omega, h3, h4⟩

theorem Srt.ok {m : Nat} : ∀ {E : List Int} {i : Nat}, Srt m i E → dOk E m ∧ E.length ≤ m - i
  | [], _, _ => ⟨fun _ h => (by cases h), Nat.zero_le _⟩
  | x :: E, i, ⟨j, h1, h2, h3, h4⟩ => by
    obtain ⟨g1, g2⟩ := h4.ok
    refine ⟨fun y hy => ?_, by rw [List.length_cons]; omega⟩
    rcases List.mem_cons.1 hy with rfl | hy
    · omega
    · exact g1 y hy

theorem sT_mem : ∀ (k i : Nat) (b D : List Int), D ∈ sT k i b ↔ ∃ E, E ≠ [] ∧ Srt (i + k) i E ∧ D = b ++ E
  | 0, i, b, D => by
    constructor
    · intro h; cases h
    · rintro ⟨E, h1, h2, _⟩
      cases E with
      | nil => exact (h1 rfl).elim
      | cons x E =>
        obtain ⟨j, _, h3, h4, _⟩ := h2
        omega
  | k + 1, i, b, D => by
    unfold sT
    rw [List.mem_append, List.mem_cons, sT_mem k (i + 1) (b ++ [(i : Int)]) D, sT_mem k (i + 1) b D, show i + 1 + k = i + (k + 1) by omega]
    constructor
    · rintro ((rfl | ⟨E, h1, h2, rfl⟩) | ⟨E, h1, h2, rfl⟩)
      · exact ⟨[(i : Int)], by simp, ⟨i, rfl, Nat.le_refl _, by omega, trivial⟩, rfl⟩
      · exact ⟨(i : Int) :: E, by simp, ⟨i, rfl, Nat.le_refl _, by omega, h2⟩, by simp⟩
      · exact ⟨E, h1, h2.mono (by omega), rfl⟩
    · rintro ⟨E, h1, h2, rfl⟩
      cases E with
      | nil => exact (h1 rfl).elim
      | cons x E =>
        obtain ⟨j, rfl, h3, h4, h5⟩ := h2
        by_cases hj : j = i
        · subst hj
          cases E with
          | nil => exact .inl (.inl rfl)
          | cons y E => exact .inl (.inr ⟨y :: E, by simp, h5, by simp⟩)
        · exact .inr ⟨(j : Int) :: E, by simp, ⟨j, rfl, by omega, h4, h5⟩, rfl⟩

theorem cmpL_app : ∀ (b E E' : List Int), cmpL (b ++ E) (b ++ E') = cmpL E E'
  | [], _, _ => rfl
  | x :: b, E, E' => by
    have h : cmpL (x :: (b ++ E)) (x :: (b ++ E')) = cmpL (b ++ E) (b ++ E') := by
      conv => lhs; unfold cmpL
      rw [if_neg (by omega), if_neg (by omega)]
    exact h.trans (cmpL_app b E E')

theorem sT_pair : ∀ (k i : Nat) (b : List Int), (sT k i b).Pairwise fun x y => cmpL x y < 0
  | 0, _, _ => List.Pairwise.nil
  | k + 1, i, b => by
    unfold sT
    rw [List.pairwise_append, List.pairwise_cons]
    refine ⟨⟨fun D hD => ?_, sT_pair k (i + 1) _⟩, sT_pair k (i + 1) b, fun D hD D' hD' => ?_⟩
    · obtain ⟨E, h1, _, rfl⟩ := (sT_mem _ _ _ _).1 hD
      have := cmpL_app (b ++ [(i : Int)]) [] E
      rw [List.append_nil] at this
      rw [this]
      cases E with
      | nil => exact (h1 rfl).elim
      | cons x E => unfold cmpL; decide
    · obtain ⟨E', h1', h2', rfl⟩ := (sT_mem _ _ _ _).1 hD'
      obtain ⟨E, rfl⟩ : ∃ E, D = b ++ (i : Int) :: E := by
        rcases List.mem_cons.1 hD with rfl | hD
        · exact ⟨[], rfl⟩
        · obtain ⟨E, _, _, rfl⟩ := (sT_mem _ _ _ _).1 hD
          exact ⟨E, by simp⟩
      rw [cmpL_app]
      cases E' with
      | nil => exact (h1' rfl).elim
      | cons x E' =>
        obtain ⟨j, rfl, h3, _, _⟩ := h2'
        unfold cmpL
        rw [if_pos (by omega)]
        decide

/-- All sets. -/
abbrev allS (n : Nat) : List (List Int) := [] :: sT n 0 []
theorem allS_mem {n : Nat} {D : List Int} : D ∈ allS n ↔ Srt n 0 D := by
  rw [List.mem_cons, sT_mem, Nat.zero_add]
  constructor
  · rintro (rfl | ⟨E, _, h, rfl⟩)
    · trivial
    · exact h
  · intro h
    cases D with
    | nil => exact .inl rfl
    | cons x D => exact .inr ⟨x :: D, by simp, h, rfl⟩
theorem allS_pair (n : Nat) : (allS n).Pairwise fun x y => cmpL x y < 0 := by
  rw [List.pairwise_cons]
  refine ⟨fun D hD => ?_, sT_pair _ _ _⟩
  obtain ⟨E, h1, _, hE⟩ := (sT_mem _ _ _ _).1 hD
  cases E with
  | nil => exact (h1 rfl).elim
  | cons x E => rw [hE]; show cmpL [] (x :: E) < 0; unfold cmpL; decide
theorem allS_ok {n : Nat} (hn : n ≤ 12) : allOk (allS n) n := fun D hD => by
  obtain ⟨h1, h2⟩ := (allS_mem.1 hD).ok
  exact ⟨h1, by omega⟩

/-! Sets by bits. -/
def oC (s : Nat) : Nat → Nat → List Int
  | _, 0 => []
  | i, k + 1 => if s.testBit i then (i : Int) :: oC s (i + 1) k else oC s (i + 1) k

theorem oF_oC (s i : Nat) : ∀ k, oF s (i + k) = oF s i ++ oC s i k := by
  intro k
  induction k generalizing i with
  | zero => simp [oC]
  | succ k ih =>
    rw [show i + (k + 1) = (i + 1) + k by omega, ih (i + 1)]
    conv => lhs; lhs; unfold oF
    conv => rhs; rhs; unfold oC
    split
    · rw [List.append_assoc]; rfl
    · rfl
theorem oF_C (s n : Nat) : oF s n = oC s 0 n := by
  have := oF_oC s 0 n
  rw [Nat.zero_add] at this
  exact this

theorem oC_srt (s : Nat) : ∀ (k i : Nat), Srt (i + k) i (oC s i k)
  | 0, _ => trivial
  | k + 1, i => by
    have ih := oC_srt s k (i + 1)
    rw [show i + 1 + k = i + (k + 1) by omega] at ih
    unfold oC
    split
    · exact ⟨i, rfl, Nat.le_refl _, by omega, ih⟩
    · exact ih.mono (by omega)

theorem oC_congr {s s' : Nat} : ∀ (k i : Nat), (∀ j, i ≤ j → s.testBit j = s'.testBit j) → oC s i k = oC s' i k
  | 0, _, _ => rfl
  | k + 1, i, h => by
    unfold oC
    rw [h i (Nat.le_refl _), oC_congr k (i + 1) (fun j hj => h j (by omega))]

theorem srt_oC : ∀ (k i : Nat) (E : List Int), Srt (i + k) i E → ∃ s, E = oC s i k
  | 0, i, E, h => by
    cases E with
    | nil => exact ⟨0, rfl⟩
    | cons x E =>
      obtain ⟨j, _, h3, h4, _⟩ := h
      omega
  | k + 1, i, E, h => by
    have key : ∀ (E' : List Int) (b : Nat), b < 2 ^ (i + 1) → Srt (i + 1 + k) (i + 1) E' → ∃ s : Nat, E' = oC s (i + 1) k ∧ s.testBit i = b.testBit i := fun E' b hb h => by
      obtain ⟨s, hs⟩ := srt_oC k (i + 1) E' h
      refine ⟨2 ^ (i + 1) * (s / 2 ^ (i + 1)) + b, ?_, ?_⟩
      · rw [hs]
        refine oC_congr k (i + 1) fun j hj => ?_
        rw [Nat.testBit_two_pow_mul_add _ hb, if_neg (by omega), Nat.testBit_div_two_pow]
        congr 1
        omega
      · rw [Nat.testBit_two_pow_mul_add _ hb, if_pos (by omega)]
    have hp : 2 ^ i < 2 ^ (i + 1) := Nat.pow_lt_pow_right (by omega) (by omega)
    have no : ∀ E', Srt (i + (k + 1)) (i + 1) E' → ∃ s, E' = oC s i (k + 1) := fun E' h => by
      obtain ⟨s, h1, h2⟩ := key E' 0 (by omega) (by rw [show i + 1 + k = i + (k + 1) by omega]; exact h)
      rw [Nat.zero_testBit] at h2
      refine ⟨s, ?_⟩
      unfold oC
      rw [h2]
      exact h1
    cases E with
    | nil => exact no [] trivial
    | cons x E =>
      obtain ⟨j, rfl, h3, h4, h5⟩ := h
      by_cases hj : j = i
      · subst hj
        obtain ⟨s, h1, h2⟩ := key E (2 ^ j) hp (by rw [show j + 1 + k = j + (k + 1) by omega]; exact h5)
        rw [Nat.testBit_two_pow_self] at h2
        refine ⟨s, ?_⟩
        unfold oC
        rw [h2, ← h1]
        rfl
      · exact no _ ⟨j, rfl, by omega, h4, h5⟩

theorem oF_mem (s n : Nat) : oF s n ∈ allS n := by
  rw [allS_mem, oF_C]
  have := oC_srt s n 0
  rwa [Nat.zero_add] at this
theorem mem_oF {n : Nat} {D : List Int} (h : D ∈ allS n) : ∃ s, s < 2 ^ n ∧ D = oF s n := by
  obtain ⟨s, hs⟩ := srt_oC n 0 D (by rw [Nat.zero_add]; exact allS_mem.1 h)
  refine ⟨s % 2 ^ n, Nat.mod_lt _ (Nat.two_pow_pos _), ?_⟩
  rw [← fillF_L (l := []) (s % 2 ^ n) n, fillF_mod s n n (Nat.le_refl _), fillF_L, hs, oF_C]

section
variable {l : List By} {day need nit : Int} {S : List (List Int)}

theorem bestR_min : ∀ (k j : Nat), j < k → fitS day need nit (chF l (S.getD j []) (S.getD j []).length) = true → ∃ (b : List Int) (p : Int) (j0 : Nat), bestR l day need nit S k = some (b, p) ∧ j0 < k ∧ b = S.getD j0 [] ∧
    ¬ ((chF l (S.getD j []) (S.getD j []).length).p < p ∨ (chF l (S.getD j []) (S.getD j []).length).p = p ∧ (S.getD j []).length < b.length) ∧ ((chF l (S.getD j []) (S.getD j []).length).p = p → (S.getD j []).length = b.length → j0 ≤ j)
  | 0, _, h, _ => by omega
  | k + 1, j, h, hf => by
    unfold bestR stepR
    by_cases hjk : j = k
    · subst hjk
      rw [if_pos hf]
      split
      · exact ⟨_, _, j, rfl, by omega, rfl, by omega, fun _ _ => Nat.le_refl _⟩
      · rename_i b p hb
        split
        · exact ⟨_, _, j, rfl, by omega, rfl, by omega, fun _ _ => Nat.le_refl _⟩
        · rename_i hnb
          obtain ⟨j0, h1, h2, _⟩ := bestR_get hb
          exact ⟨b, p, j0, rfl, by omega, h2, hnb, fun _ _ => by omega⟩
    · obtain ⟨b, p, j0, hb, h1, h2, h3, h4⟩ := bestR_min k j (by omega) hf
      rw [hb]
      dsimp only
      split
      · split
        · rename_i hf2 hbt
          exact ⟨_, _, k, rfl, by omega, rfl, by omega, fun _ _ => by omega⟩
        · exact ⟨b, p, j0, rfl, by omega, h2, h3, h4⟩
      · exact ⟨b, p, j0, rfl, by omega, h2, h3, h4⟩

theorem chF_s (s : Nat) : chF l (oF s l.length) (oF s l.length).length = ⟨[], (fillF l s l.length).p, (fillF l s l.length).w, (fillF l s l.length).r, (fillF l s l.length).d⟩ := chF_fill s l.length
theorem fit_s (s : Nat) : fitS day need nit (chF l (oF s l.length) (oF s l.length).length) = fitS day need nit (fillF l s l.length) := by rw [chF_s]; rfl

theorem grist_same : gristR l day need nit = refR l day need nit := by
  unfold gristR refR
  split
  · rfl
  split
  · rfl
  have get : ∀ {j : Nat}, j < (allS l.length).length → (allS l.length).getD j [] ∈ allS l.length := fun {j} hj => by
    rw [List.getD_eq_getElem?_getD, List.getElem?_eq_getElem hj]
    exact List.getElem_mem _
  cases hr : bestR l day need nit (allS l.length) (allS l.length).length with
  | none =>
    cases hg : bestG l day need nit (2 ^ l.length) with
    | none => rfl
    | some y =>
      exfalso
      obtain ⟨i, hi, hy⟩ := bestG_mem hg
      have hf := bestG_fit hg
      rw [hy, ← fit_s] at hf
      obtain ⟨j, hj, he⟩ := List.getElem_of_mem (oF_mem i l.length)
      have hgd : (allS l.length).getD j [] = oF i l.length := by rw [List.getD_eq_getElem?_getD, List.getElem?_eq_getElem hj]; exact he
      rw [← hgd] at hf
      obtain ⟨b, p, _, hb, _⟩ := bestR_min _ j hj hf
      rw [hr] at hb; cases hb
  | some o =>
    obtain ⟨b, p⟩ := o
    obtain ⟨j0, hj0, hbj, hp, hbf⟩ := bestR_get hr
    obtain ⟨s, hs, hbs⟩ := mem_oF (hbj ▸ get hj0)
    have hbf2 := hbf
    rw [hbs, fit_s] at hbf2
    obtain ⟨y, hg, hnb⟩ := bestG_min _ s hs hbf2
    rw [hg]
    obtain ⟨i, hi, hy⟩ := bestG_mem hg
    have hf := bestG_fit hg
    rw [hy, ← fit_s] at hf
    obtain ⟨j, hj, he⟩ := List.getElem_of_mem (oF_mem i l.length)
    have hgd : (allS l.length).getD j [] = oF i l.length := by rw [List.getD_eq_getElem?_getD, List.getElem?_eq_getElem hj]; exact he
    rw [← hgd] at hf
    obtain ⟨b', p', j1, hb', hj1, hbj1, h3, h4⟩ := bestR_min _ j hj hf
    rw [hr] at hb'
    cases hb'
    have hyL : y.L = oF i l.length := by rw [hy]; exact fillF_L _ _
    have hyp : (chF l ((allS l.length).getD j []) ((allS l.length).getD j []).length).p = y.p := by rw [hgd, chF_s, hy]
    have hbL : (fillF l s l.length).L = b := by rw [fillF_L, hbs]
    have hbp : (fillF l s l.length).p = p := by rw [hp, hbs, chF_s]
    unfold better at hnb
    rw [decide_eq_false_iff_not, hbL, hbp] at hnb
    rw [hyp, hgd, ← hyL] at h3 h4
    have e1 : y.p = p := by omega
    have e2 : y.L.length = b.length := by omega
    have e3 := h4 e1 e2
    have e4 : b = y.L := by
      refine cmpL_eq _ _ ?_
      have hpw := allS_pair l.length
      rw [List.pairwise_iff_getElem] at hpw
      by_cases hjj : j1 = j
      · subst hjj
        rw [hbj1, hgd, ← hyL]
        exact cmpL_self _
      · have := hpw j1 j hj1 hj (by omega)
        rw [he] at this
        have hb1 : (allS l.length)[j1] = b := by rw [hbj1, List.getD_eq_getElem?_getD, List.getElem?_eq_getElem hj1]; rfl
        rw [hb1, ← hyL] at this
        exfalso
        exact hnb (.inr ⟨e1.symm, .inr ⟨e2.symm, this⟩⟩)
    show VRes.ret _ = VRes.ret _
    rw [e1, e4]
end
end Go.Sx.Grs

/- malt: MaltGrists, evaluated. -/

namespace Go.Sx.Grs
open Go Go.Sx Go.Proofs
set_option maxRecDepth 1000000

def dsI : List Nat := [5, 4, 0, 1]
def VI (a b : List Int) (i : Int) : List VV := [I i, .bool false, inD a, inD b]
theorem in_ev (a b : List Int) (i : Int) (X : VEx → List VV → List VB → Prop) : codeE Try.prog (callN Try.prog noSpec noL 10 20) (fun _ => none) true 10 (ntOf Try.prog 30) 0 (loopB 0 (bodyOf Try.prog 30)) (dsI.zip (VI a b i)) ⟨0, ([] : List Nat).zip []⟩ (obs 0 dsI [] X) =
  (bif decide (i < (↑a.length : Int)) then
 bif decide ((0 : Int) ≤ i ∧ i < (↑a.length : Int)) then
 bif decide ((0 : Int) ≤ i ∧ i < (↑b.length : Int)) then
 bif !decide (a.getD i.toNat (0 : Int) = b.getD i.toNat (0 : Int)) then
 X VEx.ret [I i, VV.bool false, VV.tl a.length 1 (dG a), VV.tl b.length 1 (dG b)] []
 else bif inK IntKind.i64 (i + (1 : Int)) then
 X VEx.normal [I (i + (1 : Int)), VV.bool false, VV.tl a.length 1 (dG a), VV.tl b.length 1 (dG b)] []
 else False
 else False
 else False
 else X (VEx.exit 0) [I i, VV.bool false, VV.tl a.length 1 (dG a), VV.tl b.length 1 (dG b)] []) := by kernel_rfl

def lI (a b : List Int) : LT := fun lock t h K =>
  FitP lock h t ⟨0, ([] : List Nat).zip []⟩ (dsI.zip (VI a b 0)) ∧ (a.length = b.length ∧ a.length ≤ 100000) ∧ (a = b → K .normal (dsI.zip (VI a b a.length)) ⟨0, ([] : List Nat).zip []⟩) ∧ (a ≠ b → ∀ i : Int, K .ret (dsI.zip (VI a b i)) ⟨0, ([] : List Nat).zip []⟩)
theorem inf_ev (a b : List Int) (Q : VRes → Prop) : callN Try.prog noSpec (atF 30 [(0, lI a b)]) 10 20 0 (.fn 30) [inD a, inD b] ⟨0, []⟩ (fun r h => Q r) =
  (bif !decide ((↑a.length : Int) = (↑b.length : Int)) then
 Q (VRes.ret (VV.bool false))
 else FitP 0 (VH.mk 0 ([].zip [])) (dsI.zip (VI a b (0 : Int))) (VH.mk 0 ([].zip [])) (dsI.zip (VI a b (0 : Int))) ∧ (a.length = b.length ∧ a.length ≤ 100000) ∧ (a = b → Q (VRes.ret (VV.bool true))) ∧ (a ≠ b → ∀ (i : Int), Q (VRes.ret (VV.bool false)))) := by kernel_rfl

/-- Are two lists the same, as a row. -/
def intsT : FuncId × Spec1 := (30, fun _ args h K => match args with
  | [x, y] => ∃ a b : List Int, isT h x (inD a) ∧ isT h y (inD b) ∧ a.length ≤ 100000 ∧ K (.ret (.bool (decide (a = b)))) h
  | _ => False)
/-- The document's Grist, as a row. -/
def rgT (A : VV) : FuncId × Spec1 := (29, fun _ args h K => match args with
  | [.tl L s g, .int .i64 day, .int .i64 need, .int .i64 nit] => ∃ l, isT h (.tl L s g) (byD l) ∧ (refR l day need nit = .ret A ∧ l.length ≤ 100000) ∧ A.bel 0 = true ∧ K (.ret A) h
  | _ => False)
theorem e1_ev (l : List By) (day need nit e : Int) (Q : VRes → Prop) : callN Try.prog (tabS [awT, grT (.tup [.nils, I 0, I e]) .nilp, rgT (.tup [.nils, I 0, I e]), intsT]) noL 10 20 0 (.fn 9) [byD l, I day, I need, I nit] ⟨0, []⟩ (fun r h => Q r) =
  (bif decide ((↑l.length : Int) > (8 : Int)) then
 bif decide ((↑l.length : Int) ≤ (12 : Int)) then
 Q (VRes.ret (VV.bool true))
 else bif decide ((↑l.length : Int) > (16 : Int)) then
 Q (VRes.ret (VV.bool true))
 else ∃ l_1, isT (VH.mk 0 []) (VV.tl l.length 6 (byG l)) (byD l_1) ∧ gristR l_1 day need nit = VRes.ret (VV.tup [VV.nils, I 0, I e]) ∧ true = true ∧ true = true ∧ ∃ l_2, isT (VH.mk 0 []) (VV.tl l.length 6 (byG l)) (byD l_2) ∧ (refR l_2 day need nit = VRes.ret (VV.tup [VV.nils, I 0, I e]) ∧ l_2.length ≤ 100000) ∧ true = true ∧ ∃ a b, isT (VH.mk 0 []) VV.nils (inD a) ∧ isT (VH.mk 0 []) VV.nils (inD b) ∧ a.length ≤ 100000 ∧ bif decide (a = b) then
 bif decide (e = e) then
 Q (VRes.ret (VV.bool true))
 else Q (VRes.ret (VV.bool false))
 else Q (VRes.ret (VV.bool false))
 else bif decide ((↑l.length : Int) > (16 : Int)) then
 Q (VRes.ret (VV.bool true))
 else ∃ l_1, isT (VH.mk 0 []) (VV.tl l.length 6 (byG l)) (byD l_1) ∧ gristR l_1 day need nit = VRes.ret (VV.tup [VV.nils, I 0, I e]) ∧ true = true ∧ true = true ∧ ∃ l_2, isT (VH.mk 0 []) (VV.tl l.length 6 (byG l)) (byD l_2) ∧ (refR l_2 day need nit = VRes.ret (VV.tup [VV.nils, I 0, I e]) ∧ l_2.length ≤ 100000) ∧ true = true ∧ ∃ a b, isT (VH.mk 0 []) VV.nils (inD a) ∧ isT (VH.mk 0 []) VV.nils (inD b) ∧ a.length ≤ 100000 ∧ bif decide (a = b) then
 bif decide (e = e) then
 Q (VRes.ret (VV.bool true))
 else Q (VRes.ret (VV.bool false))
 else Q (VRes.ret (VV.bool false))) := by kernel_rfl

theorem e2_ev (l : List By) (day need nit p : Int) (a : List Int) (Q : VRes → Prop) : callN Try.prog (tabS [awT, grT (.tup [inD a, I p, I 0]) .nilp, rgT (.tup [inD a, I p, I 0]), intsT]) noL 10 20 0 (.fn 9) [byD l, I day, I need, I nit] ⟨0, []⟩ (fun r h => Q r) =
  (bif decide ((↑l.length : Int) > (8 : Int)) then
 bif decide ((↑l.length : Int) ≤ (12 : Int)) then
 Q (VRes.ret (VV.bool true))
 else bif decide ((↑l.length : Int) > (16 : Int)) then
 Q (VRes.ret (VV.bool true))
 else ∃ l_1, isT (VH.mk 0 []) (VV.tl l.length 6 (byG l)) (byD l_1) ∧ gristR l_1 day need nit = VRes.ret (VV.tup [inD a, I p, I 0]) ∧ true = true ∧ true = true ∧ ∃ l_2, isT (VH.mk 0 []) (VV.tl l.length 6 (byG l)) (byD l_2) ∧ (refR l_2 day need nit = VRes.ret (VV.tup [inD a, I p, I 0]) ∧ l_2.length ≤ 100000) ∧ true = true ∧ ∃ a_1 b, isT (VH.mk 0 []) (VV.tl a.length 1 (dG a)) (inD a_1) ∧ isT (VH.mk 0 []) (VV.tl a.length 1 (dG a)) (inD b) ∧ a_1.length ≤ 100000 ∧ bif decide (a_1 = b) then
 bif decide (p = p) then
 Q (VRes.ret (VV.bool true))
 else Q (VRes.ret (VV.bool false))
 else Q (VRes.ret (VV.bool false))
 else bif decide ((↑l.length : Int) > (16 : Int)) then
 Q (VRes.ret (VV.bool true))
 else ∃ l_1, isT (VH.mk 0 []) (VV.tl l.length 6 (byG l)) (byD l_1) ∧ gristR l_1 day need nit = VRes.ret (VV.tup [inD a, I p, I 0]) ∧ true = true ∧ true = true ∧ ∃ l_2, isT (VH.mk 0 []) (VV.tl l.length 6 (byG l)) (byD l_2) ∧ (refR l_2 day need nit = VRes.ret (VV.tup [inD a, I p, I 0]) ∧ l_2.length ≤ 100000) ∧ true = true ∧ ∃ a_1 b, isT (VH.mk 0 []) (VV.tl a.length 1 (dG a)) (inD a_1) ∧ isT (VH.mk 0 []) (VV.tl a.length 1 (dG a)) (inD b) ∧ a_1.length ≤ 100000 ∧ bif decide (a_1 = b) then
 bif decide (p = p) then
 Q (VRes.ret (VV.bool true))
 else Q (VRes.ret (VV.bool false))
 else Q (VRes.ret (VV.bool false))) := by kernel_rfl


end Go.Sx.Grs

/- malt: the law MaltGrists. -/

namespace Go.Sx.Grs
open Go Go.Sx Go.Proofs
set_option maxRecDepth 1000000

section
variable {a b : List Int}

def OI (a b : List Int) (_ : Nat) (e : VEx) (vs : List VV) (bs : List VB) : Prop :=
  bs = [] ∧ ((a = b ∧ e = .exit 0 ∧ vs = VI a b a.length) ∨ (a ≠ b ∧ e = .ret ∧ ∃ i : Int, vs = VI a b i))

theorem lI_ok : LSound Try.prog true (.block 0 (.loop (loopB 0 (bodyOf Try.prog 30)))) (ntOf Try.prog 30) (lI a b) := by
  by_cases hn : a.length = b.length ∧ a.length ≤ 100000
  · obtain ⟨hl, hn⟩ := hn
    refine loop_row hmix good0 (un := 10) (ds := dsI) (ns := []) (nx := 0) (fun i : Nat => VI a b i) (fun _ => []) (fun i => i ≤ a.length ∧ ∀ j, j < i → a.getD j 0 = b.getD j 0) (fun i => a.length - i) (OI a b) noL_ok ?_ ?_
    · rintro i ⟨h0, h1⟩
      refine cast (in_ev a b i _).symm ?_
      by_cases hlt : i < a.length
      · refine cond_dk (by omega) (cond_dk ⟨by omega, by omega⟩ (cond_dk ⟨by omega, by omega⟩ ?_))
        rw [show (i : Int).toNat = i by omega]
        refine cond_nd (fun h => ?_) (fun h => cond_r (by omega) ⟨i + 1, ⟨by omega, fun j hj => ?_⟩, by dsimp only; omega, rfl, fitBs_refl _, fun _ _ _ h => h⟩)
        · exact ⟨rfl, .inr ⟨fun e => h (by rw [e]), rfl, _, rfl⟩⟩
        · by_cases e : j = i
          · rw [e]; exact h
          · exact h1 j (by omega)
      · obtain rfl : i = a.length := by omega
        refine cond_d (fun h => by omega) (fun _ => ⟨rfl, .inl ⟨?_, rfl, rfl⟩⟩)
        refine List.ext_getElem hl fun j h2 h3 => ?_
        have := h1 j h2
        rwa [List.getD_eq_getElem?_getD, List.getElem?_eq_getElem h2, List.getD_eq_getElem?_getD, List.getElem?_eq_getElem h3] at this
    · rintro lock t h K ⟨hf, _, k1, k2⟩
      refine ⟨0, hf, ⟨Nat.zero_le _, fun j hj => by omega⟩, ?_⟩
      rintro e vs bs ⟨rfl, ⟨g, rfl, rfl⟩ | ⟨g, rfl, i, rfl⟩⟩
      · exact k1 g
      · exact k2 g i
  · rintro lock t h K ⟨hf, hc, _⟩
    exact (hn hc).elim

theorem lI_all : LoopsOk Try.prog 30 [(0, lI a b)] := fun x hx => by
  simp only [List.mem_singleton] at hx
  subst hx
  exact ⟨by kernel_rfl, lI_ok⟩

theorem ints_v (hn : a.length ≤ 100000) : ∃ h', CallsV Try.prog 30 [inD a, inD b] ⟨0, []⟩ (.ret (.bool (decide (a = b)))) h' := by
  obtain ⟨r, h', rfl, hc⟩ := of_callN (callL_good hmix noSp (lI_all (a := a) (b := b)) (un := 10) 20) (f := 30) (args := [inD a, inD b]) (h := ⟨0, []⟩) (K := fun r _ => r = .ret (.bool (decide (a = b)))) (by
    refine cast (inf_ev a b _).symm ?_
    refine cond_nd (fun h => ?_) (fun h => ⟨fitP_self rfl, ⟨by omega, hn⟩, fun h => by rw [decide_eq_true h], fun h _ => by rw [decide_eq_false h]⟩)
    rw [decide_eq_false (fun e => h (by rw [e]))])
  exact ⟨h', hc⟩
end

theorem intsT_ok : SpOk Try.prog intsT.1 intsT.2 := by
  intro lock args h K hK
  simp only [intsT] at hK
  split at hK
  · obtain ⟨a, b, hx, hy, hn, hK⟩ := hK
    obtain ⟨h', hc⟩ := ints_v (b := b) hn
    exact ⟨_, h, hK, lockP_refl _ _, calls_lendP hc rfl ⟨hx, hy, trivial⟩⟩
  · exact hK.elim

theorem rgT_ok {A : VV} : SpOk Try.prog (rgT A).1 (rgT A).2 := by
  intro lock args h K hK
  simp only [rgT] at hK
  split at hK
  · rename_i L s g day need nit
    obtain ⟨l, hx, ⟨hr, hn⟩, hA, hK⟩ := hK
    obtain ⟨h', hc⟩ := refgrist_v l day need nit hn (fun h => allS_ok h)
    rw [hr] at hc
    have hsh : ∀ (R : Rn) (x : Value), VRel R (.tl L s g) x → VRel R (byD l) x := by
      obtain ⟨e1, e2, e3⟩ := hx
      intro R x hx
      subst e2
      subst e1
      exact tl_congr e3 hx
    have hc2 : CallsV Try.prog 29 [byD l, I day, I need, I nit] h (.ret A) h := calls_lift0 hc rfl hA
    refine ⟨_, h, hK, lockP_refl _ _, fun B R w xs em hx => ?_⟩
    obtain ⟨y, ys, h1, h2, rfl⟩ := hx
    exact hc2 B R w _ em ⟨y, ys, hsh R y h1, h2, rfl⟩
  · exact hK.elim

theorem g9_tab {A C : VV} : ∀ f T, tabS [awT, grT A C, rgT A, intsT] f = some T → SpOk Try.prog f T := tab_ok _ (fun x hx => by
  simp only [List.mem_cons, List.not_mem_nil, or_false] at hx
  rcases hx with rfl | rfl | rfl | rfl
  · exact awT_ok
  · exact grT_ok
  · exact rgT_ok
  · exact intsT_ok)

theorem grists_v (l : List By) (day need nit : Int) : ∃ h', CallsV Try.prog 9 [byD l, I day, I need, I nit] ⟨0, []⟩ (.ret (.bool true)) h' := by
  have one : ∀ e : Int, gristR l day need nit = .ret (.tup [.nils, I 0, I e]) → ∃ h', CallsV Try.prog 9 [byD l, I day, I need, I nit] ⟨0, []⟩ (.ret (.bool true)) h' := fun e hg => by
    have hr := grist_same (l := l) (day := day) (need := need) (nit := nit) ▸ hg
    obtain ⟨r, h', rfl, hc⟩ := of_callN (noL_good (g9_tab (A := .tup [.nils, I 0, I e]) (C := .nilp))) (f := 9) (args := [byD l, I day, I need, I nit]) (h := ⟨0, []⟩) (K := fun r _ => r = .ret (.bool true)) (by
      refine cast (e1_ev l day need nit e _).symm ?_
      refine cond_d (fun _ => cond_d (fun _ => rfl) (fun _ => cond_d (fun _ => rfl) (fun _ => ?_))) (fun _ => cond_d (fun _ => rfl) (fun _ => ?_)) <;>
        exact ⟨l, isT_byD, hg, rfl, rfl, l, isT_byD, ⟨hr, by omega⟩, rfl, [], [], rfl, rfl, by decide, cond_dk rfl (cond_dk rfl rfl)⟩)
    exact ⟨h', hc⟩
  by_cases h1 : ¬ l.length ≤ 12 ∨ l.all okBy = false
  · exact one 1 (by unfold gristR; rw [if_pos h1])
  by_cases h2 : ¬ ((0 ≤ day ∧ day ≤ 65536) ∧ (0 ≤ need ∧ need ≤ 1099511627776) ∧ 0 ≤ nit ∧ nit ≤ 10000)
  · exact one 2 (by unfold gristR; rw [if_neg h1, if_pos h2])
  cases hb : bestG l day need nit (2 ^ l.length) with
  | none => exact one 4 (by unfold gristR; rw [if_neg h1, if_neg h2, hb])
  | some y =>
    have hg : gristR l day need nit = .ret (.tup [inD y.L, I y.p, I 0]) := by unfold gristR; rw [if_neg h1, if_neg h2, hb]
    have hr := grist_same (l := l) (day := day) (need := need) (nit := nit) ▸ hg
    obtain ⟨i, hi, hy⟩ := bestG_mem hb
    have hyL : y.L.length ≤ l.length := by
      rw [hy, fillF_L]
      exact oF_len i _
    obtain ⟨r, h', rfl, hc⟩ := of_callN (noL_good (g9_tab (A := .tup [inD y.L, I y.p, I 0]) (C := .nilp))) (f := 9) (args := [byD l, I day, I need, I nit]) (h := ⟨0, []⟩) (K := fun r _ => r = .ret (.bool true)) (by
      refine cast (e2_ev l day need nit y.p y.L _).symm ?_
      refine cond_d (fun _ => cond_d (fun _ => rfl) (fun _ => cond_d (fun _ => rfl) (fun _ => ?_))) (fun _ => cond_d (fun _ => rfl) (fun _ => ?_)) <;>
        exact ⟨l, isT_byD, hg, rfl, rfl, l, isT_byD, ⟨hr, by omega⟩, rfl, y.L, y.L, ⟨rfl, rfl, fun _ _ => rfl⟩, ⟨rfl, rfl, fun _ _ => rfl⟩, by omega, cond_dk rfl (cond_dk rfl rfl)⟩)
    exact ⟨h', hc⟩
end Go.Sx.Grs
