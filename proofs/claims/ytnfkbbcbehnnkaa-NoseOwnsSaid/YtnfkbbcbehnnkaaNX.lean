/- stream: Nq1 Nq2 Nq3 Nq4 Nq5, in one text. -/
import Derived.Test.YtnfkbbcbehnnkaaNV
/- nose: Doubt, evaluated. -/

namespace Go.Sx.Nos
open Go Go.Sx Go.Proofs
set_option maxRecDepth 1000000

def dsDo : List Nat := [25, 24, 1, 6]
def VDo (n k : Nat) (i : Int) : List VV := [I i, I n, .ptr (.own 3 0), .sl 4 k]
def nsDo : List Nat := [0, 1, 2, 3, 4]
def BDo (p : Pn) (c1 c2 c3 : Nat) (l : List Int) : List VB := [arD p, arT p, arS p, pnB p c1 c2 c3, .vec l.length (dG l) 1 3]
theorem do_ev (p : Pn) (c1 c2 c3 : Nat) (l : List Int) (i : Int) (X : VEx → List VV → List VB → Prop) : codeE Try.prog (callN Try.prog (tabS [triT]) noL 10 20) (fun _ => none) true 10 49 0 (loopB 1 (bodyOf Try.prog 32)) (dsDo.zip (VDo p.T.length l.length i)) ⟨5, nsDo.zip (BDo p c1 c2 c3 l)⟩ (obs 5 dsDo nsDo X) =
  (bif decide (i < (↑p.T.length : Int)) then
 bif Nat.ble 1 c2 then
 (∀ (j : Nat), j < p.T.length → (([] : List Int) = [] ∧ (0 : Int) ≤ (0 : Int) + (↑j : Int) ∧ (0 : Int) + (↑j : Int) < (↑p.T.length : Int)) ∧ ((fun (_ : List Int) (i : Int) ↦ tG p.T i.toNat) [] ((0 : Int) + (↑j : Int))).all VV.one = true) ∧ bif roomB (0 + p.T.length) (40) then
 bif inK IntKind.i64 (i + (1 : Int)) then
 bif (0 + p.T.length).beq (0 + p.T.length) && decide ((0 : Int) ≤ i ∧ i ≤ i + (1 : Int) ∧ i + (1 : Int) ≤ (↑(0 + p.T.length) : Int) ∧ (↑(0 + p.T.length) : Int) ≤ (↑(0 + p.T.length) : Int)) then
 bif decide (i = i + (1 : Int)) then
 ∃ p_1, pnIs (VH.mk (7) ((5, VB.cells [VV.slice (VA.el 0 [] (0 : Int) 0) p.D.length c1, VV.sl (6) (0 + p.T.length), VV.slice (VA.el 2 [] (0 : Int) 0) p.S.length c3] 26) :: (6, VB.vec (0 + p.T.length) (catG 0 (fun j => List.take (5) (List.drop (j * (5)) [])) fun j => (fun (_ : List Int) (i : Int) ↦ tG p.T i.toNat) [] ((0 : Int) + (↑j : Int))) (5) 32) :: (6, VB.vec 0 (fun j => List.take (5) (List.drop (j * (5)) [])) (5) 32) :: (5, VB.cells [VV.slice (VA.el 0 [] (0 : Int) 0) p.D.length c1, VV.slice (VA.el 1 [] (0 : Int) 0) p.T.length c2, VV.slice (VA.el 2 [] (0 : Int) 0) p.S.length c3] 26) :: (5, VB.cells [VV.nils, VV.nils, VV.nils] 26) :: nsDo.zip (BDo p c1 c2 c3 l))) p_1 (sD p c1) (VV.sl (6) (0 + p.T.length)) (sS p c3) ∧ PnOk p_1 ∧ (fitF p_1 → bif l.length.beq l.length then
 bif roomB (l.length + 1) (8) then
 bif inK IntKind.i64 (i + (1 : Int)) then
 X VEx.normal [I (i + (1 : Int)), I (↑p.T.length : Int), VV.ptr (VA.own 3 0), VV.sl 4 (l.length + 1)] [arD p, arT p, arS p, pnB p c1 c2 c3, VB.vec (l.length + 1) (catG l.length (dG l) fun j => List.take (1) (List.drop (j * (1)) [I i])) (1) 3]
 else False
 else False
 else False) ∧ (¬fitF p_1 → bif inK IntKind.i64 (i + (1 : Int)) then
 X VEx.normal [I (i + (1 : Int)), I (↑p.T.length : Int), VV.ptr (VA.own 3 0), VV.sl 4 l.length] [arD p, arT p, arS p, pnB p c1 c2 c3, VB.vec l.length (dG l) 1 (3 : TypeId)]
 else False)
 else bif decide ((0 : Int) ≤ (0 : Int) ∧ (0 : Int) ≤ i ∧ i ≤ (↑(0 + p.T.length) : Int)) then
 bif (0 + p.T.length).beq (0 + p.T.length) then
 bif decide ((0 : Int) ≤ i + (1 : Int) ∧ i + (1 : Int) ≤ (↑(0 + p.T.length) : Int) ∧ (↑(0 + p.T.length) : Int) ≤ (↑(0 + p.T.length) : Int)) then
 bif (0 + p.T.length).beq (0 + p.T.length) then
 bif (0 + p.T.length).beq (0 + p.T.length) then
 bif (0 + p.T.length).beq (0 + p.T.length) && decide (Int.toNat (0 : Int) + (i - (0 : Int)).toNat + ((↑(0 + p.T.length) : Int) - (i + (1 : Int))).toNat ≤ 0 + p.T.length) then
 bif decide ((0 : Int) ≤ (↑((i - (0 : Int)).toNat + ((↑(0 + p.T.length) : Int) - (i + (1 : Int))).toNat) : Int) ∧ (↑((i - (0 : Int)).toNat + ((↑(0 + p.T.length) : Int) - (i + (1 : Int))).toNat) : Int) ≤ (↑(0 + p.T.length) : Int) ∧ (↑(Int.toNat (0 : Int)) : Int) + (↑(0 + p.T.length) : Int) ≤ (↑(0 + p.T.length) : Int)) then
 bif (0 + p.T.length).beq (0 + p.T.length) && [I 0, I 0, I 0, I 0, I 0].length.beq (5) && [I 0, I 0, I 0, I 0, I 0].all VV.one && belL 0 [I 0, I 0, I 0, I 0, I 0] then
 ∃ p_1, pnIs (VH.mk (7) ((5, VB.cells [VV.slice (VA.el 0 [] (0 : Int) 0) p.D.length c1, VV.sub (6) (0 + p.T.length) (5) (Int.toNat (0 : Int)) ((i - (0 : Int)).toNat + ((↑(0 + p.T.length) : Int) - (i + (1 : Int))).toNat), VV.slice (VA.el 2 [] (0 : Int) 0) p.S.length c3] 26) :: (6, VB.vec (0 + p.T.length) (ovG (Int.toNat (0 : Int) + (↑((i - (0 : Int)).toNat + ((↑(0 + p.T.length) : Int) - (i + (1 : Int))).toNat) : Int).toNat) ((↑(0 + p.T.length) : Int) - (↑((i - (0 : Int)).toNat + ((↑(0 + p.T.length) : Int) - (i + (1 : Int))).toNat) : Int)).toNat (ovG (Int.toNat (0 : Int) + (i - (0 : Int)).toNat) ((↑(0 + p.T.length) : Int) - (i + (1 : Int))).toNat (catG 0 (fun j => List.take (5) (List.drop (j * (5)) [])) fun j => (fun (_ : List Int) (i : Int) ↦ tG p.T i.toNat) [] ((0 : Int) + (↑j : Int))) fun j => catG 0 (fun j => List.take (5) (List.drop (j * (5)) [])) (fun j => (fun (_ : List Int) (i : Int) ↦ tG p.T i.toNat) [] ((0 : Int) + (↑j : Int))) ((i + (1 : Int)).toNat + j)) fun x => [I 0, I 0, I 0, I 0, I 0]) (5) 32) :: (6, VB.vec (0 + p.T.length) (ovG (Int.toNat (0 : Int) + (i - (0 : Int)).toNat) ((↑(0 + p.T.length) : Int) - (i + (1 : Int))).toNat (catG 0 (fun j => List.take (5) (List.drop (j * (5)) [])) fun j => (fun (_ : List Int) (i : Int) ↦ tG p.T i.toNat) [] ((0 : Int) + (↑j : Int))) fun j => catG 0 (fun j => List.take (5) (List.drop (j * (5)) [])) (fun j => (fun (_ : List Int) (i : Int) ↦ tG p.T i.toNat) [] ((0 : Int) + (↑j : Int))) ((i + (1 : Int)).toNat + j)) (5) 32) :: (6, VB.vec (0 + p.T.length) (catG 0 (fun j => List.take (5) (List.drop (j * (5)) [])) fun j => (fun (_ : List Int) (i : Int) ↦ tG p.T i.toNat) [] ((0 : Int) + (↑j : Int))) (5) 32) :: (6, VB.vec 0 (fun j => List.take (5) (List.drop (j * (5)) [])) (5) 32) :: (5, VB.cells [VV.slice (VA.el 0 [] (0 : Int) 0) p.D.length c1, VV.slice (VA.el 1 [] (0 : Int) 0) p.T.length c2, VV.slice (VA.el 2 [] (0 : Int) 0) p.S.length c3] 26) :: (5, VB.cells [VV.nils, VV.nils, VV.nils] 26) :: nsDo.zip (BDo p c1 c2 c3 l))) p_1 (sD p c1) (VV.sub (6) (0 + p.T.length) (5) (Int.toNat (0 : Int)) ((i - (0 : Int)).toNat + ((↑(0 + p.T.length) : Int) - (i + (1 : Int))).toNat)) (sS p c3) ∧ PnOk p_1 ∧ (fitF p_1 → bif l.length.beq l.length then
 bif roomB (l.length + 1) (8) then
 bif inK IntKind.i64 (i + (1 : Int)) then
 X VEx.normal [I (i + (1 : Int)), I (↑p.T.length : Int), VV.ptr (VA.own 3 0), VV.sl 4 (l.length + 1)] [arD p, arT p, arS p, pnB p c1 c2 c3, VB.vec (l.length + 1) (catG l.length (dG l) fun j => List.take (1) (List.drop (j * (1)) [I i])) (1) 3]
 else False
 else False
 else False) ∧ (¬fitF p_1 → bif inK IntKind.i64 (i + (1 : Int)) then
 X VEx.normal [I (i + (1 : Int)), I (↑p.T.length : Int), VV.ptr (VA.own 3 0), VV.sl 4 l.length] [arD p, arT p, arS p, pnB p c1 c2 c3, VB.vec l.length (dG l) 1 (3 : TypeId)]
 else False)
 else False
 else False
 else False
 else False
 else False
 else False
 else False
 else False
 else False
 else False
 else False
 else False
 else X (VEx.exit 1) [I i, I (↑p.T.length : Int), VV.ptr (VA.own 3 0), VV.sl 4 l.length] [arD p, arT p, arS p, pnB p c1 c2 c3, VB.vec l.length (dG l) 1 (3 : TypeId)]) := by kernel_rfl

/-- A panel without one of its tastings; those without which it fits. -/
def rmP (p : Pn) (i : Nat) : Pn := ⟨p.D, p.T.eraseIdx i, p.S⟩
open Classical in
noncomputable def douL (p : Pn) : Nat → List Int
  | 0 => []
  | k + 1 => if fitF (rmP p k) then douL p k ++ [(k : Int)] else douL p k
noncomputable def lDos (p : Pn) (c1 c2 c3 : Nat) (l : List Int) : LT := fun lock tt h K =>
  FitP lock h tt ⟨5, nsDo.zip (BDo p c1 c2 c3 [])⟩ (dsDo.zip (VDo p.T.length 0 0)) ∧ (PnOk p ∧ p.T.length ≤ c2 ∧ l = douL p p.T.length) ∧ K .normal (dsDo.zip (VDo p.T.length l.length p.T.length)) ⟨5, nsDo.zip (BDo p c1 c2 c3 l)⟩
def dsDo0 : List Nat := [6, 25, 24, 1]
def VDo0 (n : Nat) : List VV := [.nils, I 0, I n, .ptr (.own 3 0)]
def nsDo0 : List Nat := [0, 1, 2, 3]
noncomputable def lDo (p : Pn) (c1 c2 c3 : Nat) (l : List Int) : LT := fun lock tt h K =>
  FitP lock h tt ⟨4, nsDo0.zip [arD p, arT p, arS p, pnB p c1 c2 c3]⟩ (dsDo0.zip (VDo0 p.T.length)) ∧ (PnOk p ∧ p.T.length ≤ c2 ∧ l = douL p p.T.length) ∧ K .normal (dsDo.zip (VDo p.T.length l.length p.T.length)) ⟨5, nsDo.zip (BDo p c1 c2 c3 l)⟩
def thD4 (Q : VRes → VB → Prop) : VRes → VH → Prop := fun r h => Q r (h.at 4)
theorem doa_ev (p : Pn) (c1 c2 c3 : Nat) (l : List Int) (Q : VRes → VB → Prop) : callN Try.prog (tabS [fisT]) (atF 32 [(1, lDo p c1 c2 c3 l)]) 10 20 0 (.fn 32) [.agg (pnV p c1 c2 c3)] (pnH p) (thD4 Q) =
  (∃ p_1, pnIs (VH.mk (4) [(3, VB.cells [VV.slice (VA.el 0 [] (0 : Int) 0) p.D.length c1, VV.slice (VA.el 1 [] (0 : Int) 0) p.T.length c2, VV.slice (VA.el 2 [] (0 : Int) 0) p.S.length c3] 26), (0, arD p), (1, arT p), (2, arS p)]) p_1 (sD p c1) (sT1 p c2) (sS p c3) ∧ True ∧ bif !decide ((fisF p_1).snd = (0 : Int)) then
 Q (VRes.ret (VV.tup [VV.nils, I (fisF p_1).snd])) VB.free
 else bif (fisF p_1).fst then
 Q (VRes.ret (VV.tup [VV.nils, I 6])) VB.free
 else FitP 0 (VH.mk 4 (nsDo0.zip [arD p, arT p, arS p, pnB p c1 c2 c3])) (dsDo0.zip (VDo0 p.T.length)) (VH.mk 4 (nsDo0.zip [arD p, arT p, arS p, pnB p c1 c2 c3])) (dsDo0.zip (VDo0 p.T.length)) ∧ (PnOk p ∧ p.T.length ≤ c2 ∧ l = douL p p.T.length) ∧ Q (VRes.ret (VV.tup [VV.sl 4 l.length, I 0])) (VB.vec l.length (dG l) 1 (3 : TypeId))) := by kernel_rfl


end Go.Sx.Nos

/- nose: Doubt. -/

namespace Go.Sx.Nos
open Go Go.Sx Go.Proofs
set_option maxRecDepth 1000000

section
variable {p : Pn} {c1 c2 c3 : Nat} {l : List Int}

theorem rm_ok (hp : PnOk p) (k : Nat) : PnOk (rmP p k) :=
  ⟨hp.d, Nat.le_trans (List.length_eraseIdx_le ..) hp.t, hp.s, hp.dr, fun t ht => hp.ts t (List.mem_of_mem_eraseIdx ht), hp.sd⟩

theorem rm_len {k : Nat} (h : k < p.T.length) : (rmP p k).T.length = p.T.length - 1 := by
  show (p.T.eraseIdx k).length = _
  rw [List.length_eraseIdx, if_pos h]

theorem le_z {a b n : Nat} (h : a + b ≤ n) : Int.toNat 0 + a + b ≤ 0 + n := by
  show 0 + a + b ≤ 0 + n
  omega

theorem ov_in {o k j : Nat} {g f : Nat → List VV} (h : o ≤ j ∧ j < o + k) : ovG o k g f j = f (j - o) := by
  unfold ovG
  rw [show Nat.ble o j = true by rw [Nat.ble_eq]; exact h.1, blt_t h.2]
  rfl
theorem ov_out {o k j : Nat} {g f : Nat → List VV} (h : ¬ (o ≤ j ∧ j < o + k)) : ovG o k g f j = g j := by
  unfold ovG
  cases h1 : Nat.ble o j with
  | false => rfl
  | true =>
    have := Nat.le_of_ble_eq_true h1
    rw [blt_f (by omega)]
    rfl

/-- An element of what is left. -/
theorem rm_el {T : List Ts} {k j a b c d e f : Nat} {g : Nat → List VV} {Z : Nat → List VV} (hg : ∀ m, g m = tG T m) (ha : a = T.length - 1) (hc : c = k) (hd : d = T.length - 1 - k) (he : e = k + 1) (hf : f = 0) (hk : k < T.length) (hj : j < T.length - 1) :
    ovG a b (ovG c d g fun m => g (e + m)) Z (f + j) = tG (T.eraseIdx k) j := by
  subst ha; subst hc; subst hd; subst he; subst hf
  rw [Nat.zero_add, ov_out (by omega)]
  have ht : tG (T.eraseIdx c) j = if j < c then tG T j else tG T (j + 1) := by
    unfold tG
    rw [List.getD_eq_getElem?_getD, List.getElem?_eraseIdx, List.getD_eq_getElem?_getD, List.getD_eq_getElem?_getD]
    split <;> rfl
  rw [ht]
  by_cases h : c ≤ j
  · rw [ov_in (by omega), if_neg (by omega), hg, show c + 1 + (j - c) = j + 1 by omega]
  · rw [ov_out (by omega), if_pos (by omega), hg]

theorem dou_s {k : Nat} (h : fitF (rmP p k)) : douL p (k + 1) = douL p k ++ [(k : Int)] := if_pos h
theorem dou_n {k : Nat} (h : ¬ fitF (rmP p k)) : douL p (k + 1) = douL p k := if_neg h
theorem dou_le (k : Nat) : (douL p k).length ≤ k := by
  induction k with
  | zero => exact Nat.le_refl 0
  | succ k ih =>
    by_cases h : fitF (rmP p k)
    · rw [dou_s h, List.length_append]
      simp only [List.length_singleton]
      omega
    · rw [dou_n h]; omega

theorem fit_one {L : List Int} {y : Int} : (VB.vec (L ++ [y]).length (dG (L ++ [y])) 1 3).fit (.vec (L.length + 1) (catG L.length (dG L) fun j => List.take 1 (List.drop (j * 1) [I y])) 1 3) := by
  refine ⟨by simp, rfl, rfl, fun j hj => ?_⟩
  rw [List.length_append, List.length_singleton] at hj
  unfold catG
  by_cases hjk : j < L.length
  · rw [blt_t hjk]; exact dG_l hjk
  · rw [blt_f (by omega)]
    obtain rfl : j = L.length := by omega
    show List.take 1 (List.drop ((L.length - L.length) * 1) [I y]) = _
    rw [Nat.sub_self]
    have := dG_r (S := L) (R := [y]) (j := 0)
    exact this.symm

theorem lDos_ok : LSound Try.prog true (.block 1 (.loop (loopB 1 (bodyOf Try.prog 32)))) 49 (lDos p c1 c2 c3 l) := by
  by_cases hh : PnOk p ∧ p.T.length ≤ c2 ∧ l = douL p p.T.length
  · obtain ⟨hp, hc2, hl⟩ := hh
    have hT := hp.t
    refine loop_row hmix (tab_good hmix (l := [triT]) (fun x hx => by simp only [List.mem_singleton] at hx; subst hx; exact triT_ok) (unroll := 10) 20) (un := 10) (ds := dsDo) (ns := nsDo) (nx := 5) (fun k : Nat => VDo p.T.length (douL p k).length k) (fun k => BDo p c1 c2 c3 (douL p k))
      (fun k => k ≤ p.T.length) (fun k => p.T.length - k) (fun _ e vs bs => e = .exit 1 ∧ vs = VDo p.T.length l.length p.T.length ∧ bs = BDo p c1 c2 c3 l) noL_ok ?_ ?_
    · intro k hk
      refine cast (do_ev p c1 c2 c3 (douL p k) k _).symm ?_
      by_cases h : k < p.T.length
      · have hd := dou_le (p := p) k
        refine cond_dk (by omega) (cond_k (Nat.ble_eq_true_of_le (by omega)) ⟨tk_T, cond_k (room40 (by omega)) (cond_r (by omega) (cond_k (by rw [beq_t rfl, Bool.true_and]; exact decide_eq_true ⟨by omega, by omega, by omega, by omega⟩) (cond_d (fun hn => by omega) (fun _ => cond_dk ⟨by omega, by omega, by omega⟩ (cond_k (beq_t rfl) (cond_dk ⟨by omega, by omega, by omega⟩ (cond_k (beq_t rfl) (cond_k (beq_t rfl) (cond_k (by rw [beq_t rfl, Bool.true_and]; exact decide_eq_true (le_z (by omega))) (cond_dk ⟨by omega, by omega, by omega⟩ (cond_k (by rw [beq_t rfl, Bool.true_and]; rfl) ⟨rmP p k, ⟨isD_own rfl, ⟨?_, rfl, _, _, rfl, fun j hj => ?_⟩, isS_own rfl⟩, rm_ok hp k, fun hf => ?_, fun hf => ?_⟩)))))))))))⟩)
        · rw [rm_len h]; omega
        · rw [rm_len h] at hj
          exact rm_el (T := p.T) (k := k) (fun m => by
            show catG 0 _ _ m = _
            unfold catG
            rw [blt_f (by omega)]
            show tG p.T ((0 : Int) + ((m - 0 : Nat) : Int)).toNat = _
            rw [zero_toNat, Nat.sub_zero]) (by omega) (by omega) (by omega) (by omega) rfl h hj
        · refine cond_k (beq_t rfl) (cond_k (room8 (by omega)) (cond_r (by omega) ⟨k + 1, by omega, by dsimp only; omega, ?_, ?_, fun _ _ _ ho => ho⟩))
          · show VDo p.T.length ((douL p k).length + 1) ((k : Int) + 1) = VDo p.T.length (douL p (k + 1)).length ((k + 1 : Nat) : Int)
            rw [dou_s hf, List.length_append]
            rfl
          · show fitBs (BDo p c1 c2 c3 (douL p (k + 1))) _
            rw [dou_s hf]
            exact ⟨VB.fit_refl _, VB.fit_refl _, VB.fit_refl _, VB.fit_refl _, fit_one, trivial⟩
        · refine cond_r (by omega) ⟨k + 1, by omega, by dsimp only; omega, ?_, ?_, fun _ _ _ ho => ho⟩
          · show VDo p.T.length (douL p k).length ((k : Int) + 1) = VDo p.T.length (douL p (k + 1)).length ((k + 1 : Nat) : Int)
            rw [dou_n hf]
            rfl
          · show fitBs (BDo p c1 c2 c3 (douL p (k + 1))) _
            rw [dou_n hf]
            exact fitBs_refl _
      · obtain rfl : k = p.T.length := by omega
        exact cond_d (fun h => by omega) (fun _ => ⟨rfl, by rw [hl]; rfl, by rw [hl]; rfl⟩)
    · rintro lock tt h K ⟨hf, _, hK⟩
      refine ⟨0, hf, Nat.zero_le _, ?_⟩
      rintro e vs bs ⟨rfl, rfl, rfl⟩
      exact hK
  · rintro lock tt h K ⟨_, hc, _⟩
    exact (hh hc).elim

theorem lDo_ok : LSound Try.prog true (.block 1 (.loop (loopB 1 (bodyOf Try.prog 32)))) 49 (lDo p c1 c2 c3 l) :=
  ghost_row (d := 6) (nx := 4) (bs := nsDo0.zip [arD p, arT p, arS p, pnB p c1 c2 c3]) (t0 := [25, 24, 1].zip [I 0, I p.T.length, .ptr (.own 3 0)]) (dG []) 1 3 lDos_ok (by
    rintro lock t h K ⟨hf, hi, hK⟩
    exact ⟨hf, ⟨⟨rfl, rfl, VB.fit_refl _, VB.fit_refl _, VB.fit_refl _, VB.fit_refl _, VB.fit_refl _, trivial⟩, rfl, rfl, rfl, rfl, trivial⟩, hi, hK⟩)

theorem doL_ok : LoopsOk Try.prog 32 [(1, lDo p c1 c2 c3 l)] := by
  intro x hx
  simp only [List.mem_singleton] at hx
  subst hx
  exact ⟨by kernel_rfl, lDo_ok⟩

theorem fi_ok : ∀ x ∈ [fisT], SpOk Try.prog x.1 x.2 := fun x hx => by
  simp only [List.mem_singleton] at hx
  subst hx
  exact fisT_ok

/-- Where a slice is longer than its room there is no such call. -/
theorem calls_vac {f : FuncId} {h h' : VH} {r : VRes} (hc : ¬ p.T.length ≤ c2) : CallsV Try.prog f [.agg (pnV p c1 c2 c3)] h r h' := by
  intro B R w xs em hx
  obtain ⟨y, ys, ⟨zs, ⟨a, _, ha, ⟨b, _, hb, _, rfl⟩, rfl⟩, rfl⟩, _, rfl⟩ := hx
  exact (hc hb.1).elim

theorem dou_v :
    (¬ PnOk p → ∃ h', CallsV Try.prog 32 [.agg (pnV p c1 c2 c3)] (pnH p) (.ret (.tup [.nils, I 1])) h') ∧
    (PnOk p → fitF p → ∃ h', CallsV Try.prog 32 [.agg (pnV p c1 c2 c3)] (pnH p) (.ret (.tup [.nils, I 6])) h') ∧
    (PnOk p → ¬ fitF p → CallsV Try.prog 32 [.agg (pnV p c1 c2 c3)] (pnH p) (.ret (.tup [.sl 4 (douL p p.T.length).length, I 0])) ⟨5, [(4, .vec (douL p p.T.length).length (dG (douL p p.T.length)) 1 3)]⟩) := by
  by_cases hcc : p.T.length ≤ c2
  · obtain ⟨l, hl⟩ : ∃ l, l = douL p p.T.length := ⟨_, rfl⟩
    rw [← hl]
    obtain ⟨r, h', hQ, hc⟩ := of_callN (callL_good hmix (tabs_ok fi_ok) (doL_ok (p := p) (c1 := c1) (c2 := c2) (c3 := c3) (l := l)) (un := 10) 20) (f := 32) (args := [.agg (pnV p c1 c2 c3)]) (h := pnH p)
      (K := thD4 fun r b => (¬ PnOk p ∧ r = .ret (.tup [.nils, I 1])) ∨ (PnOk p ∧ fitF p ∧ r = .ret (.tup [.nils, I 6])) ∨ (PnOk p ∧ ¬ fitF p ∧ r = .ret (.tup [.sl 4 l.length, I 0]) ∧ b = .vec l.length (dG l) 1 3))
      (by
        refine cast (doa_ev p c1 c2 c3 l _).symm ?_
        refine ⟨p, pnIs_own rfl rfl rfl, trivial, ?_⟩
        by_cases hp : PnOk p
        · by_cases hf : fitF p
          · have e : fisF p = (true, 0) := by unfold fisF; rw [if_pos hp, fitB_t hf]
            rw [e]
            exact .inr (.inl ⟨hp, hf, rfl⟩)
          · have e : fisF p = (false, 0) := by unfold fisF; rw [if_pos hp, fitB_f hf]
            rw [e]
            exact ⟨fitP_self rfl, ⟨hp, hcc, hl⟩, .inr (.inr ⟨hp, hf, rfl, rfl⟩)⟩
        · have e : fisF p = (false, 1) := by unfold fisF; rw [if_neg hp]
          rw [e]
          exact .inl ⟨hp, rfl⟩)
    rcases hQ with ⟨h1, rfl⟩ | ⟨h1, h2, rfl⟩ | ⟨h1, h2, rfl, hb⟩
    · exact ⟨fun _ => ⟨_, hc⟩, fun h => absurd h h1, fun h => absurd h h1⟩
    · exact ⟨fun h => absurd h1 h, fun _ _ => ⟨_, hc⟩, fun _ h => absurd h2 h⟩
    · exact ⟨fun h => absurd h1 h, fun _ h => absurd h h2, fun _ _ => calls_weak hc (show 3 ≤ 5 by decide) ⟨by rw [hb]; exact VB.fit_refl _, trivial⟩ rfl rfl⟩
  · exact ⟨fun _ => ⟨⟨0, []⟩, calls_vac hcc⟩, fun _ _ => ⟨⟨0, []⟩, calls_vac hcc⟩, fun _ _ => calls_vac hcc⟩
end

/-- Which tastings are in doubt, as a row. -/
noncomputable def douT : FuncId × Spec1 := (32, fun _ args h K => match args with
  | [.agg [d, t, s]] => ∃ p : Pn, pnIs h p d t s ∧ (match h with
      | ⟨nx, bs⟩ => (¬ PnOk p → K (.ret (.tup [.nils, I 1])) ⟨nx, bs⟩) ∧ (PnOk p → fitF p → K (.ret (.tup [.nils, I 6])) ⟨nx, bs⟩) ∧
          (PnOk p → ¬ fitF p → K (.ret (.tup [.sl nx (douL p p.T.length).length, I 0])) ⟨nx + 1, (nx, .vec (douL p p.T.length).length (dG (douL p p.T.length)) 1 3) :: bs⟩))
  | _ => False)

theorem douT_ok : SpOk Try.prog douT.1 douT.2 := by
  intro lock args h K hK
  simp only [douT] at hK
  split at hK
  · rename_i d t s
    obtain ⟨p, hpn, hK⟩ := hK
    obtain ⟨nx, bs⟩ := h
    obtain ⟨k1, k2, k3⟩ := hK
    by_cases hp : PnOk p
    · by_cases hf : fitF p
      · exact ⟨_, _, k2 hp hf, lockP_refl _ _, calls_pn (f := 32) (pl := []) (r := .ret (.tup [.nils, I 6])) (fun c1 c2 c3 => dou_v.2.1 hp hf) rfl rfl hpn⟩
      · have h1 := calls_pnN (f := 32) (pl := []) (r := .ret (.tup [.sl 4 (douL p p.T.length).length, I 0])) (bl := [.vec (douL p p.T.length).length (dG (douL p p.T.length)) 1 3]) 4 (fun c1 c2 c3 => ⟨_, dou_v.2.2 hp hf, fun i => by
          match i with
          | 0 => rfl
          | i + 1 =>
            rw [at_8 (by omega)]
            rfl⟩) rfl (fun c hc => by
          simp only [List.mem_singleton] at hc
          subst hc
          exact fun j _ => rfl) rfl hpn
        have s4 : shN 4 nx 4 = nx := by unfold shN; rw [if_neg (by decide)]; omega
        have e1 : (VRes.ret (.tup [.sl 4 (douL p p.T.length).length, I 0])).sh 4 nx = .ret (.tup [.sl nx (douL p p.T.length).length, I 0]) := congrArg (fun n => VRes.ret (.tup [.sl n (douL p p.T.length).length, I 0])) s4
        refine ⟨_, _, k3 hp hf, lockP_push (lock := lock) (VH.mk nx bs) [.vec (douL p p.T.length).length (dG (douL p p.T.length)) 1 3], ?_⟩
        have h1 : CallsV Try.prog 32 [.agg [d, t, s]] ⟨nx, bs⟩ ((VRes.ret (.tup [.sl 4 (douL p p.T.length).length, I 0])).sh 4 nx) (pushL ⟨nx, bs⟩ (([.vec (douL p p.T.length).length (dG (douL p p.T.length)) 1 3] : List VB).map (VB.sh 4 nx))) := h1
        rw [e1] at h1
        exact h1
    · exact ⟨_, _, k1 hp, lockP_refl _ _, calls_pn (f := 32) (pl := []) (r := .ret (.tup [.nils, I 1])) (fun c1 c2 c3 => dou_v.1 hp) rfl rfl hpn⟩
  · exact hK.elim
end Go.Sx.Nos

/- nose: NoseDoubt, evaluated. -/

namespace Go.Sx.Nos
open Go Go.Sx Go.Proofs
set_option maxRecDepth 1000000

def dsNd : List Nat := [65, 64, 7, 3, 1]
def VNd (n m : Nat) (x i : Int) : List VV := [I i, I n, I x, .sl 4 m, .ptr (.own 3 0)]
theorem nd_ev (p : Pn) (c1 c2 c3 : Nat) (l : List Int) (x i : Int) (X : VEx → List VV → List VB → Prop) : codeE Try.prog (callN Try.prog (tabS [fisT]) noL 10 20) (fun _ => none) true 10 117 0 (loopB 0 (bodyOf Try.prog 9)) (dsNd.zip (VNd p.T.length l.length x i)) ⟨5, nsDo.zip (BDo p c1 c2 c3 l)⟩ (obs 5 dsNd nsDo X) =
  (bif decide (i < (↑p.T.length : Int)) then
 bif decide ((0 : Int) ≤ (0 : Int) ∧ (0 : Int) ≤ i ∧ i ≤ (↑c2 : Int)) then
 (∀ (j : Nat), j < (i - (0 : Int)).toNat → (([] : List Int) = [] ∧ (0 : Int) ≤ (0 : Int) + (0 : Int) + (↑j : Int) ∧ (0 : Int) + (0 : Int) + (↑j : Int) < (↑p.T.length : Int)) ∧ ((fun (_ : List Int) (i : Int) ↦ tG p.T i.toNat) [] ((0 : Int) + (0 : Int) + (↑j : Int))).all VV.one = true) ∧ bif roomB (0 + (i - (0 : Int)).toNat) (40) then
 bif inK IntKind.i64 (i + (1 : Int)) then
 bif decide ((0 : Int) ≤ i + (1 : Int) ∧ i + (1 : Int) ≤ (↑p.T.length : Int) ∧ (↑p.T.length : Int) ≤ (↑c2 : Int)) then
 (∀ (j : Nat), j < ((↑p.T.length : Int) - (i + (1 : Int))).toNat → (([] : List Int) = [] ∧ (0 : Int) ≤ (0 : Int) + (i + (1 : Int)) + (↑j : Int) ∧ (0 : Int) + (i + (1 : Int)) + (↑j : Int) < (↑p.T.length : Int)) ∧ ((fun (_ : List Int) (i : Int) ↦ tG p.T i.toNat) [] ((0 : Int) + (i + (1 : Int)) + (↑j : Int))).all VV.one = true) ∧ bif (0 + (i - (0 : Int)).toNat).beq (0 + (i - (0 : Int)).toNat) then
 bif roomB (0 + (i - (0 : Int)).toNat + ((↑p.T.length : Int) - (i + (1 : Int))).toNat) (40) then
 ∃ p_1, pnIs (VH.mk (7) ((5, VB.cells [VV.slice (VA.el 0 [] (0 : Int) 0) p.D.length c1, VV.sl (6) (0 + (i - (0 : Int)).toNat + ((↑p.T.length : Int) - (i + (1 : Int))).toNat), VV.slice (VA.el 2 [] (0 : Int) 0) p.S.length c3] 26) :: (6, VB.vec (0 + (i - (0 : Int)).toNat + ((↑p.T.length : Int) - (i + (1 : Int))).toNat) (catG (0 + (i - (0 : Int)).toNat) (catG 0 (fun j => List.take (5) (List.drop (j * (5)) [])) fun j => (fun (_ : List Int) (i : Int) ↦ tG p.T i.toNat) [] ((0 : Int) + (0 : Int) + (↑j : Int))) fun j => (fun (_ : List Int) (i : Int) ↦ tG p.T i.toNat) [] ((0 : Int) + (i + (1 : Int)) + (↑j : Int))) (5) 32) :: (6, VB.vec (0 + (i - (0 : Int)).toNat) (catG 0 (fun j => List.take (5) (List.drop (j * (5)) [])) fun j => (fun (_ : List Int) (i : Int) ↦ tG p.T i.toNat) [] ((0 : Int) + (0 : Int) + (↑j : Int))) (5) 32) :: (6, VB.vec 0 (fun j => List.take (5) (List.drop (j * (5)) [])) (5) 32) :: (5, VB.cells [VV.slice (VA.el 0 [] (0 : Int) 0) p.D.length c1, VV.slice (VA.el 1 [] (0 : Int) 0) p.T.length c2, VV.slice (VA.el 2 [] (0 : Int) 0) p.S.length c3] 26) :: (5, VB.cells [VV.nils, VV.nils, VV.nils] 26) :: nsDo.zip (BDo p c1 c2 c3 l))) p_1 (sD p c1) (VV.sl (6) (0 + (i - (0 : Int)).toNat + ((↑p.T.length : Int) - (i + (1 : Int))).toNat)) (sS p c3) ∧ True ∧ bif decide (x < (↑l.length : Int)) then
 bif decide ((0 : Int) ≤ x ∧ x < (↑l.length : Int)) then
 bif l.length.beq l.length && Nat.ble 1 Try.prog.types[3].size then
 bif l.length.beq l.length then
 bif decide (l.getD x.toNat (0 : Int) = i) then
 bif inK IntKind.i64 (x + (1 : Int)) then
 bif !decide ((fisF p_1).snd = (0 : Int)) then
 X VEx.ret [I i, I (↑p.T.length : Int), I (x + (1 : Int)), VV.sl 4 l.length, VV.ptr (VA.own 3 0)] [arD p, arT p, arS p, pnB p c1 c2 c3, VB.vec l.length (dG l) 1 (3 : TypeId)]
 else bif !(fisF p_1).fst == decide (l.getD x.toNat (0 : Int) = i) then
 X VEx.ret [I i, I (↑p.T.length : Int), I (x + (1 : Int)), VV.sl 4 l.length, VV.ptr (VA.own 3 0)] [arD p, arT p, arS p, pnB p c1 c2 c3, VB.vec l.length (dG l) 1 (3 : TypeId)]
 else bif inK IntKind.i64 (i + (1 : Int)) then
 X VEx.normal [I (i + (1 : Int)), I (↑p.T.length : Int), I (x + (1 : Int)), VV.sl 4 l.length, VV.ptr (VA.own 3 0)] [arD p, arT p, arS p, pnB p c1 c2 c3, VB.vec l.length (dG l) 1 (3 : TypeId)]
 else False
 else False
 else bif !decide ((fisF p_1).snd = (0 : Int)) then
 X VEx.ret [I i, I (↑p.T.length : Int), I x, VV.sl 4 l.length, VV.ptr (VA.own 3 0)] [arD p, arT p, arS p, pnB p c1 c2 c3, VB.vec l.length (dG l) 1 (3 : TypeId)]
 else bif !(fisF p_1).fst == decide (l.getD x.toNat (0 : Int) = i) then
 X VEx.ret [I i, I (↑p.T.length : Int), I x, VV.sl 4 l.length, VV.ptr (VA.own 3 0)] [arD p, arT p, arS p, pnB p c1 c2 c3, VB.vec l.length (dG l) 1 (3 : TypeId)]
 else bif inK IntKind.i64 (i + (1 : Int)) then
 X VEx.normal [I (i + (1 : Int)), I (↑p.T.length : Int), I x, VV.sl 4 l.length, VV.ptr (VA.own 3 0)] [arD p, arT p, arS p, pnB p c1 c2 c3, VB.vec l.length (dG l) 1 (3 : TypeId)]
 else False
 else False
 else False
 else False
 else bif !decide ((fisF p_1).snd = (0 : Int)) then
 X VEx.ret [I i, I (↑p.T.length : Int), I x, VV.sl 4 l.length, VV.ptr (VA.own 3 0)] [arD p, arT p, arS p, pnB p c1 c2 c3, VB.vec l.length (dG l) 1 (3 : TypeId)]
 else bif !(fisF p_1).fst == false then
 X VEx.ret [I i, I (↑p.T.length : Int), I x, VV.sl 4 l.length, VV.ptr (VA.own 3 0)] [arD p, arT p, arS p, pnB p c1 c2 c3, VB.vec l.length (dG l) 1 (3 : TypeId)]
 else bif inK IntKind.i64 (i + (1 : Int)) then
 X VEx.normal [I (i + (1 : Int)), I (↑p.T.length : Int), I x, VV.sl 4 l.length, VV.ptr (VA.own 3 0)] [arD p, arT p, arS p, pnB p c1 c2 c3, VB.vec l.length (dG l) 1 (3 : TypeId)]
 else False
 else False
 else False
 else False
 else False
 else False
 else False
 else X (VEx.exit 0) [I i, I (↑p.T.length : Int), I x, VV.sl 4 l.length, VV.ptr (VA.own 3 0)] [arD p, arT p, arS p, pnB p c1 c2 c3, VB.vec l.length (dG l) 1 (3 : TypeId)]) := by kernel_rfl

noncomputable def lNd (p : Pn) (c1 c2 c3 : Nat) (l : List Int) : LT := fun lock tt h K =>
  FitP lock h tt ⟨5, nsDo.zip (BDo p c1 c2 c3 l)⟩ (dsNd.zip (VNd p.T.length l.length 0 0)) ∧ (PnOk p ∧ p.T.length ≤ c2 ∧ l = douL p p.T.length) ∧ K .normal (dsNd.zip (VNd p.T.length l.length l.length p.T.length)) ⟨5, nsDo.zip (BDo p c1 c2 c3 l)⟩
theorem nodou_ev (p : Pn) (c1 c2 c3 : Nat) (l : List Int) (Q : VRes → Prop) : callN Try.prog (tabS [greatT, alvT, douT, fisT]) (atF 9 [(0, lNd p c1 c2 c3 l)]) 10 20 0 (.fn 9) [.agg (pnV p c1 c2 c3)] (pnH p) (fun r _ => Q r) =
  (∃ p_1, pnIs (VH.mk (4) [(3, VB.cells [VV.slice (VA.el 0 [] (0 : Int) 0) p.D.length c1, VV.slice (VA.el 1 [] (0 : Int) 0) p.T.length c2, VV.slice (VA.el 2 [] (0 : Int) 0) p.S.length c3] 26), (0, arD p), (1, arT p), (2, arS p)]) p_1 (sD p c1) (sT1 p c2) (sS p c3) ∧ True ∧ bif greatB p_1 ((10 : Int)) then
 Q (VRes.ret (VV.bool true))
 else bif decide ((↑p.T.length : Int) > (10 : Int)) then
 Q (VRes.ret (VV.bool true))
 else ∃ p_2, pnIs (VH.mk (4) [(3, VB.cells [VV.slice (VA.el 0 [] (0 : Int) 0) p.D.length c1, VV.slice (VA.el 1 [] (0 : Int) 0) p.T.length c2, VV.slice (VA.el 2 [] (0 : Int) 0) p.S.length c3] 26), (0, arD p), (1, arT p), (2, arS p)]) p_2 (sD p c1) (sT1 p c2) (sS p c3) ∧ (¬PnOk p_2 → ∃ p_3, pnIs (VH.mk (4) [(3, VB.cells [VV.slice (VA.el 0 [] (0 : Int) 0) p.D.length c1, VV.slice (VA.el 1 [] (0 : Int) 0) p.T.length c2, VV.slice (VA.el 2 [] (0 : Int) 0) p.S.length c3] 26), (0, arD p), (1, arT p), (2, arS p)]) p_3 (sD p c1) (sT1 p c2) (sS p c3) ∧ True ∧ bif decide ((fisF p_3).snd = (0 : Int)) then
 bif decide ((1 : Int) = (6 : Int)) == (fisF p_3).fst then
 bif decide ((1 : Int) = (1 : Int)) == decide ((fisF p_3).snd = (1 : Int)) then
 Q (VRes.ret (VV.bool true))
 else Q (VRes.ret (VV.bool false))
 else Q (VRes.ret (VV.bool false))
 else bif decide ((1 : Int) = (1 : Int)) == decide ((fisF p_3).snd = (1 : Int)) then
 Q (VRes.ret (VV.bool true))
 else Q (VRes.ret (VV.bool false))) ∧ (PnOk p_2 → fitF p_2 → ∃ p_3, pnIs (VH.mk (4) [(3, VB.cells [VV.slice (VA.el 0 [] (0 : Int) 0) p.D.length c1, VV.slice (VA.el 1 [] (0 : Int) 0) p.T.length c2, VV.slice (VA.el 2 [] (0 : Int) 0) p.S.length c3] 26), (0, arD p), (1, arT p), (2, arS p)]) p_3 (sD p c1) (sT1 p c2) (sS p c3) ∧ True ∧ bif decide ((fisF p_3).snd = (0 : Int)) then
 bif decide ((6 : Int) = (6 : Int)) == (fisF p_3).fst then
 bif decide ((6 : Int) = (1 : Int)) == decide ((fisF p_3).snd = (1 : Int)) then
 Q (VRes.ret (VV.bool true))
 else Q (VRes.ret (VV.bool false))
 else Q (VRes.ret (VV.bool false))
 else Q (VRes.ret (VV.bool false))) ∧ (PnOk p_2 → ¬fitF p_2 → ∃ p_3, pnIs (VH.mk (4 + 1) [(4, VB.vec (douL p_2 p_2.T.length).length (dG (douL p_2 p_2.T.length)) 1 (3 : TypeId)), (3, VB.cells [VV.slice (VA.el 0 [] (0 : Int) 0) p.D.length c1, VV.slice (VA.el 1 [] (0 : Int) 0) p.T.length c2, VV.slice (VA.el 2 [] (0 : Int) 0) p.S.length c3] 26), (0, arD p), (1, arT p), (2, arS p)]) p_3 (sD p c1) (sT1 p c2) (sS p c3) ∧ True ∧ bif (fisF p_3).fst then
 Q (VRes.ret (VV.bool false))
 else bif !decide ((fisF p_3).snd = (0 : Int)) then
 Q (VRes.ret (VV.bool false))
 else FitP 0 (VH.mk (4 + 1) [(4, VB.vec (douL p_2 p_2.T.length).length (dG (douL p_2 p_2.T.length)) 1 (3 : TypeId)), (3, VB.cells [VV.slice (VA.el 0 [] (0 : Int) 0) p.D.length c1, VV.slice (VA.el 1 [] (0 : Int) 0) p.T.length c2, VV.slice (VA.el 2 [] (0 : Int) 0) p.S.length c3] 26), (0, arD p), (1, arT p), (2, arS p)]) [(65, I 0), (64, I (↑p.T.length : Int)), (63, VV.slice (VA.el 1 [] (0 : Int) 0) p.T.length c2), (62, VV.ptr (VA.own (3) (1))), (7, I 0), (61, VV.bool false), (61, VV.bool !decide ((fisF p_3).snd = (0 : Int))), (60, VV.bool !decide ((fisF p_3).snd = (0 : Int))), (58, VV.bool false), (59, I (fisF p_3).snd), (58, VV.bool false), (58, VV.bool (fisF p_3).fst), (57, VV.bool (fisF p_3).fst), (33, VV.bool false), (33, VV.bool !decide ((0 : Int) = (0 : Int))), (32, I 0), (6, I (fisF p_3).snd), (5, VV.bool (fisF p_3).fst), (31, I (fisF p_3).snd), (30, VV.bool (fisF p_3).fst), (27, VV.tup [VV.bool (fisF p_3).fst, I (fisF p_3).snd]), (29, fiV (fisF p_3)), (28, VV.agg [VV.slice (VA.el 0 [] (0 : Int) 0) p.D.length c1, VV.slice (VA.el 1 [] (0 : Int) 0) p.T.length c2, VV.slice (VA.el 2 [] (0 : Int) 0) p.S.length c3]), (4, I 0), (3, VV.sl (4) (douL p_2 p_2.T.length).length), (26, I 0), (25, VV.sl (4) (douL p_2 p_2.T.length).length), (22, VV.tup [VV.sl (4) (douL p_2 p_2.T.length).length, I 0]), (24, VV.tup [VV.sl (4) (douL p_2 p_2.T.length).length, I 0]), (23, VV.agg [VV.slice (VA.el 0 [] (0 : Int) 0) p.D.length c1, VV.slice (VA.el 1 [] (0 : Int) 0) p.T.length c2, VV.slice (VA.el 2 [] (0 : Int) 0) p.S.length c3]), (20, VV.bool false), (20, VV.bool (decide ((↑p.T.length : Int) > (10 : Int)))), (19, VV.bool (decide ((↑p.T.length : Int) > (10 : Int)))), (15, VV.bool false), (18, I (↑p.T.length : Int)), (15, VV.bool false), (17, VV.slice (VA.el 1 [] (0 : Int) 0) p.T.length c2), (15, VV.bool false), (16, VV.ptr (VA.own (3) (1))), (15, VV.bool false), (15, VV.bool (greatB p_1 ((10 : Int)))), (14, boV (greatB p_1 ((10 : Int)))), (13, VV.agg [VV.slice (VA.el 0 [] (0 : Int) 0) p.D.length c1, VV.slice (VA.el 1 [] (0 : Int) 0) p.T.length c2, VV.slice (VA.el 2 [] (0 : Int) 0) p.S.length c3]), (2, VV.bool false), (1, VV.ptr (VA.own (3) 0)), (0, VV.agg (pnV p c1 c2 c3))] (VH.mk 5 (nsDo.zip (BDo p c1 c2 c3 l))) (dsNd.zip (VNd p.T.length l.length (0 : Int) (0 : Int))) ∧ (PnOk p ∧ p.T.length ≤ c2 ∧ l = douL p p.T.length) ∧ bif decide ((↑l.length : Int) = (↑l.length : Int)) then
 Q (VRes.ret (VV.bool true))
 else Q (VRes.ret (VV.bool false)))) := by kernel_rfl


end Go.Sx.Nos

/- nose: NoseDoubt. -/

namespace Go.Sx.Nos
open Go Go.Sx Go.Proofs
set_option maxRecDepth 1000000

theorem cond_zb {b c : Bool} {X Y : Prop} (h : b = c) (hY : Y) : bif !(b == c) then X else Y := by
  rw [h, beq_self_eq_true]
  exact hY

section
variable {p : Pn} {c1 c2 c3 : Nat} {l : List Int}

theorem dou_pre {k : Nat} : ∀ d : Nat, ∃ r, douL p (k + d) = douL p k ++ r ∧ ∀ y ∈ r, (k : Int) ≤ y
  | 0 => ⟨[], by simp, fun y hy => by cases hy⟩
  | d + 1 => by
    obtain ⟨r, h1, h2⟩ := dou_pre (k := k) d
    by_cases h : fitF (rmP p (k + d))
    · refine ⟨r ++ [((k + d : Nat) : Int)], by rw [← Nat.add_assoc, dou_s h, h1, List.append_assoc], fun y hy => ?_⟩
      rcases List.mem_append.1 hy with hy | hy
      · exact h2 y hy
      · rw [List.mem_singleton.1 hy]; omega
    · exact ⟨r, by rw [← Nat.add_assoc, dou_n h, h1], h2⟩

/-- What stands at a place of the list. -/
theorem dou_at {n k : Nat} (h : k < n) : (fitF (rmP p k) → (douL p k).length < (douL p n).length ∧ (douL p n).getD (douL p k).length 0 = k) ∧ (¬ fitF (rmP p k) → (douL p k).length < (douL p n).length → (douL p n).getD (douL p k).length 0 ≠ k) := by
  obtain ⟨d, rfl⟩ : ∃ d, n = k + 1 + d := ⟨n - (k + 1), by omega⟩
  obtain ⟨r, h1, h2⟩ := dou_pre (p := p) (k := k + 1) d
  refine ⟨fun hf => ?_, fun hf hl => ?_⟩
  · rw [h1, dou_s hf, List.append_assoc, List.length_append]
    refine ⟨by simp, ?_⟩
    rw [List.getD_eq_getElem?_getD, List.getElem?_append_right (Nat.le_refl _), Nat.sub_self]
    rfl
  · rw [h1, dou_n hf] at hl ⊢
    rw [List.length_append] at hl
    rw [List.getD_eq_getElem?_getD, List.getElem?_append_right (Nat.le_refl _), Nat.sub_self, List.getElem?_eq_getElem (by omega)]
    have := h2 _ (List.getElem_mem (show 0 < r.length by omega))
    intro he
    have he : r[0] = (k : Int) := he
    omega

theorem rm_app {T : List Ts} {k a b j : Nat} {g f : Nat → List VV} (hg : ∀ m, m < k → g m = tG T m) (hf : ∀ m, f m = tG T (k + 1 + m)) (ha : a = k) (hb : b = T.length - 1 - k) (hk : k < T.length) (hj : j < T.length - 1) : catG a g f j = tG (T.eraseIdx k) j := by
  subst ha; subst hb
  have ht : tG (T.eraseIdx a) j = if j < a then tG T j else tG T (j + 1) := by
    unfold tG
    rw [List.getD_eq_getElem?_getD, List.getElem?_eraseIdx, List.getD_eq_getElem?_getD, List.getD_eq_getElem?_getD]
    split <;> rfl
  rw [ht]
  unfold catG
  by_cases h : j < a
  · rw [blt_t h, if_pos h]; exact hg j h
  · rw [blt_f h, if_neg h, cond_false, hf, show a + 1 + (j - a) = j + 1 by omega]

theorem lNd_ok : LSound Try.prog true (.block 0 (.loop (loopB 0 (bodyOf Try.prog 9)))) 117 (lNd p c1 c2 c3 l) := by
  by_cases hh : PnOk p ∧ p.T.length ≤ c2 ∧ l = douL p p.T.length
  · obtain ⟨hp, hc2, hl⟩ := hh
    have hT := hp.t
    have hll : l.length ≤ p.T.length := by rw [hl]; exact dou_le _
    refine loop_row hmix (tab_good hmix fi_ok (unroll := 10) 20) (un := 10) (ds := dsNd) (ns := nsDo) (nx := 5) (fun k : Nat => VNd p.T.length l.length (douL p k).length k) (fun _ => BDo p c1 c2 c3 l)
      (fun k => k ≤ p.T.length) (fun k => p.T.length - k) (fun _ e vs bs => e = .exit 0 ∧ vs = VNd p.T.length l.length l.length p.T.length ∧ bs = BDo p c1 c2 c3 l) noL_ok ?_ ?_
    · intro k hk
      refine cast (nd_ev p c1 c2 c3 l (douL p k).length k _).symm ?_
      by_cases h : k < p.T.length
      · have hd := dou_le (p := p) k
        obtain ⟨g1, g2⟩ := dou_at (p := p) h
        rw [← hl] at g1 g2
        have go : ∀ x : Int, x = ((douL p (k + 1)).length : Int) → RoundQ (fun k : Nat => VNd p.T.length l.length (douL p k).length k) (fun _ => BDo p c1 c2 c3 l) (fun k => k ≤ p.T.length) (fun k => p.T.length - k) (fun _ e vs bs => e = .exit 0 ∧ vs = VNd p.T.length l.length l.length p.T.length ∧ bs = BDo p c1 c2 c3 l) k .normal (VNd p.T.length l.length x ((k : Int) + 1)) (BDo p c1 c2 c3 l) := fun x hx =>
          ⟨k + 1, by omega, by dsimp only; omega, by rw [hx]; rfl, fitBs_refl _, fun _ _ _ ho => ho⟩
        have ef : fisF (rmP p k) = (fitB (rmP p k), 0) := by unfold fisF; rw [if_pos (rm_ok hp k)]
        have hlen := rm_len (p := p) h
        refine cond_dk (by omega) (cond_dk ⟨by omega, by omega, by omega⟩ ⟨fun j hj => ⟨⟨rfl, by omega, by omega⟩, rfl⟩, cond_k (room40 (by omega)) (cond_r (by omega) (cond_dk ⟨by omega, by omega, by omega⟩ ⟨fun j hj => ⟨⟨rfl, by omega, by omega⟩, rfl⟩, cond_k (beq_t rfl) (cond_k (room40 (by omega)) ⟨rmP p k, ⟨isD_own rfl, ⟨?_, _, _, rfl, fun j hj => ?_⟩, isS_own rfl⟩, trivial, ?_⟩)⟩))⟩)
        · rw [hlen]; omega
        · rw [hlen] at hj
          refine rm_app (T := p.T) (k := k) (b := p.T.length - 1 - k) (fun m _ => ?_) (fun m => ?_) (by omega) rfl h hj
          · show catG 0 _ _ m = _
            unfold catG
            rw [blt_f (by omega)]
            show tG p.T ((0 : Int) + 0 + ((m - 0 : Nat) : Int)).toNat = _
            rw [show ((0 : Int) + 0 + ((m - 0 : Nat) : Int)).toNat = m by omega]
          · show tG p.T ((0 : Int) + ((k : Int) + 1) + (m : Int)).toNat = _
            rw [show ((0 : Int) + ((k : Int) + 1) + (m : Int)).toNat = k + 1 + m by omega]
        · rw [ef]
          have e1 : l.getD ((douL p k).length : Int).toNat 0 = l.getD (douL p k).length 0 := by rw [Int.toNat_natCast]
          have r1 : l.length.beq l.length && Nat.ble 1 Try.prog.types[3].size = true := by rw [beq_t rfl, Bool.true_and]; kernel_rfl
          by_cases hf : fitF (rmP p k)
          · obtain ⟨f1, f2⟩ := g1 hf
            have hL : ((douL p (k + 1)).length : Int) = ((douL p k).length : Int) + 1 := by rw [dou_s hf, List.length_append]; rfl
            rw [fitB_t hf, e1, f2]
            refine cond_dk (by omega) (cond_dk ⟨by omega, by omega⟩ (cond_k r1 (cond_k (beq_t rfl) (cond_dk rfl (cond_r (by omega) (cond_ne rfl (cond_zb (decide_eq_true rfl).symm (cond_r (by omega) (go _ hL.symm)))))))))
          · have hL : (douL p (k + 1)).length = (douL p k).length := by rw [dou_n hf]
            rw [fitB_f hf, e1]
            refine cond_d (fun h1 => cond_dk ⟨by omega, by omega⟩ (cond_k r1 (cond_k (beq_t rfl) ?_))) (fun _ => cond_ne rfl (cond_zb rfl (cond_r (by omega) (go _ (by rw [hL])))))
            have hne : ¬ l.getD (douL p k).length 0 = (k : Int) := g2 hf (by omega)
            exact cond_no hne (cond_ne rfl (cond_zb (decide_eq_false hne).symm (cond_r (by omega) (go _ (by rw [hL])))))
      · obtain rfl : k = p.T.length := by omega
        exact cond_d (fun h => by omega) (fun _ => ⟨rfl, by rw [hl]; rfl, rfl⟩)
    · rintro lock tt h K ⟨hf, _, hK⟩
      refine ⟨0, hf, Nat.zero_le _, ?_⟩
      rintro e vs bs ⟨rfl, rfl, rfl⟩
      exact hK
  · rintro lock tt h K ⟨_, hc, _⟩
    exact (hh hc).elim
end
end Go.Sx.Nos

/- nose: NoseDoubt, joined. -/

namespace Go.Sx.Nos
open Go Go.Sx Go.Proofs
set_option maxRecDepth 1000000

section
variable {p : Pn} {c1 c2 c3 : Nat} {l : List Int}

theorem nd_ok : ∀ x ∈ [greatT, alvT, douT, fisT], SpOk Try.prog x.1 x.2 := fun x hx => by
  simp only [List.mem_cons, List.not_mem_nil, or_false] at hx
  rcases hx with rfl | rfl | rfl | rfl
  · exact greatT_ok
  · exact alvT_ok
  · exact douT_ok
  · exact fisT_ok

theorem ndL_ok : LoopsOk Try.prog 9 [(0, lNd p c1 c2 c3 l)] := by
  intro x hx
  simp only [List.mem_singleton] at hx
  subst hx
  exact ⟨by kernel_rfl, lNd_ok⟩

theorem nodou_v : ∃ h', CallsV Try.prog 9 [.agg (pnV p c1 c2 c3)] (pnH p) (.ret (.bool true)) h' := by
  by_cases hcc : p.T.length ≤ c2
  · obtain ⟨l, hl⟩ : ∃ l, l = douL p p.T.length := ⟨_, rfl⟩
    obtain ⟨r, h', rfl, hc⟩ := of_callN (callL_good hmix (tabs_ok nd_ok) (ndL_ok (p := p) (c1 := c1) (c2 := c2) (c3 := c3) (l := l)) (un := 10) 20) (f := 9) (args := [.agg (pnV p c1 c2 c3)]) (h := pnH p) (K := fun r _ => r = .ret (.bool true))
      (by
        refine cast (nodou_ev p c1 c2 c3 l _).symm ?_
        refine ⟨p, pnIs_own rfl rfl rfl, trivial, cond_b (fun _ => rfl) (fun _ => cond_d (fun _ => rfl) (fun _ => ⟨p, pnIs_own rfl rfl rfl, fun hp => ?_, fun hp hf => ?_, fun hp hf => ?_⟩))⟩
        · have e : fisF p = (false, 1) := by unfold fisF; rw [if_neg hp]
          refine ⟨p, pnIs_own rfl rfl rfl, trivial, ?_⟩
          rw [e]
          rfl
        · have e : fisF p = (true, 0) := by unfold fisF; rw [if_pos hp, fitB_t hf]
          refine ⟨p, pnIs_own rfl rfl rfl, trivial, ?_⟩
          rw [e]
          rfl
        · have e : fisF p = (false, 0) := by unfold fisF; rw [if_pos hp, fitB_f hf]
          refine ⟨p, pnIs_own rfl rfl rfl, trivial, ?_⟩
          rw [← hl, e]
          exact ⟨⟨⟨rfl, rfl, VB.fit_refl _, VB.fit_refl _, VB.fit_refl _, VB.fit_refl _, VB.fit_refl _, trivial⟩, rfl, rfl, rfl, rfl, rfl, trivial⟩, ⟨hp, hcc, rfl⟩, cond_dk rfl rfl⟩)
    exact ⟨h', hc⟩
  · exact ⟨⟨0, []⟩, calls_vac hcc⟩
end
end Go.Sx.Nos
