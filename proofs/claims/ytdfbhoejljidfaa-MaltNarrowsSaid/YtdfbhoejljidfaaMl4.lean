/- malt: what Play returns. -/
import Derived.Test.YtdfbhoejljidfaaMxf
import Derived.Test.YtdfbhoejljidfaaMl3

namespace Go.Sx.Malt
open Go Go.Sx

theorem playL_ix {kf af bf : Int → Int} : ∀ (m : Nat) (i : Int) (v : Vat), i ≤ (playL kf af bf m i v).2.1 ∧ (playL kf af bf m i v).2.1 ≤ i + m
  | 0, i, v => by simp [playL]
  | m + 1, i, v => by
    by_cases he : doE v (kf i) (af i) (bf i) = 0
    · rw [playL_go he]
      have := @playL_ix kf af bf m (i + 1) (doV v (kf i) (af i) (bf i))
      omega
    · rw [playL_stop he]
      simp only
      omega

theorem plR_0 (kf af bf : Int → Int) (m : Nat) (j : Int) (v : Vat) : plR kf af bf 0 m j v = playL kf af bf m j v := by
  have h : ∀ g : Int → Int, (fun i => g (0 + i)) = g := fun g => by funext i; rw [Int.zero_add]
  unfold plR
  rw [h kf, h af, h bf]

theorem vatA_ok {kf af bf : Int → Int} {v0 : Vat} (h0 : VOk v0) : ∀ (n : Nat), (∀ i : Nat, i < n → doE (vatA kf af bf i v0) (kf i) (af i) (bf i) = 0) → ∀ i : Nat, i ≤ n → VOk (vatA kf af bf i v0)
  | _, _, 0, _ => h0
  | n, hd, i + 1, hi => doV_ok (vatA_ok h0 n hd i (by omega)) (hd i (by omega))

theorem pl_err {kf af bf : Int → Int} {n : Nat} {off a b c d e f : Int} (h : (plF kf af bf off n a b c d e f).2.2 ≠ 0) :
    (plF kf af bf off n a b c d e f).1 = vat0 0 0 0 0 0 0 ∧ 0 ≤ (plF kf af bf off n a b c d e f).2.1 ∧ (plF kf af bf off n a b c d e f).2.1 ≤ n := by
  cases hB : mB a b c d e f with
  | false => rw [plF_1 kf af bf hB]; exact ⟨rfl, by simp⟩
  | true =>
    by_cases h3 : (n : Int) > 256
    · rw [plF_3 kf af bf hB h3]; exact ⟨rfl, by simp⟩
    · by_cases h4 : (plR kf af bf off n 0 (vat0 a b c d e f)).2.2 = 0
      · rw [plF_0 kf af bf hB h3 h4] at h; exact absurd rfl h
      · rw [plF_e kf af bf hB h3 h4]
        refine ⟨rfl, ?_⟩
        have h5 : 0 ≤ (plR kf af bf off n 0 (vat0 a b c d e f)).2.1 ∧ (plR kf af bf off n 0 (vat0 a b c d e f)).2.1 ≤ 0 + n := @playL_ix (fun i => kf (off + i)) (fun i => af (off + i)) (fun i => bf (off + i)) n 0 (vat0 a b c d e f)
        show 0 ≤ (plR kf af bf off n 0 (vat0 a b c d e f)).2.1 ∧ (plR kf af bf off n 0 (vat0 a b c d e f)).2.1 ≤ n
        omega

theorem pl_ok {kf af bf : Int → Int} {n : Nat} {a b c d e f : Int} (h : (plF kf af bf 0 n a b c d e f).2.2 = 0) :
    mB a b c d e f = true ∧ n ≤ 256 ∧ plF kf af bf 0 n a b c d e f = (vatA kf af bf n (vat0 a b c d e f), (n : Int), 0) ∧
      (∀ i : Nat, i < n → doE (vatA kf af bf i (vat0 a b c d e f)) (kf i) (af i) (bf i) = 0) ∧ (∀ i : Nat, i ≤ n → VOk (vatA kf af bf i (vat0 a b c d e f))) := by
  cases hB : mB a b c d e f with
  | false => rw [plF_1 kf af bf hB] at h; simp at h
  | true =>
    by_cases h3 : (n : Int) > 256
    · rw [plF_3 kf af bf hB h3] at h; simp at h
    · by_cases h4 : (plR kf af bf 0 n 0 (vat0 a b c d e f)).2.2 = 0
      · rw [plF_0 kf af bf hB h3 h4]
        rw [plR_0] at h4 ⊢
        obtain ⟨h5, h6⟩ := playL_at n 0 (vat0 a b c d e f) (vat0 a b c d e f) rfl h4
        have h7 : ∀ i : Nat, i < n → doE (vatA kf af bf i (vat0 a b c d e f)) (kf i) (af i) (bf i) = 0 := fun i hi => h6 i (Nat.zero_le _) (by omega)
        refine ⟨rfl, by omega, ?_, h7, vatA_ok (vat0_ok hB) n h7⟩
        rw [show (playL kf af bf n 0 (vat0 a b c d e f)).1 = vatA kf af bf n (vat0 a b c d e f) from by rw [Nat.zero_add] at h5; exact h5]
      · rw [plF_e kf af bf hB h3 h4] at h; exact absurd h h4

theorem mB_ok {w : Vat} (h : VOk w) : mB w.dl w.dh w.wl w.wh w.pl w.ph = true := by
  obtain ⟨h1, h2, h3, _⟩ := h
  exact decide_eq_true ⟨h1, h2, h3⟩
end Go.Sx.Malt
