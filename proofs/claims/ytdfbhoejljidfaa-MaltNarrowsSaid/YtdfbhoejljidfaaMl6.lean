/- malt: the four runs of MaltNarrows. -/
import Derived.Test.YtdfbhoejljidfaaMl5

namespace Go.Sx.Malt
open Go Go.Sx

theorem playL_all {kf af bf : Int → Int} {v0 : Vat} : ∀ (m j : Nat), (∀ i : Nat, j ≤ i → i < j + m → doE (vatA kf af bf i v0) (kf i) (af i) (bf i) = 0) →
    playL kf af bf m j (vatA kf af bf j v0) = (vatA kf af bf (j + m) v0, ((j + m : Nat) : Int), 0)
  | 0, j, _ => rfl
  | m + 1, j, h => by
    rw [playL_go (h j (Nat.le_refl j) (by omega))]
    have := playL_all (kf := kf) (af := af) (bf := bf) (v0 := v0) m (j + 1) (fun i h1 h2 => h i (by omega) (by omega))
    have e : ((j : Int) + 1) = ((j + 1 : Nat) : Int) := by omega
    rw [e]
    have e2 : j + (m + 1) = j + 1 + m := by omega
    rw [e2]
    exact this

theorem nar_parts {kf af bf : Int → Int} {n k : Nat} {a b c d e f : Int} (h : (plF kf af bf 0 n a b c d e f).2.2 = 0) (hk : k ≤ n) :
    ∃ w z x : Vat, plF kf af bf 0 n a b c d e f = (w, (n : Int), 0) ∧ plF kf af bf 0 k a b c d e f = (z, (k : Int), 0) ∧ plF kf af bf k (n - k) z.dl z.dh z.wl z.wh z.pl z.ph = (x, ((n - k : Nat) : Int), 0) ∧ Off z x w ∧ VOk w ∧ VOk z ∧ VOk x := by
  obtain ⟨hB, hn, hF, hd, hv⟩ := pl_ok h
  have h3 : ¬ (k : Int) > 256 := by omega
  have hz := hv k hk
  have e1 := playL_all (kf := kf) (af := af) (bf := bf) (v0 := vat0 a b c d e f) k 0 (fun i _ h2 => hd i (by omega))
  have e1' : plR kf af bf 0 k 0 (vat0 a b c d e f) = (vatA kf af bf k (vat0 a b c d e f), (k : Int), 0) := by
    rw [plR_0]
    have e0 : vatA kf af bf 0 (vat0 a b c d e f) = vat0 a b c d e f := rfl
    rw [e0] at e1
    simpa using e1
  have hFk : plF kf af bf 0 k a b c d e f = (vatA kf af bf k (vat0 a b c d e f), (k : Int), 0) := by
    rw [plF_0 kf af bf hB h3 (by rw [e1']), e1']
  have e2 := playL_all (kf := kf) (af := af) (bf := bf) (v0 := vat0 a b c d e f) (n - k) k (fun i _ h2 => hd i (by omega))
  rw [show k + (n - k) = n from by omega] at e2
  have hBz := mB_ok hz
  generalize vatA kf af bf k (vat0 a b c d e f) = z at *
  have hoff : Off z (vat0 z.dl z.dh z.wl z.wh z.pl z.ph) z := by simp [Off, vat0]
  have e3 := off_play (kf := kf) (af := af) (bf := bf) hz k (n - k) 0 _ _ hoff (by simpa using congrArg (fun x => x.2.2) e2)
  simp only [Nat.add_zero] at e3
  rw [e2] at e3
  obtain ⟨e4, e5⟩ := e3
  have h4 : ¬ ((n - k : Nat) : Int) > 256 := by omega
  have h5 : (plR kf af bf k (n - k) 0 (vat0 z.dl z.dh z.wl z.wh z.pl z.ph)).2.2 = 0 := e4
  refine ⟨_, z, (plR kf af bf k (n - k) 0 (vat0 z.dl z.dh z.wl z.wh z.pl z.ph)).1, hF, hFk, plF_0 kf af bf hBz h4 h5, e5, hv n (Nat.le_refl n), hz, playL_ok _ _ _ (vat0_ok hBz)⟩

theorem nar_less {kf af bf : Int → Int} {n : Nat} {a b c d e f p q : Int} (h : (plF kf af bf 0 n a b c d e f).2.2 = 0) (hp : a ≤ p ∧ p ≤ b) (hq : c ≤ q ∧ q ≤ d) :
    ((plF kf af bf 0 n p b c q e f).2.2 = 0 ∧ Sub (plF kf af bf 0 n p b c q e f).1 (plF kf af bf 0 n a b c d e f).1) ∨ (plF kf af bf 0 n p b c q e f).2.2 = 4 := by
  obtain ⟨hB, hn, hF, hd, hv⟩ := pl_ok h
  obtain ⟨g1, g2, g3⟩ := mB_of hB
  have hB2 : mB p b c q e f = true := decide_eq_true ⟨by omega, by omega, by omega⟩
  have h3 : ¬ (n : Int) > 256 := by omega
  have e1 := playL_all (kf := kf) (af := af) (bf := bf) (v0 := vat0 a b c d e f) n 0 (fun i _ h2 => hd i (by omega))
  have e2 : vatA kf af bf 0 (vat0 a b c d e f) = vat0 a b c d e f := rfl
  rw [e2] at e1
  have hsub : Sub (vat0 p b c q e f) (vat0 a b c d e f) := by simp only [Sub, vat0]; (repeat' apply And.intro) <;> first | trivial | omega
  rcases sub_play (kf := kf) (af := af) (bf := bf) n 0 _ _ (vat0_ok hB2) (vat0_ok hB) hsub (by simpa using congrArg (fun x => x.2.2) e1) with ⟨h4, h5⟩ | h4
  · left
    have h6 : (plR kf af bf 0 n 0 (vat0 p b c q e f)).2.2 = 0 := by rw [plR_0]; exact h4
    rw [plF_0 kf af bf hB2 h3 h6, hF, plR_0]
    refine ⟨rfl, ?_⟩
    have e3 : (playL kf af bf n 0 (vat0 a b c d e f)).1 = vatA kf af bf n (vat0 a b c d e f) := by simpa using congrArg (fun x => x.1) e1
    rw [e3] at h5
    exact h5
  · right
    have h6 : (plR kf af bf 0 n 0 (vat0 p b c q e f)).2.2 = 4 := by rw [plR_0]; exact h4
    rw [plF_e kf af bf hB2 h3 (by rw [h6]; decide)]
    exact h6
end Go.Sx.Malt
