/- malt: MaltNarrows returns true for all arguments. -/
import Derived.Test.YtdfbhoejljidfaaMn1
import Derived.Test.YtdfbhoejljidfaaMc4
import Derived.Test.YtdfbhoejljidfaaMl6

namespace Go.Sx.Malt
open Go Go.Sx Go.Proofs
set_option maxRecDepth 100000

section
variable (ok : List Int → Int → Prop) (kf af bf : Int → Int)

/-- A part of a list of steps. -/
def PartS (a0 : VB) (off : Int) (n : Nat) : Prop := a0 = .arr 3 ok (gS kf af bf) ∧ 0 ≤ off ∧ ∀ j : Int, 0 ≤ j → j < (n : Int) → ok [] (off + j)

theorem plRow2_ok : SpOk Try.prog (plRow2 12 (PartS ok kf af bf) (plF kf af bf)).1 (plRow2 12 (PartS ok kf af bf) (plF kf af bf)).2 := by
  intro lock args h K hK
  simp only [plRow2] at hK
  split at hK
  · split at hK
    · rename_i hh
      obtain ⟨⟨h1, h2, h3⟩, hK⟩ := hK
      exact ⟨_, h, hK, lockP_refl _ _, play_v ok kf af bf (.inl ⟨_, rfl, by rw [hh]; exact h1, h2, h3⟩) _ _ _ _ _ _⟩
    · exact hK.elim
  · exact ⟨_, h, hK, lockP_refl _ _, play_v ok kf af bf (off := 0) (.inr ⟨rfl, rfl⟩) _ _ _ _ _ _⟩
  · exact hK.elim

theorem n3T_ok : ∀ x ∈ n3T (PartS ok kf af bf) (plF kf af bf) mB, SpOk Try.prog x.1 x.2 := by
  intro x hx
  simp only [n3T, List.mem_cons, List.not_mem_nil, or_false] at hx
  rcases hx with rfl | rfl | rfl | rfl
  · exact awT_ok
  · exact plRow2_ok ok kf af bf
  · exact maltT_ok (fun a b c d e f h => rmalt_v a b c d e f h) _ (by simp)
  · exact pickA_ok

set_option maxHeartbeats 4000000 in
theorem law3_v (n k : Nat) (hnk : n ≤ k) (hok : ∀ j : Int, 0 ≤ j → j < (n : Int) → ok [] j) {by1 cut : Int} (hby : 0 ≤ by1 ∧ by1 ≤ 4294967295) (hcut : 0 ≤ cut ∧ cut ≤ 255) (a b c d e f : Int) :
    ∃ h', CallsV Try.prog 5 [.agg [I a, I b, I c, I d, I e, I f], .slice (.el 0 [] 0 0) n k, .int .u32 by1, .int .u8 cut] ⟨1, [(0, .arr 3 ok (gS kf af bf))]⟩ (.ret (.bool true)) h' := by
  have hS : ∀ (off : Int) (m : Nat), 0 ≤ off → off + m ≤ n → PartS ok kf af bf (.arr 3 ok (gS kf af bf)) off m := fun off m h1 h2 => ⟨rfl, h1, fun j h3 h4 => hok _ (by omega) (by omega)⟩
  obtain ⟨r, h', h1, h2⟩ := of_callN (tab_good hmix (n3T_ok ok kf af bf) 20) (f := 5) (h := ⟨1, [(0, .arr 3 ok (gS kf af bf))]⟩) (args := [.agg [I a, I b, I c, I d, I e, I f], .slice (.el 0 [] 0 0) n k, .int .u32 by1, .int .u8 cut]) (K := boQ (fun b => b = true))
    (by
      rw [law3_ev]
      refine cond_d (fun _ => rfl) (fun hn => ⟨hS 0 n (by omega) (by omega), ?_⟩)
      by_cases he : (plF kf af bf 0 n a b c d e f).2.2 = 0
      · obtain ⟨hB, hn2, _⟩ := pl_ok he
        refine cond_nd (fun h => absurd he h) (fun _ => ?_)
        have hr : remZ cut ((n : Int) + 1) = cut % ((n : Int) + 1) := remZ_nn hcut.1
        have m1 := Int.emod_nonneg cut (show ((n : Int) + 1) ≠ 0 by omega)
        have m2 := Int.emod_lt_of_pos cut (show 0 < ((n : Int) + 1) by omega)
        obtain ⟨kk, hkk⟩ : ∃ kk : Nat, cut % ((n : Int) + 1) = (kk : Int) := ⟨(cut % ((n : Int) + 1)).toNat, by omega⟩
        rw [hkk] at hr m1 m2
        have hk : kk ≤ n := by omega
        obtain ⟨w, z, x, hF, hF2, hF3, hoff, hw, hz, hx⟩ := nar_parts (k := kk) he hk
        obtain ⟨⟨g1, g2, g3⟩, ⟨g4, g5, g6⟩, ⟨g7, g8, g9⟩⟩ := mB_of hB
        have k1 := pk_in (z := by1) g2
        have k2 := pk_in (z := by1) g5
        have hy := nar_less he k1 k2
        have hBz := mB_ok hz
        have e1 : ((kk : Int) - (0 : Int)).toNat = kk := by omega
        have e2 : ((n : Int) - (kk : Int)).toNat = n - kk := by omega
        have e3 : (0 : Int) + (0 : Int) = 0 := rfl
        have e4 : (0 : Int) + (kk : Int) = kk := Int.zero_add _
        have hF3' : plF kf af bf kk (n - kk) (z, (kk : Int), (0 : Int)).fst.dl (z, (kk : Int), (0 : Int)).fst.dh (z, (kk : Int), (0 : Int)).fst.wl (z, (kk : Int), (0 : Int)).fst.wh (z, (kk : Int), (0 : Int)).fst.pl (z, (kk : Int), (0 : Int)).fst.ph = (x, ((n - kk : Nat) : Int), 0) := hF3
        rw [hr, e1, e2, e3, e4, hF2, hF3', hB]
        rw [hF] at hy ⊢
        generalize plF kf af bf 0 n (pk a b by1) b c (pk c d by1) e f = y at *
        have s1 := hS 0 n (by omega) (by omega)
        have s2 := hS 0 kk (by omega) (by omega)
        have s3 := hS kk (n - kk) (by omega) (by omega)
        have p1 : PkOk a b by1 ∧ a ≤ b := ⟨⟨hby, ⟨by omega, by omega⟩, ⟨by omega, by omega⟩⟩, g2⟩
        have p2 : PkOk c d by1 ∧ c ≤ d := ⟨⟨hby, ⟨by omega, by omega⟩, ⟨by omega, by omega⟩⟩, g5⟩
        refine cond_i (fun h => by cases h) (fun _ => ⟨p1, p2, s1, ?_⟩)
        clear hF hF2 hF3 hF3' he hS hok hBz
        simp only [Off, VOk, Sub] at hoff hw hz hx hy
        obtain ⟨o1, o2, o3, o4, o5, o6, o7⟩ := hoff
        obtain ⟨_, _, _, w4, w5, w6, w7⟩ := hw
        dsimp only
        rcases hy with ⟨y0, y1, y2, y3, y4, y5, y6, y7⟩ | y0
        · repeat' first
            | refine cond_r (by omega) ?_
            | refine ⟨s2, ?_⟩
            | refine ⟨s3, ?_⟩
            | (refine cond_d (fun _ => ?_) (fun _ => ?_) <;> try (exfalso; omega))
            | (refine cond_nd (fun _ => ?_) (fun _ => ?_) <;> try (exfalso; omega))
            | refine cond_i (fun h => by exfalso; simp only [Bool.not_eq_true', Bool.and_true, Bool.and_eq_false_iff, decide_eq_false_iff_not] at h; omega) (fun _ => ?_)
          all_goals trivial
        · repeat' first
            | refine cond_r (by omega) ?_
            | refine ⟨s2, ?_⟩
            | refine ⟨s3, ?_⟩
            | (refine cond_d (fun _ => ?_) (fun _ => ?_) <;> try (exfalso; omega))
            | (refine cond_nd (fun _ => ?_) (fun _ => ?_) <;> try (exfalso; omega))
            | refine cond_i (fun h => by exfalso; simp only [Bool.not_eq_true', Bool.and_true, Bool.and_eq_false_iff, decide_eq_false_iff_not] at h; omega) (fun _ => ?_)
          all_goals trivial
      · exact cond_nd (fun _ => rfl) (fun h => absurd h he))
  have := boQ_true h1 (fun _ h => h)
  subst this
  exact ⟨h', h2⟩
end
end Go.Sx.Malt
