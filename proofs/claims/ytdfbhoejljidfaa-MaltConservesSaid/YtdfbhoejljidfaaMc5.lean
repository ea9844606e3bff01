/- malt: MaltConserves, where a list is nil. -/
import Derived.Test.YtdfbhoejljidfaaMc4

namespace Go.Sx.Malt
open Go Go.Sx Go.Proofs
set_option maxRecDepth 100000

section
variable (ok ok1 : List Int → Int → Prop) (kf af bf zf : Int → Int)

set_option maxHeartbeats 2000000 in
theorem law2n_v (nb cb : Nat) (hok1 : ∀ j : Int, 0 ≤ j → j < (nb : Int) → ok1 [] j ∧ 0 ≤ zf j ∧ zf j ≤ 4294967295) (a b c d e f : Int) :
    ∃ h', CallsV Try.prog 4 [.agg [I a, I b, I c, I d, I e, I f], .nils, .slice (.el 1 [] 0 0) nb cb] (c2H ok kf af bf ok1 zf) (.ret (.bool true)) h' := by
  have hs : SlS ok kf af bf (.arr 3 ok (gS kf af bf)) .nils 0 0 := .inr ⟨rfl, rfl⟩
  obtain ⟨r, h', h1, h2⟩ := of_sp (spBL_ok hmix (tabs_ok (c2T_ok ok kf af bf 0)) (f := 4) (l := []) (fun x hx => by cases hx) (un := 10) (fu := 20)) (h := c2H ok kf af bf ok1 zf) (args := [.agg [I a, I b, I c, I d, I e, I f], .nils, .slice (.el 1 [] 0 0) nb cb]) (K := boQ (fun b => b = true))
    (by
      rw [law2n_ev]
      refine cond_d (fun _ => rfl) (fun hnb => ⟨hs, ?_⟩)
      by_cases he : (plF kf af bf 0 0 a b c d e f).2.2 = 0
      · obtain ⟨hB, _, hF, _, hv⟩ := pl_ok he
        rw [hF]
        have hw := hv 0 (Nat.le_refl 0)
        have hvv : vatA kf af bf 0 (vat0 a b c d e f) = vat0 a b c d e f := rfl
        rw [hvv] at hw ⊢
        obtain ⟨w, hwe⟩ : ∃ w, w = vat0 a b c d e f := ⟨_, rfl⟩
        rw [← hwe] at hw ⊢
        obtain ⟨⟨g1, g2, g3⟩, ⟨g4, g5, g6⟩, ⟨g7, g8, g9⟩⟩ := mB_of hB
        have hnb' : (0 : Int) < nb := by omega
        have r1 : remZ 1 (nb : Int) = 1 % (nb : Int) := remZ_nn (by omega)
        have r2 : remZ 2 (nb : Int) = 2 % (nb : Int) := remZ_nn (by omega)
        rw [r1, r2]
        have m1 := Int.emod_nonneg 1 (show (nb : Int) ≠ 0 by omega)
        have m2 := Int.emod_lt_of_pos 1 hnb'
        have m3 := Int.emod_nonneg 2 (show (nb : Int) ≠ 0 by omega)
        have m4 := Int.emod_lt_of_pos 2 hnb'
        obtain ⟨z1, z2, z3⟩ := hok1 0 (by omega) hnb'
        obtain ⟨z4, z5, z6⟩ := hok1 _ m1 m2
        obtain ⟨z7, z8, z9⟩ := hok1 _ m3 m4
        simp only [Int.zero_add, Int.add_zero]
        generalize 1 % (nb : Int) = i1 at *
        generalize 2 % (nb : Int) = i2 at *
        refine cond_nd (fun h => absurd (by trivial) h) (fun _ => ?_)
        rw [hB]
        refine cond_i (fun h => by cases h) (fun _ => ?_)
        refine cond_nd (fun h => absurd (by first | trivial | rfl) h) (fun _ => ?_)
        refine cond_d (fun _ => ?_) (fun _ => ?_) <;> try (exfalso; omega)
        refine ⟨z1, ⟨⟨⟨z2, z3⟩, ⟨by omega, by omega⟩, ⟨by omega, by omega⟩⟩, g2⟩, ?_⟩
        refine cond_d (fun h => absurd h hnb) (fun _ => ?_)
        refine cond_d (fun _ => ?_) (fun _ => ?_) <;> try (exfalso; omega)
        refine ⟨z4, ⟨⟨⟨z5, z6⟩, ⟨by omega, by omega⟩, ⟨by omega, by omega⟩⟩, g5⟩, ?_⟩
        refine cond_d (fun h => absurd h hnb) (fun _ => ?_)
        refine cond_d (fun _ => ?_) (fun _ => ?_) <;> try (exfalso; omega)
        refine ⟨z7, ⟨⟨⟨z8, z9⟩, ⟨by omega, by omega⟩, ⟨by omega, by omega⟩⟩, g8⟩, ?_⟩
        have k1 := pk_in (z := zf 0) g2
        have k2 := pk_in (z := zf i1) g5
        have k3 := pk_in (z := zf i2) g8
        generalize pk a b (zf 0) = dry at *
        generalize pk c d (zf i1) = water at *
        generalize pk e f (zf i2) = phenol at *
        have hx : Inv (dry + water) w ⟨dry, water, phenol, 0, 0, 0, 0⟩ := by rw [hwe]; simp only [Inv, vat0]; omega
        clear hwe
        obtain ⟨c1, c2⟩ := c_after hw hx
        have hBw := mB_ok hw
        obtain ⟨b1, b2, b3, _⟩ := inv_b hw hx
        obtain ⟨_, i1, i2, i3, i4, i5, i6, i7⟩ := hx
        obtain ⟨⟨w1, w2, w3⟩, ⟨w4, w5, w6⟩, ⟨w7, w8, w9⟩, _⟩ := hw
        dsimp only at c1 c2 b1 b2 b3 i1 i2 i3 i4 i5 i6 i7
        by_cases hm : w.dl = 0 ∧ w.wl = 0
        · rw [moF_4 hBw hm, phF_4 hBw hm.1]
          dsimp only
          repeat' first
            | refine cond_r (by omega) ?_
            | (refine cond_d (fun _ => ?_) (fun _ => ?_) <;> try (exfalso; omega))
            | (refine cond_nd (fun _ => ?_) (fun _ => ?_) <;> try (exfalso; omega))
          all_goals trivial
        · rw [moF_0 hBw hm]
          obtain ⟨d1, d2, d3, d4⟩ := c1 _ _ rfl rfl
          generalize loF w.wl w.dh = lo at *
          generalize hiF w.wh w.dl = hi at *
          by_cases hp : w.dl = 0
          · rw [phF_4 hBw hp]
            dsimp only
            repeat' first
              | refine cond_r (by omega) ?_
              | (refine cond_d (fun _ => ?_) (fun _ => ?_) <;> try (exfalso; omega))
              | (refine cond_nd (fun _ => ?_) (fun _ => ?_) <;> try (exfalso; omega))
            all_goals trivial
          · rw [phF_0 hBw hp]
            dsimp only
            obtain ⟨d5, d6⟩ := c2 (by omega)
            have d7 := @quoZ_r (1000 * phenol) dry (by omega) (by omega) (by omega)
            have d8 := @quoZ_r (1000 * phenol + dry - 1) dry (by omega) (by omega) (by omega)
            generalize quoZ (1000 * phenol) dry = u1 at *
            generalize quoZ (1000 * phenol + dry - 1) dry = u2 at *
            generalize 1000 * w.pl / w.dh = u3 at *
            generalize (1000 * w.ph + w.dl - 1) / w.dl = u4 at *
            repeat' first
              | refine cond_r (by omega) ?_
              | (refine cond_d (fun _ => ?_) (fun _ => ?_) <;> try (exfalso; omega))
              | (refine cond_nd (fun _ => ?_) (fun _ => ?_) <;> try (exfalso; omega))
            all_goals trivial
      · obtain ⟨h3, h4, h5⟩ := pl_err he
        refine cond_nd (fun _ => ?_) (fun h => absurd h he)
        rw [h3]
        refine cond_k (by decide) (cond_k (by decide) (cond_dk h4 (cond_dk h5 rfl))))
  have := boQ_true h1 (fun _ h => h)
  subst this
  exact ⟨h', h2⟩

theorem law2b_v (n k : Nat) (a b c d e f : Int) :
    ∃ h', CallsV Try.prog 4 [.agg [I a, I b, I c, I d, I e, I f], .slice (.el 0 [] 0 0) n k, .nils] (c2H ok kf af bf ok1 zf) (.ret (.bool true)) h' := by
  obtain ⟨r, h', h1, h2⟩ := of_sp (spBL_ok hmix (tabs_ok (c2T_ok ok kf af bf 0)) (f := 4) (l := [(0, fun _ _ _ _ => False)]) (by
      intro x hx
      simp only [List.mem_singleton] at hx
      subst hx
      exact ⟨blocks4, fun _ _ _ _ h => h.elim⟩) (un := 10) (fu := 20)) (h := c2H ok kf af bf ok1 zf) (args := [.agg [I a, I b, I c, I d, I e, I f], .slice (.el 0 [] 0 0) n k, .nils]) (K := boQ (fun b => b = true))
    (by
      rw [law2b_ev]
      exact cond_d (fun _ => rfl) (fun _ => rfl))
  have := boQ_true h1 (fun _ h => h)
  subst this
  exact ⟨h', h2⟩

theorem law2nb_v (a b c d e f : Int) :
    ∃ h', CallsV Try.prog 4 [.agg [I a, I b, I c, I d, I e, I f], .nils, .nils] (c2H ok kf af bf ok1 zf) (.ret (.bool true)) h' := by
  obtain ⟨r, h', h1, h2⟩ := of_sp (spBL_ok hmix (tabs_ok (c2T_ok ok kf af bf 0)) (f := 4) (l := []) (fun x hx => by cases hx) (un := 10) (fu := 20)) (h := c2H ok kf af bf ok1 zf) (args := [.agg [I a, I b, I c, I d, I e, I f], .nils, .nils]) (K := boQ (fun b => b = true))
    (by rw [law2nb_ev])
  have := boQ_true h1 (fun _ h => h)
  subst this
  exact ⟨h', h2⟩
end
end Go.Sx.Malt
