/- malt: MaltConserves returns true for all arguments. -/
import Derived.Test.YtdfbhoejljidfaaMc3
import Derived.Test.YtdfbhoejljidfaaMl4

namespace Go.Sx.Malt
open Go Go.Sx Go.Proofs
set_option maxRecDepth 100000

theorem pickA_ok : SpOk Try.prog pickA.1 pickA.2 := by
  intro lock args h K hK
  simp only [pickA] at hK
  split at hK
  · rename_i lo hi z
    obtain ⟨⟨hp, hl⟩, hK⟩ := hK
    have := pick_v hp h
    rw [decide_eq_true hl] at this
    exact ⟨_, h, hK, lockP_refl _ _, this⟩
  · exact hK.elim

section
variable (ok ok1 : List Int → Int → Prop) (kf af bf zf : Int → Int)

theorem c2T_ok (n : Nat) : ∀ x ∈ c2T (fun a sl => SlS ok kf af bf a sl 0 n) (plF kf af bf 0 n) moF phF mB, SpOk Try.prog x.1 x.2 := by
  intro x hx
  simp only [c2T, List.mem_cons, List.not_mem_nil, or_false] at hx
  rcases hx with rfl | rfl | rfl | rfl | rfl | rfl
  · exact awT_ok
  · exact plRow_ok fun h sl hs => play_v ok kf af bf (slS_or hs)
  · exact maltT_ok (fun a b c d e f h => rmalt_v a b c d e f h) _ (by simp)
  · exact pickA_ok
  · exact moRow_ok moist_v
  · exact moRow_ok phen_v

/-- What is checked behind the loop. -/
theorem c_after {w : Vat} {x : Tru} {first : Int} (hw : VOk w) (hx : Inv first w x) :
    (∀ lo hi : Int, lo = loF w.wl w.dh → hi = hiF w.wh w.dl → lo * (x.dry + x.water) ≤ 10000 * x.water ∧ 10000 * x.water ≤ hi * (x.dry + x.water) ∧ (0 ≤ lo * (x.dry + x.water) ∧ lo * (x.dry + x.water) ≤ 10000 * 2199023255552) ∧ (0 ≤ hi * (x.dry + x.water) ∧ hi * (x.dry + x.water) ≤ 10000 * 2199023255552)) ∧
    (0 < w.dl → 1000 * w.pl / w.dh ≤ quoZ (1000 * x.phenol) x.dry ∧ quoZ (1000 * x.phenol + x.dry - 1) x.dry ≤ (1000 * w.ph + w.dl - 1) / w.dl) := by
  obtain ⟨⟨g1, g2, g3⟩, ⟨g4, g5, g6⟩, ⟨g7, g8, g9⟩, _⟩ := hw
  obtain ⟨_, ⟨h1, h2⟩, ⟨h3, h4⟩, ⟨h5, h6⟩, _⟩ := hx
  refine ⟨fun lo hi hlo hhi => ?_, fun hd => ?_⟩
  · subst hlo; subst hhi
    have k1 := @lo_b w.wl w.dh (by omega)
    have k2 := @hi_b w.wh w.dl g1
    exact ⟨lo_in g4 h3 (by omega) h2, hi_in h4 g1 h1, mulb k1.1 k1.2 (by omega) (by omega), mulb k2.1 k2.2 (by omega) (by omega)⟩
  · rw [quoZ_nn (by omega), quoZ_nn (by omega)]
    exact ⟨div_lo (by omega) (by omega) (by omega) h2, up_lo (by omega) (by omega) hd h1⟩

set_option maxHeartbeats 2000000 in
theorem law2_v (n k nb cb : Nat) (hok : ∀ j : Int, 0 ≤ j → j < (n : Int) → ok [] j) (hok1 : ∀ j : Int, 0 ≤ j → j < (nb : Int) → ok1 [] j ∧ 0 ≤ zf j ∧ zf j ≤ 4294967295) (a b c d e f : Int) :
    ∃ h', CallsV Try.prog 4 [.agg [I a, I b, I c, I d, I e, I f], .slice (.el 0 [] 0 0) n k, .slice (.el 1 [] 0 0) nb cb] (c2H ok kf af bf ok1 zf) (.ret (.bool true)) h' := by
  have hs : SlS ok kf af bf (.arr 3 ok (gS kf af bf)) (.slice (.el 0 [] 0 0) n k) 0 n := .inl ⟨k, rfl, rfl, Int.le_refl 0, fun j h1 h2 => by rw [Int.zero_add]; exact hok j h1 h2⟩
  have hL : LoopsOk Try.prog 4 [(0, conB ok ok1 kf af bf zf (plF kf af bf 0 n a b c d e f).1 (AllOk kf af bf (plF kf af bf 0 n a b c d e f).1 n (vat0 a b c d e f) ∧ 0 < nb) n k nb cb (vat0 a b c d e f))] := by
    intro x hx
    simp only [List.mem_singleton] at hx
    subst hx
    refine ⟨blocks4, ?_⟩
    rw [nt4]
    exact conB_ok ok ok1 kf af bf zf _ hok hok1
  obtain ⟨r, h', h1, h2⟩ := of_sp (spBL_ok hmix (tabs_ok (c2T_ok ok kf af bf n)) hL (un := 10) (fu := 20)) (h := c2H ok kf af bf ok1 zf) (args := [.agg [I a, I b, I c, I d, I e, I f], .slice (.el 0 [] 0 0) n k, .slice (.el 1 [] 0 0) nb cb]) (K := boQ (fun b => b = true))
    (by
      rw [law2_ev]
      refine cond_d (fun _ => rfl) (fun hn => cond_d (fun _ => rfl) (fun hnb => ⟨hs, ?_⟩))
      by_cases he : (plF kf af bf 0 n a b c d e f).2.2 = 0
      · obtain ⟨hB, hn2, hF, hd, hv⟩ := pl_ok he
        rw [hF]
        have hw := hv n (Nat.le_refl n)
        have hA : AllOk kf af bf (vatA kf af bf n (vat0 a b c d e f)) n (vat0 a b c d e f) := ⟨hv, hd, hn2, rfl⟩
        generalize vatA kf af bf n (vat0 a b c d e f) = w at *
        obtain ⟨⟨g1, g2, g3⟩, ⟨g4, g5, g6⟩, ⟨g7, g8, g9⟩⟩ := mB_of hB
        simp only [Int.zero_add, Int.add_zero]
        have hnb' : (0 : Int) < nb := by omega
        have r1 : remZ 1 (nb : Int) = 1 % (nb : Int) := remZ_nn (by omega)
        have r2 : remZ 2 (nb : Int) = 2 % (nb : Int) := remZ_nn (by omega)
        rw [r1, r2]
        have m1 := Int.emod_nonneg 1 (show (nb : Int) ≠ 0 by omega)
        have m2 := Int.emod_lt_of_pos 1 hnb'
        have m3 := Int.emod_nonneg 2 (show (nb : Int) ≠ 0 by omega)
        have m4 := Int.emod_lt_of_pos 2 hnb'
        obtain ⟨z1, z2, z3⟩ := hok1 0 (by omega) hnb'
        obtain ⟨z4, z5, z6⟩ := hok1 _ m1 m2
        obtain ⟨z7, z8, z9⟩ := hok1 _ m3 m4
        generalize 1 % (nb : Int) = i1 at *
        generalize 2 % (nb : Int) = i2 at *
        refine cond_nd (fun h => absurd (by trivial) h) (fun _ => ?_)
        rw [hB]
        refine cond_i (fun h => by cases h) (fun _ => ?_)
        refine cond_nd (fun h => absurd (by trivial) h) (fun _ => ?_)
        refine cond_d (fun _ => ?_) (fun _ => ?_) <;> try (exfalso; omega)
        refine ⟨z1, ⟨⟨⟨z2, z3⟩, ⟨by omega, by omega⟩, ⟨by omega, by omega⟩⟩, g2⟩, ?_⟩
        refine cond_d (fun h => absurd h hnb) (fun _ => ?_)
        refine cond_d (fun _ => ?_) (fun _ => ?_) <;> try (exfalso; omega)
        refine ⟨z4, ⟨⟨⟨z5, z6⟩, ⟨by omega, by omega⟩, ⟨by omega, by omega⟩⟩, g5⟩, ?_⟩
        refine cond_d (fun h => absurd h hnb) (fun _ => ?_)
        refine cond_d (fun _ => ?_) (fun _ => ?_) <;> try (exfalso; omega)
        refine ⟨z7, ⟨⟨⟨z8, z9⟩, ⟨by omega, by omega⟩, ⟨by omega, by omega⟩⟩, g8⟩, ?_⟩
        have k1 := pk_in (z := zf 0) g2
        have k2 := pk_in (z := zf i1) g5
        have k3 := pk_in (z := zf i2) g8
        generalize pk a b (zf 0) = dry at *
        generalize pk c d (zf i1) = water at *
        generalize pk e f (zf i2) = phenol at *
        refine cond_r (by omega) ⟨⟨⟨⟨hA, by omega⟩, ⟨rfl, rfl, rfl, rfl, rfl, rfl, trivial⟩, rfl, rfl, rfl, rfl, rfl, rfl, rfl, rfl, rfl, rfl, rfl, rfl, rfl, trivial⟩, ?_⟩, fun x hx => ?_, by trivial⟩
        · simp only [Inv, vat0]; omega
        · have hb := inv_b hw hx
          obtain ⟨c1, c2⟩ := c_after hw hx
          have hBw := mB_ok hw
          obtain ⟨b1, b2, b3, b4, b5, b6, b7⟩ := hb
          have hx' := hx
          obtain ⟨i0, i1, i2, i3, i4, i5, i6, i7⟩ := hx
          obtain ⟨⟨w1, w2, w3⟩, ⟨w4, w5, w6⟩, ⟨w7, w8, w9⟩, _⟩ := hw
          by_cases hm : w.dl = 0 ∧ w.wl = 0
          · rw [moF_4 hBw hm, phF_4 hBw hm.1]
            dsimp only
            repeat' first
              | refine cond_r (by omega) ?_
              | (refine cond_d (fun _ => ?_) (fun _ => ?_) <;> try (exfalso; omega))
              | (refine cond_nd (fun _ => ?_) (fun _ => ?_) <;> try (exfalso; omega))
            all_goals trivial
          · rw [moF_0 hBw hm]
            obtain ⟨d1, d2, d3, d4⟩ := c1 _ _ rfl rfl
            generalize loF w.wl w.dh = lo at *
            generalize hiF w.wh w.dl = hi at *
            by_cases hp : w.dl = 0
            · rw [phF_4 hBw hp]
              dsimp only
              repeat' first
                | refine cond_r (by omega) ?_
                | (refine cond_d (fun _ => ?_) (fun _ => ?_) <;> try (exfalso; omega))
                | (refine cond_nd (fun _ => ?_) (fun _ => ?_) <;> try (exfalso; omega))
              all_goals trivial
            · rw [phF_0 hBw hp]
              obtain ⟨d5, d6⟩ := c2 (by omega)
              have d7 := @quoZ_r (1000 * x.phenol) x.dry (by omega) (by omega) (by omega)
              have d8 := @quoZ_r (1000 * x.phenol + x.dry - 1) x.dry (by omega) (by omega) (by omega)
              generalize quoZ (1000 * x.phenol) x.dry = u1 at *
              generalize quoZ (1000 * x.phenol + x.dry - 1) x.dry = u2 at *
              generalize 1000 * w.pl / w.dh = u3 at *
              generalize (1000 * w.ph + w.dl - 1) / w.dl = u4 at *
              dsimp only
              repeat' first
                | refine cond_r (by omega) ?_
                | (refine cond_d (fun _ => ?_) (fun _ => ?_) <;> try (exfalso; omega))
                | (refine cond_nd (fun _ => ?_) (fun _ => ?_) <;> try (exfalso; omega))
              all_goals trivial
      · obtain ⟨h3, h4, h5⟩ := pl_err he
        refine cond_nd (fun _ => ?_) (fun h => absurd h he)
        rw [h3]
        refine cond_k (by decide) (cond_k (by decide) (cond_dk h4 (cond_dk h5 rfl))))
  have := boQ_true h1 (fun _ h => h)
  subst this
  exact ⟨h', h2⟩
end
end Go.Sx.Malt
