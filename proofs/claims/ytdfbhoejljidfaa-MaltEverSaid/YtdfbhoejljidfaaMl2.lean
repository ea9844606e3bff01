/- malt: moisture and phenols. -/
import Derived.Test.YtdfbhoejljidfaaSx2
import Derived.Test.YtdfbhoejljidfaaMl1

namespace Go.Sx.Malt
open Go Go.Sx

def mB (a b c d e f : Int) : Bool := decide ((0 ≤ a ∧ a ≤ b ∧ b ≤ 1099511627776) ∧ (0 ≤ c ∧ c ≤ d ∧ d ≤ 1099511627776) ∧ (0 ≤ e ∧ e ≤ f ∧ f ≤ 1099511627776))

def loF (wl dh : Int) : Int := if wl > 0 then 10000 * wl / (wl + dh) else 0
def hiF (wh dl : Int) : Int := if wh > 0 then (10000 * wh + (wh + dl) - 1) / (wh + dl) else 0

def moF (dl dh wl wh pl ph : Int) : Int × Int × Int :=
  bif mB dl dh wl wh pl ph then (bif decide (dl = 0 ∧ wl = 0) then (0, 0, 4) else (loF wl dh, hiF wh dl, 0)) else (0, 0, 1)

def phF (dl dh wl wh pl ph : Int) : Int × Int × Int :=
  bif mB dl dh wl wh pl ph then (bif decide (dl = 0) then (0, 0, 4) else (1000 * pl / dh, (1000 * ph + dl - 1) / dl, 0)) else (0, 0, 1)

theorem moF_1 {dl dh wl wh pl ph : Int} (h : mB dl dh wl wh pl ph = false) : moF dl dh wl wh pl ph = (0, 0, 1) := by unfold moF; rw [h]; rfl
theorem moF_4 {dl dh wl wh pl ph : Int} (h : mB dl dh wl wh pl ph = true) (h2 : dl = 0 ∧ wl = 0) : moF dl dh wl wh pl ph = (0, 0, 4) := by unfold moF; rw [h, decide_eq_true h2]; rfl
theorem moF_0 {dl dh wl wh pl ph : Int} (h : mB dl dh wl wh pl ph = true) (h2 : ¬ (dl = 0 ∧ wl = 0)) : moF dl dh wl wh pl ph = (loF wl dh, hiF wh dl, 0) := by unfold moF; rw [h, decide_eq_false h2]; rfl
theorem phF_1 {dl dh wl wh pl ph : Int} (h : mB dl dh wl wh pl ph = false) : phF dl dh wl wh pl ph = (0, 0, 1) := by unfold phF; rw [h]; rfl
theorem phF_4 {dl dh wl wh pl ph : Int} (h : mB dl dh wl wh pl ph = true) (h2 : dl = 0) : phF dl dh wl wh pl ph = (0, 0, 4) := by unfold phF; rw [h, decide_eq_true h2]; rfl
theorem phF_0 {dl dh wl wh pl ph : Int} (h : mB dl dh wl wh pl ph = true) (h2 : ¬ dl = 0) : phF dl dh wl wh pl ph = (1000 * pl / dh, (1000 * ph + dl - 1) / dl, 0) := by unfold phF; rw [h, decide_eq_false h2]; rfl

theorem mB_of {dl dh wl wh pl ph : Int} (h : mB dl dh wl wh pl ph = true) : (0 ≤ dl ∧ dl ≤ dh ∧ dh ≤ 1099511627776) ∧ (0 ≤ wl ∧ wl ≤ wh ∧ wh ≤ 1099511627776) ∧ (0 ≤ pl ∧ pl ≤ ph ∧ ph ≤ 1099511627776) := by
  simpa only [mB, decide_eq_true_eq] using h

theorem quoZ_r {a b : Int} (ha : 0 ≤ a) (hb : 0 < b) (h : a ≤ 9223372036854775807) : -9223372036854775808 ≤ quoZ a b ∧ quoZ a b ≤ 9223372036854775807 := by
  rw [quoZ_nn ha]
  have h1 : 0 ≤ a / b := Int.ediv_nonneg ha (by omega)
  have h2 : a / b ≤ a := Int.ediv_le_self b ha
  omega

theorem lo1 {wl dh : Int} (h : 0 ≤ wl) : quoZ (10000 * wl) (wl + dh + 0) = loF wl dh := by
  rw [quoZ_nn (by omega), Int.add_zero]
  unfold loF
  split
  · rfl
  · have : wl = 0 := by omega
    subst this
    simp

theorem lo2 {wl dh : Int} (h : 0 ≤ wl) (h2 : 0 ≤ dh) (h3 : wl + dh = 0) : quoZ (10000 * wl) (wl + dh + 1) = loF wl dh := by
  have : wl = 0 := by omega
  subst this
  rw [quoZ_nn (by omega)]
  simp [loF]

theorem lo3 {wl dh : Int} (h : 0 < wl) : quoZ (10000 * wl) (wl + dh) = loF wl dh := by
  rw [quoZ_nn (by omega), loF, if_pos h]

theorem lo0 {wl dh : Int} (h : ¬ wl > 0) : 0 = loF wl dh := by rw [loF, if_neg h]

theorem hi1 {wh dl : Int} (h : 0 ≤ wh) (h2 : 0 ≤ dl) (h3 : ¬ wh + dl = 0) : quoZ (10000 * wh + (wh + dl + 0) - 1) (wh + dl + 0) = hiF wh dl := by
  rw [quoZ_nn (by omega), Int.add_zero]
  unfold hiF
  split
  · rfl
  · have : wh = 0 := by omega
    subst this
    rw [show (10000 * (0 : Int) + (0 + dl) - 1) = 0 + dl - 1 from by omega]
    exact Int.ediv_eq_zero_of_lt (by omega) (by omega)

theorem hi2 {wh dl : Int} (h : 0 ≤ wh) (h2 : 0 ≤ dl) (h3 : wh + dl = 0) : quoZ (10000 * wh + (wh + dl + 1) - 1) (wh + dl + 1) = hiF wh dl := by
  have : wh = 0 := by omega
  have : dl = 0 := by omega
  subst wh; subst dl
  rfl

theorem hi3 {wh dl : Int} (h : 0 < wh) (h2 : 0 ≤ dl) : quoZ (10000 * wh + (wh + dl) - 1) (wh + dl) = hiF wh dl := by
  rw [quoZ_nn (by omega), hiF, if_pos h]

theorem hi0 {wh dl : Int} (h : ¬ wh > 0) : 0 = hiF wh dl := by rw [hiF, if_neg h]

theorem stepV_b {v : Vat} {k a b : Int} (hv : VOk v) (h : stB k a b = true) :
    (-2305843009213693952 ≤ (stepV v k a b).tl ∧ (stepV v k a b).tl ≤ 2305843009213693952) ∧ (-2305843009213693952 ≤ (stepV v k a b).th ∧ (stepV v k a b).th ≤ 2305843009213693952) ∧
    (-2305843009213693952 ≤ (stepV v k a b).gl ∧ (stepV v k a b).gl ≤ 2305843009213693952) ∧ (-2305843009213693952 ≤ (stepV v k a b).gh ∧ (stepV v k a b).gh ≤ 2305843009213693952) ∧
    (-2305843009213693952 ≤ (stepV v k a b).rl ∧ (stepV v k a b).rl ≤ 2305843009213693952) ∧ (-2305843009213693952 ≤ (stepV v k a b).rh ∧ (stepV v k a b).rh ≤ 2305843009213693952) ∧
    (-2305843009213693952 ≤ (stepV v k a b).sl ∧ (stepV v k a b).sl ≤ 2305843009213693952) ∧ (-2305843009213693952 ≤ (stepV v k a b).sh ∧ (stepV v k a b).sh ≤ 2305843009213693952) := by
  obtain ⟨hk, ha, hab, hb, _⟩ := st_cases h
  have hv' := hv
  obtain ⟨⟨g1, g2, g3⟩, ⟨g4, g5, g6⟩, ⟨g7, g8, g9⟩, _⟩ := hv
  rcases hk with rfl | rfl | rfl | rfl | rfl | rfl
  · simp only [stepV0]; omega
  · have := prods hv' h (by omega); have := prods1 hv' h
    simp only [stepV1]; omega
  · have := prods hv' h (by omega)
    simp only [stepV2]; omega
  · simp only [stepV3]; omega
  · simp only [stepV4]; omega
  · simp only [stepV5]; omega
end Go.Sx.Malt
