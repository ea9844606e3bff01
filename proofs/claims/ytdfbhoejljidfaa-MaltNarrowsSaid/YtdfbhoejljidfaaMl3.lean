/- malt: whatever is true stays within what is told. -/
import Derived.Test.YtdfbhoejljidfaaMl2

namespace Go.Sx.Malt

/-- What is true. -/
structure Tru where
  dry : Int
  water : Int
  phenol : Int
  taken : Int
  gas : Int
  roots : Int
  steam : Int

/-- What is true is within what is told; nothing is lost. -/
def Inv (first : Int) (v : Vat) (x : Tru) : Prop :=
  first + x.taken = x.dry + x.water + x.gas + x.roots + x.steam ∧ (v.dl ≤ x.dry ∧ x.dry ≤ v.dh) ∧ (v.wl ≤ x.water ∧ x.water ≤ v.wh) ∧ (v.pl ≤ x.phenol ∧ x.phenol ≤ v.ph) ∧
  (v.tl ≤ x.taken ∧ x.taken ≤ v.th) ∧ (v.gl ≤ x.gas ∧ x.gas ≤ v.gh) ∧ (v.rl ≤ x.roots ∧ x.roots ≤ v.rh) ∧ (v.sl ≤ x.steam ∧ x.steam ≤ v.sh)

theorem inv_0 {first : Int} {v : Vat} {x : Tru} {a b c : Int} (h : Inv first v x) (h1 : a ≤ c) (h2 : c ≤ b) : Inv first (doV v 0 a b) { x with water := x.water + c, taken := x.taken + c } := by
  simp only [doV, stepV0, addV, Inv] at h ⊢
  omega

theorem tru_prods {first : Int} {v : Vat} {x : Tru} {k a b : Int} (hv : VOk v) (h : Inv first v x) (hs : stB k a b = true) :
    v.dl * a ≤ a * x.dry ∧ b * x.dry ≤ v.dh * b ∧ 0 ≤ a * x.dry ∧ 0 ≤ b * x.dry := by
  obtain ⟨_, ha, hab, _⟩ := st_cases hs
  obtain ⟨⟨g1, g2, g3⟩, _⟩ := hv
  obtain ⟨_, ⟨h1, h2⟩, _⟩ := h
  have hd : 0 ≤ x.dry := by omega
  have hb : 0 ≤ b := by omega
  rw [Int.mul_comm a, Int.mul_comm b]
  exact ⟨Int.mul_le_mul_of_nonneg_right h1 ha, Int.mul_le_mul_of_nonneg_right h2 hb, Int.mul_nonneg hd ha, Int.mul_nonneg hd hb⟩

theorem inv_1 {first : Int} {v : Vat} {x : Tru} {a b c : Int} (hv : VOk v) (h : Inv first v x) (hs : stB 1 a b = true) (h1 : (a * x.dry + 9999) / 10000 ≤ c) (h2 : c ≤ b * x.dry / 10000) :
    Inv first (doV v 1 a b) { x with dry := x.dry - c, gas := x.gas + c } := by
  obtain ⟨p1, p2, p3, p4⟩ := tru_prods hv h hs
  have hp := prods1 hv hs
  obtain ⟨_, ha, hab, _, hb, _⟩ := st_cases hs
  have hb := hb rfl
  obtain ⟨⟨g1, g2, g3⟩, _⟩ := hv
  have q1 : v.dl * (10000 - b) ≤ x.dry * (10000 - b) := Int.mul_le_mul_of_nonneg_right h.2.1.1 (by omega)
  have q2 : x.dry * (10000 - a) ≤ v.dh * (10000 - a) := Int.mul_le_mul_of_nonneg_right h.2.1.2 (by omega)
  rw [Int.mul_sub x.dry 10000 b] at q1
  rw [Int.mul_sub x.dry 10000 a] at q2
  rw [Int.mul_comm a x.dry] at p1 p3 h1
  rw [Int.mul_comm b x.dry] at p2 p4 h2
  simp only [doV, stepV1, addV, Inv] at h ⊢
  generalize v.dl * (10000 - b) = m1 at *
  generalize v.dh * (10000 - a) = m2 at *
  generalize v.dl * a = m3 at *
  generalize v.dh * b = m4 at *
  generalize x.dry * a = m5 at *
  generalize x.dry * b = m6 at *
  omega

theorem inv_2 {first : Int} {v : Vat} {x : Tru} {a b c : Int} (hv : VOk v) (h : Inv first v x) (hs : stB 2 a b = true) (h1 : (a * x.dry + 9999) / 10000 ≤ c) (h2 : c ≤ min (b * x.dry / 10000) x.water) :
    Inv first (doV v 2 a b) { x with steam := x.steam + x.water - c, water := c } := by
  obtain ⟨p1, p2, p3, p4⟩ := tru_prods hv h hs
  obtain ⟨_, ha, hab, _, _, hb, _⟩ := st_cases hs
  simp only [doV, stepV2, addV, Inv] at h ⊢
  generalize v.dl * a = m3 at *
  generalize v.dh * b = m4 at *
  generalize a * x.dry = m5 at *
  generalize b * x.dry = m6 at *
  omega

theorem inv_3 {first : Int} {v : Vat} {x : Tru} {a b c : Int} (hv : VOk v) (h : Inv first v x) (hs : stB 3 a b = true) (h1 : (a * x.dry + 999) / 1000 ≤ c) (h2 : c ≤ b * x.dry / 1000) :
    Inv first (doV v 3 a b) { x with phenol := x.phenol + c } := by
  obtain ⟨p1, p2, p3, p4⟩ := tru_prods hv h hs
  simp only [doV, stepV3, addV, Inv] at h ⊢
  generalize v.dl * a = m3 at *
  generalize v.dh * b = m4 at *
  generalize a * x.dry = m5 at *
  generalize b * x.dry = m6 at *
  omega

theorem inv_4 {first : Int} {v : Vat} {x : Tru} {a b c : Int} (hv : VOk v) (h : Inv first v x) (h1 : a ≤ c) (h2 : c ≤ min b x.dry) :
    Inv first (doV v 4 a b) { x with dry := x.dry - c, roots := x.roots + c } := by
  obtain ⟨⟨g1, g2, g3⟩, _⟩ := hv
  simp only [doV, stepV4, addV, Inv] at h ⊢
  omega

theorem inv_5 {first : Int} {v : Vat} {x : Tru} {a b : Int} (h : Inv first v x) (h1 : x.dry + x.water ≥ a) (h2 : x.dry + x.water ≤ b) : Inv first (doV v 5 a b) x := by
  simp only [doV, stepV5, addV, Inv] at h ⊢
  omega

theorem div_lo {a b c d : Int} (h : 0 ≤ a) (h1 : a ≤ c) (h2 : 0 < d) (h3 : d ≤ b) : a / b ≤ c / d := by
  have h4 : a / b ≤ c / b := Int.ediv_le_ediv (by omega) h1
  refine Int.le_trans h4 ?_
  rw [Int.le_ediv_iff_mul_le h2]
  have h5 : c / b * b ≤ c := Int.ediv_mul_le c (by omega)
  have h6 : 0 ≤ c / b := Int.ediv_nonneg (by omega) (by omega)
  have h7 : c / b * d ≤ c / b * b := Int.mul_le_mul_of_nonneg_left h3 h6
  omega

theorem up_eq {a b : Int} (hb : 0 < b) (x : Int) : a ≤ x * b → (a + b - 1) / b ≤ x := by
  intro h
  have h1 : (a + b - 1) / b < x + 1 := by
    rw [Int.ediv_lt_iff_lt_mul hb, Int.add_mul]
    omega
  omega

theorem up_ge {a b : Int} (hb : 0 < b) : a ≤ (a + b - 1) / b * b := by
  have h1 := Int.emod_def (a + b - 1) b
  have h2 := Int.emod_lt_of_pos (a + b - 1) hb
  rw [Int.mul_comm b] at h1
  omega

theorem up_lo {a b c d : Int} (h : 0 ≤ a) (h1 : a ≤ c) (h2 : 0 < d) (h3 : d ≤ b) : (a + b - 1) / b ≤ (c + d - 1) / d := by
  refine up_eq (by omega) _ ?_
  have h4 : c ≤ (c + d - 1) / d * d := up_ge h2
  have h5 : 0 ≤ (c + d - 1) / d := Int.ediv_nonneg (by omega) (by omega)
  have h6 : (c + d - 1) / d * d ≤ (c + d - 1) / d * b := Int.mul_le_mul_of_nonneg_left h3 h5
  omega

/-- Moisture is in its span. -/
theorem lo_in {wl dh dry water : Int} (h0 : 0 ≤ wl) (h1 : wl ≤ water) (h2 : 0 ≤ dry) (h3 : dry ≤ dh) : loF wl dh * (dry + water) ≤ 10000 * water := by
  unfold loF
  split
  · rename_i hw
    have e1 : 10000 * wl / (wl + dh) * (wl + dh) ≤ 10000 * wl := Int.ediv_mul_le _ (by omega)
    have e2 : 0 ≤ 10000 * wl / (wl + dh) := Int.ediv_nonneg (by omega) (by omega)
    have e3 : 10000 * wl / (wl + dh) ≤ 10000 := by
      have : 10000 * wl / (wl + dh) < 10001 := by rw [Int.ediv_lt_iff_lt_mul (by omega)]; omega
      omega
    generalize 10000 * wl / (wl + dh) = x at *
    have e4 : x * dry ≤ x * dh := Int.mul_le_mul_of_nonneg_left h3 e2
    have e5 : x * (water - wl) ≤ 10000 * (water - wl) := Int.mul_le_mul_of_nonneg_right e3 (by omega)
    rw [Int.mul_add] at e1 ⊢
    rw [Int.mul_sub] at e5
    omega
  · omega

theorem hi_in {wh dl dry water : Int} (h1 : water ≤ wh) (h2 : 0 ≤ dl) (h3 : dl ≤ dry) : 10000 * water ≤ hiF wh dl * (dry + water) := by
  unfold hiF
  split
  · rename_i hw
    have e1 : 10000 * wh ≤ (10000 * wh + (wh + dl) - 1) / (wh + dl) * (wh + dl) := up_ge (by omega)
    have e2 : 0 ≤ (10000 * wh + (wh + dl) - 1) / (wh + dl) := Int.ediv_nonneg (by omega) (by omega)
    have e3 : (10000 * wh + (wh + dl) - 1) / (wh + dl) ≤ 10000 := up_eq (by omega) _ (by omega)
    generalize (10000 * wh + (wh + dl) - 1) / (wh + dl) = x at *
    have e4 : x * dl ≤ x * dry := Int.mul_le_mul_of_nonneg_left h3 e2
    have e5 : x * (wh - water) ≤ 10000 * (wh - water) := Int.mul_le_mul_of_nonneg_right e3 (by omega)
    rw [Int.mul_add] at e1 ⊢
    rw [Int.mul_sub] at e5
    omega
  · omega

theorem lo_b {wl dh : Int} (h1 : 0 ≤ dh) : 0 ≤ loF wl dh ∧ loF wl dh ≤ 10000 := by
  unfold loF
  split
  · refine ⟨Int.ediv_nonneg (by omega) (by omega), ?_⟩
    have : 10000 * wl / (wl + dh) < 10001 := by rw [Int.ediv_lt_iff_lt_mul (by omega)]; omega
    omega
  · omega

theorem hi_b {wh dl : Int} (h1 : 0 ≤ dl) : 0 ≤ hiF wh dl ∧ hiF wh dl ≤ 10000 := by
  unfold hiF
  split
  · exact ⟨Int.ediv_nonneg (by omega) (by omega), up_eq (by omega) _ (by omega)⟩
  · omega

/-- The vat behind so many steps. -/
def vatA (kf af bf : Int → Int) : Nat → Vat → Vat
  | 0, v => v
  | n + 1, v => doV (vatA kf af bf n v) (kf n) (af n) (bf n)

theorem playL_at {kf af bf : Int → Int} : ∀ (m : Nat) (j : Nat) (v v0 : Vat), v = vatA kf af bf j v0 → (playL kf af bf m j v).2.2 = 0 →
    (playL kf af bf m j v).1 = vatA kf af bf (j + m) v0 ∧ ∀ i : Nat, j ≤ i → i < j + m → doE (vatA kf af bf i v0) (kf i) (af i) (bf i) = 0
  | 0, j, v, v0, hv, _ => ⟨hv, fun i h1 h2 => by omega⟩
  | m + 1, j, v, v0, hv, h => by
    by_cases he : doE v (kf j) (af j) (bf j) = 0
    · rw [playL_go he] at h ⊢
      obtain ⟨h1, h2⟩ := playL_at m (j + 1) (doV v (kf j) (af j) (bf j)) v0 (by rw [hv]; rfl) h
      refine ⟨by rw [show j + (m + 1) = j + 1 + m from by omega]; exact h1, fun i hi hi2 => ?_⟩
      by_cases e : i = j
      · subst e; rw [← hv]; exact he
      · exact h2 i (by omega) (by omega)
    · rw [playL_stop he] at h
      exact absurd h he

/-- A number from one to another one, by a remainder. -/
def pk (lo hi z : Int) : Int := lo + z % (hi - lo + 1)

theorem pk_in {lo hi z : Int} (h : lo ≤ hi) : lo ≤ pk lo hi z ∧ pk lo hi z ≤ hi := by
  unfold pk
  have h1 := Int.emod_nonneg z (show hi - lo + 1 ≠ 0 by omega)
  have h2 := Int.emod_lt_of_pos z (show 0 < hi - lo + 1 by omega)
  omega
end Go.Sx.Malt
