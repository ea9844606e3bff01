/- malt: the plain law of a step. -/
namespace Go.Sx.Malt

/-- Dry matter, water, phenols; what was taken up, gas, roots, steam. -/
structure Vat where
  dl : Int
  dh : Int
  wl : Int
  wh : Int
  pl : Int
  ph : Int
  tl : Int
  th : Int
  gl : Int
  gh : Int
  rl : Int
  rh : Int
  sl : Int
  sh : Int

def stB (k a b : Int) : Bool := decide (0 ≤ k ∧ k ≤ 5 ∧ 0 ≤ a ∧ a ≤ b ∧ b ≤ 1099511627776 ∧ (k ≠ 1 ∧ k ≠ 2 ∨ b ≤ 10000) ∧ (k ≠ 3 ∨ b ≤ 1048576))

/-- What is known behind a step, and what was lost in it. -/
def stepV (v : Vat) (k a b : Int) : Vat :=
  if k = 0 then ⟨v.dl, v.dh, v.wl + a, v.wh + b, v.pl, v.ph, a, b, 0, 0, 0, 0, 0, 0⟩
  else if k = 1 then ⟨(v.dl * (10000 - b) + 10000 - 1) / 10000, v.dh * (10000 - a) / 10000, v.wl, v.wh, v.pl, v.ph, 0, 0, (v.dl * a + 10000 - 1) / 10000, v.dh * b / 10000, 0, 0, 0, 0⟩
  else if k = 2 then ⟨v.dl, v.dh, (v.dl * a + 10000 - 1) / 10000, min (v.dh * b / 10000) v.wh, v.pl, v.ph, 0, 0, 0, 0, 0, 0, max 0 (v.wl - min (v.dh * b / 10000) v.wh), v.wh - (v.dl * a + 10000 - 1) / 10000⟩
  else if k = 3 then ⟨v.dl, v.dh, v.wl, v.wh, v.pl + (v.dl * a + 1000 - 1) / 1000, v.ph + v.dh * b / 1000, 0, 0, 0, 0, 0, 0, 0, 0⟩
  else if k = 4 then ⟨max 0 (v.dl - b), v.dh - a, v.wl, v.wh, v.pl, v.ph, 0, 0, 0, 0, a, min b v.dh, 0, 0⟩
  else ⟨max v.dl (a - v.wh), min v.dh (b - v.wl), max v.wl (a - v.dh), min v.wh (b - v.dl), v.pl, v.ph, 0, 0, 0, 0, 0, 0, 0, 0⟩

def addV (v u : Vat) : Vat := ⟨u.dl, u.dh, u.wl, u.wh, u.pl, u.ph, v.tl + u.tl, v.th + u.th, v.gl + u.gl, v.gh + u.gh, v.rl + u.rl, v.rh + u.rh, v.sl + u.sl, v.sh + u.sh⟩

def badV (u : Vat) : Bool := decide (u.dl > u.dh ∨ u.wl > u.wh ∨ u.pl > u.ph ∨ u.tl > u.th ∨ u.gl > u.gh ∨ u.rl > u.rh ∨ u.sl > u.sh)
def bigV (x : Vat) : Bool := decide (x.dh > 1099511627776 ∨ x.wh > 1099511627776 ∨ x.ph > 1099511627776 ∨ x.th > 1099511627776 ∨ x.gh > 1099511627776 ∨ x.rh > 1099511627776 ∨ x.sh > 1099511627776)

def doV (v : Vat) (k a b : Int) : Vat := addV v (stepV v k a b)

def doE (v : Vat) (k a b : Int) : Int :=
  bif stB k a b then (bif badV (stepV v k a b) then 4 else bif bigV (doV v k a b) then 12 else 0) else 1

def VOk (v : Vat) : Prop :=
  (0 ≤ v.dl ∧ v.dl ≤ v.dh ∧ v.dh ≤ 1099511627776) ∧ (0 ≤ v.wl ∧ v.wl ≤ v.wh ∧ v.wh ≤ 1099511627776) ∧ (0 ≤ v.pl ∧ v.pl ≤ v.ph ∧ v.ph ≤ 1099511627776) ∧
  (0 ≤ v.tl ∧ v.tl ≤ v.th ∧ v.th ≤ 1099511627776) ∧ (0 ≤ v.gl ∧ v.gl ≤ v.gh ∧ v.gh ≤ 1099511627776) ∧ (0 ≤ v.rl ∧ v.rl ≤ v.rh ∧ v.rh ≤ 1099511627776) ∧ (0 ≤ v.sl ∧ v.sl ≤ v.sh ∧ v.sh ≤ 1099511627776)

theorem mulb {x y X Y : Int} (hx : 0 ≤ x) (hX : x ≤ X) (hy : 0 ≤ y) (hY : y ≤ Y) : 0 ≤ x * y ∧ x * y ≤ X * Y :=
  ⟨Int.mul_nonneg hx hy, Int.mul_le_mul hX hY hy (Int.le_trans hx hX)⟩

theorem doE_1 {v : Vat} {k a b : Int} (h : stB k a b = false) : doE v k a b = 1 := by unfold doE; rw [h]; rfl
theorem doE_4 {v : Vat} {k a b : Int} (h : stB k a b = true) (h2 : badV (stepV v k a b) = true) : doE v k a b = 4 := by unfold doE; rw [h, h2]; rfl
theorem doE_12 {v : Vat} {k a b : Int} (h : stB k a b = true) (h2 : badV (stepV v k a b) = false) (h3 : bigV (doV v k a b) = true) : doE v k a b = 12 := by unfold doE; rw [h, h2, h3]; rfl
theorem doE_0 {v : Vat} {k a b : Int} (h : stB k a b = true) (h2 : badV (stepV v k a b) = false) (h3 : bigV (doV v k a b) = false) : doE v k a b = 0 := by unfold doE; rw [h, h2, h3]; rfl

theorem of_doE {v : Vat} {k a b : Int} (h : doE v k a b = 0) : stB k a b = true ∧ badV (stepV v k a b) = false ∧ bigV (doV v k a b) = false := by
  unfold doE at h
  cases h1 : stB k a b <;> rw [h1] at h
  · simp at h
  · cases h2 : badV (stepV v k a b) <;> rw [h2] at h
    · cases h3 : bigV (doV v k a b) <;> rw [h3] at h
      · exact ⟨rfl, rfl, rfl⟩
      · simp at h
    · simp at h

theorem st_cases {k a b : Int} (h : stB k a b = true) : (k = 0 ∨ k = 1 ∨ k = 2 ∨ k = 3 ∨ k = 4 ∨ k = 5) ∧ 0 ≤ a ∧ a ≤ b ∧ b ≤ 1099511627776 ∧ (k = 1 → b ≤ 10000) ∧ (k = 2 → b ≤ 10000) ∧ (k = 3 → b ≤ 1048576) := by
  simp only [stB, decide_eq_true_eq] at h
  refine ⟨by omega, by omega, by omega, by omega, by omega, by omega, by omega⟩

theorem stepV0 (v : Vat) (a b : Int) : stepV v 0 a b = ⟨v.dl, v.dh, v.wl + a, v.wh + b, v.pl, v.ph, a, b, 0, 0, 0, 0, 0, 0⟩ := rfl
theorem stepV1 (v : Vat) (a b : Int) : stepV v 1 a b = ⟨(v.dl * (10000 - b) + 10000 - 1) / 10000, v.dh * (10000 - a) / 10000, v.wl, v.wh, v.pl, v.ph, 0, 0, (v.dl * a + 10000 - 1) / 10000, v.dh * b / 10000, 0, 0, 0, 0⟩ := rfl
theorem stepV2 (v : Vat) (a b : Int) : stepV v 2 a b = ⟨v.dl, v.dh, (v.dl * a + 10000 - 1) / 10000, min (v.dh * b / 10000) v.wh, v.pl, v.ph, 0, 0, 0, 0, 0, 0, max 0 (v.wl - min (v.dh * b / 10000) v.wh), v.wh - (v.dl * a + 10000 - 1) / 10000⟩ := rfl
theorem stepV3 (v : Vat) (a b : Int) : stepV v 3 a b = ⟨v.dl, v.dh, v.wl, v.wh, v.pl + (v.dl * a + 1000 - 1) / 1000, v.ph + v.dh * b / 1000, 0, 0, 0, 0, 0, 0, 0, 0⟩ := rfl
theorem stepV4 (v : Vat) (a b : Int) : stepV v 4 a b = ⟨max 0 (v.dl - b), v.dh - a, v.wl, v.wh, v.pl, v.ph, 0, 0, 0, 0, a, min b v.dh, 0, 0⟩ := rfl
theorem stepV5 (v : Vat) (a b : Int) : stepV v 5 a b = ⟨max v.dl (a - v.wh), min v.dh (b - v.wl), max v.wl (a - v.dh), min v.wh (b - v.dl), v.pl, v.ph, 0, 0, 0, 0, 0, 0, 0, 0⟩ := rfl

/-- The products of a step. -/
theorem prods {v : Vat} {k a b : Int} (hv : VOk v) (h : stB k a b = true) (hk : k = 1 ∨ k = 2 ∨ k = 3) :
    (0 ≤ v.dl * a ∧ v.dl * a ≤ 1099511627776 * 1048576) ∧ (0 ≤ v.dh * b ∧ v.dh * b ≤ 1099511627776 * 1048576) := by
  obtain ⟨_, h1, h2, _, h3, h4, h5⟩ := st_cases h
  obtain ⟨⟨g1, g2, g3⟩, _⟩ := hv
  have hb : b ≤ 1048576 := by rcases hk with rfl | rfl | rfl <;> omega
  exact ⟨mulb g1 (by omega) h1 (by omega), mulb (by omega) g3 (by omega) hb⟩

theorem prods1 {v : Vat} {a b : Int} (hv : VOk v) (h : stB 1 a b = true) :
    (0 ≤ v.dl * (10000 - b) ∧ v.dl * (10000 - b) ≤ 1099511627776 * 10000) ∧ (0 ≤ v.dh * (10000 - a) ∧ v.dh * (10000 - a) ≤ 1099511627776 * 10000) := by
  obtain ⟨_, h1, h2, _, h3, _, _⟩ := st_cases h
  obtain ⟨⟨g1, g2, g3⟩, _⟩ := hv
  have := h3 rfl
  exact ⟨mulb g1 (by omega) (by omega) (by omega), mulb (by omega) g3 (by omega) (by omega)⟩

theorem badV_f {u : Vat} : badV u = false ↔ u.dl ≤ u.dh ∧ u.wl ≤ u.wh ∧ u.pl ≤ u.ph ∧ u.tl ≤ u.th ∧ u.gl ≤ u.gh ∧ u.rl ≤ u.rh ∧ u.sl ≤ u.sh := by
  simp only [badV, decide_eq_false_iff_not]; omega
theorem badV_t {u : Vat} : badV u = true ↔ u.dl > u.dh ∨ u.wl > u.wh ∨ u.pl > u.ph ∨ u.tl > u.th ∨ u.gl > u.gh ∨ u.rl > u.rh ∨ u.sl > u.sh := by
  simp only [badV, decide_eq_true_eq]
theorem bigV_f {x : Vat} : bigV x = false ↔ x.dh ≤ 1099511627776 ∧ x.wh ≤ 1099511627776 ∧ x.ph ≤ 1099511627776 ∧ x.th ≤ 1099511627776 ∧ x.gh ≤ 1099511627776 ∧ x.rh ≤ 1099511627776 ∧ x.sh ≤ 1099511627776 := by
  simp only [bigV, decide_eq_false_iff_not]; omega
theorem bigV_t {x : Vat} : bigV x = true ↔ x.dh > 1099511627776 ∨ x.wh > 1099511627776 ∨ x.ph > 1099511627776 ∨ x.th > 1099511627776 ∨ x.gh > 1099511627776 ∨ x.rh > 1099511627776 ∨ x.sh > 1099511627776 := by
  simp only [bigV, decide_eq_true_eq]

theorem doV_ok {v : Vat} {k a b : Int} (hv : VOk v) (h : doE v k a b = 0) : VOk (doV v k a b) := by
  obtain ⟨h1, h2, h3⟩ := of_doE h
  obtain ⟨hk, ha, hab, hb, _⟩ := st_cases h1
  have hv' := hv
  obtain ⟨⟨g1, g2, g3⟩, ⟨g4, g5, g6⟩, ⟨g7, g8, g9⟩, ⟨t1, t2, t3⟩, ⟨t4, t5, t6⟩, ⟨t7, t8, t9⟩, ⟨s1, s2, s3⟩⟩ := hv
  rw [badV_f] at h2
  rw [bigV_f] at h3
  rcases hk with rfl | rfl | rfl | rfl | rfl | rfl
  · simp only [stepV0, addV, VOk, doV] at h2 h3 ⊢; omega
  · have := prods hv' h1 (by omega); have := prods1 hv' h1
    simp only [stepV1, addV, VOk, doV] at h2 h3 ⊢; omega
  · have := prods hv' h1 (by omega)
    simp only [stepV2, addV, VOk, doV] at h2 h3 ⊢; omega
  · have := prods hv' h1 (by omega)
    simp only [stepV3, addV, VOk, doV] at h2 h3 ⊢; omega
  · simp only [stepV4, addV, VOk, doV] at h2 h3 ⊢; omega
  · simp only [stepV5, addV, VOk, doV] at h2 h3 ⊢; omega

/-- So many steps from an index on: what is known then, the index and the error. -/
def playL (kf af bf : Int → Int) : Nat → Int → Vat → Vat × Int × Int
  | 0, i, v => (v, i, 0)
  | n + 1, i, v => bif decide (doE v (kf i) (af i) (bf i) = 0) then playL kf af bf n (i + 1) (doV v (kf i) (af i) (bf i)) else (v, i, doE v (kf i) (af i) (bf i))

theorem playL_go {kf af bf : Int → Int} {n : Nat} {i : Int} {v : Vat} (h : doE v (kf i) (af i) (bf i) = 0) : playL kf af bf (n + 1) i v = playL kf af bf n (i + 1) (doV v (kf i) (af i) (bf i)) := by
  simp [playL, h]

theorem playL_stop {kf af bf : Int → Int} {n : Nat} {i : Int} {v : Vat} (h : doE v (kf i) (af i) (bf i) ≠ 0) : playL kf af bf (n + 1) i v = (v, i, doE v (kf i) (af i) (bf i)) := by
  simp [playL, h]

theorem playL_ok {kf af bf : Int → Int} : ∀ (n : Nat) (i : Int) (v : Vat), VOk v → VOk (playL kf af bf n i v).1
  | 0, _, _, h => h
  | n + 1, i, v, h => by
    by_cases he : doE v (kf i) (af i) (bf i) = 0
    · rw [playL_go he]; exact playL_ok n _ _ (doV_ok h he)
    · rw [playL_stop he]; exact h

end Go.Sx.Malt
