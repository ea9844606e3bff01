/- malt: what is narrower stays so; steps in two parts. -/
import Derived.Test.YtdfbhoejljidfaaMl4

namespace Go.Sx.Malt
open Go Go.Sx

/-- Less is open, and as much was taken up. -/
def Sub (u v : Vat) : Prop :=
  (v.dl ≤ u.dl ∧ u.dh ≤ v.dh) ∧ (v.wl ≤ u.wl ∧ u.wh ≤ v.wh) ∧ (v.pl ≤ u.pl ∧ u.ph ≤ v.ph) ∧ (u.tl = v.tl ∧ u.th = v.th) ∧ (v.gl ≤ u.gl ∧ u.gh ≤ v.gh) ∧ (v.rl ≤ u.rl ∧ u.rh ≤ v.rh) ∧ (v.sl ≤ u.sl ∧ u.sh ≤ v.sh)

theorem sub_step {u v : Vat} {k a b : Int} (hu : VOk u) (hv : VOk v) (h : Sub u v) (hs : stB k a b = true) : Sub (doV u k a b) (doV v k a b) := by
  obtain ⟨hk, ha, hab, hb, _⟩ := st_cases hs
  have hu' := hu
  have hv' := hv
  obtain ⟨⟨g1, g2, g3⟩, ⟨g4, g5, g6⟩, _⟩ := hu
  obtain ⟨⟨f1, f2, f3⟩, ⟨f4, f5, f6⟩, _⟩ := hv
  have p1 : v.dl * a ≤ u.dl * a := Int.mul_le_mul_of_nonneg_right h.1.1 ha
  have p2 : u.dh * b ≤ v.dh * b := Int.mul_le_mul_of_nonneg_right h.1.2 (by omega)
  have hdoV : ∀ x : Vat, doV x k a b = addV x (stepV x k a b) := fun _ => rfl
  rw [hdoV, hdoV]
  rcases hk with rfl | rfl | rfl | rfl | rfl | rfl
  · simp only [stepV0, addV, Sub] at h ⊢; omega
  · have hb1 := (st_cases hs).2.2.2.2.1 rfl
    have p3 : v.dl * (10000 - b) ≤ u.dl * (10000 - b) := Int.mul_le_mul_of_nonneg_right h.1.1 (by omega)
    have p4 : u.dh * (10000 - a) ≤ v.dh * (10000 - a) := Int.mul_le_mul_of_nonneg_right h.1.2 (by omega)
    simp only [stepV1, addV, Sub] at h ⊢
    generalize v.dl * a = m1 at *
    generalize u.dl * a = m2 at *
    generalize v.dh * b = m3 at *
    generalize u.dh * b = m4 at *
    generalize v.dl * (10000 - b) = m5 at *
    generalize u.dl * (10000 - b) = m6 at *
    generalize v.dh * (10000 - a) = m7 at *
    generalize u.dh * (10000 - a) = m8 at *
    omega
  · simp only [stepV2, addV, Sub] at h ⊢
    generalize v.dl * a = m1 at *
    generalize u.dl * a = m2 at *
    generalize v.dh * b = m3 at *
    generalize u.dh * b = m4 at *
    omega
  · simp only [stepV3, addV, Sub] at h ⊢
    generalize v.dl * a = m1 at *
    generalize u.dl * a = m2 at *
    generalize v.dh * b = m3 at *
    generalize u.dh * b = m4 at *
    omega
  · simp only [stepV4, addV, Sub] at h ⊢; omega
  · simp only [stepV5, addV, Sub] at h ⊢; omega

theorem sub_err {u v : Vat} {k a b : Int} (hu : VOk u) (hv : VOk v) (h : Sub u v) (hd : doE v k a b = 0) : doE u k a b = 0 ∨ doE u k a b = 4 := by
  obtain ⟨hs, _, h3⟩ := of_doE hd
  have hsub := sub_step hu hv h hs
  rw [bigV_f] at h3
  cases hb : badV (stepV u k a b) with
  | true => exact .inr (doE_4 hs hb)
  | false =>
    left
    refine doE_0 hs hb (bigV_f.2 ?_)
    obtain ⟨s1, s2, s3, s4, s5, s6, s7⟩ := hsub
    omega

/-- The narrower one goes through, or something is impossible. -/
theorem sub_play {kf af bf : Int → Int} : ∀ (m : Nat) (i : Int) (u v : Vat), VOk u → VOk v → Sub u v → (playL kf af bf m i v).2.2 = 0 →
    ((playL kf af bf m i u).2.2 = 0 ∧ Sub (playL kf af bf m i u).1 (playL kf af bf m i v).1) ∨ (playL kf af bf m i u).2.2 = 4
  | 0, i, u, v, _, _, h, _ => .inl ⟨rfl, h⟩
  | m + 1, i, u, v, hu, hv, h, hp => by
    by_cases he : doE v (kf i) (af i) (bf i) = 0
    · rw [playL_go he] at hp ⊢
      rcases sub_err hu hv h he with h1 | h1
      · rw [playL_go h1]
        exact sub_play m (i + 1) _ _ (doV_ok hu h1) (doV_ok hv he) (sub_step hu hv h (of_doE he).1) hp
      · right
        rw [playL_stop (by rw [h1]; decide)]
        exact h1
    · rw [playL_stop he] at hp
      exact absurd hp he

/-- The same is known; of what was lost one part was lost before. -/
def Off (z u v : Vat) : Prop :=
  (u.dl = v.dl ∧ u.dh = v.dh) ∧ (u.wl = v.wl ∧ u.wh = v.wh) ∧ (u.pl = v.pl ∧ u.ph = v.ph) ∧ (v.tl = z.tl + u.tl ∧ v.th = z.th + u.th) ∧ (v.gl = z.gl + u.gl ∧ v.gh = z.gh + u.gh) ∧ (v.rl = z.rl + u.rl ∧ v.rh = z.rh + u.rh) ∧ (v.sl = z.sl + u.sl ∧ v.sh = z.sh + u.sh)

theorem stepV_same {u v : Vat} {k a b : Int} (h1 : u.dl = v.dl) (h2 : u.dh = v.dh) (h3 : u.wl = v.wl) (h4 : u.wh = v.wh) (h5 : u.pl = v.pl) (h6 : u.ph = v.ph) : stepV u k a b = stepV v k a b := by
  unfold stepV
  rw [h1, h2, h3, h4, h5, h6]

theorem off_step {z u v : Vat} {k a b : Int} (hz : VOk z) (h : Off z u v) (hd : doE v k a b = 0) : doE u k a b = 0 ∧ Off z (doV u k a b) (doV v k a b) := by
  obtain ⟨hs, h2, h3⟩ := of_doE hd
  obtain ⟨⟨e1, e2⟩, ⟨e3, e4⟩, ⟨e5, e6⟩, hh⟩ := h
  have es : stepV u k a b = stepV v k a b := stepV_same e1 e2 e3 e4 e5 e6
  rw [bigV_f] at h3
  obtain ⟨_, _, _, t1, t2, t3, t4⟩ := hz
  constructor
  · refine doE_0 hs (by rw [es]; exact h2) (bigV_f.2 ?_)
    have e7 : doV u k a b = addV u (stepV v k a b) := by unfold doV; rw [es]
    have e8 : doV v k a b = addV v (stepV v k a b) := rfl
    rw [e8] at h3
    rw [e7]
    simp only [addV] at h3 ⊢
    omega
  · have e7 : doV u k a b = addV u (stepV v k a b) := by unfold doV; rw [es]
    have e8 : doV v k a b = addV v (stepV v k a b) := rfl
    rw [e7, e8]
    simp only [addV, Off]
    (repeat' apply And.intro) <;> first | trivial | omega

theorem off_play {kf af bf : Int → Int} {z : Vat} (hz : VOk z) (k : Nat) : ∀ (m : Nat) (i : Nat) (u v : Vat), Off z u v → (playL kf af bf m (k + i : Nat) v).2.2 = 0 →
    (playL (fun i => kf (k + i)) (fun i => af (k + i)) (fun i => bf (k + i)) m i u).2.2 = 0 ∧ Off z (playL (fun i => kf (k + i)) (fun i => af (k + i)) (fun i => bf (k + i)) m i u).1 (playL kf af bf m (k + i : Nat) v).1
  | 0, i, u, v, h, _ => ⟨rfl, h⟩
  | m + 1, i, u, v, h, hp => by
    by_cases he : doE v (kf (k + i : Nat)) (af (k + i : Nat)) (bf (k + i : Nat)) = 0
    · rw [playL_go he] at hp ⊢
      obtain ⟨h1, h2⟩ := off_step hz h he
      have h1' : doE u ((fun i : Int => kf (k + i)) i) ((fun i : Int => af (k + i)) i) ((fun i : Int => bf (k + i)) i) = 0 := by simpa using h1
      rw [show playL (fun i => kf (k + i)) (fun i => af (k + i)) (fun i => bf (k + i)) (m + 1) i u = playL (fun i => kf (k + i)) (fun i => af (k + i)) (fun i => bf (k + i)) m ((i : Int) + 1) (doV u (kf (k + (i : Int))) (af (k + (i : Int))) (bf (k + (i : Int)))) from playL_go h1']
      have e : (((k + i : Nat) : Int) + 1) = ((k + (i + 1) : Nat) : Int) := by omega
      have e2 : ((i : Int) + 1) = ((i + 1 : Nat) : Int) := by omega
      rw [e] at hp ⊢
      rw [e2]
      exact off_play hz k m (i + 1) _ _ (by simpa using h2) hp
    · rw [playL_stop he] at hp
      exact absurd hp he
end Go.Sx.Malt
