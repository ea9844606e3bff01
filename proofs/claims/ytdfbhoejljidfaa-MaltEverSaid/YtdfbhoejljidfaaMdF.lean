/- malt: MaltAir and MaltEver. -/
import Derived.Test.YtdfbhoejljidfaaMdE

namespace Go.Sx.Malt

theorem latF_le {b b' c c' x x' : Int} (hcc : c ≤ c') (hc' : c' ≤ 10000) (hb : b' ≤ b) (h0 : 0 ≤ x') (hx : x' ≤ x) : latF b' c' x' ≤ latF b c x := by
  have h1 : (10000 - c') * x' ≤ (10000 - c) * x' := Int.mul_le_mul_of_nonneg_right (by omega) h0
  have h2 : (10000 - c) * x' ≤ (10000 - c) * x := Int.mul_le_mul_of_nonneg_left hx (by omega)
  unfold latF
  generalize (10000 - c') * x' = p at *
  generalize (10000 - c) * x' = q at *
  generalize (10000 - c) * x = r at *
  omega

theorem latF_nn {b c x : Int} (hb : 0 ≤ b) (hc : 0 ≤ c ∧ c ≤ 10000) (hx : 0 ≤ x) : 0 ≤ latF b c x := by
  have := latF_b (made := b) hc hx
  omega

/-- What a worse mill does is seen sooner. -/
def Later (r r' : Int × Int) : Prop := (r.2 = 4 → r' = (0, 4)) ∧ (r.2 = 0 → r'.2 = 0 → r.1 ≤ r'.1)

theorem harmL_ge {b c d : Int} : ∀ (n : Nat) (i x : Int), (harmL b c d n i x).2 = 0 → i ≤ (harmL b c d n i x).1
  | 0, _, _, h => by cases h
  | n + 1, i, x, h => by
    by_cases h1 : x > d
    · rw [harmL_hit h1]; exact Int.le_refl _
    · by_cases h2 : latF b c x ≤ x
      · rw [harmL_none h1 h2] at h; cases h
      · rw [harmL_go h1 h2] at h ⊢
        have := harmL_ge n (i + 1) _ h
        omega

theorem harmL_end {b c d : Int} : ∀ (n : Nat) (i x : Int), (harmL b c d n i x).2 = 0 ∨ harmL b c d n i x = (0, 4)
  | 0, _, _ => .inr rfl
  | n + 1, i, x => by
    by_cases h1 : x > d
    · rw [harmL_hit h1]; exact .inl rfl
    · by_cases h2 : latF b c x ≤ x
      · exact .inr (harmL_none h1 h2)
      · rw [harmL_go h1 h2]
        exact harmL_end n (i + 1) _

theorem harmL_low {b b' c c' d y : Int} (hb' : 0 ≤ b') (hc : 0 ≤ c) (hcc : c ≤ c') (hc' : c' ≤ 10000) (hb : b' ≤ b) (hy : y ≤ d) (hl : latF b c y ≤ y) : ∀ (n : Nat) (i x : Int), 0 ≤ x → x ≤ y → harmL b' c' d n i x = (0, 4)
  | 0, _, _, _, _ => rfl
  | n + 1, i, x, h0, hx => by
    by_cases h2 : latF b' c' x ≤ x
    · exact harmL_none (by omega) h2
    · rw [harmL_go (by omega) h2]
      have := latF_le hcc hc' hb h0 hx
      exact harmL_low hb' hc hcc hc' hb hy hl n (i + 1) _ (latF_nn hb' ⟨by omega, hc'⟩ h0) (by omega)

theorem harmL_later {b b' c c' d : Int} (hb' : 0 ≤ b') (hc : 0 ≤ c) (hcc : c ≤ c') (hc' : c' ≤ 10000) (hb : b' ≤ b) : ∀ (n m : Nat) (i x x' : Int), d + 1 - x ≤ n → 0 ≤ x' → x' ≤ x → Later (harmL b c d (n + 1) i x) (harmL b' c' d m i x')
  | n, m, i, x, x', hn, h0, hx => by
    by_cases h1 : x > d
    · rw [harmL_hit h1]
      exact ⟨fun h => absurd (show (0 : Int) = 4 from h) (by decide), fun _ h => harmL_ge m i x' h⟩
    · by_cases h2 : latF b c x ≤ x
      · rw [harmL_none h1 h2]
        exact ⟨fun _ => harmL_low hb' hc hcc hc' hb (by omega) h2 m i x' h0 hx, fun h => by cases h⟩
      · rw [harmL_go h1 h2]
        match n, m with
        | 0, _ => omega
        | n + 1, 0 => exact ⟨fun _ => rfl, fun _ h => by cases h⟩
        | n + 1, m + 1 =>
          by_cases h3 : latF b' c' x' ≤ x'
          · rw [harmL_none (by omega) h3]
            exact ⟨fun _ => rfl, fun _ h => by cases h⟩
          · rw [harmL_go (by omega) h3]
            exact harmL_later hb' hc hcc hc' hb n m (i + 1) _ _ (by omega) (latF_nn hb' ⟨by omega, hc'⟩ h0) (latF_le hcc hc' hb h0 hx)

theorem dustL_in {b c : Int} (hb : 0 ≤ b) (hc : 0 ≤ c ∧ c ≤ 10000) : ∀ (n : Nat) (x : Int), (0 ≤ x ∧ x ≤ 1073741824) → 0 ≤ dustL b c n x ∧ dustL b c n x ≤ 1073741824
  | 0, _, h => h
  | n + 1, x, h => by
    by_cases h1 : latF b c x > 1073741824
    · rw [dustL_big h1]; decide
    · rw [dustL_go h1]
      exact dustL_in hb hc n _ ⟨latF_nn hb hc h.1, by omega⟩

theorem dustL_le {b b' c c' : Int} (hb' : 0 ≤ b') (hc : 0 ≤ c) (hcc : c ≤ c') (hc' : c' ≤ 10000) (hb : b' ≤ b) : ∀ (n : Nat) (x x' : Int), 0 ≤ x' → x' ≤ x → x' ≤ 1073741824 → dustL b' c' n x' ≤ dustL b c n x
  | 0, _, _, _, h, _ => h
  | n + 1, x, x', h0, hx, hm => by
    have hl := latF_le hcc hc' hb h0 hx
    have h2 := latF_nn (c := c') hb' ⟨by omega, hc'⟩ h0
    by_cases h1 : latF b c x > 1073741824
    · rw [dustL_big h1]
      exact (dustL_in hb' ⟨by omega, hc'⟩ (n + 1) x' ⟨h0, hm⟩).2
    · rw [dustL_go h1, dustL_go (by omega)]
      exact dustL_le hb' hc hcc hc' hb n _ _ h2 hl (by omega)

/-- Dust that does not rise in a minute does not rise after it. -/
theorem dustL_calm {b c : Int} (hb : 0 ≤ b) (hc : 0 ≤ c ∧ c ≤ 10000) : ∀ (n : Nat) (x : Int), (0 ≤ x ∧ x ≤ 1073741824) → dustL b c (n + 1) x ≤ dustL b c n x → dustL b c (n + 2) x ≤ dustL b c (n + 1) x
  | 0, x, hx, h => by
    by_cases h1 : latF b c x > 1073741824
    · rw [dustL_big h1, dustL_big h1]; decide
    · rw [dustL_go h1] at h
      rw [dustL_go h1, dustL_go h1]
      have := dustL_le hb hc.1 (Int.le_refl _) hc.2 (Int.le_refl _) 1 x _ (latF_nn hb hc hx.1) h (by omega)
      rw [dustL_go h1] at this
      exact this
  | n + 1, x, hx, h => by
    by_cases h1 : latF b c x > 1073741824
    · rw [dustL_big h1, dustL_big h1]; decide
    · rw [dustL_go h1, dustL_go h1] at h
      rw [dustL_go h1, dustL_go h1]
      exact dustL_calm hb hc n _ ⟨latF_nn hb hc hx.1, by omega⟩ h

/-- Before it harms it does not harm. -/
theorem harmL_before {b c d : Int} (hd : d ≤ 1073741824) : ∀ (n : Nat) (i x : Int), (harmL b c d n i x).2 = 0 → ∀ k : Nat, i + k < (harmL b c d n i x).1 → dustL b c k x ≤ d
  | 0, _, _, h => by cases h
  | n + 1, i, x, h => by
    intro k hk
    by_cases h1 : x > d
    · rw [harmL_hit h1] at hk; exact absurd hk (by show ¬ i + (k : Int) < i; omega)
    · by_cases h2 : latF b c x ≤ x
      · rw [harmL_none h1 h2] at h; cases h
      · rw [harmL_go h1 h2] at h hk
        match k with
        | 0 => exact Int.not_lt.1 h1
        | k + 1 =>
          by_cases h3 : latF b c x > 1073741824
          · match n with
            | 0 => cases h
            | n + 1 =>
              rw [harmL_hit (by omega)] at hk
              exact absurd hk (by show ¬ i + ((k + 1 : Nat) : Int) < i + 1; omega)
          · rw [dustL_go h3]
            exact harmL_before hd n (i + 1) _ h k (by omega)

theorem harmL_at {b c d : Int} : ∀ (n : Nat) (i x : Int), (harmL b c d n i x).2 = 0 → ∀ k : Nat, i + k = (harmL b c d n i x).1 → min (d + 1) 1073741824 ≤ dustL b c k x
  | 0, _, _, h => by cases h
  | n + 1, i, x, h => by
    intro k hk
    by_cases h1 : x > d
    · rw [harmL_hit h1] at hk
      have hk' : i + (k : Int) = i := hk
      obtain rfl : k = 0 := by omega
      show _ ≤ x
      omega
    · by_cases h2 : latF b c x ≤ x
      · rw [harmL_none h1 h2] at h; cases h
      · rw [harmL_go h1 h2] at h hk
        have hg := harmL_ge n (i + 1) _ h
        match k with
        | 0 => omega
        | k + 1 =>
          by_cases h3 : latF b c x > 1073741824
          · rw [dustL_big h3]; omega
          · rw [dustL_go h3]
            exact harmL_at n (i + 1) _ h k (by omega)

theorem dustL_low {b c y : Int} (hb : 0 ≤ b) (hc : 0 ≤ c ∧ c ≤ 10000) (hy : y ≤ 1073741824) (hl : latF b c y ≤ y) : ∀ (n : Nat) (x : Int), 0 ≤ x → x ≤ y → dustL b c n x ≤ y
  | 0, _, _, h => h
  | n + 1, x, h0, h => by
    have := latF_le (Int.le_refl _) hc.2 (Int.le_refl b) h0 h
    rw [dustL_go (by omega)]
    exact dustL_low hb hc hy hl n _ (latF_nn hb hc h0) (by omega)

theorem harmL_never {b c d : Int} (hb : 0 ≤ b) (hc : 0 ≤ c ∧ c ≤ 10000) (hd : d ≤ 1073741824) : ∀ (n : Nat) (i x : Int), d + 1 - x ≤ n → 0 ≤ x → (harmL b c d (n + 1) i x).2 = 4 → ∀ k : Nat, dustL b c k x ≤ d
  | n, i, x, hn, h0, h => by
    intro k
    by_cases h1 : x > d
    · rw [harmL_hit h1] at h; cases h
    · by_cases h2 : latF b c x ≤ x
      · have := dustL_low hb hc (by omega) h2 k x h0 (Int.le_refl _)
        omega
      · rw [harmL_go h1 h2] at h
        match n, k with
        | 0, _ => omega
        | n + 1, 0 => exact Int.not_lt.1 h1
        | n + 1, k + 1 =>
          by_cases h3 : latF b c x > 1073741824
          · rw [harmL_hit (by omega)] at h; cases h
          · rw [dustL_go h3]
            exact harmL_never hb hc hd n (i + 1) _ (by omega) (latF_nn hb hc h0) h k
end Go.Sx.Malt

namespace Go.Sx.Malt
open Go Go.Sx Go.Proofs
set_option maxRecDepth 100000

theorem millB_in {a b c d : Int} (h : (0 ≤ a ∧ a ≤ 1073741824) ∧ (0 ≤ b ∧ b ≤ 1073741824) ∧ (0 ≤ c ∧ c ≤ 10000) ∧ (0 ≤ d ∧ d ≤ 1073741824)) : millB a b c d = true := by
  simpa only [millB, decide_eq_true_eq] using h

theorem harmF_4 {a b c d : Int} (h : millB a b c d = true) : (harmF a b c d).2 = 0 ∨ harmF a b c d = (0, 4) := by
  rw [harmF_1 h]
  exact harmL_end _ _ _

theorem later_F {a b b' c c' d : Int} (h : millB a b c d = true) (h' : millB a b' c' d = true) (hb : b' ≤ b) (hc : c ≤ c') : Later (harmF a b c d) (harmF a b' c' d) := by
  rw [harmF_1 h, harmF_1 h']
  obtain ⟨ha, hb1, hc1, hd⟩ := millB_of h
  obtain ⟨_, hb2, hc2, _⟩ := millB_of h'
  exact harmL_later hb2.1 hc1.1 hc hc2.2 hb _ _ 0 a a (by omega) ha.1 (Int.le_refl _)

theorem law5_v (a b c d m u v : Int) (hu : 0 ≤ u ∧ u ≤ 65535) (hv : 0 ≤ v ∧ v ≤ 65535) : ∃ h', CallsV Try.prog 7 [.agg [I a, I b, I c, I d], I m, .int .u16 u, .int .u16 v] ⟨0, []⟩ (.ret (.bool true)) h' := by
  obtain ⟨r, h', h1, h2⟩ := of_callN (tab_good hmix dT1_ok 20) (f := 7) (h := ⟨0, []⟩) (args := [.agg [I a, I b, I c, I d], I m, .int .u16 u, .int .u16 v]) (K := boQ (fun b => b = true))
    (by
      rw [law5_ev]
      by_cases hB : millB a b c d = true
      · by_cases hm : 0 ≤ m ∧ m ≤ 65536
        · obtain ⟨ha, hb, hc, hd⟩ := millB_of hB
          have hB' : millB a (max 0 (b - u)) (min 10000 (c + v)) d = true := millB_in ⟨ha, by omega, by omega, hd⟩
          have hL := later_F hB hB' (by omega) (by omega)
          have e := dustF_0 hB hm
          have e' := dustF_0 hB' hm
          have hin := dustL_in hb.1 hc m.toNat a ha
          have hle := dustL_le (b := b) (b' := max 0 (b - u)) (c := c) (c' := min 10000 (c + v)) (by omega) hc.1 (by omega) (by omega) (by omega) m.toNat a a ha.1 (Int.le_refl _) ha.2
          rw [hB, e, e']
          generalize harmF a b c d = r at *
          generalize harmF a (max 0 (b - u)) (min 10000 (c + v)) d = r' at *
          obtain ⟨L1, L2⟩ := hL
          have tail : m ≤ 65534 → (dustF a b c d (m + 1)).2 = 0 ∧ (dustF a b c d (m + 2)).2 = 0 ∧ ((dustF a b c d (m + 1)).1 ≤ dustL b c m.toNat a → (dustF a b c d (m + 2)).1 ≤ (dustF a b c d (m + 1)).1) := by
            intro h
            rw [dustF_0 (m := m + 1) hB ⟨by omega, by omega⟩, dustF_0 (m := m + 2) hB ⟨by omega, by omega⟩]
            have t1 : (m + 1).toNat = m.toNat + 1 := by omega
            have t2 : (m + 2).toNat = m.toNat + 2 := by omega
            refine ⟨rfl, rfl, fun h => ?_⟩
            rw [t1] at h ⊢
            rw [t2]
            exact dustL_calm hb.1 hc _ _ ha h
          generalize dustF a b c d (m + 1) = y1 at *
          generalize dustF a b c d (m + 2) = y2 at *
          have L3 : r.2 = 4 → r'.2 = 4 := fun h => by rw [L1 h]
          clear L1 e e' hB hB'
          dsimp only
          generalize dustL b c m.toNat a = z at *
          generalize dustL (max 0 (b - u)) (min 10000 (c + v)) m.toNat a = z' at *
          refine cond_nd (fun h => absurd rfl h) (fun _ => cond_i (fun h => by cases h) (fun _ => ?_))
          repeat' first
            | rfl
            | refine cond_r (by omega) ?_
            | (refine cond_d (fun _ => ?_) (fun _ => ?_) <;> try (exfalso; omega))
            | (refine cond_nd (fun _ => ?_) (fun _ => ?_) <;> try (exfalso; omega))
        · have e := dustF_2 hB hm
          rw [e]
          exact cond_nd (fun _ => cond_dk rfl rfl) (fun h => by cases h)
      · have e := dustF_1 (m := m) (Bool.eq_false_iff.2 hB)
        rw [e]
        exact cond_nd (fun _ => cond_dk rfl rfl) (fun h => by cases h))
  have := boQ_true h1 (fun _ h => h)
  subst this
  exact ⟨h', h2⟩

theorem harmF_before {a b c d k : Int} (h : millB a b c d = true) (h0 : (harmF a b c d).2 = 0) (hk : 0 ≤ k ∧ k ≤ 65536) (hk2 : k < (harmF a b c d).1) : (dustF a b c d k).2 = 0 ∧ (dustF a b c d k).1 ≤ d := by
  rw [harmF_1 h] at h0 hk2
  rw [dustF_0 h hk]
  obtain ⟨_, _, _, hd⟩ := millB_of h
  exact ⟨rfl, harmL_before hd.2 _ 0 a h0 k.toNat (by unfold harmR at hk2; omega)⟩

theorem harmF_at {a b c d : Int} (h : millB a b c d = true) (h0 : (harmF a b c d).2 = 0) (hk : (harmF a b c d).1 ≤ 65536) : 0 ≤ (harmF a b c d).1 ∧ (dustF a b c d (harmF a b c d).1).2 = 0 ∧ min (d + 1) 1073741824 ≤ (dustF a b c d (harmF a b c d).1).1 := by
  rw [harmF_1 h] at h0 hk ⊢
  have hg := harmL_ge _ 0 a h0
  have hg' : 0 ≤ (harmR a b c d).1 := hg
  rw [dustF_0 h ⟨hg', hk⟩]
  exact ⟨hg', rfl, harmL_at _ 0 a h0 _ (by unfold harmR at hg' ⊢; omega)⟩

theorem harmF_never {a b c d k : Int} (h : millB a b c d = true) (h0 : (harmF a b c d).2 = 4) (hk : 0 ≤ k ∧ k ≤ 65536) : (dustF a b c d k).2 = 0 ∧ (dustF a b c d k).1 ≤ d := by
  rw [harmF_1 h] at h0
  rw [dustF_0 h hk]
  obtain ⟨ha, hb, hc, hd⟩ := millB_of h
  exact ⟨rfl, harmL_never hb.1 hc hd.2 _ 0 a (by omega) ha.1 h0 k.toNat⟩

theorem law6_v (a b c d u : Int) (hu : 0 ≤ u ∧ u ≤ 65535) : ∃ h', CallsV Try.prog 8 [.agg [I a, I b, I c, I d], .int .u16 u] ⟨0, []⟩ (.ret (.bool true)) h' := by
  obtain ⟨r, h', h1, h2⟩ := of_callN (tab_good hmix dT1_ok 20) (f := 8) (h := ⟨0, []⟩) (args := [.agg [I a, I b, I c, I d], .int .u16 u]) (K := boQ (fun b => b = true))
    (by
      rw [law6_ev]
      by_cases hB : millB a b c d = true
      · obtain ⟨ha, hb, hc, hd⟩ := millB_of hB
        have k1 := harmF_4 hB
        have k2 := fun h0 => harmF_at hB h0
        have k3 : (harmF a b c d).2 = 0 → 0 ≤ (harmF a b c d).1 := fun h => by
          rw [harmF_1 hB] at h ⊢
          exact harmL_ge _ 0 a h
        have k4 := fun h0 => harmF_never (k := u) hB h0 (by omega)
        have k5 : (harmF a b c d).2 = 0 → ¬ (harmF a b c d).1 = 0 → (dustF a b c d (min (remZ u (harmF a b c d).1) 65536)).2 = 0 ∧ (dustF a b c d (min (remZ u (harmF a b c d).1) 65536)).1 ≤ d := fun h h' => by
          have h3 := k3 h
          have r1 := remZ_nn (b := (harmF a b c d).1) hu.1
          have r2 := Int.emod_lt_of_pos u (show 0 < (harmF a b c d).1 by omega)
          have r3 := Int.emod_nonneg u h'
          exact harmF_before hB h (by omega) (by omega)
        have k6 : (harmF a b c d).2 = 4 → (harmF a b c d).1 = 0 := fun h => by
          rcases k1 with k1 | k1
          · omega
          · rw [k1]
        have k7 : (harmF a b c d).2 = 0 ∨ (harmF a b c d).2 = 4 := k1.imp id (fun h => by rw [h])
        clear k1 hB
        generalize dustF a b c d (min (remZ u (harmF a b c d).1) 65536) = y3 at *
        generalize dustF a b c d (harmF a b c d).1 = y2 at *
        generalize dustF a b c d u = y1 at *
        generalize harmF a b c d = r at *
        repeat' first
          | rfl
          | refine cond_r (by omega) ?_
          | (refine cond_d (fun _ => ?_) (fun _ => ?_) <;> try (exfalso; omega))
          | (refine cond_nd (fun _ => ?_) (fun _ => ?_) <;> try (exfalso; omega))
      · have e : harmF a b c d = (0, 1) := by unfold harmF; rw [Bool.eq_false_iff.2 hB]; rfl
        rw [e]
        repeat' first
          | rfl
          | exact cond_dk rfl (cond_dk rfl rfl)
          | refine cond_d (fun _ => ?_) (fun _ => ?_))
  have := boQ_true h1 (fun _ h => h)
  subst this
  exact ⟨h', h2⟩
end Go.Sx.Malt
