/- malt: the document's Dust. -/
import Derived.Test.YtdfbhoejljidfaaMd1

namespace Go.Sx.Malt
open Go Go.Sx Go.Proofs
set_option maxRecDepth 100000

/-- First, Made, Drawn, Limit; minutes. -/
def dustF (a b c d m : Int) : Int × Int :=
  bif millB a b c d then (bif decide (0 ≤ m ∧ m ≤ 65536) then (dustL b c m.toNat a, 0) else (0, 2)) else (0, 1)

noncomputable abbrev rdBody : Code := loopB 0 (bodyOf Try.prog 24)

theorem latZ {b c x : Int} (hc : 0 ≤ c ∧ c ≤ 10000) (hx : 0 ≤ x) : quoZ ((10000 - c) * x + 10000 - 1) 10000 + b = latF b c x := by
  have h2 : 0 ≤ (10000 - c) * x := Int.mul_nonneg (by omega) hx
  rw [quoZ_nn (by omega)]
  rfl

theorem rd_round {a b c d m x i : Int} (hb : 0 ≤ b ∧ b ≤ 1073741824) (hc : 0 ≤ c ∧ c ≤ 10000) (hx : 0 ≤ x ∧ x ≤ 1073741824) (h0 : 0 ≤ i) (hi : i < m) (hm : m ≤ 65536) :
    (latF b c x > 1073741824 ∧ SemC Try.prog true rdBody 27 (rdT m x i) (rdH a b c d) .ret [(4, I 1073741824), (5, I 0)] ⟨1, []⟩) ∨
    (¬ latF b c x > 1073741824 ∧ SemC Try.prog true rdBody 27 (rdT m x i) (rdH a b c d) .normal (rdT m (latF b c x) (i + 1)) (rdH a b c d)) := by
  obtain ⟨e, t', h', h1, h2⟩ := code_of hmix good0 (un := 10) (n := 27) (c := rdBody) (t := rdT m x i) (h := rdH a b c d)
    (K := rdK (fun bs vs => ¬ latF b c x > 1073741824 ∧ bs = [.cells [I a, I b, I c, I d] 50] ∧ vs = [I (latF b c x), I (i + 1), I m, .ptr (.own 0 0)]) (fun vs => latF b c x > 1073741824 ∧ vs = [I 1073741824, I 0]) (fun _ _ _ => False))
    (by
      rw [rdround_ev]
      have hl := latF_b (made := b) hc hx.1
      have hz := latZ (b := b) hc hx.1
      have p1 : 0 ≤ (10000 - c) * x := Int.mul_nonneg (by omega) hx.1
      have p2 : (10000 - c) * x ≤ 10000 * x := Int.mul_le_mul_of_nonneg_right (by omega) hx.1
      have hq : quoZ ((10000 - c) * x + 10000 - 1) 10000 = latF b c x - b := by omega
      rw [hz]
      repeat' first
        | refine cond_r (by omega) ?_
        | (refine cond_d (fun _ => ?_) (fun _ => ?_) <;> try (exfalso; omega))
      · exact ⟨by omega, rfl⟩
      · exact ⟨by omega, rfl, rfl⟩)
  unfold rdK at h1
  split at h1
  · obtain ⟨hn, hb, hs⟩ := h1
    simp only [List.cons.injEq] at hb hs
    exact .inr ⟨hn, sem_weak h2 (Nat.le_refl 1) ⟨hb.1, trivial⟩ rfl ⟨hs.1, hs.2.1, hs.2.2.1, hs.2.2.2.1, trivial⟩ rfl (fun v hv => by cases hv)⟩
  · obtain ⟨hn, hs⟩ := h1
    simp only [List.cons.injEq] at hs
    exact .inl ⟨hn, sem_weak h2 (Nat.le_refl 1) trivial rfl ⟨hs.1, hs.2.1, trivial⟩ rfl (fun v hv => by cases hv)⟩
  · exact h1.elim
  · exact h1.elim

theorem rd_end {a b c d m x i : Int} (hi : i = m) : SemC Try.prog true rdBody 27 (rdT m x i) (rdH a b c d) (.exit 0) (rdT m x i) (rdH a b c d) := by
  obtain ⟨e, t', h', h1, h2⟩ := code_of hmix good0 (un := 10) (n := 27) (c := rdBody) (t := rdT m x i) (h := rdH a b c d)
    (K := rdK (fun _ _ => False) (fun _ => False) (fun id bs vs => id = 0 ∧ bs = [.cells [I a, I b, I c, I d] 50] ∧ vs = [I x, I i, I m, .ptr (.own 0 0)]))
    (by
      rw [rdround_ev]
      refine cond_d (fun h => ?_) (fun _ => ⟨rfl, rfl, rfl⟩)
      omega)
  unfold rdK at h1
  split at h1
  · exact h1.elim
  · exact h1.elim
  · obtain ⟨rfl, hb, hs⟩ := h1
    simp only [List.cons.injEq] at hb hs
    exact sem_weak h2 (Nat.le_refl 1) ⟨hb.1, trivial⟩ rfl ⟨hs.1, hs.2.1, hs.2.2.1, hs.2.2.2.1, trivial⟩ rfl (fun v hv => by cases hv)
  · exact h1.elim

theorem rd_loop {a b c d m : Int} (hb : 0 ≤ b ∧ b ≤ 1073741824) (hc : 0 ≤ c ∧ c ≤ 10000) (hm : m ≤ 65536) : ∀ (n : Nat) (i x : Int), 0 ≤ i → i + n = m → (0 ≤ x ∧ x ≤ 1073741824) →
    LoopTo Try.prog true rdBody 27 (rdT m x i) (rdH a b c d) (.exit 0) (rdT m (dustL b c n x) m) (rdH a b c d) ∨
    (dustL b c n x = 1073741824 ∧ LoopTo Try.prog true rdBody 27 (rdT m x i) (rdH a b c d) .ret [(4, I 1073741824), (5, I 0)] ⟨1, []⟩)
  | 0, i, x, h0, hi, hx => by
    have : i = m := by omega
    subst this
    exact .inl (.last (rd_end rfl) (by simp))
  | n + 1, i, x, h0, hi, hx => by
    rcases rd_round (a := a) (d := d) hb hc hx h0 (by omega) hm with ⟨hl, hs⟩ | ⟨hl, hs⟩
    · exact .inr ⟨dustL_big hl, .last hs (by simp)⟩
    · rw [dustL_go hl]
      have hb2 := latF_b (made := b) hc hx.1
      rcases rd_loop (a := a) (d := d) hb hc hm n (i + 1) (latF b c x) (by omega) (by omega) (by omega) with g | ⟨g1, g2⟩
      · exact .inl (.next hs g)
      · exact .inr ⟨g1, .next hs g2⟩

/-- The loop as a row. -/
def rdB (a b c d m x : Int) : LT := fun lock t h K =>
  FitP lock h t (rdH a b c d) (rdT m x 0) ∧ (∀ y : Int, y = dustL b c m.toNat x → K .normal (rdT m y m) (rdH a b c d)) ∧ (dustL b c m.toNat x = 1073741824 → K .ret [(4, I 1073741824), (5, I 0)] ⟨1, []⟩)

theorem rdB_ok {a b c d m x : Int} (hb : 0 ≤ b ∧ b ≤ 1073741824) (hc : 0 ≤ c ∧ c ≤ 10000) (hm : 0 ≤ m ∧ m ≤ 65536) (hx : 0 ≤ x ∧ x ≤ 1073741824) : LSound Try.prog true (.block 0 (.loop rdBody)) 27 (rdB a b c d m x) := by
  intro lock t h K hK
  obtain ⟨hf, hK, hR⟩ := hK
  obtain rfl := hf.1.1
  rcases rd_loop (a := a) (d := d) (m := m) hb hc hm.2 m.toNat 0 x (Int.le_refl 0) (by omega) hx with hl | ⟨hy, hl⟩
  · exact ⟨_, _, _, hK _ rfl, lock0 _ _, sem_fit hf (block_sound (loopTo_sound hl) (.inl ⟨rfl, rfl⟩))⟩
  · exact ⟨_, _, _, hR hy, lock0 _ _, sem_fit hf (block_sound (loopTo_sound hl) (.inr ⟨by simp, rfl⟩))⟩
end Go.Sx.Malt
