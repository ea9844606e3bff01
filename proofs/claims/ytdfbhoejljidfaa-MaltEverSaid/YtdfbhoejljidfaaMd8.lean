/- malt: the document's Harm. -/
import Derived.Test.YtdfbhoejljidfaaMd7

namespace Go.Sx.Malt
open Go Go.Sx Go.Proofs
set_option maxRecDepth 100000

noncomputable abbrev rhBody : Code := loopB 0 (bodyOf Try.prog 26)

theorem harmL_hit {b c d i x : Int} {n : Nat} (h : x > d) : harmL b c d (n + 1) i x = (i, 0) := by
  show (bif decide _ then _ else _) = _
  rw [decide_eq_true h]; rfl

theorem harmL_none {b c d i x : Int} {n : Nat} (h : ¬ x > d) (h2 : latF b c x ≤ x) : harmL b c d (n + 1) i x = (0, 4) := by
  show (bif decide _ then _ else (bif decide _ then _ else _)) = _
  rw [decide_eq_false h, decide_eq_true h2]; rfl

theorem harmL_go {b c d i x : Int} {n : Nat} (h : ¬ x > d) (h2 : ¬ latF b c x ≤ x) : harmL b c d (n + 1) i x = harmL b c d n (i + 1) (latF b c x) := by
  show (bif decide _ then _ else (bif decide _ then _ else _)) = _
  rw [decide_eq_false h, decide_eq_false h2]; rfl

theorem rh_round {a b c d x i : Int} (hb : 0 ≤ b ∧ b ≤ 1073741824) (hc : 0 ≤ c ∧ c ≤ 10000) (hd : 0 ≤ d ∧ d ≤ 1073741824) (hx : 0 ≤ x ∧ x ≤ 2147483648) (hi : 0 ≤ i ∧ i ≤ x) :
    (∃ p q, (∀ n : Nat, harmL b c d (n + 1) i x = (p, q)) ∧ SemC Try.prog true rhBody 26 (rhT x i) (rdH a b c d) .ret [(2, I p), (3, I q)] ⟨1, []⟩) ∨
    ((¬ x > d ∧ ¬ latF b c x ≤ x) ∧ SemC Try.prog true rhBody 26 (rhT x i) (rdH a b c d) .normal (rhT (latF b c x) (i + 1)) (rdH a b c d)) := by
  obtain ⟨e, t', h', h1, h2⟩ := code_of hmix good0 (un := 10) (n := 26) (c := rhBody) (t := rhT x i) (h := rdH a b c d)
    (K := rhK (fun bs vs => (¬ x > d ∧ ¬ latF b c x ≤ x) ∧ bs = [.cells [I a, I b, I c, I d] 50] ∧ vs = [I (latF b c x), I (i + 1), .ptr (.own 0 0)]) (fun vs => ∃ p q, (∀ n : Nat, harmL b c d (n + 1) i x = (p, q)) ∧ vs = [I p, I q]))
    (by
      rw [rhr_ev]
      have hl := latF_b (made := b) hc hx.1
      have hz := latZ (b := b) hc hx.1
      have p1 : 0 ≤ (10000 - c) * x := Int.mul_nonneg (by omega) hx.1
      have p2 : (10000 - c) * x ≤ 10000 * x := Int.mul_le_mul_of_nonneg_right (by omega) hx.1
      have hq : quoZ ((10000 - c) * x + 10000 - 1) 10000 = latF b c x - b := by omega
      rw [hz]
      repeat' first
        | refine cond_r (by omega) ?_
        | refine cond_d (fun _ => ?_) (fun _ => ?_)
      all_goals first
        | exact ⟨i, 0, fun n => harmL_hit (by omega), rfl⟩
        | exact ⟨0, 4, fun n => harmL_none (by omega) (by omega), rfl⟩
        | exact ⟨⟨by omega, by omega⟩, rfl, rfl⟩)
  unfold rhK at h1
  split at h1
  · obtain ⟨hn, hb', hs⟩ := h1
    simp only [List.cons.injEq] at hb' hs
    exact .inr ⟨hn, sem_weak h2 (Nat.le_refl 1) ⟨hb'.1, trivial⟩ rfl ⟨hs.1, hs.2.1, hs.2.2.1, trivial⟩ rfl (fun v hv => by cases hv)⟩
  · obtain ⟨p, q, hn, hs⟩ := h1
    simp only [List.cons.injEq] at hs
    exact .inl ⟨p, q, hn, sem_weak h2 (Nat.le_refl 1) trivial rfl ⟨hs.1, hs.2.1, trivial⟩ rfl (fun v hv => by cases hv)⟩
  · exact h1.elim

theorem rh_loop {a b c d : Int} (hb : 0 ≤ b ∧ b ≤ 1073741824) (hc : 0 ≤ c ∧ c ≤ 10000) (hd : 0 ≤ d ∧ d ≤ 1073741824) : ∀ (n : Nat) (i x : Int), (0 ≤ x ∧ x ≤ 2147483648) → (0 ≤ i ∧ i ≤ x) → d + 1 - x ≤ n →
    LoopTo Try.prog true rhBody 26 (rhT x i) (rdH a b c d) .ret [(2, I (harmL b c d (n + 1) i x).1), (3, I (harmL b c d (n + 1) i x).2)] ⟨1, []⟩
  | n, i, x, hx, hi, hn => by
    rcases rh_round (a := a) hb hc hd hx hi with ⟨p, q, h1, hs⟩ | ⟨⟨h1, h2⟩, hs⟩
    · rw [h1 n]
      exact .last hs (by simp)
    · cases n with
      | zero => omega
      | succ n =>
        have hl := latF_b (made := b) hc hx.1
        rw [harmL_go h1 h2]
        exact .next hs (rh_loop hb hc hd n (i + 1) (latF b c x) (by omega) (by omega) (by omega))

/-- The first minute at which the dust of a mill harms. -/
def harmR (a b c d : Int) : Int × Int := harmL b c d ((d + 1 - a).toNat + 1) 0 a

theorem rhB_ok {a b c d : Int} (ha : 0 ≤ a ∧ a ≤ 1073741824) (hb : 0 ≤ b ∧ b ≤ 1073741824) (hc : 0 ≤ c ∧ c ≤ 10000) (hd : 0 ≤ d ∧ d ≤ 1073741824) : LSound Try.prog true (.block 0 (.loop rhBody)) 26 (rhB a b c d (harmR a b c d).1 (harmR a b c d).2) := by
  intro lock t h K hK
  obtain ⟨hf, hK⟩ := hK
  obtain rfl := hf.1.1
  have hl := rh_loop (a := a) hb hc hd (d + 1 - a).toNat 0 a (by omega) (by omega) (by omega)
  exact ⟨_, _, _, hK, lock0 _ _, sem_fit hf (block_sound (loopTo_sound hl) (.inr ⟨by simp, rfl⟩))⟩

def harmF (a b c d : Int) : Int × Int := bif millB a b c d then harmR a b c d else (0, 1)

theorem blocks26 : blocksOf 0 (bodyOf Try.prog 26) = [.loop (loopB 0 (bodyOf Try.prog 26))] := by kernel_rfl
theorem nt26 : ntOf Try.prog 26 = 26 := by kernel_rfl

theorem rharm_v (a b c d : Int) (h : VH) : CallsV Try.prog 26 [.agg [I a, I b, I c, I d]] h (res2 (harmF a b c d)) h := by
  cases hB : millB a b c d with
  | true =>
    obtain ⟨ha, hb, hc, hd⟩ := millB_of hB
    have hL : LoopsOk Try.prog 26 [(0, rhB a b c d (harmR a b c d).1 (harmR a b c d).2)] := by
      intro x hx
      simp only [List.mem_singleton] at hx
      subst hx
      refine ⟨blocks26, ?_⟩
      rw [nt26]
      exact rhB_ok ha hb hc hd
    obtain ⟨r, h', h1, h2⟩ := of_sp (spBL_ok hmix (tabs_ok (l := [mill1 27]) (by
        intro x hx
        simp only [List.mem_singleton] at hx
        subst hx
        exact mill1_ok rmill_v)) hL (un := 10) (fu := 20)) (h := ⟨0, []⟩) (args := [.agg [I a, I b, I c, I d]]) (K := duQ (is2 (harmF a b c d)))
      (by
        rw [rharm_ev]
        exact ⟨hB, ⟨⟨rfl, rfl, rfl, trivial⟩, rfl, rfl, rfl, trivial⟩, is2_of (by unfold harmF; rw [hB]; rfl)⟩)
    have := duQ_res h1
    subst this
    exact calls_lift0 h2 rfl rfl
  | false =>
    obtain ⟨r, h', h1, h2⟩ := of_sp (spBL_ok hmix (tabs_ok (l := [millT 27 millB]) (by
        intro x hx
        simp only [List.mem_singleton] at hx
        subst hx
        exact millT_ok rmill_v)) (f := 26) (l := [(0, fun _ _ _ _ => False)]) (by
          intro x hx
          simp only [List.mem_singleton] at hx
          subst hx
          exact ⟨blocks26, fun _ _ _ _ h => h.elim⟩) (un := 10) (fu := 20)) (h := ⟨0, []⟩) (args := [.agg [I a, I b, I c, I d]]) (K := duQ (is2 (harmF a b c d)))
      (by
        rw [rharmx_ev, hB]
        exact is2_of (by unfold harmF; rw [hB]; rfl))
    have := duQ_res h1
    subst this
    exact calls_lift0 h2 rfl rfl
end Go.Sx.Malt
