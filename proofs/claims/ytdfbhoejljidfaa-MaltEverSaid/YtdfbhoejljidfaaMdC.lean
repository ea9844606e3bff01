/- malt: contract of Harm. -/
import Derived.Test.YtdfbhoejljidfaaMdB

namespace Go.Sx.Malt
open Go Go.Sx Go.Proofs
set_option maxRecDepth 100000

theorem latF_0 {b x : Int} : latF b 0 x = x + b := by
  unfold latF
  omega

/-- When nothing is drawn off, the dust grows evenly. -/
theorem harmL_0 {b d : Int} (hb : 0 < b) : ∀ (n : Nat) (i x : Int), 0 ≤ x → x ≤ d → d + 1 - x ≤ n → harmL b 0 d (n + 1) i x = (i + ((d - x) / b + 1), 0)
  | 0, _, _, _, _, _ => by omega
  | n + 1, i, x, h0, hx, hn => by
    have hl := latF_0 (b := b) (x := x)
    rw [harmL_go (by omega) (by omega), hl]
    by_cases h : x + b > d
    · rw [harmL_hit h, Int.ediv_eq_zero_of_lt (by omega) (by omega)]
      congr 1
    · rw [harmL_0 hb n (i + 1) (x + b) (by omega) (by omega) (by omega)]
      have e : (d - x) / b = (d - (x + b)) / b + 1 := by
        have := Int.add_mul_ediv_right (d - (x + b)) 1 (show b ≠ 0 by omega)
        rw [← this]
        congr 1
        omega
      rw [e]
      congr 1
      omega

theorem harmR_0 {a b d : Int} (hb : 0 < b) (ha : 0 ≤ a) (hd : a ≤ d) : harmR a b 0 d = (quoZ (d - a) b + 1, 0) := by
  unfold harmR
  rw [harmL_0 hb _ 0 a ha hd (by omega), quoZ_nn (by omega)]
  congr 1
  omega

theorem hLB_ok {a b c d : Int} (ha : 0 ≤ a ∧ a ≤ 1073741824) (hb : 0 ≤ b ∧ b ≤ 1073741824) (hc : 0 ≤ c ∧ c ≤ 10000) (hd : 0 ≤ d ∧ d ≤ 1073741824) : LSound Try.prog true (.block 0 (.loop aBody)) 36 (hLB a b c d (harmR a b c d).1 (harmR a b c d).2) := by
  intro lock t h K hK
  unfold hLB at hK
  split at hK
  · split at hK
    · exact hLk_ok (.inl rfl) ha hb hc hd lock t h K hK
    · exact hLk_ok (.inr (.inl rfl)) ha hb hc hd lock t h K hK
    · exact hLk_ok (.inr (.inr rfl)) ha hb hc hd lock t h K hK
  · exact hK.elim

theorem harmF_1 {a b c d : Int} (h : millB a b c d = true) : harmF a b c d = harmR a b c d := by unfold harmF; rw [h]; rfl

theorem harm_v (a b c d : Int) (h : VH) : CallsV Try.prog 25 [.agg [I a, I b, I c, I d]] h (res2 (harmF a b c d)) h := by
  cases hB : millB a b c d with
  | true =>
    obtain ⟨ha, hb, hc, hd⟩ := millB_of hB
    have hL : LoopsOk Try.prog 59 [(0, hLB a b c d (harmR a b c d).1 (harmR a b c d).2)] := by
      intro x hx
      simp only [List.mem_singleton] at hx
      subst hx
      refine ⟨blocks59, ?_⟩
      rw [nt59]
      exact hLB_ok ha hb hc hd
    have ht : ∀ x ∈ [mill1 45, ((59 : FuncId), spBL Try.prog 59 noSpec [(0, hLB a b c d (harmR a b c d).1 (harmR a b c d).2)] 10 20)], SpOk Try.prog x.1 x.2 := by
      intro x hx
      simp only [List.mem_cons, List.not_mem_nil, or_false] at hx
      rcases hx with rfl | rfl
      · exact mill1_ok mill_v
      · exact spBL_ok hmix (fun _ _ h => by cases h) hL
    obtain ⟨r, h', h1, h2⟩ := of_callN (tab_good hmix ht 20) (f := 25) (h := ⟨0, []⟩) (args := [.agg [I a, I b, I c, I d]]) (K := duQ (is2 (harmF a b c d)))
      (by
        rw [harm_ev, harmF_1 hB]
        have e1 : (harmR a b c d).2 = 0 → is2 (harmR a b c d) (I (harmR a b c d).1) (I 0) := fun h => ⟨rfl, by rw [h]⟩
        have e2 : (harmR a b c d).1 = 0 ∧ (harmR a b c d).2 = 4 → is2 (harmR a b c d) (I 0) (I 4) := fun h => ⟨by rw [h.1], by rw [h.2]⟩
        refine ⟨hB, cond_d (fun hc0 => cond_d (fun hb0 => cond_d (fun had => ?_) (fun _ => ?_)) (fun _ => ?_)) (fun _ => ?_)⟩
        · subst hc0
          have hq := quoZ_nn (b := b) (show 0 ≤ d - a by omega)
          have q1 : 0 ≤ (d - a) / b := Int.ediv_nonneg (by omega) (by omega)
          have q2 : (d - a) / b ≤ d - a := Int.ediv_le_self _ (by omega)
          have e := is2_of (harmR_0 (show 0 < b by omega) ha.1 had)
          refine cond_r (by omega) (cond_d (fun h => by omega) (fun _ => cond_r (by omega) (cond_r (by omega) e)))
        all_goals exact ⟨⟨⟨rfl, rfl, rfl, rfl, rfl, rfl, rfl, rfl, trivial⟩, rfl, rfl, rfl, rfl, trivial⟩, fun h => ⟨e1 h, e1 h⟩, fun h => ⟨e2 h, e2 h⟩⟩)
    have := duQ_res h1
    subst this
    exact calls_lift0 h2 rfl rfl
  | false =>
    have ht : ∀ x ∈ [millT 45 millB, ((59 : FuncId), (fun _ _ _ _ => False : Spec1))], SpOk Try.prog x.1 x.2 := by
      intro x hx
      simp only [List.mem_cons, List.not_mem_nil, or_false] at hx
      rcases hx with rfl | rfl
      · exact millT_ok mill_v
      · exact fun _ _ _ _ h => h.elim
    obtain ⟨r, h', h1, h2⟩ := of_callN (tab_good hmix ht 20) (f := 25) (h := ⟨0, []⟩) (args := [.agg [I a, I b, I c, I d]]) (K := duQ (is2 (harmF a b c d)))
      (by
        rw [harmx_ev, hB]
        exact is2_of (by unfold harmF; rw [hB]; rfl))
    have := duQ_res h1
    subst this
    exact calls_lift0 h2 rfl rfl
end Go.Sx.Malt
