/- malt: MaltDust. -/
import Derived.Test.YtdfbhoejljidfaaMdD

namespace Go.Sx.Malt
open Go Go.Sx Go.Proofs
set_option maxRecDepth 100000

theorem duT_ok {f : FuncId} (hf : ∀ a b c d m h, CallsV Try.prog f [.agg [I a, I b, I c, I d], I m] h (res2 (dustF a b c d m)) h) : SpOk Try.prog (duT f dustF).1 (duT f dustF).2 := by
  intro lock args h K hK
  simp only [duT] at hK
  split at hK
  · exact ⟨_, h, hK, lockP_refl _ _, hf _ _ _ _ _ h⟩
  · exact hK.elim

theorem haT_ok {f : FuncId} (hf : ∀ a b c d h, CallsV Try.prog f [.agg [I a, I b, I c, I d]] h (res2 (harmF a b c d)) h) : SpOk Try.prog (haT f harmF).1 (haT f harmF).2 := by
  intro lock args h K hK
  simp only [haT] at hK
  split at hK
  · exact ⟨_, h, hK, lockP_refl _ _, hf _ _ _ _ h⟩
  · exact hK.elim

theorem dT1_ok : ∀ x ∈ dT1 dustF harmF millB, SpOk Try.prog x.1 x.2 := by
  intro x hx
  simp only [dT1, List.mem_cons, List.not_mem_nil, or_false] at hx
  rcases hx with rfl | rfl | rfl | rfl | rfl | rfl
  · exact awT_ok
  · exact duT_ok dust_v
  · exact duT_ok rdust_v
  · exact haT_ok harm_v
  · exact haT_ok rharm_v
  · exact millT_ok rmill_v

theorem law4_v (a b c d m : Int) : ∃ h', CallsV Try.prog 6 [.agg [I a, I b, I c, I d], I m] ⟨0, []⟩ (.ret (.bool true)) h' := by
  obtain ⟨r, h', h1, h2⟩ := of_callN (tab_good hmix dT1_ok 20) (f := 6) (h := ⟨0, []⟩) (args := [.agg [I a, I b, I c, I d], I m]) (K := boQ (fun b => b = true))
    (by
      rw [law4_ev]
      repeat' first
        | rfl
        | exact cond_dk rfl (cond_dk rfl rfl)
        | refine cond_dk rfl ?_
        | (refine cond_nd (fun h => absurd rfl h) (fun _ => ?_))
        | refine cond_d (fun _ => ?_) (fun _ => ?_))
  have := boQ_true h1 (fun _ h => h)
  subst this
  exact ⟨h', h2⟩
end Go.Sx.Malt
