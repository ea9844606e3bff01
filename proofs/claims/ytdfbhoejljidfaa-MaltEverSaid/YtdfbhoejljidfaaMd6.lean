/- malt: contracts of both Dusts. -/
import Derived.Test.YtdfbhoejljidfaaMd5

namespace Go.Sx.Malt
open Go Go.Sx Go.Proofs
set_option maxRecDepth 100000

theorem mill_v (a b c d : Int) (h : VH) : CallsV Try.prog 45 [.agg [I a, I b, I c, I d]] h (.ret (.bool (millB a b c d))) h := by
  refine pure_v ?_ rfl rfl h
  rw [mill_ev a b c d (fun x => x = _)]
  repeat' (refine cond_d (fun _ => ?_) (fun _ => ?_))
  all_goals (refine ret_b ?_; simp only [millB, decide_eq_true_eq, Bool.false_eq_true, false_iff]; omega)

theorem rmill_v (a b c d : Int) (h : VH) : CallsV Try.prog 27 [.agg [I a, I b, I c, I d]] h (.ret (.bool (millB a b c d))) h := by
  refine pure_v ?_ rfl rfl h
  rw [rmill_ev a b c d (fun x => x = _)]
  repeat' (refine cond_d (fun _ => ?_) (fun _ => ?_))
  all_goals (refine ret_b ?_; simp only [millB, decide_eq_true_eq, Bool.false_eq_true, false_iff]; omega)

theorem within_v {x lo hi : Int} (hw : WOk x lo hi) (h : VH) : CallsV Try.prog 46 [I x, I lo, I hi] h (.ret (.bool true)) h := by
  refine pure_v ?_ rfl rfl h
  rw [within_ev x lo hi (fun x => x = _)]
  exact cond_dk hw.1 (by rw [decide_eq_true hw.2])

theorem rin_v {x lo hi : Int} (hw : WOk x lo hi) (h : VH) : CallsV Try.prog 44 [I x, I lo, I hi] h (.ret (.bool true)) h := by
  refine pure_v ?_ rfl rfl h
  rw [rin_ev x lo hi (fun x => x = _)]
  exact cond_dk hw.1 (by rw [decide_eq_true hw.2])

theorem mill1_ok {f : FuncId} (hf : ∀ a b c d h, CallsV Try.prog f [.agg [I a, I b, I c, I d]] h (.ret (.bool (millB a b c d))) h) : SpOk Try.prog (mill1 f).1 (mill1 f).2 := by
  intro lock args h K hK
  simp only [mill1] at hK
  split at hK
  · rename_i a b c d
    have := hf a b c d h
    rw [hK.1] at this
    exact ⟨_, h, hK.2, lockP_refl _ _, this⟩
  · exact hK.elim

theorem millT_ok {f : FuncId} (hf : ∀ a b c d h, CallsV Try.prog f [.agg [I a, I b, I c, I d]] h (.ret (.bool (millB a b c d))) h) : SpOk Try.prog (millT f millB).1 (millT f millB).2 := by
  intro lock args h K hK
  simp only [millT] at hK
  split at hK
  · exact ⟨_, h, hK, lockP_refl _ _, hf _ _ _ _ h⟩
  · exact hK.elim

theorem with1_ok {f : FuncId} (hf : ∀ {x lo hi : Int}, WOk x lo hi → ∀ h, CallsV Try.prog f [I x, I lo, I hi] h (.ret (.bool true)) h) : SpOk Try.prog (with1 f).1 (with1 f).2 := by
  intro lock args h K hK
  simp only [with1] at hK
  split at hK
  · exact ⟨_, h, hK.2, lockP_refl _ _, hf hK.1 h⟩
  · exact hK.elim

theorem blocks24 : blocksOf 0 (bodyOf Try.prog 24) = [.loop (loopB 0 (bodyOf Try.prog 24))] := by kernel_rfl
theorem blocks59 : blocksOf 0 (bodyOf Try.prog 59) = [.loop (loopB 0 (bodyOf Try.prog 59))] := by kernel_rfl
theorem nt24 : ntOf Try.prog 24 = 27 := by kernel_rfl
theorem nt59 : ntOf Try.prog 59 = 36 := by kernel_rfl

def res2 (x : Int × Int) : VRes := .ret (.tup [I x.1, I x.2])

theorem millB_of {a b c d : Int} (h : millB a b c d = true) : (0 ≤ a ∧ a ≤ 1073741824) ∧ (0 ≤ b ∧ b ≤ 1073741824) ∧ (0 ≤ c ∧ c ≤ 10000) ∧ (0 ≤ d ∧ d ≤ 1073741824) := by
  simpa only [millB, decide_eq_true_eq] using h

theorem dustF_1 {a b c d m : Int} (h : millB a b c d = false) : dustF a b c d m = (0, 1) := by unfold dustF; rw [h]; rfl
theorem dustF_2 {a b c d m : Int} (h : millB a b c d = true) (h2 : ¬ (0 ≤ m ∧ m ≤ 65536)) : dustF a b c d m = (0, 2) := by unfold dustF; rw [h, decide_eq_false h2]; rfl
theorem dustF_0 {a b c d m : Int} (h : millB a b c d = true) (h2 : 0 ≤ m ∧ m ≤ 65536) : dustF a b c d m = (dustL b c m.toNat a, 0) := by unfold dustF; rw [h, decide_eq_true h2]; rfl

/-- Two numbers. -/
def is2 (x : Int × Int) (u v : VV) : Prop := u = I x.1 ∧ v = I x.2

theorem is2_of {x : Int × Int} {p q : Int} (h : x = (p, q)) : is2 x (I p) (I q) := by subst h; exact ⟨rfl, rfl⟩

theorem duQ_res {x : Int × Int} {r : VRes} {h : VH} (hr : duQ (is2 x) r h) : r = res2 x := by
  unfold duQ at hr
  split at hr
  · obtain ⟨rfl, rfl⟩ := hr; rfl
  · exact hr.elim

theorem dust_v (a b c d m : Int) (h : VH) : CallsV Try.prog 23 [.agg [I a, I b, I c, I d], I m] h (res2 (dustF a b c d m)) h := by
  by_cases hv : millB a b c d = true ∧ 0 ≤ m ∧ m ≤ 65536
  · obtain ⟨hB, hm⟩ := hv
    obtain ⟨ha, hb, hc, _⟩ := millB_of hB
    have hL : LoopsOk Try.prog 59 [(0, aLB a b c d m (dustL b c m.toNat a))] := by
      intro x hx
      simp only [List.mem_singleton] at hx
      subst hx
      refine ⟨blocks59, ?_⟩
      rw [nt59]
      exact aLB_ok ha hb hc hm
    have ht : ∀ x ∈ [mill1 45, with1 46, ((59 : FuncId), spBL Try.prog 59 noSpec [(0, aLB a b c d m (dustL b c m.toNat a))] 10 20)], SpOk Try.prog x.1 x.2 := by
      intro x hx
      simp only [List.mem_cons, List.not_mem_nil, or_false] at hx
      rcases hx with rfl | rfl | rfl
      · exact mill1_ok mill_v
      · exact with1_ok within_v
      · exact spBL_ok hmix (fun _ _ h => by cases h) hL
    obtain ⟨r, h', h1, h2⟩ := of_callN (tab_good hmix ht 20) (f := 23) (h := ⟨0, []⟩) (args := [.agg [I a, I b, I c, I d], I m]) (K := duQ (is2 (dustF a b c d m)))
      (by
        rw [dust_ev]
        have e := is2_of (dustF_0 hB hm)
        exact ⟨hB, hm, ⟨⟨rfl, rfl, rfl, rfl, rfl, rfl, rfl, rfl, trivial⟩, rfl, rfl, rfl, rfl, trivial⟩, ⟨e, e⟩, ⟨e, e⟩, fun _ hr => by rw [← hr]; exact ⟨e, e⟩⟩)
    have := duQ_res h1
    subst this
    exact calls_lift0 h2 rfl rfl
  · have ht : ∀ x ∈ [millT 45 millB, ((59 : FuncId), (fun _ _ _ _ => False : Spec1))], SpOk Try.prog x.1 x.2 := by
      intro x hx
      simp only [List.mem_cons, List.not_mem_nil, or_false] at hx
      rcases hx with rfl | rfl
      · exact millT_ok mill_v
      · exact fun _ _ _ _ h => h.elim
    obtain ⟨r, h', h1, h2⟩ := of_callN (tab_good hmix ht 20) (f := 23) (h := ⟨0, []⟩) (args := [.agg [I a, I b, I c, I d], I m]) (K := duQ (is2 (dustF a b c d m)))
      (by
        rw [dustx_ev]
        cases hB : millB a b c d with
        | false => exact is2_of (dustF_1 hB)
        | true =>
          have hm : ¬ (0 ≤ m ∧ m ≤ 65536) := fun h => hv ⟨hB, h⟩
          refine cond_i (fun h => by cases h) (fun _ => ?_)
          refine cond_d (fun _ => cond_nd (fun _ => is2_of (dustF_2 hB hm)) (fun h => ?_)) (fun _ => is2_of (dustF_2 hB hm))
          omega)
    have := duQ_res h1
    subst this
    exact calls_lift0 h2 rfl rfl

theorem rdust_v (a b c d m : Int) (h : VH) : CallsV Try.prog 24 [.agg [I a, I b, I c, I d], I m] h (res2 (dustF a b c d m)) h := by
  by_cases hv : millB a b c d = true ∧ 0 ≤ m ∧ m ≤ 65536
  · obtain ⟨hB, hm⟩ := hv
    obtain ⟨ha, hb, hc, _⟩ := millB_of hB
    have hL : LoopsOk Try.prog 24 [(0, rdB a b c d m a)] := by
      intro x hx
      simp only [List.mem_singleton] at hx
      subst hx
      refine ⟨blocks24, ?_⟩
      rw [nt24]
      exact rdB_ok hb hc hm ha
    have ht : ∀ x ∈ [mill1 27, with1 44], SpOk Try.prog x.1 x.2 := by
      intro x hx
      simp only [List.mem_cons, List.not_mem_nil, or_false] at hx
      rcases hx with rfl | rfl
      · exact mill1_ok rmill_v
      · exact with1_ok rin_v
    obtain ⟨r, h', h1, h2⟩ := of_sp (spBL_ok hmix (tabs_ok ht) hL (un := 10) (fu := 20)) (h := ⟨0, []⟩) (args := [.agg [I a, I b, I c, I d], I m]) (K := duQ (is2 (dustF a b c d m)))
      (by
        rw [rdust_ev]
        have e := is2_of (dustF_0 hB hm)
        exact ⟨hB, hm, ⟨⟨rfl, rfl, rfl, trivial⟩, rfl, rfl, rfl, rfl, trivial⟩, fun y hy => by rw [hy]; exact e, fun hr => by rw [← hr]; exact e⟩)
    have := duQ_res h1
    subst this
    exact calls_lift0 h2 rfl rfl
  · obtain ⟨r, h', h1, h2⟩ := of_sp (spBL_ok hmix (tabs_ok (l := [millT 27 millB]) (by
        intro x hx
        simp only [List.mem_singleton] at hx
        subst hx
        exact millT_ok rmill_v)) (f := 24) (l := [(0, fun _ _ _ _ => False)]) (by
          intro x hx
          simp only [List.mem_singleton] at hx
          subst hx
          exact ⟨blocks24, fun _ _ _ _ h => h.elim⟩) (un := 10) (fu := 20)) (h := ⟨0, []⟩) (args := [.agg [I a, I b, I c, I d], I m]) (K := duQ (is2 (dustF a b c d m)))
      (by
        rw [rdustx_ev]
        cases hB : millB a b c d with
        | false => exact is2_of (dustF_1 hB)
        | true =>
          have hm : ¬ (0 ≤ m ∧ m ≤ 65536) := fun h => hv ⟨hB, h⟩
          refine cond_i (fun h => by cases h) (fun _ => ?_)
          refine cond_d (fun _ => cond_nd (fun _ => is2_of (dustF_2 hB hm)) (fun h => ?_)) (fun _ => is2_of (dustF_2 hB hm))
          omega)
    have := duQ_res h1
    subst this
    exact calls_lift0 h2 rfl rfl
end Go.Sx.Malt
