/- malt: the loop of the document's Play. -/
import Derived.Test.YtdfbhoejljidfaaMxc

namespace Go.Sx.Malt
open Go Go.Sx Go.Proofs
set_option maxRecDepth 100000

section
variable (ok : List Int → Int → Prop) (kf af bf : Int → Int)

theorem rtab_ok {v : Vat} : ∀ x ∈ [((20 : FuncId), stepT stB), (37, bhT v)], SpOk Try.prog x.1 x.2 := by
  intro x hx
  simp only [List.mem_cons, List.not_mem_nil, or_false] at hx
  rcases hx with rfl | rfl
  · intro lock args h K hK
    simp only [stepT] at hK
    split at hK
    · exact ⟨_, h, hK, lockP_refl _ _, rstep_v _ _ _ h⟩
    · exact hK.elim
  · intro lock args h K hK
    simp only [bhT] at hK
    split at hK
    · obtain ⟨⟨he, hv, hs⟩, hK⟩ := hK
      simp only [vat0, Vat.mk.injEq] at he
      obtain ⟨rfl, rfl, rfl, rfl, rfl, rfl, _⟩ := he
      exact ⟨_, h, hK, lockP_refl _ _, bh_v v _ _ _ hv hs h⟩
    · exact hK.elim

def rBg (a : VB) : List (Nat × VB) := [(0, a), (2, z6), (3, z8)]
def rE (ix e : Int) : Slots := [(4, .ptr (.own 2 0)), (5, .ptr (.own 3 0)), (6, I ix), (7, I e)]

noncomputable abbrev rBody : Code := loopB 0 (bodyOf Try.prog 13)
abbrev rH (v : Vat) : VH := ⟨5, rBs (.arr 3 ok (gS kf af bf)) v⟩
abbrev rG : VH := ⟨5, rBg (.arr 3 ok (gS kf af bf))⟩

theorem r_round {off : Int} {n c : Nat} {i : Int} {v : Vat} (hv : VOk v) (h0 : 0 ≤ i) (hi : i < n) (hn : n ≤ 256) (ho : 0 ≤ off) (hok : ok [] (off + i)) :
    (doE v (kf (off + i)) (af (off + i)) (bf (off + i)) = 0 ∧ SemC Try.prog true rBody 164 (rT off n c i) (rH ok kf af bf v) .normal (rT off n c (i + 1)) (rH ok kf af bf (doV v (kf (off + i)) (af (off + i)) (bf (off + i))))) ∨
    (doE v (kf (off + i)) (af (off + i)) (bf (off + i)) ≠ 0 ∧ SemC Try.prog true rBody 164 (rT off n c i) (rH ok kf af bf v) .ret (rE i (doE v (kf (off + i)) (af (off + i)) (bf (off + i)))) (rG ok kf af bf)) := by
  obtain ⟨e, t', h', h1, h2⟩ := code_of hmix (tab_good hmix (rtab_ok (v := v)) 20) (un := 10) (n := 164) (c := rBody) (t := rT off n c i) (h := rH ok kf af bf v)
    (K := rK (fun bs vs => doE v (kf (off + i)) (af (off + i)) (bf (off + i)) = 0 ∧ bs = [.arr 3 ok (gS kf af bf), .cells (vat6 (doV v (kf (off + i)) (af (off + i)) (bf (off + i)))) 25, z6, z8, .cells (vat8 (doV v (kf (off + i)) (af (off + i)) (bf (off + i)))) 29] ∧ vs = [I (i + 1), .slice (.el 0 [] off 0) n c, .ptr (.own 1 0), .ptr (.own 2 0), .ptr (.own 3 0), .ptr (.own 4 0)])
      (fun bs vs => ∃ e, doE v (kf (off + i)) (af (off + i)) (bf (off + i)) = e ∧ e ≠ 0 ∧ bs = [.arr 3 ok (gS kf af bf), z6, z8] ∧ vs = [.ptr (.own 2 0), .ptr (.own 3 0), I i, I e]) (fun _ _ _ => False))
    (by
      rw [rround_ev]
      refine cond_dk hi (cond_dk ⟨h0, hi⟩ (cond_dk ho ⟨hok, ?_⟩))
      cases hs : stB (kf (off + i)) (af (off + i)) (bf (off + i)) with
      | false => exact ⟨1, doE_1 hs, by decide, rfl, rfl⟩
      | true =>
        refine cond_dk ⟨h0, hi⟩ (cond_dk ho ⟨hok, ⟨rfl, hv, rfl⟩, ?_⟩)
        obtain ⟨k1, k2, k3, k4, k5, k6, k7, k8⟩ := stepV_b hv hs
        have hv' := hv
        obtain ⟨⟨g1, g2, g3⟩, ⟨g4, g5, g6⟩, ⟨g7, g8, g9⟩, ⟨t1, t2, t3⟩, ⟨t4, t5, t6⟩, ⟨t7, t8, t9⟩, ⟨s1, s2, s3⟩⟩ := hv
        repeat' first
          | refine cond_r (by omega) ?_
          | refine cond_d (fun _ => ?_) (fun _ => ?_)
        all_goals first
          | exact ⟨4, doE_4 hs (badV_t.2 (by omega)), by decide, rfl, rfl⟩
          | exact ⟨12, doE_12 hs (badV_f.2 (by omega)) (bigV_t.2 (by simp only [doV, addV]; omega)), by decide, rfl, rfl⟩
          | exact ⟨doE_0 hs (badV_f.2 (by omega)) (bigV_f.2 (by simp only [doV, addV]; omega)), rfl, rfl⟩)
  unfold rK at h1
  split at h1
  · obtain ⟨he, hb, hs⟩ := h1
    simp only [List.cons.injEq] at hb hs
    obtain ⟨b1, b2, b3, b4, b5, _⟩ := hb
    obtain ⟨s1, s2, s3, s4, s5, s6, _⟩ := hs
    exact .inl ⟨he, sem_weak h2 (Nat.le_refl 5) ⟨b1, b2, b3, b4, b5, trivial⟩ rfl ⟨s1, s2, s3, s4, s5, s6, trivial⟩ rfl (fun v hv => by cases hv)⟩
  · obtain ⟨e, he, h0, hb, hs⟩ := h1
    subst he
    simp only [List.cons.injEq] at hb hs
    obtain ⟨b1, b2, b3, _⟩ := hb
    obtain ⟨s1, s2, s3, s4, _⟩ := hs
    exact .inr ⟨h0, sem_weak h2 (Nat.le_refl 5) ⟨b1, b2, b3, trivial⟩ rfl ⟨s1, s2, s3, s4, trivial⟩ rfl (fun v hv => by cases hv)⟩
  · exact h1.elim
  · exact h1.elim

theorem r_end {off : Int} {n c : Nat} {i : Int} {v : Vat} (hi : i = n) :
    SemC Try.prog true rBody 164 (rT off n c i) (rH ok kf af bf v) (.exit 0) (rT off n c i) (rH ok kf af bf v) := by
  obtain ⟨e, t', h', h1, h2⟩ := code_of hmix (tab_good hmix (rtab_ok (v := v)) 20) (un := 10) (n := 164) (c := rBody) (t := rT off n c i) (h := rH ok kf af bf v)
    (K := rK (fun _ _ => False) (fun _ _ => False) (fun id bs vs => id = 0 ∧ bs = [.arr 3 ok (gS kf af bf), .cells (vat6 v) 25, z6, z8, .cells (vat8 v) 29] ∧ vs = [I i, .slice (.el 0 [] off 0) n c, .ptr (.own 1 0), .ptr (.own 2 0), .ptr (.own 3 0), .ptr (.own 4 0)]))
    (by
      rw [rround_ev]
      refine cond_d (fun h => ?_) (fun _ => ⟨rfl, rfl, rfl⟩)
      omega)
  unfold rK at h1
  split at h1
  · exact h1.elim
  · exact h1.elim
  · obtain ⟨rfl, hb, hs⟩ := h1
    simp only [List.cons.injEq] at hb hs
    obtain ⟨b1, b2, b3, b4, b5, _⟩ := hb
    obtain ⟨s1, s2, s3, s4, s5, s6, _⟩ := hs
    exact sem_weak h2 (Nat.le_refl 5) ⟨b1, b2, b3, b4, b5, trivial⟩ rfl ⟨s1, s2, s3, s4, s5, s6, trivial⟩ rfl (fun v hv => by cases hv)
  · exact h1.elim

theorem r_loop {off : Int} {n c : Nat} (hn : n ≤ 256) (ho : 0 ≤ off) (hok : ∀ j : Int, 0 ≤ j → j < (n : Int) → ok [] (off + j)) : ∀ (m : Nat) (j : Int) (v : Vat), VOk v → 0 ≤ j → j + m = n →
    ((plR kf af bf off m j v).2.2 = 0 ∧ LoopTo Try.prog true rBody 164 (rT off n c j) (rH ok kf af bf v) (.exit 0) (rT off n c n) (rH ok kf af bf (plR kf af bf off m j v).1)) ∨
    ((plR kf af bf off m j v).2.2 ≠ 0 ∧ LoopTo Try.prog true rBody 164 (rT off n c j) (rH ok kf af bf v) .ret (rE (plR kf af bf off m j v).2.1 (plR kf af bf off m j v).2.2) (rG ok kf af bf))
  | 0, j, v, hv, h0, hj => by
    left
    have hj' : j = n := by omega
    subst hj'
    exact ⟨rfl, .last (r_end ok kf af bf rfl) (by simp)⟩
  | m + 1, j, v, hv, h0, hj => by
    have hlt : j < n := by omega
    rcases r_round ok kf af bf (c := c) hv h0 hlt hn ho (hok j h0 hlt) with ⟨he, hs⟩ | ⟨he, hs⟩
    · have e1 : plR kf af bf off (m + 1) j v = plR kf af bf off m (j + 1) (doV v (kf (off + j)) (af (off + j)) (bf (off + j))) := playL_go he
      rw [e1]
      rcases r_loop hn ho hok m (j + 1) _ (doV_ok hv he) (by omega) (by omega) with ⟨g1, g2⟩ | ⟨g1, g2⟩
      · exact .inl ⟨g1, .next hs g2⟩
      · exact .inr ⟨g1, .next hs g2⟩
    · have e1 : plR kf af bf off (m + 1) j v = (v, j, doE v (kf (off + j)) (af (off + j)) (bf (off + j))) := playL_stop he
      rw [e1]
      exact .inr ⟨he, .last hs (by simp)⟩

/-- The loop as a row. -/
def rLB (off : Int) (n c : Nat) (v : Vat) : LT := fun lock t h K =>
  FitP lock h t (rH ok kf af bf v) (rT off n c 0) ∧
    (bif decide ((plR kf af bf off n 0 v).2.2 = 0) then K .normal (rT off n c n) (rH ok kf af bf (plR kf af bf off n 0 v).1) else K .ret (rE (plR kf af bf off n 0 v).2.1 (plR kf af bf off n 0 v).2.2) (rG ok kf af bf))

theorem rLB_ok {off : Int} {n c : Nat} {v : Vat} (hn : n ≤ 256) (ho : 0 ≤ off) (hok : ∀ j : Int, 0 ≤ j → j < (n : Int) → ok [] (off + j)) (hv : VOk v) : LSound Try.prog true (.block 0 (.loop rBody)) 164 (rLB ok kf af bf off n c v) := by
  intro lock t h K hK
  obtain ⟨hf, hK⟩ := hK
  obtain rfl := hf.1.1
  rcases r_loop ok kf af bf (c := c) hn ho hok n 0 v hv (Int.le_refl 0) (by omega) with ⟨he, hl⟩ | ⟨he, hl⟩
  · rw [decide_eq_true he] at hK
    exact ⟨_, _, _, hK, lock0 _ _, sem_fit hf (block_sound (loopTo_sound hl) (.inl ⟨rfl, rfl⟩))⟩
  · rw [decide_eq_false he] at hK
    exact ⟨_, _, _, hK, lock0 _ _, sem_fit hf (block_sound (loopTo_sound hl) (.inr ⟨by simp, rfl⟩))⟩
end
end Go.Sx.Malt
