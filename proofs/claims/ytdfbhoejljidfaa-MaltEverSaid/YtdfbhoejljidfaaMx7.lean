/- malt: the loop of Play. -/
import Derived.Test.YtdfbhoejljidfaaMx6

namespace Go.Sx.Malt
open Go Go.Sx Go.Proofs
set_option maxRecDepth 100000

section
variable (ok : List Int → Int → Prop) (kf af bf : Int → Int)

theorem doT_ok {v : Vat} (hv : VOk v) : ∀ x ∈ [((36 : FuncId), doT ok kf af bf v)], SpOk Try.prog x.1 x.2 := by
  intro x hx
  simp only [List.mem_singleton] at hx
  subst hx
  intro lock args h K hK
  simp only [doT] at hK
  split at hK
  · rename_i k a b
    obtain ⟨⟨rfl, rfl⟩, hK⟩ := hK
    rcases do_v ok kf af bf v k a b hv with ⟨e, hc⟩ | ⟨e, hc⟩
    · rw [decide_eq_true e] at hK
      exact ⟨_, _, hK, lock0 _ _, hc⟩
    · rw [decide_eq_false e] at hK
      exact ⟨_, _, hK, lock0 _ _, hc⟩
  · exact hK.elim

def plP (ix : Int) : Slots := [(7, .ptr (.own 4 0)), (6, I ix), (5, .ptr (.own 3 0)), (4, .ptr (.own 2 0))]

noncomputable abbrev plBody : Code := loopB 1 (bodyOf Try.prog 12)
abbrev plH (v : Vat) : VH := ⟨6, plBs (.arr 3 ok (gS kf af bf)) (vatV v)⟩
abbrev plG : VH := ⟨6, plBp (.arr 3 ok (gS kf af bf))⟩

theorem play_round {off : Int} {n c : Nat} {j ix : Int} {v : Vat} (hv : VOk v) (h0 : 0 ≤ j) (hj : j < n) (hn : n ≤ 256) (ho : 0 ≤ off) (hok : ok [] (off + j)) :
    (doE v (kf (off + j)) (af (off + j)) (bf (off + j)) = 0 ∧ SemC Try.prog true plBody 90 (plT off n c j ix) (plH ok kf af bf v) .normal (plT off n c (j + 1) j) (plH ok kf af bf (doV v (kf (off + j)) (af (off + j)) (bf (off + j))))) ∨
    (doE v (kf (off + j)) (af (off + j)) (bf (off + j)) ≠ 0 ∧ SemC Try.prog true plBody 90 (plT off n c j ix) (plH ok kf af bf v) (.panic (mis (doE v (kf (off + j)) (af (off + j)) (bf (off + j))))) (plP j) (plG ok kf af bf)) := by
  obtain ⟨e, t', h', h1, h2⟩ := code_of hmix (tab_good hmix (doT_ok ok kf af bf hv) 20) (un := 10) (n := 90) (c := plBody) (t := plT off n c j ix) (h := plH ok kf af bf v)
    (K := plK (fun bs vs => doE v (kf (off + j)) (af (off + j)) (bf (off + j)) = 0 ∧ bs = [.arr 3 ok (gS kf af bf), z6, z8, z1, vatV (doV v (kf (off + j)) (af (off + j)) (bf (off + j)))] ∧ vs = [I (j + 1), I n, .ptr (.own 5 0), .ptr (.own 4 0), I j, .ptr (.own 3 0), .ptr (.own 2 0), .slice (.el 0 [] off 0) n c])
      (fun w bs vs => doE v (kf (off + j)) (af (off + j)) (bf (off + j)) ≠ 0 ∧ w = mis (doE v (kf (off + j)) (af (off + j)) (bf (off + j))) ∧ bs = [.arr 3 ok (gS kf af bf), z6, z8, z1] ∧ vs = [.ptr (.own 4 0), I j, .ptr (.own 3 0), .ptr (.own 2 0)]) (fun _ _ _ => False))
    (by
      rw [round_ev]
      refine cond_dk hj (cond_dk ⟨h0, hj⟩ (cond_dk ho ⟨hok, ⟨rfl, rfl⟩, ?_⟩))
      refine cond_d (fun e => cond_r (by omega) ⟨e, rfl, rfl⟩) (fun e => ⟨e, rfl, rfl, rfl⟩))
  unfold plK at h1
  split at h1
  · obtain ⟨he, hb, hs⟩ := h1
    simp only [List.cons.injEq] at hb hs
    obtain ⟨b1, b2, b3, b4, b5, _⟩ := hb
    obtain ⟨s1, s2, s3, s4, s5, s6, s7, s8, _⟩ := hs
    exact .inl ⟨he, sem_weak h2 (Nat.le_refl 6) ⟨b1, b2, b3, b4, b5, trivial⟩ rfl ⟨s1, s2, s3, s4, s5, s6, s7, s8, trivial⟩ rfl (fun v hv => by cases hv)⟩
  · obtain ⟨he, rfl, hb, hs⟩ := h1
    simp only [List.cons.injEq] at hb hs
    obtain ⟨b1, b2, b3, b4, _⟩ := hb
    obtain ⟨s1, s2, s3, s4, _⟩ := hs
    exact .inr ⟨he, sem_weak h2 (Nat.le_refl 6) ⟨b1, b2, b3, b4, trivial⟩ rfl ⟨s1, s2, s3, s4, trivial⟩ rfl (fun v hv => by cases hv; rfl)⟩
  · exact h1.elim
  · exact h1.elim

theorem play_end {off : Int} {n c : Nat} {j ix : Int} {v : Vat} (hv : VOk v) (hj : j = n) :
    SemC Try.prog true plBody 90 (plT off n c j ix) (plH ok kf af bf v) (.exit 1) (plT off n c j ix) (plH ok kf af bf v) := by
  obtain ⟨e, t', h', h1, h2⟩ := code_of hmix (tab_good hmix (doT_ok ok kf af bf hv) 20) (un := 10) (n := 90) (c := plBody) (t := plT off n c j ix) (h := plH ok kf af bf v)
    (K := plK (fun _ _ => False) (fun _ _ _ => False) (fun id bs vs => id = 1 ∧ bs = [.arr 3 ok (gS kf af bf), z6, z8, z1, vatV v] ∧ vs = [I j, I n, .ptr (.own 5 0), .ptr (.own 4 0), I ix, .ptr (.own 3 0), .ptr (.own 2 0), .slice (.el 0 [] off 0) n c]))
    (by
      rw [round_ev]
      refine cond_d (fun h => ?_) (fun _ => ⟨rfl, rfl, rfl⟩)
      omega)
  unfold plK at h1
  split at h1
  · exact h1.elim
  · exact h1.elim
  · obtain ⟨rfl, hb, hs⟩ := h1
    simp only [List.cons.injEq] at hb hs
    obtain ⟨b1, b2, b3, b4, b5, _⟩ := hb
    obtain ⟨s1, s2, s3, s4, s5, s6, s7, s8, _⟩ := hs
    exact sem_weak h2 (Nat.le_refl 6) ⟨b1, b2, b3, b4, b5, trivial⟩ rfl ⟨s1, s2, s3, s4, s5, s6, s7, s8, trivial⟩ rfl (fun v hv => by cases hv)
  · exact h1.elim

/-- The steps of a list from its beginning on. -/
abbrev plR (off : Int) (m : Nat) (j : Int) (v : Vat) : Vat × Int × Int := playL (fun i => kf (off + i)) (fun i => af (off + i)) (fun i => bf (off + i)) m j v

theorem play_loop {off : Int} {n c : Nat} (hn : n ≤ 256) (ho : 0 ≤ off) (hok : ∀ j : Int, 0 ≤ j → j < (n : Int) → ok [] (off + j)) : ∀ (m : Nat) (j ix : Int) (v : Vat), VOk v → 0 ≤ j → j + m = n →
    ((plR kf af bf off m j v).2.2 = 0 ∧ ∃ ix', LoopTo Try.prog true plBody 90 (plT off n c j ix) (plH ok kf af bf v) (.exit 1) (plT off n c n ix') (plH ok kf af bf (plR kf af bf off m j v).1)) ∨
    ((plR kf af bf off m j v).2.2 ≠ 0 ∧ LoopTo Try.prog true plBody 90 (plT off n c j ix) (plH ok kf af bf v) (.panic (mis (plR kf af bf off m j v).2.2)) (plP (plR kf af bf off m j v).2.1) (plG ok kf af bf))
  | 0, j, ix, v, hv, h0, hj => by
    left
    have hj' : j = n := by omega
    subst hj'
    exact ⟨rfl, ix, .last (play_end ok kf af bf hv rfl) (by simp)⟩
  | m + 1, j, ix, v, hv, h0, hj => by
    have hlt : j < n := by omega
    rcases play_round ok kf af bf (c := c) (ix := ix) hv h0 hlt hn ho (hok j h0 hlt) with ⟨he, hs⟩ | ⟨he, hs⟩
    · have e1 : plR kf af bf off (m + 1) j v = plR kf af bf off m (j + 1) (doV v (kf (off + j)) (af (off + j)) (bf (off + j))) := playL_go he
      rw [e1]
      rcases play_loop hn ho hok m (j + 1) j _ (doV_ok hv he) (by omega) (by omega) with ⟨g1, ix', g2⟩ | ⟨g1, g2⟩
      · exact .inl ⟨g1, ix', .next hs g2⟩
      · exact .inr ⟨g1, .next hs g2⟩
    · have e1 : plR kf af bf off (m + 1) j v = (v, j, doE v (kf (off + j)) (af (off + j)) (bf (off + j))) := playL_stop he
      rw [e1]
      exact .inr ⟨he, .last hs (by simp)⟩

def plE (off : Int) (n c : Nat) : Slots := [(8, .ptr (.own 5 0)), (7, .ptr (.own 4 0)), (5, .ptr (.own 3 0)), (4, .ptr (.own 2 0)), (1, .slice (.el 0 [] off 0) n c)]

/-- The loop as a row. -/
def playB (off : Int) (n c : Nat) (v : Vat) : LT := fun lock t h K =>
  FitP lock h t (plH ok kf af bf v) (plT off n c 0 0) ∧
    (bif decide ((plR kf af bf off n 0 v).2.2 = 0) then K .normal (plE off n c) (plH ok kf af bf (plR kf af bf off n 0 v).1) else K (.panic (mis (plR kf af bf off n 0 v).2.2)) (plP (plR kf af bf off n 0 v).2.1) (plG ok kf af bf))

theorem playB_ok {off : Int} {n c : Nat} {v : Vat} (hn : n ≤ 256) (ho : 0 ≤ off) (hok : ∀ j : Int, 0 ≤ j → j < (n : Int) → ok [] (off + j)) (hv : VOk v) : LSound Try.prog true (.block 1 (.loop plBody)) 90 (playB ok kf af bf off n c v) := by
  intro lock t h K hK
  obtain ⟨hf, hK⟩ := hK
  obtain rfl := hf.1.1
  have hfb : ∀ v, fitB (plBs (.arr 3 ok (gS kf af bf)) (vatV v)) (plH ok kf af bf v) := fun v => ⟨rfl, rfl, rfl, rfl, rfl, trivial⟩
  rcases play_loop ok kf af bf (c := c) hn ho hok n 0 0 v hv (Int.le_refl 0) (by omega) with ⟨he, ix, hl⟩ | ⟨he, hl⟩
  · rw [decide_eq_true he] at hK
    refine ⟨_, _, _, hK, lock0 _ _, ?_⟩
    have := sem_weak (t2 := plE off n c) (loopTo_sound hl) (Nat.le_refl 6) (hfb _) rfl ⟨rfl, rfl, rfl, rfl, rfl, trivial⟩ rfl (fun v hv => by cases hv)
    exact sem_fit hf (block_sound this (.inl ⟨rfl, rfl⟩))
  · rw [decide_eq_false he] at hK
    refine ⟨_, _, _, hK, lock0 _ _, ?_⟩
    exact sem_fit hf (block_sound (loopTo_sound hl) (.inr ⟨by simp, rfl⟩))
end
end Go.Sx.Malt
