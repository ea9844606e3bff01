/- genuine: lists of sources. -/
import Derived.Test.YtoionnljbacmkaaGa8

namespace Go.Sx.Gen
open Go Go.Sx Go.Proofs
set_option maxRecDepth 100000

section
variable {n cap : Nat} {l : Int → Src} {b : Sus}

theorem goodT1 (hw : Wf n l b) : Good Try.prog (callN Try.prog (tabS (t1 n l b)) noL 10 20) := tab_good hmix (t1_ok hw) 20

def O56 (n cap : Nat) (l : Int → Src) (b : Sus) (i : Int) (e : VEx) (vs : List VV) (bs : List VB) : Prop :=
  bs = B56 n cap l b ∧ ((e = .exit 0 ∧ allB (srB1 l) (n - i).toNat i = true ∧ vs = V56 n cap n) ∨
    (e = .ret ∧ allB (srB1 l) (n - i).toNat i = false ∧ ∃ j : Int, 0 ≤ j ∧ vs = [I j, I n, lV n cap, .func 51 [] [.ptr (.own 3 0)], I j]))

theorem L56_ok (hw : Wf n l b) : LSound Try.prog true (.block 0 (.loop (loopB 0 (bodyOf Try.prog 56)))) 19 (L56 n cap l b) := by
  refine loop_row hmix (goodT1 hw) (un := 10) (ds := [8, 7, 0, 1, 4]) (ns := [0, 1, 2, 3]) (nx := 4) (V56 n cap) (fun _ => B56 n cap l b) (fun i => 0 ≤ i ∧ i ≤ n) (fun i => (n - i).toNat) (O56 n cap l b) noL_ok ?_ ?_
  · rintro i ⟨h0, h1⟩
    rw [r56_ev]
    have hn := hw.hn
    unfold maxI at hn
    by_cases hlt : i < n
    · have hst := allB_step (p := srB1 l) h0 hlt
      have hs : srB1 l i = srcB (l 0).vl (l i) := rfl
      refine cond_dk hlt (cond_dk ⟨h0, hlt⟩ ⟨⟨rfl, by omega, by omega⟩, ?_⟩)
      simp only [Int.zero_add]
      have hret : srB1 l i = false → O56 n cap l b i .ret [I i, I n, lV n cap, .func 51 [] [.ptr (.own 3 0)], I i] (B56 n cap l b) := fun hf => ⟨rfl, .inr ⟨rfl, by rw [hst, hf]; rfl, i, h0, rfl⟩⟩
      refine cond_b (fun q1 => hret ?_) (fun q1 => cond_b (fun q2 => hret ?_) (fun q2 => cond_b (fun q3 => hret ?_) (fun q3 => ⟨⟨trivial, h0, hlt, trivial⟩, cond_b (fun q4 => hret ?_) (fun q4 => cond_dk ⟨by omega, by omega⟩ ⟨⟨trivial, by omega, by omega⟩, cond_b (fun q5 => hret ?_) (fun q5 => ?_)⟩)⟩)))
      · rw [hs]; simp at q1; simp [srcB, q1]
      · rw [hs]; simp at q2; simp [srcB, q2]
      · rw [hs]; simp at q3; simp [srcB, q3]
      · rw [hs]; simp at q4; simp [srcB, q4]
      · rw [hs]; simp at q5; simp [srcB, q5]
      · refine cond_r (by omega) ⟨i + 1, ⟨by omega, by omega⟩, by dsimp only; omega, rfl, fitBs_refl _, fun e vs bs ho => ?_⟩
        have ht : srB1 l i = true := by
          rw [hs]; simp at q1 q2 q3 q4 q5; simp [srcB, q1, q2, q3, q4, q5]
        rw [O56, hst, ht]
        simpa [O56] using ho
    · refine cond_d (fun h => absurd h hlt) (fun _ => ?_)
      refine ⟨rfl, .inl ⟨rfl, allB_end hlt, ?_⟩⟩
      have : i = n := by omega
      subst this
      rfl
  · rintro lock t h K ⟨hf, h1, h2⟩
    refine ⟨0, hf, ⟨by omega, by omega⟩, ?_⟩
    rintro e vs bs ⟨rfl, ⟨rfl, ha, rfl⟩ | ⟨rfl, ha, j, hj, rfl⟩⟩
    · exact h1 (by simpa using ha)
    · exact h2 (by simpa using ha) j hj

def O21 (n cap : Nat) (l : Int → Src) (b : Sus) (i : Int) (e : VEx) (vs : List VV) (bs : List VB) : Prop :=
  bs = bL n l b ∧ ((e = .exit 0 ∧ allB (srB1 l) (n - i).toNat i = true ∧ ∃ j, vs = V21 n cap j) ∨
    (e = .ret ∧ allB (srB1 l) (n - i).toNat i = false ∧ ∃ j : Int, vs = V21 n cap j))

theorem L21_ok (hw : Wf n l b) : LSound Try.prog true (.block 0 (.loop (loopB 0 (bodyOf Try.prog 21)))) 51 (L21 n cap l b) := by
  refine loop_row hmix (goodT1 hw) (un := 10) (ds := [3, 0, 2]) (ns := [0, 1, 2]) (nx := 3) (V21 n cap) (fun _ => bL n l b) (fun i => 0 ≤ i ∧ i ≤ n) (fun i => (n - i).toNat) (O21 n cap l b) noL_ok ?_ ?_
  · rintro i ⟨h0, h1⟩
    rw [r21_ev]
    have hn := hw.hn
    unfold maxI at hn
    by_cases hlt : i < n
    · have hst := allB_step (p := srB1 l) h0 hlt
      have hs : srB1 l i = srcB (l 0).vl (l i) := rfl
      refine cond_dk hlt (cond_dk ⟨h0, hlt⟩ ⟨⟨rfl, by omega, by omega⟩, ?_⟩)
      simp only [Int.zero_add]
      have hret : srB1 l i = false → O21 n cap l b i .ret [I i, lV n cap, .bool false] (bL n l b) := fun hf => ⟨rfl, .inr ⟨rfl, by rw [hst, hf]; rfl, i, rfl⟩⟩
      refine cond_b (fun q1 => hret ?_) (fun q1 => cond_b (fun q2 => hret ?_) (fun q2 => cond_b (fun q3 => hret ?_) (fun q3 => ⟨⟨trivial, h0, hlt, trivial⟩, cond_b (fun q4 => hret ?_) (fun q4 => cond_dk ⟨by omega, by omega⟩ ⟨⟨trivial, by omega, by omega⟩, cond_b (fun q5 => hret ?_) (fun q5 => ?_)⟩)⟩)))
      · rw [hs]; simp at q1; simp [srcB, q1]
      · rw [hs]; simp at q2; simp [srcB, q2]
      · rw [hs]; simp at q3; simp [srcB, q3]
      · rw [hs]; simp at q4; simp [srcB, q4]
      · rw [hs]; simp at q5; simp [srcB, q5]
      · refine cond_r (by omega) ⟨i + 1, ⟨by omega, by omega⟩, by dsimp only; omega, rfl, fitBs_refl _, fun e vs bs ho => ?_⟩
        have ht : srB1 l i = true := by
          rw [hs]; simp at q1 q2 q3 q4 q5; simp [srcB, q1, q2, q3, q4, q5]
        rw [O21, hst, ht]
        simpa [O21] using ho
    · refine cond_d (fun h => absurd h hlt) (fun _ => ?_)
      exact ⟨rfl, .inl ⟨rfl, allB_end hlt, i, rfl⟩⟩
  · rintro lock t h K ⟨hf, h1, h2⟩
    refine ⟨0, hf, ⟨by omega, by omega⟩, ?_⟩
    rintro e vs bs ⟨rfl, ⟨rfl, ha, j, rfl⟩ | ⟨rfl, ha, j, rfl⟩⟩
    · exact h1 (by simpa using ha) j
    · exact h2 (by simpa using ha) j

theorem i56_ok (hw : Wf n l b) : SpOk Try.prog (i56T n cap l b).1 (i56T n cap l b).2 := by
  intro lock args h K hK
  obtain ⟨⟨rfl, rfl⟩, h1, h2⟩ := hK
  have hsp := spBL_ok hmix (tabs_ok (t1_ok hw)) (f := 56) (lo_one (by kernel_rfl) (L56_ok (cap := cap) hw)) (un := 10) (fu := 20)
  obtain ⟨r, h', hQ, hc⟩ := of_sp hsp (args := [lV n cap, .func 51 [] [.ptr (.own 3 0)]]) (h := ⟨4, (3, .cells [lV n cap] 27) :: (bH n l b).bs⟩)
    (K := fun r h' => h' = VH.mk 4 [(0, srcA n l), (1, valA n l), (2, seenA b), (3, VB.cells [lV n cap] 27)] ∧ ((allB (srB1 l) n 0 = true ∧ r = .ret (I (-1))) ∨ (allB (srB1 l) n 0 = false ∧ ∃ j : Int, 0 ≤ j ∧ r = .ret (I j))))
    (by
      rw [f56_ev]
      exact ⟨⟨⟨rfl, rfl, VB.fit_refl _, VB.fit_refl _, VB.fit_refl _, VB.fit_refl _, trivial⟩, rfl, rfl, rfl, rfl, rfl, trivial⟩, fun h => ⟨rfl, .inl ⟨h, rfl⟩⟩, fun h j hj => ⟨rfl, .inr ⟨h, j, hj, rfl⟩⟩⟩)
  have hb : belB 4 ((3, .cells [lV n cap] 27) :: (bH n l b).bs) = true := rfl
  obtain ⟨rfl, ⟨ha, rfl⟩ | ⟨ha, j, hj, rfl⟩⟩ := hQ
  · exact ⟨_, _, h1 ha, lockP_refl _ _, calls_weak hc (Nat.le_refl 4) ⟨VB.fit_refl _, VB.fit_refl _, VB.fit_refl _, VB.fit_refl _, trivial⟩ hb rfl⟩
  · exact ⟨_, _, h2 ha j hj, lockP_refl _ _, calls_weak hc (Nat.le_refl 4) ⟨VB.fit_refl _, VB.fit_refl _, VB.fit_refl _, VB.fit_refl _, trivial⟩ hb rfl⟩

/-- What is so at the base is so over any heap that bears it. -/
theorem base_lift {f : FuncId} {args : List VV} {h h' : VH} {r : VRes} (hs : CallsV Try.prog f args (bH n l b) r h') (hh : h.at 0 = srcA n l ∧ h.at 1 = valA n l ∧ h.at 2 = seenA b)
    (hsame : h'.at 0 = srcA n l ∧ h'.at 1 = valA n l ∧ h'.at 2 = seenA b) (ha : belL 3 args = true) (hr : r.bel 3 = true) : CallsV Try.prog f args h r h := by
  have hk : 3 ≤ h.nx := by
    rcases Nat.lt_or_ge h.nx 3 with h1 | h1
    · exfalso
      have := hh.2.2
      unfold VH.at at this
      rw [blt_f (by omega)] at this
      cases this
    · exact h1
  have c : ∀ m : Nat, m < 3 → m = 0 ∨ m = 1 ∨ m = 2 := fun m hm => by omega
  refine calls_lift hs hk (fun m hm => ?_) (fun m hm => ?_) (fun m hm => ?_) (fun m hm => ?_) ha hr
  · rcases c m hm with rfl | rfl | rfl
    · exact hh.1
    · exact hh.2.1
    · exact hh.2.2
  · rcases c m hm with rfl | rfl | rfl
    · exact hsame.1
    · exact hsame.2.1
    · exact hsame.2.2
  · rcases c m hm with rfl | rfl | rfl <;> exact fun h => VB.noConfusion (show VB.arr _ _ _ = VB.free from h)
  · rcases c m hm with rfl | rfl | rfl <;> rfl

theorem src39_v (hw : Wf n l b) : ∃ h', CallsV Try.prog 39 [lV n cap] (bH n l b) (.ret (.bool (srcsB n l))) h' ∧ h'.at 0 = srcA n l ∧ h'.at 1 = valA n l ∧ h'.at 2 = seenA b := by
  obtain ⟨r, h', hQ, hc⟩ := of_callN (tab_good hmix (l := [i56T n cap l b]) (by
      intro x hx
      simp only [List.mem_singleton] at hx
      subst hx
      exact i56_ok hw) 20) (f := 39) (args := [lV n cap]) (h := bH n l b) (K := fun r h' => (h'.at 0 = srcA n l ∧ h'.at 1 = valA n l ∧ h'.at 2 = seenA b) ∧ r = .ret (.bool (srcsB n l)))
    (by
      rw [f39_ev]
      have hsp : srcsB n l = (decide ((n : Int) ≤ 64) && allB (srB1 l) n 0) := rfl
      rw [hsp]
      refine cond_d (fun h => ⟨⟨rfl, rfl⟩, fun ha => ⟨⟨rfl, rfl, rfl⟩, ?_⟩, fun ha j hj => ⟨⟨rfl, rfl, rfl⟩, ?_⟩⟩) (fun h => ⟨⟨rfl, rfl, rfl⟩, ?_⟩)
      · simp [h, ha]
      · simp [h, ha, hj]
      · simp [h])
  obtain ⟨hh, rfl⟩ := hQ
  exact ⟨h', hc, hh⟩

theorem src21_v (hw : Wf n l b) : ∃ h', CallsV Try.prog 21 [lV n cap] (bH n l b) (.ret (.bool (srcsB n l))) h' ∧ h'.at 0 = srcA n l ∧ h'.at 1 = valA n l ∧ h'.at 2 = seenA b := by
  have hsp := spBL_ok hmix (tabs_ok (t1_ok hw)) (f := 21) (lo_one (by kernel_rfl) (L21_ok (cap := cap) hw)) (un := 10) (fu := 20)
  obtain ⟨r, h', hQ, hc⟩ := of_sp hsp (args := [lV n cap]) (h := bH n l b) (K := fun r h' => (h'.at 0 = srcA n l ∧ h'.at 1 = valA n l ∧ h'.at 2 = seenA b) ∧ r = .ret (.bool (srcsB n l)))
    (by
      rw [f21_ev]
      have hsp : srcsB n l = (decide ((n : Int) ≤ 64) && allB (srB1 l) n 0) := rfl
      rw [hsp]
      refine ⟨⟨⟨rfl, rfl, VB.fit_refl _, VB.fit_refl _, VB.fit_refl _, trivial⟩, rfl, rfl, rfl, trivial⟩, fun h j => ⟨⟨rfl, rfl, rfl⟩, ?_⟩, fun h j => ⟨⟨rfl, rfl, rfl⟩, ?_⟩⟩
      · simp [h]
      · simp [h])
  obtain ⟨hh, rfl⟩ := hQ
  exact ⟨h', hc, hh⟩

/-- A list of sources is valid. -/
def srcT (f : FuncId) (n : Nat) (l : Int → Src) (b : Sus) : FuncId × Spec1 := (f, fun _ args h K => match args with
  | [.slice (.el 0 [] 0 0) m _] => ((h.at 0 = srcA n l ∧ h.at 1 = valA n l ∧ h.at 2 = seenA b) ∧ m = n) ∧ K (.ret (.bool (srcsB n l))) h
  | _ => False)

theorem srcT_ok {f : FuncId} (hf : ∀ cap : Nat, ∃ h', CallsV Try.prog f [lV n cap] (bH n l b) (.ret (.bool (srcsB n l))) h' ∧ h'.at 0 = srcA n l ∧ h'.at 1 = valA n l ∧ h'.at 2 = seenA b) : SpOk Try.prog (srcT f n l b).1 (srcT f n l b).2 := by
  intro lock args h K hK
  simp only [srcT] at hK
  split at hK
  · rename_i m c
    obtain ⟨⟨hh, rfl⟩, hK⟩ := hK
    obtain ⟨h', hc, hs⟩ := hf c
    exact ⟨_, h, hK, lockP_refl _ _, base_lift hc hh hs rfl rfl⟩
  · exact hK.elim

def t2 (n : Nat) (l : Int → Src) (b : Sus) : List (FuncId × Spec1) := srcT 39 n l b :: srcT 21 n l b :: t1 n l b

theorem t2_ok (hw : Wf n l b) : ∀ x ∈ t2 n l b, SpOk Try.prog x.1 x.2 := by
  intro x hx
  simp only [t2, List.mem_cons] at hx
  rcases hx with rfl | rfl | hx
  · exact srcT_ok (fun _ => src39_v hw)
  · exact srcT_ok (fun _ => src21_v hw)
  · exact t1_ok hw x hx
end
end Go.Sx.Gen
