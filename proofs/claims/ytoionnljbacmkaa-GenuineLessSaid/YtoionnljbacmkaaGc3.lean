/- genuine: the law GenuineAsks. -/
import Derived.Test.YtoionnljbacmkaaGc2

namespace Go.Sx.Gen
open Go Go.Sx Go.Proofs
set_option maxRecDepth 100000

section
variable {n cap : Nat} {l : Int → Src} {b : Sus}

def OG (n cap : Nat) (l : Int → Src) (b : Sus) (g p lo hi : Int) (x : VV) (_ : Int) (e : VEx) (vs : List VV) (bs : List VB) : Prop :=
  bs = BG n l b g p lo hi x ∧ ((e = .exit 0 ∧ ∃ j, vs = VG n cap j) ∨ (e = .ret ∧ ∃ j : Int, vs = [I j, lV n cap, .ptr (.own 3 0), .bool true]))

theorem LG_ok (hw : Wf n l b) {g p lo hi : Int} {x : VV} (hx : x = .nils ∨ x = .slice (.el 2 [] 0 0) b.sl b.sc) : LSound Try.prog true (.block 0 (.loop (loopB 0 (bodyOf Try.prog 9)))) 38 (LG n cap l b g p lo hi x) := by
  refine loop_row hmix good0 (un := 10) (ds := dsG) (ns := [0, 1, 2, 3]) (nx := 4) (VG n cap) (fun _ => BG n l b g p lo hi x) (fun i => 0 ≤ i ∧ i ≤ n) (fun i => (n - i).toNat) (OG n cap l b g p lo hi x) noL_ok ?_ ?_
  · rintro i ⟨h0, h1⟩
    have hn := hw.hn
    unfold maxI at hn
    rcases hx with rfl | rfl
    · rw [rG_ev]
      refine cond_d (fun hlt => cond_dk ⟨h0, hlt⟩ ⟨⟨rfl, by omega, by omega⟩, cond_d (fun _ => ⟨rfl, .inr ⟨rfl, i, rfl⟩⟩) (fun _ => cond_r (by omega) ⟨i + 1, ⟨by omega, by omega⟩, by dsimp only; omega, rfl, fitBs_refl _, fun e vs bs ho => ho⟩)⟩) (fun _ => ⟨rfl, .inl ⟨rfl, i, rfl⟩⟩)
    · rw [rG2_ev]
      refine cond_d (fun hlt => cond_dk ⟨h0, hlt⟩ ⟨⟨rfl, by omega, by omega⟩, cond_d (fun _ => ⟨rfl, .inr ⟨rfl, i, rfl⟩⟩) (fun _ => cond_r (by omega) ⟨i + 1, ⟨by omega, by omega⟩, by dsimp only; omega, rfl, fitBs_refl _, fun e vs bs ho => ho⟩)⟩) (fun _ => ⟨rfl, .inl ⟨rfl, i, rfl⟩⟩)
  · rintro lock t h K ⟨hf, h1, h2⟩
    refine ⟨0, hf, ⟨by omega, by omega⟩, ?_⟩
    rintro e vs bs ⟨rfl, ⟨rfl, j, rfl⟩ | ⟨rfl, j, rfl⟩⟩
    · exact h1 j
    · exact h2 j

/-- A truth value, over the base. -/
def boH (n : Nat) (l : Int → Src) (b : Sus) (Q : Bool → Prop) : VRes → VH → Prop := fun r h => (h.at 0 = srcA n l ∧ h.at 1 = valA n l ∧ h.at 2 = seenA b) ∧ ∃ y, r = .ret (.bool y) ∧ Q y

theorem great_v (hw : Wf n l b) {g p lo hi : Int} {x : VV} (hx : x = .nils ∨ x = .slice (.el 2 [] 0 0) b.sl b.sc) : ∃ y h', CallsV Try.prog 9 [.agg [I g, I p, I lo, I hi, x], lV n cap] (bH n l b) (.ret (.bool y)) h' ∧ h'.at 0 = srcA n l ∧ h'.at 1 = valA n l ∧ h'.at 2 = seenA b := by
  have hsp := spBL_ok hmix (tabs_ok (l := []) (by simp)) (f := 9) (lo_one (by kernel_rfl) (LG_ok (cap := cap) (g := g) (p := p) (lo := lo) (hi := hi) hw hx)) (un := 10) (fu := 20)
  obtain ⟨r, h', hQ, hc⟩ := of_sp hsp (args := [.agg [I g, I p, I lo, I hi, x], lV n cap]) (h := bH n l b) (K := boH n l b (fun _ => True))
    (by
      show spBL Try.prog 9 noSpec _ 10 20 0 _ _ _
      have q : ∀ y h', h' = VH.mk 4 [(3, VB.cells [I g, I p, I lo, I hi, x] 26), (0, srcA n l), (1, valA n l), (2, seenA b)] ∨ h' = VH.mk 4 [(0, srcA n l), (1, valA n l), (2, seenA b), (3, VB.cells [I g, I p, I lo, I hi, x] 26)] → boH n l b (fun _ => True) (.ret (.bool y)) h' := by
        rintro y h' (rfl | rfl) <;> exact ⟨⟨rfl, rfl, rfl⟩, y, rfl, trivial⟩
      rcases hx with rfl | rfl
      · rw [f9_ev]
        repeat' first
          | (refine cond_d (fun _ => ?_) (fun _ => ?_))
        all_goals first
          | exact q _ _ (.inl rfl)
          | exact ⟨fitP_self rfl, fun j => q _ _ (.inr rfl), fun j => q _ _ (.inr rfl)⟩
      · rw [f9b_ev]
        repeat' first
          | (refine cond_d (fun _ => ?_) (fun _ => ?_))
        all_goals first
          | exact q _ _ (.inl rfl)
          | exact ⟨fitP_self rfl, fun j => q _ _ (.inr rfl), fun j => q _ _ (.inr rfl)⟩)
  obtain ⟨hh, y, rfl, _⟩ := hQ
  exact ⟨y, h', hc, hh⟩

theorem grT_ok (hw : Wf n l b) : SpOk Try.prog (grT n l b).1 (grT n l b).2 := by
  intro lock args h K hK
  simp only [grT] at hK
  split at hK
  · rename_i g p lo hi x m c
    obtain ⟨⟨hh, rfl, hx⟩, hK⟩ := hK
    obtain ⟨y, h', hc, hs⟩ := great_v (cap := c) (g := g) (p := p) (lo := lo) (hi := hi) hw hx
    exact ⟨_, h, hK y, lockP_refl _ _, base_lift hc hh hs (by rcases hx with rfl | rfl <;> rfl) rfl⟩
  · exact hK.elim

theorem awT_ok : SpOk Try.prog awT.1 awT.2 := by
  intro lock args h K hK
  simp only [awT] at hK
  split at hK
  · exact ⟨_, h, hK, lockP_refl _ _, awake_v h⟩
  · exact hK.elim

theorem law4_v (hw : Wf n l b) (hcap : n ≤ cap) (wide : Int) : ∃ h', CallsV Try.prog 4 [lV n cap, I wide] (bH n l b) (.ret (.bool true)) h' := by
  obtain ⟨r, h', hQ, hc⟩ := of_callN (tab_good hmix (l := [awT, grT n l b, askT 19 n l b, askT 20 n l b]) (by
      intro x hx
      simp only [List.mem_cons, List.not_mem_nil, or_false] at hx
      rcases hx with rfl | rfl | rfl | rfl
      · exact awT_ok
      · exact grT_ok hw
      · exact ask19_ok hw
      · exact ask20_ok hw) 20) (f := 4) (args := [lV n cap, I wide]) (h := bH n l b) (K := boH n l b (fun y => y = true))
    (by
      rw [law4_ev]
      have q : boH n l b (fun y => y = true) (.ret (.bool true)) (VH.mk 3 [(0, srcA n l), (1, valA n l), (2, seenA b)]) := ⟨⟨rfl, rfl, rfl⟩, true, rfl, rfl⟩
      exact ⟨⟨⟨rfl, rfl, rfl⟩, rfl, .inl rfl⟩, fun y => cond_b (fun _ => q) (fun _ => ⟨⟨⟨rfl, rfl, rfl⟩, rfl, hcap⟩, ⟨⟨rfl, rfl, rfl⟩, rfl, hcap⟩, cond_dk rfl (cond_dk rfl (cond_dk rfl q))⟩)⟩)
  obtain ⟨hh, y, rfl, rfl⟩ := hQ
  exact ⟨h', hc⟩
end
end Go.Sx.Gen
