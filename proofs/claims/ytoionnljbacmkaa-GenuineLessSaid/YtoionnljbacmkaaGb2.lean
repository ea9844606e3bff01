/- genuine: Ask. -/
import Derived.Test.YtoionnljbacmkaaGb1

namespace Go.Sx.Gen
open Go Go.Sx Go.Proofs
set_option maxRecDepth 100000

theorem cnt_b {p : Int → Bool} : ∀ (k : Nat) (i : Int), 0 ≤ cnt p k i ∧ cnt p k i ≤ k
  | 0, _ => by simp [cnt]
  | k + 1, i => by
    have := cnt_b (p := p) k (i + 1)
    simp only [cnt]
    cases p i <;> simp <;> omega

theorem sumI_b {f : Int → Int} {m : Int} : ∀ (k : Nat) (i : Int), (∀ j, i ≤ j → j < i + k → 0 ≤ f j ∧ f j ≤ m) → 0 ≤ sumI f k i ∧ sumI f k i ≤ m * k
  | 0, _, _ => by simp [sumI]
  | k + 1, i, h => by
    have h1 := sumI_b (f := f) (m := m) k (i + 1) (fun j h1 h2 => h j (by omega) (by omega))
    have h2 := h i (by omega) (by omega)
    simp only [sumI]
    rw [show m * ((k + 1 : Nat) : Int) = m + m * k from by rw [Int.natCast_add, Int.mul_add]; simp; omega]
    omega

theorem cnt_step {p : Int → Bool} {m : Nat} {k : Int} (h0 : 0 ≤ k) (h : k < m) : cnt p (m - k).toNat k = (bif p k then 1 else 0) + cnt p (m - (k + 1)).toNat (k + 1) := by
  rw [show ((m : Int) - k).toNat = ((m : Int) - (k + 1)).toNat + 1 by omega]
  rfl

theorem sumI_step {f : Int → Int} {m : Nat} {k : Int} (h0 : 0 ≤ k) (h : k < m) : sumI f (m - k).toNat k = f k + sumI f (m - (k + 1)).toNat (k + 1) := by
  rw [show ((m : Int) - k).toNat = ((m : Int) - (k + 1)).toNat + 1 by omega]
  rfl

theorem bestF_step {f : Int → Int} {m : Nat} {k bq ba : Int} (h0 : 0 ≤ k) (h : k < m) : bestF f (m - k).toNat k bq ba = bif decide (f k > ba) then bestF f (m - (k + 1)).toNat (k + 1) k (f k) else bestF f (m - (k + 1)).toNat (k + 1) bq ba := by
  rw [show ((m : Int) - k).toNat = ((m : Int) - (k + 1)).toNat + 1 by omega]
  rfl

/-- What valid sources are like. -/
theorem srcs_valid {n : Nat} {l : Int → Src} (h : srcsB n l = true) : n ≤ 64 ∧ ∀ i : Int, 0 ≤ i → i < n → (l i).vl = (l 0).vl ∧ (l i).vl ≤ 12 ∧ (0 ≤ (l i).drawn ∧ (l i).drawn ≤ 65536) ∧ (0 ≤ (l i).slo ∧ (l i).slo ≤ (l i).shi ∧ (l i).shi ≤ 10000) ∧
    ∀ q : Int, 0 ≤ q → q < (l i).vl → 0 ≤ (l i).lo q ∧ (l i).lo q ≤ (l i).hi q ∧ (l i).hi q ≤ 1048576 := by
  simp only [srcsB, Bool.and_eq_true, decide_eq_true_eq, allB_iff] at h
  refine ⟨by omega, fun i h0 h1 => ?_⟩
  have h2 := h.2 i h0 (by omega)
  simp only [srcB, Bool.and_eq_true, decide_eq_true_eq, inB, spanB, spansB, allB_iff] at h2
  obtain ⟨⟨⟨⟨a1, a2⟩, a3⟩, a4⟩, a5⟩ := h2
  refine ⟨by omega, by omega, by omega, ⟨a3.1.1, a3.1.2, a3.2⟩, fun q g0 g1 => ?_⟩
  have := a4.2 q g0 (by omega)
  exact ⟨this.1.1, this.1.2, this.2⟩

section
variable {n cap : Nat} {l : Int → Src} {b : Sus} {wide : Int}

theorem goodT2 (hw : Wf n l b) : Good Try.prog (callN Try.prog (tabS (t2 n l b)) noL 10 20) := tab_good hmix (t2_ok hw) 20

def OI (n cap m cx : Nat) (l : Int → Src) (b : Sus) (wide : Int) (Q : Nat) (q bq ba i : Int) (s : Int × Int) (e : VEx) (vs : List VV) (bs : List VB) : Prop :=
  e = .exit 5 ∧ vs = VI n cap m cx Q q bq ba i m (s.2 + cnt (dB l wide q i) (m - s.1).toNat s.1) ∧ bs = BI n l b wide (0 + i)

theorem LI_ok (hw : Wf n l b) (hv : srcsB n l = true) {Q : Nat} {q bq ba i c : Int} (hq : 0 ≤ q ∧ q < (l 0).vl) :
    LSound Try.prog true (.block 5 (.loop (loopB 5 (bodyOf Try.prog 19)))) 76 (LI n cap l b wide Q q bq ba i c) := by
  intro lock t h K hK
  unfold LI at hK
  split at hK
  · rename_i a m cx ht
    obtain ⟨hval1, hval2⟩ := srcs_valid hv
    have := loop_row hmix (goodT2 hw) (un := 10) (n := 76) (id := 5) (b := loopB 5 (bodyOf Try.prog 19)) (ds := dsI) (ns := [0, 1, 2, 3, 4]) (nx := 5) (T := fun lock t h K => (FitP lock h t ⟨5, [0, 1, 2, 3, 4].zip (BI n l b wide (0 + i))⟩ (dsI.zip (VI n cap m cx Q q bq ba i 0 c)) ∧ (m : Int) = i ∧ i < n ∧ 0 ≤ c ∧ c ≤ 64 * i) ∧ ∀ y : Int, y = c + cnt (dB l wide q i) i.toNat 0 → K .normal (dsI.zip (VI n cap m cx Q q bq ba i m y)) ⟨5, [0, 1, 2, 3, 4].zip (BI n l b wide (0 + i))⟩)
      (fun s : Int × Int => VI n cap m cx Q q bq ba i s.1 s.2) (fun _ => BI n l b wide (0 + i)) (fun s => ((m : Int) = i ∧ i < n) ∧ 0 ≤ s.1 ∧ s.1 ≤ m ∧ 0 ≤ s.2 ∧ s.2 ≤ 64 * i + s.1) (fun s => (m - s.1).toNat) (OI n cap m cx l b wide Q q bq ba i) noL_ok ?_ ?_
    · exact this lock t h K hK
    · rintro ⟨k, c⟩ ⟨hm, h0, h1, h2, h3⟩
      simp only at h0 h1 h2 h3
      have hi : 0 ≤ i ∧ i < n := by omega
      have vi := hval2 i hi.1 hi.2
      rw [rI_ev]
      by_cases hlt : k < m
      · have hst := cnt_step (p := dB l wide q i) h0 hlt
        have vk := hval2 k h0 (by omega)
        have s1 := vi.2.2.2.2 q hq.1 (by omega)
        have s2 := vk.2.2.2.2 q hq.1 (by omega)
        refine cond_dk hlt (cond_dk ⟨h0, hlt⟩ ⟨⟨rfl, by omega, by omega⟩, ?_⟩)
        simp only [Int.zero_add, at1]
        have hd : dB l wide q i k = decide (max ((l i).lo q) ((l k).lo q) - min ((l i).hi q) ((l k).hi q) > wide) := rfl
        refine cond_dk ⟨hq.1, by omega⟩ ⟨⟨i, rfl, hi.1, hi.2, hq.1, by omega⟩, cond_dk ⟨hq.1, by omega⟩ ⟨⟨k, rfl, h0, by omega, hq.1, by omega⟩, cond_r (by omega) ?_⟩⟩
        refine cond_d (fun g => cond_r (by omega) (cond_r (by omega) ⟨(k + 1, c + 1), ⟨hm, by dsimp only; omega, by dsimp only; omega, by dsimp only; omega, by dsimp only; omega⟩, by dsimp only; omega, rfl, by simp only [BI, cS, Int.zero_add]; exact fitBs_refl _, fun e vs bs ho => ?_⟩)) (fun g => cond_r (by omega) ⟨(k + 1, c), ⟨hm, by dsimp only; omega, by dsimp only; omega, by dsimp only; omega, by dsimp only; omega⟩, by dsimp only; omega, rfl, by simp only [BI, cS, Int.zero_add]; exact fitBs_refl _, fun e vs bs ho => ?_⟩)
        · obtain ⟨o1, o2, o3⟩ := ho
          refine ⟨o1, ?_, o3⟩
          rw [o2]
          simp only [hst, hd, g, decide_true, cond_true]
          rw [Int.add_assoc]
        · obtain ⟨o1, o2, o3⟩ := ho
          refine ⟨o1, ?_, o3⟩
          rw [o2]
          simp only [hst, hd, g, decide_false, cond_false, Int.zero_add]
      · refine cond_d (fun h => absurd h hlt) (fun _ => ⟨rfl, ?_, ?_⟩)
        · have hk : k = m := by omega
          subst hk
          simp [VI, cnt]
        · simp only [BI, cS, Int.zero_add]; rfl
    · rintro lock t h K ⟨⟨hf, hm, hin, hc⟩, h1⟩
      refine ⟨(0, c), hf, ⟨⟨hm, hin⟩, by dsimp only; omega, by dsimp only; omega, hc.1, by dsimp only; omega⟩, ?_⟩
      rintro e vs bs ⟨rfl, rfl, rfl⟩
      refine h1 _ ?_
      simp only [Int.sub_zero]
      rw [show ((m : Int)).toNat = i.toNat by omega]
  · exact hK.elim

def OM (n cap : Nat) (l : Int → Src) (b : Sus) (wide : Int) (Q : Nat) (q bq ba : Int) (s : Int × Int) (e : VEx) (vs : List VV) (bs : List VB) : Prop :=
  e = .exit 3 ∧ vs = VM n cap Q q bq ba n (s.2 + sumI (fun i => cnt (dB l wide q i) i.toNat 0) (n - s.1).toNat s.1) ∧ bs = BO n l b wide

theorem one_blk {f id n : Nat} {b : Code} {T : LT} (hb : blocksOf id b = [.loop (loopB id (bodyOf Try.prog f))]) (hs : LSound Try.prog true (.block id (.loop (loopB id (bodyOf Try.prog f)))) n T) : ∀ id' T', tabB [(id, T)] id' = some T' → ∀ b' ∈ blocksOf id' b, LSound Try.prog true (.block id' b') n T' := by
  intro id' T' h b' hb'
  have hm := tabB_some h
  simp only [List.mem_singleton, Prod.mk.injEq] at hm
  obtain ⟨rfl, rfl⟩ := hm
  rw [hb] at hb'
  simp only [List.mem_singleton] at hb'
  subst hb'
  exact hs

theorem LM_ok (hw : Wf n l b) (hcap : n ≤ cap) (hv : srcsB n l = true) {Q : Nat} {q bq ba : Int} (hq0 : 0 ≤ q) :
    LSound Try.prog true (.block 3 (.loop (loopB 3 (bodyOf Try.prog 19)))) 76 (LM n cap l b wide Q q bq ba) := by
  obtain ⟨hval1, hval2⟩ := srcs_valid hv
  refine loop_rowD hmix (goodT2 hw) (un := 10) (ds := dsM) (ns := [0, 1, 2, 3]) (nx := 4) (lsp := fun s : Int × Int => tabB [(5, LI n cap l b wide Q q bq ba s.1 s.2)]) (fun s : Int × Int => VM n cap Q q bq ba s.1 s.2) (fun _ => BO n l b wide) (fun s => 0 ≤ s.1 ∧ s.1 ≤ n ∧ 0 ≤ s.2 ∧ s.2 ≤ 64 * s.1 ∧ 0 ≤ q ∧ q < (l 0).vl) (fun s => (n - s.1).toNat) (OM n cap l b wide Q q bq ba) ?_ ?_ ?_
  · rintro ⟨i, c⟩ ⟨h0, h1, h2, h3, hq⟩ id' T' hT b' hb'
    simp only at h0 h1 h2 h3
    exact one_blk (by kernel_rfl) (LI_ok hw hv hq) id' T' hT b' hb'
  · rintro ⟨i, c⟩ ⟨h0, h1, h2, h3, hq⟩
    simp only at h0 h1 h2 h3
    rw [rM_ev]
    by_cases hlt : i < n
    · have hst := sumI_step (f := fun i => cnt (dB l wide q i) i.toNat 0) h0 hlt
      have hc := cnt_b (p := dB l wide q i) i.toNat 0
      refine cond_dk hlt (cond_dk ⟨h0, hlt⟩ ⟨⟨rfl, by omega, by omega⟩, cond_dk ⟨by omega, by omega, by omega⟩ ⟨⟨⟨⟨rfl, rfl, VB.fit_refl _, VB.fit_refl _, VB.fit_refl _, VB.fit_refl _, VB.fit_refl _, trivial⟩, rfl, rfl, rfl, rfl, rfl, rfl, rfl, rfl, rfl, rfl, rfl, rfl, rfl, rfl, rfl, trivial⟩, by omega, hlt, h2, h3⟩, fun y hy => ?_⟩⟩)
      subst hy
      refine cond_r (by omega) ⟨(i + 1, c + cnt (dB l wide q i) i.toNat 0), ⟨by dsimp only; omega, by dsimp only; omega, by dsimp only; omega, by dsimp only; omega, hq⟩, by dsimp only; omega, rfl, fitBs_refl _, fun e vs bs ho => ?_⟩
      obtain ⟨o1, o2, o3⟩ := ho
      refine ⟨o1, ?_, o3⟩
      rw [o2]
      simp only [hst]
      rw [Int.add_assoc]
    · refine cond_d (fun h => absurd h hlt) (fun _ => ⟨rfl, ?_, rfl⟩)
      have hk : i = n := by omega
      subst hk
      simp [VM, sumI]
  · rintro lock t h K ⟨⟨hf, hq⟩, h1⟩
    have hq := And.intro hq0 hq
    refine ⟨(0, 0), hf, ⟨by dsimp only; omega, by dsimp only; omega, by dsimp only; omega, by dsimp only; omega, hq⟩, ?_⟩
    rintro e vs bs ⟨rfl, rfl, rfl⟩
    refine h1 _ ?_
    simp only [Int.sub_zero, Int.zero_add]
    rfl
def OO (n cap : Nat) (l : Int → Src) (b : Sus) (wide : Int) (Q : Nat) (s : Int × Int × Int) (e : VEx) (vs : List VV) (bs : List VB) : Prop :=
  e = .exit 1 ∧ vs = VO n cap Q Q (bestF (apartQ n l wide) (Q - s.1).toNat s.1 s.2.1 s.2.2).1 (bestF (apartQ n l wide) (Q - s.1).toNat s.1 s.2.1 s.2.2).2 ∧ bs = BO n l b wide

theorem LO_ok' (hw : Wf n l b) (hcap : n ≤ cap) (hv : srcsB n l = true) (h0n : 0 < n) : LSound Try.prog true (.block 1 (.loop (loopB 1 (bodyOf Try.prog 19)))) 76 (LO n cap l b wide (l 0).vl) := by
  obtain ⟨hval1, hval2⟩ := srcs_valid hv
  have hQ := (hval2 0 (Int.le_refl 0) (by omega)).2.1
  refine loop_rowD hmix (goodT2 hw) (un := 10) (ds := dsO) (ns := [0, 1, 2, 3]) (nx := 4) (lsp := fun s : Int × Int × Int => tabB [(3, LM n cap l b wide (l 0).vl s.1 s.2.1 s.2.2)]) (fun s : Int × Int × Int => VO n cap (l 0).vl s.1 s.2.1 s.2.2) (fun _ => BO n l b wide) (fun s => 0 ≤ s.1 ∧ s.1 ≤ (l 0).vl) (fun s => ((l 0).vl - s.1).toNat) (OO n cap l b wide (l 0).vl) ?_ ?_ ?_
  · rintro ⟨q, bq, ba⟩ ⟨h0, h1⟩ id' T' hT b' hb'
    exact one_blk (by kernel_rfl) (LM_ok hw hcap hv h0) id' T' hT b' hb'
  · rintro ⟨q, bq, ba⟩ ⟨h0, h1⟩
    simp only at h0 h1
    rw [rO_ev]
    by_cases hlt : q < (l 0).vl
    · have hst := bestF_step (f := apartQ n l wide) (bq := bq) (ba := ba) h0 hlt
      refine cond_dk hlt ⟨⟨⟨⟨rfl, rfl, VB.fit_refl _, VB.fit_refl _, VB.fit_refl _, VB.fit_refl _, trivial⟩, rfl, rfl, rfl, rfl, rfl, rfl, rfl, rfl, rfl, rfl, rfl, trivial⟩, hlt⟩, fun y hy => ?_⟩
      subst hy
      refine cond_d (fun g => cond_r (by omega) ⟨(q + 1, q, apartQ n l wide q), ⟨by dsimp only; omega, by dsimp only; omega⟩, by dsimp only; omega, rfl, fitBs_refl _, fun e vs bs ho => ?_⟩) (fun g => cond_r (by omega) ⟨(q + 1, bq, ba), ⟨by dsimp only; omega, by dsimp only; omega⟩, by dsimp only; omega, rfl, fitBs_refl _, fun e vs bs ho => ?_⟩)
      · obtain ⟨o1, o2, o3⟩ := ho
        refine ⟨o1, ?_, o3⟩
        rw [o2]
        simp only [hst, g, decide_true, cond_true]
      · obtain ⟨o1, o2, o3⟩ := ho
        refine ⟨o1, ?_, o3⟩
        rw [o2]
        simp only [hst, g, decide_false, cond_false]
    · refine cond_d (fun h => absurd h hlt) (fun _ => ⟨rfl, ?_, rfl⟩)
      have hk : q = (l 0).vl := by omega
      subst hk
      simp [VO, bestF]
  · rintro lock t h K ⟨⟨hf, _⟩, h1⟩
    refine ⟨(0, 0, 0), hf, ⟨by dsimp only; omega, by dsimp only; omega⟩, ?_⟩
    rintro e vs bs ⟨rfl, rfl, rfl⟩
    refine h1 _ _ ?_
    simp only [Int.sub_zero]
    rfl

theorem LO_ok (hw : Wf n l b) (hcap : n ≤ cap) : LSound Try.prog true (.block 1 (.loop (loopB 1 (bodyOf Try.prog 19)))) 76 (LO n cap l b wide (l 0).vl) := by
  intro lock t h K hK
  exact LO_ok' hw hcap hK.1.2.1 hK.1.2.2 lock t h K hK

def res3 (r : Int × Int × Int) : VRes := .ret (.tup [I r.1, I r.2.1, I r.2.2])

theorem ask19_v (hw : Wf n l b) (hcap : n ≤ cap) : ∃ h', CallsV Try.prog 19 [lV n cap, I wide] (bH n l b) (res3 (askF n l wide)) h' ∧ h'.at 0 = srcA n l ∧ h'.at 1 = valA n l ∧ h'.at 2 = seenA b := by
  have hsp := spBL_ok hmix (tabs_ok (t2_ok hw)) (f := 19) (lo_one (by kernel_rfl) (LO_ok (wide := wide) hw hcap)) (un := 10) (fu := 20)
  obtain ⟨r, h', hQ, hc⟩ := of_sp hsp (args := [lV n cap, I wide]) (h := bH n l b) (K := fun r h' => (h'.at 0 = srcA n l ∧ h'.at 1 = valA n l ∧ h'.at 2 = seenA b) ∧ r = res3 (askF n l wide))
    (by
      rw [f19_ev]
      refine ⟨⟨⟨rfl, rfl, rfl⟩, rfl⟩, cond_b (fun q1 => ⟨⟨rfl, rfl, rfl⟩, ?_⟩) (fun q1 => cond_b (fun q2 => ⟨⟨rfl, rfl, rfl⟩, ?_⟩) (fun q2 => cond_d (fun q3 => ⟨⟨rfl, rfl, rfl⟩, ?_⟩) (fun q3 => cond_dk ⟨by omega, by omega⟩ ⟨⟨rfl, by omega, by omega⟩, ⟨⟨⟨rfl, rfl, VB.fit_refl _, VB.fit_refl _, VB.fit_refl _, VB.fit_refl _, trivial⟩, rfl, rfl, rfl, rfl, rfl, rfl, trivial⟩, by simpa using q1, by omega⟩, fun x y hxy => ?_⟩)))⟩
      · simp at q1; simp [askF, q1, res3]
      · simp at q1 q2; simp [askF, q1, q2, res3]
      · have hn0 : n = 0 := by omega
        subst hn0; simp at q1 q2; simp [askF, q1, q2, res3]
      · simp at q1 q2
        have hn0 : ¬ n = 0 := by omega
        refine cond_d (fun g => ⟨⟨rfl, rfl, rfl⟩, ?_⟩) (fun g => ⟨⟨rfl, rfl, rfl⟩, ?_⟩)
        · simp [askF, q1, q2, hn0, ← hxy, g, res3]
        · simp [askF, q1, q2, hn0, ← hxy, g, res3])
  obtain ⟨hh, rfl⟩ := hQ
  exact ⟨h', hc, hh⟩
end
end Go.Sx.Gen
