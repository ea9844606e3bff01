/- genuine: the law GenuineApart. -/
import Derived.Test.YtoionnljbacmkaaGd1

namespace Go.Sx.Gen
open Go Go.Sx Go.Proofs
set_option maxRecDepth 100000

theorem bestF_spec {f : Int → Int} : ∀ (Q : Nat) (q bq ba : Int), ba ≤ (bestF f Q q bq ba).2 ∧ (∀ k, q ≤ k → k < q + Q → f k ≤ (bestF f Q q bq ba).2) ∧
    (bestF f Q q bq ba = (bq, ba) ∨ (q ≤ (bestF f Q q bq ba).1 ∧ (bestF f Q q bq ba).1 < q + Q ∧ f (bestF f Q q bq ba).1 = (bestF f Q q bq ba).2 ∧ ba < (bestF f Q q bq ba).2 ∧ ∀ k, q ≤ k → k < (bestF f Q q bq ba).1 → f k < (bestF f Q q bq ba).2))
  | 0, q, bq, ba => by
    refine ⟨Int.le_refl _, fun k h1 h2 => by omega, .inl rfl⟩
  | Q + 1, q, bq, ba => by
    by_cases hg : f q > ba
    · have e : bestF f (Q + 1) q bq ba = bestF f Q (q + 1) q (f q) := by simp only [bestF, hg, decide_true, cond_true]
      rw [e]
      obtain ⟨h1, h2, h3⟩ := bestF_spec (f := f) Q (q + 1) q (f q)
      refine ⟨by omega, fun k g1 g2 => ?_, .inr ?_⟩
      · by_cases hk : k = q
        · subst hk; exact h1
        · exact h2 k (by omega) (by omega)
      · rcases h3 with h3 | ⟨h3, h4, h5, h6, h7⟩
        · rw [h3]
          exact ⟨Int.le_refl _, by omega, rfl, hg, fun k g1 g2 => by dsimp only at g2; omega⟩
        · refine ⟨by omega, by omega, h5, by omega, fun k g1 g2 => ?_⟩
          by_cases hk : k = q
          · subst hk; exact h6
          · exact h7 k (by omega) g2
    · have e : bestF f (Q + 1) q bq ba = bestF f Q (q + 1) bq ba := by simp only [bestF, hg, decide_false, cond_false]
      rw [e]
      obtain ⟨h1, h2, h3⟩ := bestF_spec (f := f) Q (q + 1) bq ba
      refine ⟨h1, fun k g1 g2 => ?_, ?_⟩
      · by_cases hk : k = q
        · subst hk; omega
        · exact h2 k (by omega) (by omega)
      · rcases h3 with h3 | ⟨h3, h4, h5, h6, h7⟩
        · exact .inl h3
        · refine .inr ⟨by omega, by omega, h5, h6, fun k g1 g2 => ?_⟩
          by_cases hk : k = q
          · subst hk; omega
          · exact h7 k (by omega) g2

theorem cnt_mono {p q : Int → Bool} (h : ∀ i, p i = true → q i = true) : ∀ (k : Nat) (i : Int), cnt p k i ≤ cnt q k i
  | 0, _ => Int.le_refl _
  | k + 1, i => by
    have := cnt_mono h k (i + 1)
    simp only [cnt]
    cases hp : p i with
    | false => cases q i <;> simp <;> omega
    | true => rw [h i hp]; simp; omega

theorem sumI_mono {f g : Int → Int} (h : ∀ i, f i ≤ g i) : ∀ (k : Nat) (i : Int), sumI f k i ≤ sumI g k i
  | 0, _ => Int.le_refl _
  | k + 1, i => by
    have := sumI_mono h k (i + 1)
    have := h i
    simp only [sumI]
    omega

theorem apart_mono {n : Nat} {l : Int → Src} {wide less q : Int} (h : less ≤ wide) : apartQ n l wide q ≤ apartQ n l less q := by
  refine sumI_mono (fun i => cnt_mono (fun k hk => ?_) _ _) _ _
  simp only [dB, decide_eq_true_eq] at hk ⊢
  omega

theorem ask_facts {n : Nat} {l : Int → Src} {wide x y z : Int} (h : askF n l wide = (x, y, z)) :
    (srcsB n l = false ∧ x = 0 ∧ y = 0 ∧ z = 1) ∨ (srcsB n l = true ∧ inB wide 0 1048576 = false ∧ x = 0 ∧ y = 0 ∧ z = 2) ∨
    (srcsB n l = true ∧ inB wide 0 1048576 = true ∧ x = 0 ∧ y = 0 ∧ z = 4 ∧ (0 < n → ∀ k : Int, 0 ≤ k → k < (l 0).vl → apartQ n l wide k ≤ 0)) ∨
    (srcsB n l = true ∧ inB wide 0 1048576 = true ∧ 0 < n ∧ z = 0 ∧ 0 < y ∧ 0 ≤ x ∧ x < (l 0).vl ∧ apartQ n l wide x = y ∧ ∀ k : Int, 0 ≤ k → k < (l 0).vl → apartQ n l wide k ≤ y ∧ (k < x → apartQ n l wide k < y)) := by
  unfold askF at h
  cases h1 : srcsB n l with
  | false => rw [h1] at h; simp at h; exact .inl ⟨rfl, h.1.symm, h.2.1.symm, h.2.2.symm⟩
  | true =>
    rw [h1] at h
    cases h2 : inB wide 0 1048576 with
    | false => rw [h2] at h; simp at h; exact .inr (.inl ⟨rfl, rfl, h.1.symm, h.2.1.symm, h.2.2.symm⟩)
    | true =>
      rw [h2] at h
      simp only [cond_true] at h
      obtain ⟨g1, g2, g3⟩ := bestF_spec (f := apartQ n l wide) (l 0).vl 0 0 0
      by_cases hn : n = 0
      · rw [decide_eq_true hn] at h
        simp at h
        exact .inr (.inr (.inl ⟨rfl, rfl, h.1.symm, h.2.1.symm, h.2.2.symm, fun h0 => by omega⟩))
      · rw [decide_eq_false hn] at h
        simp only [cond_false] at h
        by_cases hb : (bestF (apartQ n l wide) (l 0).vl 0 0 0).2 = 0
        · rw [decide_eq_true hb] at h
          simp at h
          exact .inr (.inr (.inl ⟨rfl, rfl, h.1.symm, h.2.1.symm, h.2.2.symm, fun _ k k0 k1 => by have := g2 k k0 (by omega); omega⟩))
        · rw [decide_eq_false hb] at h
          simp only [cond_false, Prod.mk.injEq] at h
          obtain ⟨rfl, rfl, rfl⟩ := h
          rcases g3 with g3 | ⟨g3, g4, g5, g6, g7⟩
          · rw [g3] at hb; exact (hb rfl).elim
          · exact .inr (.inr (.inr ⟨rfl, rfl, by omega, rfl, g6, g3, by omega, g5, fun k k0 k1 => ⟨g2 k k0 (by omega), fun hk => g7 k k0 hk⟩⟩))

section
variable {n cap : Nat} {l : Int → Src} {b : Sus} {wide less : Int}

theorem askU_ok {f : FuncId} (h : SpOk Try.prog (askT f n l b).1 (askT f n l b).2) : SpOk Try.prog (askU f n l b).1 (askU f n l b).2 := by
  intro lock args hh K hK
  refine h lock args hh K ?_
  simp only [askU] at hK
  simp only [askT]
  split at hK
  · exact ⟨hK.1, hK.2 _ _ _ rfl⟩
  · exact hK.elim

theorem t3_ok (hw : Wf n l b) : ∀ x ∈ t3 n l b, SpOk Try.prog x.1 x.2 := by
  intro x hx
  simp only [t3, List.mem_cons] at hx
  rcases hx with rfl | rfl | hx
  · exact awT_ok
  · exact askU_ok (ask19_ok hw)
  · exact t2_ok hw x hx

theorem goodT3 (hw : Wf n l b) : Good Try.prog (callN Try.prog (tabS (t3 n l b)) noL 10 20) := tab_good hmix (t3_ok hw) 20

def Q2 (n cap : Nat) (l : Int → Src) (b : Sus) (wide less q m e k i : Int) (s : Int × Int) (ex : VEx) (vs : List VV) (bs : List VB) : Prop :=
  ex = .exit 4 ∧ vs = VA2 n cap wide less q m e k i i (s.2 + cnt (dB l wide k i) (i.toNat - s.1).toNat s.1) ∧ bs = bL n l b

theorem A2_ok (hw : Wf n l b) (hv : srcsB n l = true) (hwd : inB wide 0 1048576 = true) {q m e k i c : Int} (hq : 0 ≤ k ∧ k < (l 0).vl) (hi0 : 0 ≤ i) :
    LSound Try.prog true (.block 4 (.loop (loopB 4 (bodyOf Try.prog 8)))) 198 (A2 n cap l b wide less q m e k i c) := by
  obtain ⟨hval1, hval2⟩ := srcs_valid hv
  simp only [inB, Bool.and_eq_true, decide_eq_true_eq] at hwd
  refine loop_row hmix (goodT3 hw) (un := 10) (ds := dsA2) (ns := [0, 1, 2]) (nx := 3)
    (fun s : Int × Int => VA2 n cap wide less q m e k i s.1 s.2) (fun _ => bL n l b) (fun s => i < n ∧ 0 ≤ s.1 ∧ s.1 ≤ i ∧ 0 ≤ s.2 ∧ s.2 ≤ 64 * i + s.1) (fun s => (i - s.1).toNat) (Q2 n cap l b wide less q m e k i) noL_ok ?_ ?_
  · rintro ⟨j, c⟩ ⟨hm, h0, h1, h2, h3⟩
    simp only at h0 h1 h2 h3
    have hi : 0 ≤ i ∧ i < n := by omega
    have vi := hval2 i hi.1 hi.2
    rw [u2_ev]
    by_cases hlt : j < i
    · have hst := cnt_step (p := dB l wide k i) (m := i.toNat) h0 (by omega)
      have vk := hval2 j h0 (by omega)
      have s1 := vi.2.2.2.2 k hq.1 (by omega)
      have s2 := vk.2.2.2.2 k hq.1 (by omega)
      refine cond_dk hlt (cond_dk hi ⟨⟨rfl, by omega, by omega⟩, ?_⟩)
      simp only [Int.zero_add, at1]
      have hd : dB l wide k i j = decide (max ((l i).lo k) ((l j).lo k) - min ((l i).hi k) ((l j).hi k) > wide) := rfl
      refine cond_dk ⟨hq.1, by omega⟩ ⟨⟨i, rfl, hi.1, hi.2, hq.1, by omega⟩, cond_dk ⟨h0, by omega⟩ ⟨⟨trivial, h0, by omega⟩, cond_dk ⟨hq.1, by omega⟩ ⟨⟨j, rfl, h0, by omega, hq.1, by omega⟩, cond_r (by omega) ?_⟩⟩⟩
      have yes : (max ((l i).lo k) ((l j).lo k) - min ((l i).hi k) ((l j).hi k) > wide) → RoundQ (fun s : Int × Int => VA2 n cap wide less q m e k i s.1 s.2) (fun _ => bL n l b) (fun s => i < n ∧ 0 ≤ s.1 ∧ s.1 ≤ i ∧ 0 ≤ s.2 ∧ s.2 ≤ 64 * i + s.1) (fun s => (i - s.1).toNat) (Q2 n cap l b wide less q m e k i) (j, c) .normal (VA2 n cap wide less q m e k i (j + 1) (c + 1)) (bL n l b) := by
        intro g
        refine ⟨(j + 1, c + 1), ⟨hm, by dsimp only; omega, by dsimp only; omega, by dsimp only; omega, by dsimp only; omega⟩, by dsimp only; omega, rfl, fitBs_refl _, fun e vs bs ho => ?_⟩
        obtain ⟨o1, o2, o3⟩ := ho
        refine ⟨o1, ?_, o3⟩
        rw [o2]
        simp only [hst, hd, g, decide_true, cond_true]
        rw [Int.add_assoc]
      refine cond_d (fun g => cond_r (by omega) (cond_r (by omega) (yes (by omega)))) (fun g => cond_r (by omega) (cond_d (fun g2 => cond_r (by omega) (cond_r (by omega) (yes (by omega)))) (fun g2 => cond_r (by omega) ⟨(j + 1, c), ⟨hm, by dsimp only; omega, by dsimp only; omega, by dsimp only; omega, by dsimp only; omega⟩, by dsimp only; omega, rfl, fitBs_refl _, fun e vs bs ho => ?_⟩)))
      obtain ⟨o1, o2, o3⟩ := ho
      refine ⟨o1, ?_, o3⟩
      rw [o2]
      have ng : ¬ (max ((l i).lo k) ((l j).lo k) - min ((l i).hi k) ((l j).hi k) > wide) := by omega
      simp only [hst, hd, ng, decide_false, cond_false, Int.zero_add]
    · refine cond_d (fun h => absurd h hlt) (fun _ => ⟨rfl, ?_, rfl⟩)
      have hk : j = i := by omega
      subst hk
      rw [show ((j.toNat : Int) - j).toNat = 0 by omega]
      simp [VA2, cnt]
  · rintro lock t h K ⟨⟨hf, hin, hc⟩, h1⟩
    refine ⟨(0, c), hf, ⟨hin, by dsimp only; omega, by dsimp only; omega, hc.1, by dsimp only; omega⟩, ?_⟩
    rintro e vs bs ⟨rfl, rfl, rfl⟩
    refine h1 _ ?_
    simp only [Int.sub_zero]
    rfl

def Q1 (n cap : Nat) (l : Int → Src) (b : Sus) (wide less q m e k : Int) (s : Int × Int) (ex : VEx) (vs : List VV) (bs : List VB) : Prop :=
  ex = .exit 2 ∧ vs = VA1 n cap wide less q m e k n (s.2 + sumI (fun i => cnt (dB l wide k i) i.toNat 0) (n - s.1).toNat s.1) ∧ bs = bL n l b

theorem A1_ok (hw : Wf n l b) (hv : srcsB n l = true) (hwd : inB wide 0 1048576 = true) {q m e k : Int} (hq0 : 0 ≤ k) :
    LSound Try.prog true (.block 2 (.loop (loopB 2 (bodyOf Try.prog 8)))) 198 (A1 n cap l b wide less q m e k) := by
  obtain ⟨hval1, hval2⟩ := srcs_valid hv
  refine loop_rowD hmix (goodT3 hw) (un := 10) (ds := dsA1) (ns := [0, 1, 2]) (nx := 3) (lsp := fun s : Int × Int => tabB [(4, A2 n cap l b wide less q m e k s.1 s.2)]) (fun s : Int × Int => VA1 n cap wide less q m e k s.1 s.2) (fun _ => bL n l b) (fun s => 0 ≤ s.1 ∧ s.1 ≤ n ∧ 0 ≤ s.2 ∧ s.2 ≤ 64 * s.1 ∧ 0 ≤ k ∧ k < (l 0).vl) (fun s => (n - s.1).toNat) (Q1 n cap l b wide less q m e k) ?_ ?_ ?_
  · rintro ⟨i, c⟩ ⟨h0, h1, h2, h3, hq⟩ id' T' hT b' hb'
    exact one_blk (by kernel_rfl) (A2_ok hw hv hwd hq h0) id' T' hT b' hb'
  · rintro ⟨i, c⟩ ⟨h0, h1, h2, h3, hq⟩
    simp only at h0 h1 h2 h3
    rw [u1_ev]
    by_cases hlt : i < n
    · have hst := sumI_step (f := fun i => cnt (dB l wide k i) i.toNat 0) h0 hlt
      have hc := cnt_b (p := dB l wide k i) i.toNat 0
      refine cond_dk hlt ⟨⟨fitP_self rfl, hlt, h2, h3⟩, fun y hy => ?_⟩
      subst hy
      refine cond_r (by omega) ⟨(i + 1, c + cnt (dB l wide k i) i.toNat 0), ⟨by dsimp only; omega, by dsimp only; omega, by dsimp only; omega, by dsimp only; omega, hq⟩, by dsimp only; omega, rfl, fitBs_refl _, fun e vs bs ho => ?_⟩
      obtain ⟨o1, o2, o3⟩ := ho
      refine ⟨o1, ?_, o3⟩
      rw [o2]
      simp only [hst]
      rw [Int.add_assoc]
    · refine cond_d (fun h => absurd h hlt) (fun _ => ⟨rfl, ?_, rfl⟩)
      have hk : i = n := by omega
      subst hk
      simp [VA1, sumI]
  · rintro lock t h K ⟨⟨hf, hq⟩, h1⟩
    refine ⟨(0, 0), hf, ⟨by dsimp only; omega, by dsimp only; omega, by dsimp only; omega, by dsimp only; omega, hq0, hq⟩, ?_⟩
    rintro e vs bs ⟨rfl, rfl, rfl⟩
    refine h1 _ ?_
    simp only [Int.sub_zero, Int.zero_add]
    rfl

theorem A0_ok' (hw : Wf n l b) (hv : srcsB n l = true) (hwd : inB wide 0 1048576 = true) {q m e : Int} (ha : askF n l wide = (q, m, e)) : LSound Try.prog true (.block 0 (.loop (loopB 0 (bodyOf Try.prog 8)))) 198 (A0 n cap l b wide less q m e) := by
  obtain ⟨hval1, hval2⟩ := srcs_valid hv
  refine loop_rowD hmix (goodT3 hw) (un := 10) (ds := dsA0) (ns := [0, 1, 2]) (nx := 3) (lsp := fun k : Int => tabB [(2, A1 n cap l b wide less q m e k)]) (fun k : Int => VA0 n cap wide less q m e k) (fun _ => bL n l b) (fun k => 0 ≤ k ∧ (0 < n → k ≤ (l 0).vl)) (fun k => ((l 0).vl - k).toNat) (fun _ ex vs bs => ex = .exit 0 ∧ (∃ j, vs = VA0 n cap wide less q m e j) ∧ bs = bL n l b) ?_ ?_ ?_
  · rintro k ⟨h0, h1⟩ id' T' hT b' hb'
    exact one_blk (by kernel_rfl) (A1_ok hw hv hwd h0) id' T' hT b' hb'
  · rintro k ⟨h0, h1⟩
    rw [u0_ev]
    by_cases hn : 0 < n
    · have h1 := h1 hn
      have hQ := (hval2 0 (Int.le_refl 0) (by omega)).2.1
      refine cond_dk (by omega) (cond_dk ⟨by omega, by omega⟩ ⟨⟨rfl, by omega, by omega⟩, ?_⟩)
      by_cases hlt : k < (l 0).vl
      · refine cond_dk hlt ⟨⟨fitP_self rfl, hlt⟩, fun y hy => ?_⟩
        have hnext : RoundQ (fun k : Int => VA0 n cap wide less q m e k) (fun _ => bL n l b) (fun k => 0 ≤ k ∧ (0 < n → k ≤ (l 0).vl)) (fun k => ((l 0).vl - k).toNat) (fun _ ex vs bs => ex = .exit 0 ∧ (∃ j, vs = VA0 n cap wide less q m e j) ∧ bs = bL n l b) k .normal (VA0 n cap wide less q m e (k + 1)) (bL n l b) :=
          ⟨k + 1, ⟨by omega, fun _ => by omega⟩, by dsimp only; omega, rfl, fitBs_refl _, fun _ _ _ ho => ho⟩
        have fin : (e = 4 ∧ y ≤ 0) ∨ (e = 0 ∧ y ≤ m ∧ (k < q → y < m) ∧ (k = q → y = m)) := by
          rcases ask_facts ha with ⟨hs, _⟩ | ⟨_, hi, _⟩ | ⟨_, _, _, _, rfl, h5⟩ | ⟨_, _, _, rfl, _, _, _, h5, h6⟩
          · rw [hv] at hs; cases hs
          · rw [hwd] at hi; cases hi
          · exact .inl ⟨rfl, by rw [hy]; exact h5 hn k h0 hlt⟩
          · have := h6 k h0 hlt
            exact .inr ⟨rfl, by omega, fun hk => by have := this.2 hk; omega, fun hk => by subst hk; omega⟩
        have hy0 : (0 : Int) ≤ k := h0
        clear hy
        repeat' first
          | refine cond_r (by omega) ?_
          | (refine cond_d (fun _ => ?_) (fun _ => ?_) <;> try (exfalso; omega))
          | (refine cond_nd (fun _ => ?_) (fun _ => ?_) <;> try (exfalso; omega))
        all_goals exact hnext
      · exact cond_d (fun h => absurd h hlt) (fun _ => ⟨rfl, ⟨k, rfl⟩, rfl⟩)
    · exact cond_d (fun h => by omega) (fun _ => ⟨rfl, ⟨k, rfl⟩, rfl⟩)
  · rintro lock t h K ⟨⟨hf, _⟩, h1⟩
    refine ⟨0, hf, ⟨by omega, fun _ => by omega⟩, ?_⟩
    rintro e vs bs ⟨rfl, ⟨j, rfl⟩, rfl⟩
    exact h1 j

theorem A0r_ok (hw : Wf n l b) : LSound Try.prog true (.block 0 (.loop (loopB 0 (bodyOf Try.prog 8)))) 198 (A0r n cap l b wide less) := by
  intro lock t h K hK
  unfold A0r at hK
  split at hK
  · exact A0_ok' hw hK.1.2.1 hK.1.2.2.1 hK.1.2.2.2 lock t h K hK
  · exact hK.elim

theorem law8_v (hw : Wf n l b) (hcap : n ≤ cap) (wide less : Int) : ∃ h', CallsV Try.prog 8 [lV n cap, I wide, I less] (bH n l b) (.ret (.bool true)) h' := by
  have hsp := spBL_ok hmix (tabs_ok (t3_ok hw)) (f := 8) (lo_one (by kernel_rfl) (A0r_ok (cap := cap) (wide := wide) (less := less) hw)) (un := 10) (fu := 20)
  obtain ⟨r, h', hQ, hc⟩ := of_sp hsp (args := [lV n cap, I wide, I less]) (h := bH n l b) (K := boH n l b (fun y => y = true))
    (by
      rw [law8_ev]
      have q : boH n l b (fun y => y = true) (.ret (.bool true)) (VH.mk 3 [(0, srcA n l), (1, valA n l), (2, seenA b)]) := ⟨⟨rfl, rfl, rfl⟩, true, rfl, rfl⟩
      have ib : inB wide 0 1048576 = true ↔ 0 ≤ wide ∧ wide ≤ 1048576 := by simp [inB]
      refine cond_d (fun _ => q) (fun _ => ⟨⟨⟨rfl, rfl, rfl⟩, rfl, hcap⟩, fun x y z ha => ?_⟩)
      have hf := ask_facts ha
      cases hs : srcsB n l with
      | false =>
        simp [hs] at hf
        obtain ⟨rfl, rfl, rfl⟩ := hf
        exact cond_dk rfl (cond_dk rfl (cond_dk rfl q))
      | true =>
        cases hi : inB wide 0 1048576 with
        | false =>
          simp [hs, hi] at hf
          obtain ⟨rfl, rfl, rfl⟩ := hf
          exact cond_d (fun h => by omega) (fun _ => cond_dk rfl (cond_dk rfl (cond_dk rfl q)))
        | true =>
          simp only [hs, hi, Bool.true_eq_false, false_and, true_and, false_or, and_false] at hf
          have hi' := ib.1 hi
          refine cond_d (fun h => by omega) (fun _ => cond_d (fun h => by omega) (fun _ => ⟨⟨⟨rfl, rfl, rfl⟩, rfl⟩, ?_⟩))
          refine cond_d (fun h => by omega) (fun _ => cond_d (fun h => by omega) (fun _ => ⟨⟨fitP_self rfl, rfl, rfl, ha⟩, fun j => ?_⟩))
          rcases hf with ⟨rfl, rfl, rfl, _⟩ | ⟨hn, rfl, hy, hx0, hx1, hx2, _⟩
          · exact cond_nd (fun _ => cond_dk rfl (cond_dk rfl (cond_dk rfl q))) (fun h => by omega)
          · refine cond_nd (fun h => absurd rfl h) (fun _ => cond_d (fun _ => cond_dk hy q) (fun l0 => cond_d (fun _ => cond_dk hy q) (fun l1 => ⟨⟨⟨rfl, rfl, rfl⟩, rfl, hcap⟩, fun x2 y2 z2 ha2 => ?_⟩)))
            have hm := apart_mono (n := n) (l := l) (q := x) (wide := wide) (less := less) (by omega)
            have hl : inB less 0 1048576 = true := by simp [inB]; omega
            have hf2 := ask_facts ha2
            simp only [hs, hl, Bool.true_eq_false, false_and, true_and, false_or] at hf2
            rcases hf2 with ⟨_, _, _, h5⟩ | ⟨_, rfl, _, _, _, _, h6⟩
            · have := h5 hn x hx0 hx1; omega
            · have := (h6 x hx0 hx1).1
              exact cond_dk rfl (cond_dk (by omega) (cond_dk hy q)))
  obtain ⟨hh, y, rfl, rfl⟩ := hQ
  exact ⟨h', hc⟩
end
end Go.Sx.Gen
