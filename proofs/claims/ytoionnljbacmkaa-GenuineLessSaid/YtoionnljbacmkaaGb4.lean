/- genuine: the document's Ask. -/
import Derived.Test.YtoionnljbacmkaaGb3

namespace Go.Sx.Gen
open Go Go.Sx Go.Proofs
set_option maxRecDepth 100000

section
variable {n cap : Nat} {l : Int → Src} {b : Sus} {wide : Int}

def PI (n cap : Nat) (l : Int → Src) (b : Sus) (wide q bq ba i : Int) (s : Int × Int) (e : VEx) (vs : List VV) (bs : List VB) : Prop :=
  e = .exit 4 ∧ vs = VRI n cap wide q bq ba i i (s.2 + cnt (dB l wide q i) (i.toNat - s.1).toNat s.1) ∧ bs = bL n l b

theorem RI_ok (hw : Wf n l b) (hv : srcsB n l = true) {q bq ba i c : Int} (hq : 0 ≤ q ∧ q < (l 0).vl) (hi0 : 0 ≤ i) :
    LSound Try.prog true (.block 4 (.loop (loopB 4 (bodyOf Try.prog 20)))) 86 (RI n cap l b wide q bq ba i c) := by
  obtain ⟨hval1, hval2⟩ := srcs_valid hv
  refine loop_row hmix (goodT2 hw) (un := 10) (ds := dsRI) (ns := [0, 1, 2]) (nx := 3)
    (fun s : Int × Int => VRI n cap wide q bq ba i s.1 s.2) (fun _ => bL n l b) (fun s => i < n ∧ 0 ≤ s.1 ∧ s.1 ≤ i ∧ 0 ≤ s.2 ∧ s.2 ≤ 64 * i + s.1) (fun s => (i - s.1).toNat) (PI n cap l b wide q bq ba i) noL_ok ?_ ?_
  · rintro ⟨k, c⟩ ⟨hm, h0, h1, h2, h3⟩
    simp only at h0 h1 h2 h3
    have hi : 0 ≤ i ∧ i < n := by omega
    have vi := hval2 i hi.1 hi.2
    rw [sI_ev]
    by_cases hlt : k < i
    · have hst := cnt_step (p := dB l wide q i) (m := i.toNat) h0 (by omega)
      have vk := hval2 k h0 (by omega)
      have s1 := vi.2.2.2.2 q hq.1 (by omega)
      have s2 := vk.2.2.2.2 q hq.1 (by omega)
      refine cond_dk hlt (cond_dk hi ⟨⟨rfl, by omega, by omega⟩, ?_⟩)
      simp only [Int.zero_add, at1]
      have hd : dB l wide q i k = decide (max ((l i).lo q) ((l k).lo q) - min ((l i).hi q) ((l k).hi q) > wide) := rfl
      refine cond_dk ⟨hq.1, by omega⟩ ⟨⟨i, rfl, hi.1, hi.2, hq.1, by omega⟩, cond_dk ⟨h0, by omega⟩ ⟨⟨trivial, h0, by omega⟩, cond_dk ⟨hq.1, by omega⟩ ⟨⟨k, rfl, h0, by omega, hq.1, by omega⟩, cond_r (by omega) ?_⟩⟩⟩
      refine cond_d (fun g => cond_r (by omega) (cond_r (by omega) ⟨(k + 1, c + 1), ⟨hm, by dsimp only; omega, by dsimp only; omega, by dsimp only; omega, by dsimp only; omega⟩, by dsimp only; omega, rfl, fitBs_refl _, fun e vs bs ho => ?_⟩)) (fun g => cond_r (by omega) ⟨(k + 1, c), ⟨hm, by dsimp only; omega, by dsimp only; omega, by dsimp only; omega, by dsimp only; omega⟩, by dsimp only; omega, rfl, fitBs_refl _, fun e vs bs ho => ?_⟩)
      · obtain ⟨o1, o2, o3⟩ := ho
        refine ⟨o1, ?_, o3⟩
        rw [o2]
        simp only [hst, hd, g, decide_true, cond_true]
        rw [Int.add_assoc]
      · obtain ⟨o1, o2, o3⟩ := ho
        refine ⟨o1, ?_, o3⟩
        rw [o2]
        simp only [hst, hd, g, decide_false, cond_false, Int.zero_add]
    · refine cond_d (fun h => absurd h hlt) (fun _ => ⟨rfl, ?_, rfl⟩)
      have hk : k = i := by omega
      subst hk
      rw [show ((k.toNat : Int) - k).toNat = 0 by omega]
      simp [VRI, cnt]
  · rintro lock t h K ⟨⟨hf, hin, hc⟩, h1⟩
    refine ⟨(0, c), hf, ⟨hin, by dsimp only; omega, by dsimp only; omega, hc.1, by dsimp only; omega⟩, ?_⟩
    rintro e vs bs ⟨rfl, rfl, rfl⟩
    refine h1 _ ?_
    simp only [Int.sub_zero]
    rfl

def PM (n cap : Nat) (l : Int → Src) (b : Sus) (wide q bq ba : Int) (s : Int × Int) (e : VEx) (vs : List VV) (bs : List VB) : Prop :=
  e = .exit 2 ∧ vs = VRM n cap wide q bq ba n (s.2 + sumI (fun i => cnt (dB l wide q i) i.toNat 0) (n - s.1).toNat s.1) ∧ bs = bL n l b

theorem RM_ok (hw : Wf n l b) (hv : srcsB n l = true) {q bq ba : Int} (hq0 : 0 ≤ q) :
    LSound Try.prog true (.block 2 (.loop (loopB 2 (bodyOf Try.prog 20)))) 86 (RM n cap l b wide q bq ba) := by
  obtain ⟨hval1, hval2⟩ := srcs_valid hv
  refine loop_rowD hmix (goodT2 hw) (un := 10) (ds := dsRM) (ns := [0, 1, 2]) (nx := 3) (lsp := fun s : Int × Int => tabB [(4, RI n cap l b wide q bq ba s.1 s.2)]) (fun s : Int × Int => VRM n cap wide q bq ba s.1 s.2) (fun _ => bL n l b) (fun s => 0 ≤ s.1 ∧ s.1 ≤ n ∧ 0 ≤ s.2 ∧ s.2 ≤ 64 * s.1 ∧ 0 ≤ q ∧ q < (l 0).vl) (fun s => (n - s.1).toNat) (PM n cap l b wide q bq ba) ?_ ?_ ?_
  · rintro ⟨i, c⟩ ⟨h0, h1, h2, h3, hq⟩ id' T' hT b' hb'
    exact one_blk (by kernel_rfl) (RI_ok hw hv hq h0) id' T' hT b' hb'
  · rintro ⟨i, c⟩ ⟨h0, h1, h2, h3, hq⟩
    simp only at h0 h1 h2 h3
    rw [sM_ev]
    by_cases hlt : i < n
    · have hst := sumI_step (f := fun i => cnt (dB l wide q i) i.toNat 0) h0 hlt
      have hc := cnt_b (p := dB l wide q i) i.toNat 0
      refine cond_dk hlt ⟨⟨fitP_self rfl, hlt, h2, h3⟩, fun y hy => ?_⟩
      subst hy
      refine cond_r (by omega) ⟨(i + 1, c + cnt (dB l wide q i) i.toNat 0), ⟨by dsimp only; omega, by dsimp only; omega, by dsimp only; omega, by dsimp only; omega, hq⟩, by dsimp only; omega, rfl, fitBs_refl _, fun e vs bs ho => ?_⟩
      obtain ⟨o1, o2, o3⟩ := ho
      refine ⟨o1, ?_, o3⟩
      rw [o2]
      simp only [hst]
      rw [Int.add_assoc]
    · refine cond_d (fun h => absurd h hlt) (fun _ => ⟨rfl, ?_, rfl⟩)
      have hk : i = n := by omega
      subst hk
      simp [VRM, sumI]
  · rintro lock t h K ⟨⟨hf, hq⟩, h1⟩
    refine ⟨(0, 0), hf, ⟨by dsimp only; omega, by dsimp only; omega, by dsimp only; omega, by dsimp only; omega, hq0, hq⟩, ?_⟩
    rintro e vs bs ⟨rfl, rfl, rfl⟩
    refine h1 _ ?_
    simp only [Int.sub_zero, Int.zero_add]
    rfl

def PO (n cap : Nat) (l : Int → Src) (b : Sus) (wide : Int) (s : Int × Int × Int) (e : VEx) (vs : List VV) (bs : List VB) : Prop :=
  e = .exit 0 ∧ vs = VRO n cap wide (l 0).vl (bestF (apartQ n l wide) ((l 0).vl - s.1).toNat s.1 s.2.1 s.2.2).1 (bestF (apartQ n l wide) ((l 0).vl - s.1).toNat s.1 s.2.1 s.2.2).2 ∧ bs = bL n l b

theorem RO_ok0 (hw : Wf n l b) (hn : n = 0) : LSound Try.prog true (.block 0 (.loop (loopB 0 (bodyOf Try.prog 20)))) 86 (RO n cap l b wide) := by
  refine loop_rowD hmix (goodT2 hw) (un := 10) (ds := dsRO) (ns := [0, 1, 2]) (nx := 3) (lsp := fun s : Int × Int × Int => tabB [(2, RM n cap l b wide s.1 s.2.1 s.2.2)]) (fun s : Int × Int × Int => VRO n cap wide s.1 s.2.1 s.2.2) (fun _ => bL n l b) (fun s => s = (0, 0, 0) ∧ srcsB n l = true) (fun s => 0) (fun _ e vs bs => e = .exit 0 ∧ vs = VRO n cap wide 0 0 0 ∧ bs = bL n l b) ?_ ?_ ?_
  · rintro s ⟨rfl, hv⟩ id' T' hT b' hb'
    exact one_blk (by kernel_rfl) (RM_ok hw hv (Int.le_refl 0)) id' T' hT b' hb'
  · rintro s ⟨rfl, hv⟩
    simp only
    rw [sO_ev]
    exact cond_d (fun h => by omega) (fun _ => ⟨rfl, rfl, rfl⟩)
  · rintro lock t h K ⟨⟨hf, hv⟩, h1, _⟩
    refine ⟨(0, 0, 0), hf, ⟨rfl, hv⟩, ?_⟩
    rintro e vs bs ⟨rfl, rfl, rfl⟩
    exact h1 hn

theorem RO_ok1 (hw : Wf n l b) (hv : srcsB n l = true) (h0n : 0 < n) : LSound Try.prog true (.block 0 (.loop (loopB 0 (bodyOf Try.prog 20)))) 86 (RO n cap l b wide) := by
  obtain ⟨hval1, hval2⟩ := srcs_valid hv
  have hQ := (hval2 0 (Int.le_refl 0) (by omega)).2.1
  refine loop_rowD hmix (goodT2 hw) (un := 10) (ds := dsRO) (ns := [0, 1, 2]) (nx := 3) (lsp := fun s : Int × Int × Int => tabB [(2, RM n cap l b wide s.1 s.2.1 s.2.2)]) (fun s : Int × Int × Int => VRO n cap wide s.1 s.2.1 s.2.2) (fun _ => bL n l b) (fun s => 0 ≤ s.1 ∧ s.1 ≤ (l 0).vl) (fun s => ((l 0).vl - s.1).toNat) (PO n cap l b wide) ?_ ?_ ?_
  · rintro ⟨q, bq, ba⟩ ⟨h0, h1⟩ id' T' hT b' hb'
    exact one_blk (by kernel_rfl) (RM_ok hw hv h0) id' T' hT b' hb'
  · rintro ⟨q, bq, ba⟩ ⟨h0, h1⟩
    simp only at h0 h1
    rw [sO_ev]
    refine cond_dk (by omega) (cond_dk ⟨by omega, by omega⟩ ⟨⟨rfl, by omega, by omega⟩, ?_⟩)
    by_cases hlt : q < (l 0).vl
    · have hst := bestF_step (f := apartQ n l wide) (bq := bq) (ba := ba) h0 hlt
      refine cond_dk hlt ⟨⟨fitP_self rfl, hlt⟩, fun y hy => ?_⟩
      subst hy
      refine cond_d (fun g => cond_r (by omega) ⟨(q + 1, q, apartQ n l wide q), ⟨by dsimp only; omega, by dsimp only; omega⟩, by dsimp only; omega, rfl, fitBs_refl _, fun e vs bs ho => ?_⟩) (fun g => cond_r (by omega) ⟨(q + 1, bq, ba), ⟨by dsimp only; omega, by dsimp only; omega⟩, by dsimp only; omega, rfl, fitBs_refl _, fun e vs bs ho => ?_⟩)
      · obtain ⟨o1, o2, o3⟩ := ho
        refine ⟨o1, ?_, o3⟩
        rw [o2]
        simp only [hst, g, decide_true, cond_true]
      · obtain ⟨o1, o2, o3⟩ := ho
        refine ⟨o1, ?_, o3⟩
        rw [o2]
        simp only [hst, g, decide_false, cond_false]
    · refine cond_d (fun h => absurd h hlt) (fun _ => ⟨rfl, ?_, rfl⟩)
      have hk : q = (l 0).vl := by omega
      subst hk
      simp [VRO, bestF]
  · rintro lock t h K ⟨⟨hf, _⟩, _, h1⟩
    refine ⟨(0, 0, 0), hf, ⟨by dsimp only; omega, by dsimp only; omega⟩, ?_⟩
    rintro e vs bs ⟨rfl, rfl, rfl⟩
    refine h1 h0n _ _ ?_
    simp only [Int.sub_zero]
    rfl

theorem RO_ok (hw : Wf n l b) : LSound Try.prog true (.block 0 (.loop (loopB 0 (bodyOf Try.prog 20)))) 86 (RO n cap l b wide) := by
  intro lock t h K hK
  rcases Nat.eq_zero_or_pos n with hn | hn
  · exact RO_ok0 hw hn lock t h K hK
  · exact RO_ok1 hw hK.1.2 hn lock t h K hK

theorem ask20_v (hw : Wf n l b) : ∃ h', CallsV Try.prog 20 [lV n cap, I wide] (bH n l b) (res3 (askF n l wide)) h' ∧ h'.at 0 = srcA n l ∧ h'.at 1 = valA n l ∧ h'.at 2 = seenA b := by
  have hsp := spBL_ok hmix (tabs_ok (t2_ok hw)) (f := 20) (lo_one (by kernel_rfl) (RO_ok (cap := cap) (wide := wide) hw)) (un := 10) (fu := 20)
  obtain ⟨r, h', hQ, hc⟩ := of_sp hsp (args := [lV n cap, I wide]) (h := bH n l b) (K := fun r h' => (h'.at 0 = srcA n l ∧ h'.at 1 = valA n l ∧ h'.at 2 = seenA b) ∧ r = res3 (askF n l wide))
    (by
      rw [f20_ev]
      refine ⟨⟨⟨rfl, rfl, rfl⟩, rfl⟩, cond_b (fun q1 => ⟨⟨rfl, rfl, rfl⟩, ?_⟩) (fun q1 => cond_b (fun q2 => ⟨⟨rfl, rfl, rfl⟩, ?_⟩) (fun q2 => ⟨⟨fitP_self rfl, by simpa using q1⟩, fun q3 => ⟨⟨rfl, rfl, rfl⟩, ?_⟩, fun q3 x y hxy => ?_⟩))⟩
      · simp at q1; simp [askF, q1, res3]
      · simp at q1 q2; simp [askF, q1, q2, res3]
      · subst q3; simp at q1 q2; simp [askF, q1, q2, res3]
      · simp at q1 q2
        have hn0 : ¬ n = 0 := by omega
        refine cond_d (fun g => ⟨⟨rfl, rfl, rfl⟩, ?_⟩) (fun g => ⟨⟨rfl, rfl, rfl⟩, ?_⟩)
        · simp [askF, q1, q2, hn0, ← hxy, g, res3]
        · simp [askF, q1, q2, hn0, ← hxy, g, res3])
  obtain ⟨hh, rfl⟩ := hQ
  exact ⟨h', hc, hh⟩

/-- Ask as a row. -/
def askT (f : FuncId) (n : Nat) (l : Int → Src) (b : Sus) : FuncId × Spec1 := (f, fun _ args h K => match args with
  | [.slice (.el 0 [] 0 0) m c, .int .i64 wide] => ((h.at 0 = srcA n l ∧ h.at 1 = valA n l ∧ h.at 2 = seenA b) ∧ m = n ∧ n ≤ c) ∧ K (res3 (askF n l wide)) h
  | _ => False)

theorem askT_ok {f : FuncId} (hf : ∀ (cap : Nat) (wide : Int), n ≤ cap → ∃ h', CallsV Try.prog f [lV n cap, I wide] (bH n l b) (res3 (askF n l wide)) h' ∧ h'.at 0 = srcA n l ∧ h'.at 1 = valA n l ∧ h'.at 2 = seenA b) : SpOk Try.prog (askT f n l b).1 (askT f n l b).2 := by
  intro lock args h K hK
  simp only [askT] at hK
  split at hK
  · rename_i m c wide
    obtain ⟨⟨hh, rfl, hc⟩, hK⟩ := hK
    obtain ⟨h', hc, hs⟩ := hf c wide hc
    exact ⟨_, h, hK, lockP_refl _ _, base_lift hc hh hs rfl rfl⟩
  · exact hK.elim

theorem ask19_ok (hw : Wf n l b) : SpOk Try.prog (askT 19 n l b).1 (askT 19 n l b).2 := askT_ok (fun _ _ hc => ask19_v hw hc)
theorem ask20_ok (hw : Wf n l b) : SpOk Try.prog (askT 20 n l b).1 (askT 20 n l b).2 := askT_ok (fun _ _ _ => ask20_v hw)
end
end Go.Sx.Gen
