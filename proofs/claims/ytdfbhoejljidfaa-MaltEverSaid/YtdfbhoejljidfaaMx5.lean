/- malt: the contract of a step of Play. -/
import Derived.Test.YtdfbhoejljidfaaMx4

namespace Go.Sx.Malt
open Go Go.Sx Go.Proofs

def vatV (v : Vat) : VB := vat79 v.dl v.dh v.wl v.wh v.pl v.ph v.tl v.th v.gl v.gh v.rl v.rh v.sl v.sh

theorem stepT_ok : ∀ x ∈ [((57 : FuncId), stepT stB)], SpOk Try.prog x.1 x.2 := by
  intro x hx
  simp only [List.mem_singleton] at hx
  subst hx
  intro lock args h K hK
  simp only [stepT] at hK
  split at hK
  · exact ⟨_, h, hK, lockP_refl _ _, step_v _ _ _ h⟩
  · exact hK.elim

theorem good57 : Good Try.prog (callN Try.prog (tabS [(57, stepT stB)]) noL 10 20) := tab_good hmix stepT_ok 20

section
variable (ok : List Int → Int → Prop) (kf af bf : Int → Int)

def doR (v : Vat) (k a b : Int) : VRes → VH → Prop :=
  doK (fun bs => doE v k a b = 0 ∧ bs = [.arr 3 ok (gS kf af bf), z6, z8, z1, vatV (doV v k a b)]) (fun w bs => ∃ e, doE v k a b = e ∧ e ≠ 0 ∧ w = mis e ∧ bs = [.arr 3 ok (gS kf af bf), z6, z8, z1])

theorem vat_eq {A : VB} {a1 a2 a3 a4 a5 a6 a7 a8 a9 a10 a11 a12 a13 a14 : Int} {x : Vat}
    (h : a1 = x.dl ∧ a2 = x.dh ∧ a3 = x.wl ∧ a4 = x.wh ∧ a5 = x.pl ∧ a6 = x.ph ∧ a7 = x.tl ∧ a8 = x.th ∧ a9 = x.gl ∧ a10 = x.gh ∧ a11 = x.rl ∧ a12 = x.rh ∧ a13 = x.sl ∧ a14 = x.sh) :
    ([A, z6, z8, z1, .cells [I a1, I a2, I a3, I a4, I a5, I a6, I a7, I a8, I a9, I a10, I a11, I a12, I a13, I a14] 79] : List VB) = [A, z6, z8, z1, vatV x] := by
  obtain ⟨rfl, rfl, rfl, rfl, rfl, rfl, rfl, rfl, rfl, rfl, rfl, rfl, rfl, rfl⟩ := h
  rfl

theorem do_tree (v : Vat) (k a b : Int) (hv : VOk v) : callN Try.prog (tabS [(57, stepT stB)]) noL 10 20 0 (.fn 36) [.ptr (.own 5 0), .agg [I k, I a, I b]] ⟨6, plBs (.arr 3 ok (gS kf af bf)) (vatV v)⟩ (doR ok kf af bf v k a b) := by
  unfold doR vatV
  rw [do_ev]
  cases hs : stB k a b with
  | false => exact ⟨1, doE_1 hs, by decide, rfl, rfl⟩
  | true =>
    simp only [Bool.not_true, cond_false]
    have hv' := hv
    obtain ⟨hk, ha, hab, hb, hb1, hb2, hb3⟩ := st_cases hs
    obtain ⟨⟨g1, g2, g3⟩, ⟨g4, g5, g6⟩, ⟨g7, g8, g9⟩, ⟨t1, t2, t3⟩, ⟨t4, t5, t6⟩, ⟨t7, t8, t9⟩, ⟨s1, s2, s3⟩⟩ := hv
    rcases hk with rfl | rfl | rfl | rfl | rfl | rfl
    · clear hb1 hb2 hb3
      repeat' first
        | refine cond_r (by omega) ?_
        | (refine cond_d (fun _ => ?_) (fun _ => ?_) <;> try (exfalso; omega))
        | (refine cond_nd (fun _ => ?_) (fun _ => ?_) <;> try (exfalso; omega))
      all_goals first
        | exact ⟨4, doE_4 hs (badV_t.2 (by simp only [stepV0]; omega)), by decide, rfl, rfl⟩
        | exact ⟨12, doE_12 hs (badV_f.2 (by simp only [stepV0]; omega)) (bigV_t.2 (by simp only [doV, stepV0, addV]; omega)), by decide, rfl, rfl⟩
        | exact ⟨doE_0 hs (badV_f.2 (by simp only [stepV0]; omega)) (bigV_f.2 (by simp only [doV, stepV0, addV]; omega)), vat_eq (by simp only [doV, stepV0, addV]; (repeat' apply And.intro) <;> first | trivial | omega)⟩
    · have hb1 := hb1 rfl
      clear hb2 hb3
      obtain ⟨⟨p1, p2⟩, p3, p4⟩ := prods hv' hs (by omega)
      obtain ⟨⟨p5, p6⟩, p7, p8⟩ := prods1 hv' hs
      have q1 : quoZ (v.dl * a + 10000 - 1) 10000 = (v.dl * a + 10000 - 1) / 10000 := quoZ_nn (by omega)
      have q2 : quoZ (v.dh * b) 10000 = v.dh * b / 10000 := quoZ_nn (by omega)
      have q3 : quoZ (v.dl * (10000 - b) + 10000 - 1) 10000 = (v.dl * (10000 - b) + 10000 - 1) / 10000 := quoZ_nn (by omega)
      have q4 : quoZ (v.dh * (10000 - a)) 10000 = v.dh * (10000 - a) / 10000 := quoZ_nn (by omega)
      rw [q1, q2, q3, q4]
      clear q1 q2 q3 q4
      repeat' first
        | refine cond_r (by omega) ?_
        | (refine cond_d (fun _ => ?_) (fun _ => ?_) <;> try (exfalso; omega))
        | (refine cond_nd (fun _ => ?_) (fun _ => ?_) <;> try (exfalso; omega))
      all_goals first
        | exact ⟨4, doE_4 hs (badV_t.2 (by simp only [stepV1]; omega)), by decide, rfl, rfl⟩
        | exact ⟨12, doE_12 hs (badV_f.2 (by simp only [stepV1]; omega)) (bigV_t.2 (by simp only [doV, stepV1, addV]; omega)), by decide, rfl, rfl⟩
        | exact ⟨doE_0 hs (badV_f.2 (by simp only [stepV1]; omega)) (bigV_f.2 (by simp only [doV, stepV1, addV]; omega)), vat_eq (by simp only [doV, stepV1, addV]; (repeat' apply And.intro) <;> first | trivial | omega)⟩
    · have hb2 := hb2 rfl
      clear hb1 hb3
      obtain ⟨⟨p1, p2⟩, p3, p4⟩ := prods hv' hs (by omega)
      have q1 : quoZ (v.dl * a + 10000 - 1) 10000 = (v.dl * a + 10000 - 1) / 10000 := quoZ_nn (by omega)
      have q2 : quoZ (v.dh * b) 10000 = v.dh * b / 10000 := quoZ_nn (by omega)
      rw [q1, q2]
      clear q1 q2
      repeat' first
        | refine cond_r (by omega) ?_
        | (refine cond_d (fun _ => ?_) (fun _ => ?_) <;> try (exfalso; omega))
        | (refine cond_nd (fun _ => ?_) (fun _ => ?_) <;> try (exfalso; omega))
      all_goals first
        | exact ⟨4, doE_4 hs (badV_t.2 (by simp only [stepV2]; omega)), by decide, rfl, rfl⟩
        | exact ⟨12, doE_12 hs (badV_f.2 (by simp only [stepV2]; omega)) (bigV_t.2 (by simp only [doV, stepV2, addV]; omega)), by decide, rfl, rfl⟩
        | exact ⟨doE_0 hs (badV_f.2 (by simp only [stepV2]; omega)) (bigV_f.2 (by simp only [doV, stepV2, addV]; omega)), vat_eq (by simp only [doV, stepV2, addV]; (repeat' apply And.intro) <;> first | trivial | omega)⟩
    · have hb3 := hb3 rfl
      clear hb1 hb2
      obtain ⟨⟨p1, p2⟩, p3, p4⟩ := prods hv' hs (by omega)
      have q1 : quoZ (v.dl * a + 1000 - 1) 1000 = (v.dl * a + 1000 - 1) / 1000 := quoZ_nn (by omega)
      have q2 : quoZ (v.dh * b) 1000 = v.dh * b / 1000 := quoZ_nn (by omega)
      rw [q1, q2]
      clear q1 q2
      repeat' first
        | refine cond_r (by omega) ?_
        | (refine cond_d (fun _ => ?_) (fun _ => ?_) <;> try (exfalso; omega))
        | (refine cond_nd (fun _ => ?_) (fun _ => ?_) <;> try (exfalso; omega))
      all_goals first
        | exact ⟨4, doE_4 hs (badV_t.2 (by simp only [stepV3]; omega)), by decide, rfl, rfl⟩
        | exact ⟨12, doE_12 hs (badV_f.2 (by simp only [stepV3]; omega)) (bigV_t.2 (by simp only [doV, stepV3, addV]; omega)), by decide, rfl, rfl⟩
        | exact ⟨doE_0 hs (badV_f.2 (by simp only [stepV3]; omega)) (bigV_f.2 (by simp only [doV, stepV3, addV]; omega)), vat_eq (by simp only [doV, stepV3, addV]; (repeat' apply And.intro) <;> first | trivial | omega)⟩
    · clear hb1 hb2 hb3
      repeat' first
        | refine cond_r (by omega) ?_
        | (refine cond_d (fun _ => ?_) (fun _ => ?_) <;> try (exfalso; omega))
        | (refine cond_nd (fun _ => ?_) (fun _ => ?_) <;> try (exfalso; omega))
      all_goals first
        | exact ⟨4, doE_4 hs (badV_t.2 (by simp only [stepV4]; omega)), by decide, rfl, rfl⟩
        | exact ⟨12, doE_12 hs (badV_f.2 (by simp only [stepV4]; omega)) (bigV_t.2 (by simp only [doV, stepV4, addV]; omega)), by decide, rfl, rfl⟩
        | exact ⟨doE_0 hs (badV_f.2 (by simp only [stepV4]; omega)) (bigV_f.2 (by simp only [doV, stepV4, addV]; omega)), vat_eq (by simp only [doV, stepV4, addV]; (repeat' apply And.intro) <;> first | trivial | omega)⟩
    · clear hb1 hb2 hb3
      repeat' first
        | refine cond_r (by omega) ?_
        | (refine cond_d (fun _ => ?_) (fun _ => ?_) <;> try (exfalso; omega))
        | (refine cond_nd (fun _ => ?_) (fun _ => ?_) <;> try (exfalso; omega))
      all_goals first
        | exact ⟨4, doE_4 hs (badV_t.2 (by simp only [stepV5]; omega)), by decide, rfl, rfl⟩
        | exact ⟨12, doE_12 hs (badV_f.2 (by simp only [stepV5]; omega)) (bigV_t.2 (by simp only [doV, stepV5, addV]; omega)), by decide, rfl, rfl⟩
        | exact ⟨doE_0 hs (badV_f.2 (by simp only [stepV5]; omega)) (bigV_f.2 (by simp only [doV, stepV5, addV]; omega)), vat_eq (by simp only [doV, stepV5, addV]; (repeat' apply And.intro) <;> first | trivial | omega)⟩

set_option maxRecDepth 100000 in
theorem do_v (v : Vat) (k a b : Int) (hv : VOk v) :
    (doE v k a b = 0 ∧ CallsV Try.prog 36 [.ptr (.own 5 0), .agg [I k, I a, I b]] ⟨6, plBs (.arr 3 ok (gS kf af bf)) (vatV v)⟩ (.ret (.tup [])) ⟨6, plBs (.arr 3 ok (gS kf af bf)) (vatV (doV v k a b))⟩) ∨
    (doE v k a b ≠ 0 ∧ CallsV Try.prog 36 [.ptr (.own 5 0), .agg [I k, I a, I b]] ⟨6, plBs (.arr 3 ok (gS kf af bf)) (vatV v)⟩ (.panic (mis (doE v k a b))) ⟨6, [(0, .arr 3 ok (gS kf af bf)), (2, z6), (3, z8), (4, z1)]⟩) := by
  obtain ⟨r, h', h1, h2⟩ := of_callN good57 (do_tree ok kf af bf v k a b hv)
  unfold doR doK at h1
  split at h1
  · obtain ⟨e, hb⟩ := h1
    simp only [List.cons.injEq] at hb
    obtain ⟨b1, b2, b3, b4, b5, _⟩ := hb
    exact .inl ⟨e, calls_weak h2 (Nat.le_refl 6) ⟨b1, b2, b3, b4, b5, trivial⟩ rfl rfl⟩
  · obtain ⟨e, he, h0, rfl, hb⟩ := h1
    subst he
    simp only [List.cons.injEq] at hb
    obtain ⟨b1, b2, b3, b4, _⟩ := hb
    right
    refine ⟨h0, calls_weak (k := 6) (bs := [(0, .arr 3 ok (gS kf af bf)), (2, z6), (3, z8), (4, z1)]) h2 (Nat.le_refl 6) ⟨b1, b2, b3, b4, trivial⟩ rfl rfl⟩
  · exact h1.elim
end
end Go.Sx.Malt
