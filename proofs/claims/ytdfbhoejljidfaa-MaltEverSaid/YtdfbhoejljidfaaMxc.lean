/- malt: contracts of the document's step, of moisture and phenols. -/
import Derived.Test.YtdfbhoejljidfaaMxb

namespace Go.Sx.Malt
open Go Go.Sx Go.Proofs
set_option maxRecDepth 100000

theorem agg_eq {a1 a2 a3 a4 a5 a6 b1 b2 b3 b4 b5 b6 b7 b8 : Int} {u : Vat}
    (h : a1 = u.dl ∧ a2 = u.dh ∧ a3 = u.wl ∧ a4 = u.wh ∧ a5 = u.pl ∧ a6 = u.ph ∧ b1 = u.tl ∧ b2 = u.th ∧ b3 = u.gl ∧ b4 = u.gh ∧ b5 = u.rl ∧ b6 = u.rh ∧ b7 = u.sl ∧ b8 = u.sh) :
    VRes.ret (.tup [.agg [I a1, I a2, I a3, I a4, I a5, I a6], .agg [I b1, I b2, I b3, I b4, I b5, I b6, I b7, I b8]]) = .ret (.tup [.agg (vat6 u), .agg (vat8 u)]) := by
  obtain ⟨rfl, rfl, rfl, rfl, rfl, rfl, rfl, rfl, rfl, rfl, rfl, rfl, rfl, rfl⟩ := h
  rfl

theorem bh_v (v : Vat) (k a b : Int) (hv : VOk v) (hs : stB k a b = true) (h : VH) :
    CallsV Try.prog 37 [.agg [I v.dl, I v.dh, I v.wl, I v.wh, I v.pl, I v.ph], .agg [I k, I a, I b]] h (.ret (.tup [.agg (vat6 (stepV v k a b)), .agg (vat8 (stepV v k a b))])) h := by
  refine pure_v ?_ rfl rfl h
  rw [bh_ev k a b _ _ _ _ _ _ (fun x => x = _)]
  have hv' := hv
  obtain ⟨hk, ha, hab, hb, hb1, hb2, hb3⟩ := st_cases hs
  obtain ⟨⟨g1, g2, g3⟩, ⟨g4, g5, g6⟩, ⟨g7, g8, g9⟩, _⟩ := hv
  rw [Int.mul_comm a v.dl, Int.mul_comm b v.dh]
  rcases hk with rfl | rfl | rfl | rfl | rfl | rfl
  · clear hb1 hb2 hb3
    repeat' first
      | refine cond_r (by omega) ?_
      | (refine cond_d (fun _ => ?_) (fun _ => ?_) <;> try (exfalso; omega))
    all_goals exact agg_eq (by simp only [stepV0]; (repeat' apply And.intro) <;> first | trivial | omega)
  · have hb1 := hb1 rfl
    clear hb2 hb3
    obtain ⟨⟨p1, p2⟩, p3, p4⟩ := prods hv' hs (by omega)
    obtain ⟨⟨p5, p6⟩, p7, p8⟩ := prods1 hv' hs
    have q1 : quoZ (v.dl * a + 10000 - 1) 10000 = (v.dl * a + 10000 - 1) / 10000 := quoZ_nn (by omega)
    have q2 : quoZ (v.dh * b) 10000 = v.dh * b / 10000 := quoZ_nn (by omega)
    have q3 : quoZ (v.dl * (10000 - b) + 10000 - 1) 10000 = (v.dl * (10000 - b) + 10000 - 1) / 10000 := quoZ_nn (by omega)
    have q4 : quoZ (v.dh * (10000 - a)) 10000 = v.dh * (10000 - a) / 10000 := quoZ_nn (by omega)
    rw [q1, q2, q3, q4]
    clear q1 q2 q3 q4
    repeat' first
      | refine cond_r (by omega) ?_
      | (refine cond_d (fun _ => ?_) (fun _ => ?_) <;> try (exfalso; omega))
    all_goals exact agg_eq (by simp only [stepV1]; (repeat' apply And.intro) <;> first | trivial | omega)
  · have hb2 := hb2 rfl
    clear hb1 hb3
    obtain ⟨⟨p1, p2⟩, p3, p4⟩ := prods hv' hs (by omega)
    have q1 : quoZ (v.dl * a + 10000 - 1) 10000 = (v.dl * a + 10000 - 1) / 10000 := quoZ_nn (by omega)
    have q2 : quoZ (v.dh * b) 10000 = v.dh * b / 10000 := quoZ_nn (by omega)
    rw [q1, q2]
    clear q1 q2
    repeat' first
      | refine cond_r (by omega) ?_
      | (refine cond_d (fun _ => ?_) (fun _ => ?_) <;> try (exfalso; omega))
    all_goals exact agg_eq (by simp only [stepV2]; (repeat' apply And.intro) <;> first | trivial | omega)
  · have hb3 := hb3 rfl
    clear hb1 hb2
    obtain ⟨⟨p1, p2⟩, p3, p4⟩ := prods hv' hs (by omega)
    have q1 : quoZ (v.dl * a + 1000 - 1) 1000 = (v.dl * a + 1000 - 1) / 1000 := quoZ_nn (by omega)
    have q2 : quoZ (v.dh * b) 1000 = v.dh * b / 1000 := quoZ_nn (by omega)
    rw [q1, q2]
    clear q1 q2
    repeat' first
      | refine cond_r (by omega) ?_
      | (refine cond_d (fun _ => ?_) (fun _ => ?_) <;> try (exfalso; omega))
    all_goals exact agg_eq (by simp only [stepV3]; (repeat' apply And.intro) <;> first | trivial | omega)
  · clear hb1 hb2 hb3
    repeat' first
      | refine cond_r (by omega) ?_
      | (refine cond_d (fun _ => ?_) (fun _ => ?_) <;> try (exfalso; omega))
    all_goals exact agg_eq (by simp only [stepV4]; (repeat' apply And.intro) <;> first | trivial | omega)
  · clear hb1 hb2 hb3
    repeat' first
      | refine cond_r (by omega) ?_
      | (refine cond_d (fun _ => ?_) (fun _ => ?_) <;> try (exfalso; omega))
    all_goals exact agg_eq (by simp only [stepV5]; (repeat' apply And.intro) <;> first | trivial | omega)

theorem maltT_ok {f : FuncId} (hf : ∀ a b c d e f' h, CallsV Try.prog f [.agg [I a, I b, I c, I d, I e, I f']] h (.ret (.bool (mB a b c d e f'))) h) : ∀ x ∈ [maltT f mB], SpOk Try.prog x.1 x.2 := by
  intro x hx
  simp only [List.mem_singleton] at hx
  subst hx
  intro lock args h K hK
  simp only [maltT] at hK
  split at hK
  · exact ⟨_, h, hK, lockP_refl _ _, hf _ _ _ _ _ _ h⟩
  · exact hK.elim

theorem good34 : Good Try.prog (callN Try.prog (tabS [maltT 34 mB]) noL 10 20) := tab_good hmix (maltT_ok (fun a b c d e f h => malt_v a b c d e f h)) 20
theorem good18 : Good Try.prog (callN Try.prog (tabS [maltT 18 mB]) noL 10 20) := tab_good hmix (maltT_ok (fun a b c d e f h => rmalt_v a b c d e f h)) 20

/-- A function of numbers alone, with contracts. -/
theorem pure_w {sp : SpecT} (hg : Good Try.prog (callN Try.prog sp noL 10 20)) {f : FuncId} {args : List VV} {r : VRes} (hK : callN Try.prog sp noL 10 20 0 (.fn f) args ⟨0, []⟩ (fun x _ => x = r)) (ha : belL 0 args = true) (hr : r.bel 0 = true) (h : VH) : CallsV Try.prog f args h r h := by
  obtain ⟨r', h', h1, h2⟩ := of_callN hg hK
  subst h1
  exact calls_lift0 h2 ha hr

/-- Two numbers and an error. -/
def res3 (x : Int × Int × Int) : VRes := .ret (.tup [.agg [I x.1, I x.2.1], I x.2.2])

theorem res3_eq {a b c : Int} {x : Int × Int × Int} (h : x = (a, b, c)) : VRes.ret (.tup [.agg [I a, I b], I c]) = res3 x := by subst h; rfl

theorem pair_eq {a b a' b' : Int} {x : Int × Int × Int} (h : x = (a', b', 0)) (h1 : a = a') (h2 : b = b') : VRes.ret (.tup [.agg [I a, I b], I 0]) = res3 x := by subst h1; subst h2; subst h; rfl

theorem moist_v (dl dh wl wh pl ph : Int) (h : VH) : CallsV Try.prog 14 [.agg [I dl, I dh, I wl, I wh, I pl, I ph]] h (res3 (moF dl dh wl wh pl ph)) h := by
  refine pure_w good34 ?_ rfl rfl h
  rw [moist_ev]
  cases hB : mB dl dh wl wh pl ph with
  | false => exact res3_eq (moF_1 hB)
  | true =>
    obtain ⟨⟨g1, g2, g3⟩, ⟨g4, g5, g6⟩, _⟩ := mB_of hB
    simp only [Bool.not_true, cond_false]
    repeat' first
      | refine cond_r (by omega) ?_
      | refine cond_r (quoZ_r (by omega) (by omega) (by omega)) ?_
      | (refine cond_d (fun _ => ?_) (fun _ => ?_) <;> try (exfalso; omega))
    all_goals first
      | exact res3_eq (moF_4 hB (by omega))
      | exact pair_eq (moF_0 hB (by omega)) (lo2 (by omega) (by omega) (by omega)) (hi2 (by omega) (by omega) (by omega))
      | exact pair_eq (moF_0 hB (by omega)) (lo2 (by omega) (by omega) (by omega)) (hi1 (by omega) (by omega) (by omega))
      | exact pair_eq (moF_0 hB (by omega)) (lo1 (by omega)) (hi2 (by omega) (by omega) (by omega))
      | exact pair_eq (moF_0 hB (by omega)) (lo1 (by omega)) (hi1 (by omega) (by omega) (by omega))

theorem rmoist_v (dl dh wl wh pl ph : Int) (h : VH) : CallsV Try.prog 15 [.agg [I dl, I dh, I wl, I wh, I pl, I ph]] h (res3 (moF dl dh wl wh pl ph)) h := by
  refine pure_w good18 ?_ rfl rfl h
  rw [rmoist_ev]
  cases hB : mB dl dh wl wh pl ph with
  | false => exact res3_eq (moF_1 hB)
  | true =>
    obtain ⟨⟨g1, g2, g3⟩, ⟨g4, g5, g6⟩, _⟩ := mB_of hB
    simp only [Bool.not_true, cond_false]
    repeat' first
      | refine cond_r (by omega) ?_
      | refine cond_r (quoZ_r (by omega) (by omega) (by omega)) ?_
      | (refine cond_d (fun _ => ?_) (fun _ => ?_) <;> try (exfalso; omega))
    all_goals first
      | exact res3_eq (moF_4 hB (by omega))
      | exact pair_eq (moF_0 hB (by omega)) (lo3 (by omega)) (hi3 (by omega) (by omega))
      | exact pair_eq (moF_0 hB (by omega)) (lo3 (by omega)) (hi0 (by omega))
      | exact pair_eq (moF_0 hB (by omega)) (lo0 (by omega)) (hi3 (by omega) (by omega))
      | exact pair_eq (moF_0 hB (by omega)) (lo0 (by omega)) (hi0 (by omega))

theorem phen_v (dl dh wl wh pl ph : Int) (h : VH) : CallsV Try.prog 16 [.agg [I dl, I dh, I wl, I wh, I pl, I ph]] h (res3 (phF dl dh wl wh pl ph)) h := by
  refine pure_w good34 ?_ rfl rfl h
  rw [phen_ev]
  cases hB : mB dl dh wl wh pl ph with
  | false => exact res3_eq (phF_1 hB)
  | true =>
    obtain ⟨⟨g1, g2, g3⟩, ⟨g4, g5, g6⟩, ⟨g7, g8, g9⟩⟩ := mB_of hB
    simp only [Bool.not_true, cond_false]
    repeat' first
      | refine cond_r (by omega) ?_
      | refine cond_r (quoZ_r (by omega) (by omega) (by omega)) ?_
      | (refine cond_d (fun _ => ?_) (fun _ => ?_) <;> try (exfalso; omega))
    all_goals first
      | exact res3_eq (phF_4 hB (by omega))
      | exact pair_eq (phF_0 hB (by omega)) (quoZ_nn (by omega)) (quoZ_nn (by omega))

theorem rphen_v (dl dh wl wh pl ph : Int) (h : VH) : CallsV Try.prog 17 [.agg [I dl, I dh, I wl, I wh, I pl, I ph]] h (res3 (phF dl dh wl wh pl ph)) h := by
  refine pure_w good18 ?_ rfl rfl h
  rw [rphen_ev]
  cases hB : mB dl dh wl wh pl ph with
  | false => exact res3_eq (phF_1 hB)
  | true =>
    obtain ⟨⟨g1, g2, g3⟩, ⟨g4, g5, g6⟩, ⟨g7, g8, g9⟩⟩ := mB_of hB
    simp only [Bool.not_true, cond_false]
    repeat' first
      | refine cond_r (by omega) ?_
      | refine cond_r (quoZ_r (by omega) (by omega) (by omega)) ?_
      | (refine cond_d (fun _ => ?_) (fun _ => ?_) <;> try (exfalso; omega))
    all_goals first
      | exact res3_eq (phF_4 hB (by omega))
      | exact pair_eq (phF_0 hB (by omega)) (quoZ_nn (by omega)) (quoZ_nn (by omega))
end Go.Sx.Malt
