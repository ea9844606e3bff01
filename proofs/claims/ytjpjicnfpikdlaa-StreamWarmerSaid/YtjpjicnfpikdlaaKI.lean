/- stream: Kh1 Kh2 Kh3 Kh4 Kh5, in one text. -/
import Derived.Test.YtjpjicnfpikdlaaKH
/- stream: less that is open, and more heat (plain). -/

namespace Go.Sx.Str
open Go Go.Sx Go.Proofs
set_option maxRecDepth 100000

/-- Element by element. -/
inductive All2 {α β : Type} (R : α → β → Prop) : List α → List β → Prop where
  | nil : All2 R [] []
  | cons {a : α} {b : β} {r : List α} {s : List β} (h : R a b) (t : All2 R r s) : All2 R (a :: r) (b :: s)

theorem mD_ge {t f u g x : Int} (ht : 0 ≤ t) (hu : 0 ≤ u) (hf : 0 ≤ f) (hg : 0 ≤ g) (h : 0 < f + g) (hx : x * (f + g) ≤ t * f + u * g) : x ≤ mD t f u g := by
  have h0 : 0 ≤ t * f + u * g := Int.add_nonneg (Int.mul_nonneg ht hf) (Int.mul_nonneg hu hg)
  unfold mD
  rw [quoZ_nn h0]
  exact (Int.le_ediv_iff_mul_le h).2 hx

theorem mU_le2 {t f u g x : Int} (ht : 0 ≤ t) (hu : 0 ≤ u) (hf : 0 ≤ f) (hg : 0 ≤ g) (h : 0 < f + g) (hx : t * f + u * g ≤ x * (f + g)) : mU t f u g ≤ x := by
  have h0 : 0 ≤ t * f + u * g := Int.add_nonneg (Int.mul_nonneg ht hf) (Int.mul_nonneg hu hg)
  unfold mU
  rw [quoZ_nn (by omega)]
  exact Int.lt_add_one_iff.1 (Int.ediv_lt_of_lt_mul h (by rw [Int.add_mul, Int.one_mul]; omega))

section
variable {w w' : Wt} {p p' : Pt}

theorem join_lo_ge {x : Int} (hw : WOk w) (f : 1 ≤ p.flo ∧ p.flo ≤ p.fhi) (hp : 0 ≤ p.wlo) (h : ∀ F G, (w.flo ≤ F ∧ F ≤ w.fhi) → (p.flo ≤ G ∧ G ≤ p.fhi) → x * (F + G) ≤ w.wlo * F + p.wlo * G) : x ≤ (joinW w p).wlo := by
  have h1 := hw.f
  have h2 := hw.w
  unfold joinW
  dsimp only
  split
  · exact mD_ge h2.1 hp (by omega) (by omega) (by omega) (h _ _ (by omega) (by omega))
  · exact mD_ge h2.1 hp (by omega) (by omega) (by omega) (h _ _ (by omega) (by omega))

theorem join_hi_le {x : Int} (hw : WOk w) (f : 1 ≤ p.flo ∧ p.flo ≤ p.fhi) (hp : 0 ≤ p.whi) (h : ∀ F G, (w.flo ≤ F ∧ F ≤ w.fhi) → (p.flo ≤ G ∧ G ≤ p.fhi) → w.whi * F + p.whi * G ≤ x * (F + G)) : (joinW w p).whi ≤ x := by
  have h1 := hw.f
  have h2 := hw.w
  unfold joinW
  dsimp only
  split
  · exact mU_le2 (by omega) hp (by omega) (by omega) (by omega) (h _ _ (by omega) (by omega))
  · exact mU_le2 (by omega) hp (by omega) (by omega) (by omega) (h _ _ (by omega) (by omega))

theorem air_lo_ge {x : Int} (hw : WOk w) (hp : 0 ≤ p.wlo) (s : 0 ≤ p.slo ∧ p.slo ≤ p.shi ∧ p.shi ≤ 10000) (h : ∀ S, (p.slo ≤ S ∧ S ≤ p.shi) → x * 10000 ≤ w.wlo * (10000 - S) + p.wlo * S) : x ≤ (airW w p).wlo := by
  have h2 := hw.w
  have e0 : ∀ S : Int, (10000 - S) + S = (10000 : Int) := fun S => by omega
  unfold airW
  dsimp only
  split
  · exact mD_ge h2.1 hp (by omega) (by omega) (by omega) (by rw [e0]; exact h _ (by omega))
  · exact mD_ge h2.1 hp (by omega) (by omega) (by omega) (by rw [e0]; exact h _ (by omega))

theorem air_hi_le {x : Int} (hw : WOk w) (hp : 0 ≤ p.whi) (s : 0 ≤ p.slo ∧ p.slo ≤ p.shi ∧ p.shi ≤ 10000) (h : ∀ S, (p.slo ≤ S ∧ S ≤ p.shi) → w.whi * (10000 - S) + p.whi * S ≤ x * 10000) : (airW w p).whi ≤ x := by
  have h2 := hw.w
  have e0 : ∀ S : Int, (10000 - S) + S = (10000 : Int) := fun S => by omega
  unfold airW
  dsimp only
  split
  · exact mU_le2 (by omega) hp (by omega) (by omega) (by omega) (by rw [e0]; exact h _ (by omega))
  · exact mU_le2 (by omega) hp (by omega) (by omega) (by omega) (by rw [e0]; exact h _ (by omega))

/-- Less is open. -/
structure InW (w w' : Wt) : Prop where
  f : w'.flo ≤ w.flo ∧ w.fhi ≤ w'.fhi
  w : w'.wlo ≤ w.wlo ∧ w.whi ≤ w'.whi
structure InP (p p' : Pt) : Prop where
  k : p.k = p'.k
  f : p'.flo ≤ p.flo ∧ p.fhi ≤ p'.fhi
  w : p'.wlo ≤ p.wlo ∧ p.whi ≤ p'.whi
  h : p'.hlo ≤ p.hlo ∧ p.hhi ≤ p'.hhi
  s : p'.slo ≤ p.slo ∧ p.shi ≤ p'.shi

theorem step_in (hw : WOk w) (hw' : WOk w') (hp : PtOk p) (hp' : PtOk p') (iw : InW w w') (ip : InP p p') : InW (stepW w p) (stepW w' p') := by
  obtain ⟨f1, f2, f3⟩ := hw.f
  obtain ⟨v1, v2, v3⟩ := hw.w
  obtain ⟨f1', f2', f3'⟩ := hw'.f
  obtain ⟨v1', v2', v3'⟩ := hw'.w
  obtain ⟨if1, if2⟩ := iw.f
  obtain ⟨iw1, iw2⟩ := iw.w
  have hk := ip.k
  rcases hp with ⟨k, f, v⟩ | ⟨k, f⟩ | ⟨k, h⟩ | ⟨k, v, s⟩ <;> rcases hp' with ⟨k', g, u⟩ | ⟨k', g⟩ | ⟨k', g⟩ | ⟨k', u, r⟩ <;> try omega
  · have i1 := ip.f
    have i2 := ip.w
    rw [step0 k, step0 k']
    refine ⟨⟨by show w'.flo + p'.flo ≤ w.flo + p.flo; omega, by show w.fhi + p.fhi ≤ w'.fhi + p'.fhi; omega⟩, join_lo_ge hw ⟨f.1, f.2.1⟩ v.1 fun F G hF hG => ?_, join_hi_le hw ⟨f.1, f.2.1⟩ (by omega) fun F G hF hG => ?_⟩
    · have a1 := join_lo (p := p') hw' ⟨g.1, g.2.1⟩ u.1 (F := F) (G := G) (by omega) (by omega)
      have a2 := le_mul2 iw1 (show 0 ≤ F by omega)
      have a3 := le_mul2 i2.1 (show 0 ≤ G by omega)
      omega
    · have a1 := join_hi (p := p') hw' ⟨g.1, g.2.1⟩ (by omega) (F := F) (G := G) (by omega) (by omega)
      have a2 := le_mul2 iw2 (show 0 ≤ F by omega)
      have a3 := le_mul2 i2.2 (show 0 ≤ G by omega)
      omega
  · have i1 := ip.f
    rw [step1 k, step1 k']
    exact ⟨⟨by show w'.flo - p'.fhi ≤ w.flo - p.fhi; omega, by show w.fhi - p.flo ≤ w'.fhi - p'.flo; omega⟩, iw1, iw2⟩
  · have i1 := ip.h
    rw [step2 k, step2 k']
    refine ⟨⟨if1, if2⟩, ?_, ?_⟩
    · show w'.wlo + quoZ p'.hlo w'.fhi ≤ w.wlo + quoZ p.hlo w.fhi
      rw [quoZ_nn g.1, quoZ_nn h.1]
      have : p'.hlo / w'.fhi ≤ p.hlo / w.fhi := by
        refine (Int.le_ediv_iff_mul_le (by omega)).2 ?_
        have b1 := Int.ediv_mul_le p'.hlo (show w'.fhi ≠ 0 by omega)
        have b2 := Int.mul_le_mul_of_nonneg_left if2 (Int.ediv_nonneg g.1 (show 0 ≤ w'.fhi by omega))
        omega
      omega
    · show w.whi + quoZ (p.hhi + w.flo - 1) w.flo ≤ w'.whi + quoZ (p'.hhi + w'.flo - 1) w'.flo
      rw [quoZ_nn (by omega), quoZ_nn (by omega)]
      have : (p.hhi + w.flo - 1) / w.flo ≤ (p'.hhi + w'.flo - 1) / w'.flo := by
        refine Int.lt_add_one_iff.1 (Int.ediv_lt_of_lt_mul (by omega) ?_)
        have h0 : 0 ≤ (p'.hhi + w'.flo - 1) / w'.flo := Int.ediv_nonneg (by omega) (by omega)
        have b1 := Int.lt_ediv_add_one_mul_self (p'.hhi + w'.flo - 1) (show 0 < w'.flo by omega)
        rw [Int.add_mul, Int.one_mul] at b1 ⊢
        have b2 := Int.mul_le_mul_of_nonneg_left if1 h0
        omega
      omega
  · have i1 := ip.w
    have i2 := ip.s
    rw [step3 k, step3 k']
    refine ⟨⟨if1, if2⟩, air_lo_ge hw v.1 s fun S hS => ?_, air_hi_le hw (by omega) s fun S hS => ?_⟩
    · have a1 := air_lo (p := p') hw' u.1 r (S := S) (by omega)
      have a2 := le_mul2 iw1 (show 0 ≤ 10000 - S by omega)
      have a3 := le_mul2 i1.1 (show 0 ≤ S by omega)
      omega
    · have a1 := air_hi (p := p') hw' (by omega) r (S := S) (by omega)
      have a2 := le_mul2 iw2 (show 0 ≤ 10000 - S by omega)
      have a3 := le_mul2 i1.2 (show 0 ≤ S by omega)
      omega

/-- Colder water. -/
structure LeW (w w' : Wt) : Prop where
  f : w.flo = w'.flo ∧ w.fhi = w'.fhi
  w : w.wlo ≤ w'.wlo ∧ w.whi ≤ w'.whi

theorem step_le (hw : WOk w) (hw' : WOk w') (hp : PtOk p) (l : LeW w w') : LeW (stepW w p) (stepW w' p) := by
  obtain ⟨f1, f2, f3⟩ := hw.f
  obtain ⟨v1, v2, v3⟩ := hw.w
  obtain ⟨v1', v2', v3'⟩ := hw'.w
  obtain ⟨lf1, lf2⟩ := l.f
  obtain ⟨lw1, lw2⟩ := l.w
  rcases hp with ⟨k, f, v⟩ | ⟨k, f⟩ | ⟨k, h⟩ | ⟨k, v, s⟩
  · rw [step0 k, step0 k]
    refine ⟨⟨by show w.flo + p.flo = w'.flo + p.flo; omega, by show w.fhi + p.fhi = w'.fhi + p.fhi; omega⟩, join_lo_ge hw' ⟨f.1, f.2.1⟩ v.1 fun F G hF hG => ?_, join_hi_le hw ⟨f.1, f.2.1⟩ (by omega) fun F G hF hG => ?_⟩
    · have a1 := join_lo (p := p) hw ⟨f.1, f.2.1⟩ v.1 (F := F) (G := G) (by omega) (by omega)
      have a2 := le_mul2 lw1 (show 0 ≤ F by omega)
      omega
    · have a1 := join_hi (p := p) hw' ⟨f.1, f.2.1⟩ (by omega) (F := F) (G := G) (by omega) (by omega)
      have a2 := le_mul2 lw2 (show 0 ≤ F by omega)
      omega
  · rw [step1 k, step1 k]
    exact ⟨⟨by show w.flo - p.fhi = w'.flo - p.fhi; omega, by show w.fhi - p.flo = w'.fhi - p.flo; omega⟩, lw1, lw2⟩
  · rw [step2 k, step2 k]
    refine ⟨⟨lf1, lf2⟩, ?_, ?_⟩
    · show w.wlo + quoZ p.hlo w.fhi ≤ w'.wlo + quoZ p.hlo w'.fhi
      rw [lf2]; omega
    · show w.whi + quoZ (p.hhi + w.flo - 1) w.flo ≤ w'.whi + quoZ (p.hhi + w'.flo - 1) w'.flo
      rw [lf1]; omega
  · rw [step3 k, step3 k]
    refine ⟨⟨lf1, lf2⟩, air_lo_ge hw' v.1 s fun S hS => ?_, air_hi_le hw (by omega) s fun S hS => ?_⟩
    · have a1 := air_lo (p := p) hw v.1 s (S := S) hS
      have a2 := le_mul2 lw1 (show 0 ≤ 10000 - S by omega)
      omega
    · have a1 := air_hi (p := p) hw' (by omega) s (S := S) hS
      have a2 := le_mul2 lw2 (show 0 ≤ 10000 - S by omega)
      omega

/-- Heat makes water warmer. -/
theorem add_le {h : Int} (hw : WOk w) (hh : 0 ≤ h) : LeW w (stepW w (mP h)) := by
  obtain ⟨f1, f2, f3⟩ := hw.f
  rw [step2 rfl]
  have q1 := quo_in (a := h) (b := w.fhi) hh (by omega)
  have q2 := quo_in (a := h + w.flo - 1) (b := w.flo) (by omega) (by omega)
  exact ⟨⟨rfl, rfl⟩, by show w.wlo ≤ w.wlo + quoZ h w.fhi; omega, by show w.whi ≤ w.whi + quoZ (h + w.flo - 1) w.flo; omega⟩

theorem add_mono {h h' : Int} (hw : WOk w) (hh : 0 ≤ h) (hle : h ≤ h') : LeW (stepW w (mP h)) (stepW w (mP h')) := by
  obtain ⟨f1, f2, f3⟩ := hw.f
  rw [step2 rfl, step2 rfl]
  refine ⟨⟨rfl, rfl⟩, ?_, ?_⟩
  · show w.wlo + quoZ h w.fhi ≤ w.wlo + quoZ h' w.fhi
    rw [quoZ_nn hh, quoZ_nn (by omega)]
    have := Int.ediv_le_ediv (show 0 < w.fhi by omega) hle
    omega
  · show w.whi + quoZ (h + w.flo - 1) w.flo ≤ w.whi + quoZ (h' + w.flo - 1) w.flo
    rw [quoZ_nn (by omega), quoZ_nn (by omega)]
    have := Int.ediv_le_ediv (show 0 < w.flo by omega) (show h + w.flo - 1 ≤ h' + w.flo - 1 by omega)
    omega

theorem err_le (l : LeW w w') (h : errW w' = 0) : errW w = 0 := by
  obtain ⟨e1, e2, e3⟩ := errW_iff.1 h
  have := l.f
  have := l.w
  exact errW_iff.2 ⟨by omega, by omega, by omega⟩
theorem err_in (l : InW w w') (h : errW w' = 0) : errW w = 0 := by
  obtain ⟨e1, e2, e3⟩ := errW_iff.1 h
  have := l.f
  have := l.w
  exact errW_iff.2 ⟨by omega, by omega, by omega⟩
end

/-- What is known behind all points. -/
def endW : Wt → List Pt → Wt
  | w, [] => w
  | w, p :: r => endW (stepW w p) r

theorem rE_cons {w : Wt} {p : Pt} {r : List Pt} (h : rE w (p :: r) = 0) : ptB p = true ∧ errW (stepW w p) = 0 ∧ rE (stepW w p) r = 0 := by
  cases hb : ptB p
  · rw [rE_bad hb] at h; exact absurd h (by decide)
  · by_cases he : errW (stepW w p) = 0
    · rw [rE_pos hb he] at h; exact ⟨rfl, he, h⟩
    · rw [rE_err hb he] at h; exact (he h).elim

theorem rE_mk {w : Wt} {p : Pt} {r : List Pt} (h1 : ptB p = true) (h2 : errW (stepW w p) = 0) (h3 : rE (stepW w p) r = 0) : rE w (p :: r) = 0 := by rw [rE_pos h1 h2]; exact h3

theorem rE_app : ∀ (A B : List Pt) (w : Wt), rE w (A ++ B) = if rE w A = 0 then rE (endW w A) B else rE w A
  | [], B, w => by simp [rE, endW]
  | p :: r, B, w => by
    rw [List.cons_append]
    cases hb : ptB p
    · rw [rE_bad hb, rE_bad hb]; rfl
    · by_cases he : errW (stepW w p) = 0
      · rw [rE_pos hb he, rE_pos hb he, rE_app r B]; rfl
      · rw [rE_err hb he, rE_err hb he, if_neg he]

theorem rL_app : ∀ (A B : List Pt) (w : Wt), rL w (A ++ B) = rL w A ++ rL (endW w A) B
  | [], _, _ => rfl
  | p :: r, B, w => by
    rw [List.cons_append]
    simp only [rL, endW, List.cons_append]
    rw [rL_app r B]

theorem end_ok : ∀ {P : List Pt} {w : Wt}, WOk w → rE w P = 0 → WOk (endW w P)
  | [], _, hw, _ => hw
  | p :: r, w, hw, h => by
    obtain ⟨h1, h2, h3⟩ := rE_cons h
    exact end_ok (P := r) (step_ok hw (ptB_iff.1 h1) h2) h3

/-- Colder water runs, too. -/
theorem run_le : ∀ {P : List Pt} {w w' : Wt}, WOk w → WOk w' → LeW w w' → rE w' P = 0 → rE w P = 0 ∧ All2 LeW (rL w P) (rL w' P)
  | [], _, _, _, _, _, _ => ⟨rfl, .nil⟩
  | p :: r, w, w', hw, hw', l, h => by
    obtain ⟨h1, h2, h3⟩ := rE_cons h
    have l2 := step_le hw hw' (ptB_iff.1 h1) l
    have h4 := err_le l2 h2
    obtain ⟨g1, g2⟩ := run_le (P := r) (step_ok hw (ptB_iff.1 h1) h4) (step_ok hw' (ptB_iff.1 h1) h2) l2 h3
    exact ⟨rE_mk h1 h4 g1, .cons l2 g2⟩

/-- Less that is open runs, too. -/
theorem runs_inn : ∀ {P P' : List Pt} {w w' : Wt}, WOk w → WOk w' → InW w w' → All2 (fun p p' => InP p p' ∧ (PtOk p' → PtOk p)) P P' → rE w' P' = 0 → rE w P = 0 ∧ All2 InW (rL w P) (rL w' P')
  | [], _, _, _, _, _, _, .nil, _ => ⟨rfl, .nil⟩
  | p :: r, p' :: r', w, w', hw, hw', l, .cons ⟨hp, hk⟩ hr, h => by
    obtain ⟨h1, h2, h3⟩ := rE_cons h
    have k1 := ptB_iff.1 h1
    have l2 := step_in hw hw' (hk k1) k1 l hp
    have h4 := err_in l2 h2
    obtain ⟨g1, g2⟩ := runs_inn (P := r) (P' := r') (step_ok hw (hk k1) h4) (step_ok hw' k1 h2) l2 hr h3
    exact ⟨rE_mk (ptB_iff.2 (hk k1)) h4 g1, .cons l2 g2⟩

theorem any_le {lim : Int} : ∀ {xs ys : List Wt}, All2 LeW xs ys → anyH lim ys = false → anyH lim xs = false
  | _, _, .nil, _ => rfl
  | x :: xs, y :: ys, .cons h r, ha => by
    unfold anyH at ha ⊢
    rw [List.any_cons, Bool.or_eq_false_iff] at ha ⊢
    refine ⟨?_, any_le r ha.2⟩
    have h1 : ¬ y.whi > lim := by simpa [hiF] using ha.1
    have := h.w
    simp only [hiF, decide_eq_false_iff_not]
    omega

/-- With one more point. -/
theorem ins_run {w : Wt} {P : List Pt} {a : Nat} {heat : Int} (ha : a ≤ P.length) : rE w (insP P a heat) = (if rE w (P.take a) = 0 then rE (endW w (P.take a)) (mP heat :: P.drop a) else rE w (P.take a)) ∧ (rL w (insP P a heat)).drop a = rL (endW w (P.take a)) (mP heat :: P.drop a) := by
  unfold insP
  refine ⟨rE_app _ _ _, ?_⟩
  have hl : (rL w (P.take a)).length = a := by rw [rL_len, List.length_take]; omega
  rw [rL_app, List.drop_append, hl, Nat.sub_self, List.drop_eq_nil_of_le (by rw [hl]; exact Nat.le_refl _), List.nil_append, List.drop_zero]

theorem mP_ok {h : Int} : ptB (mP h) = decide (0 ≤ h ∧ h ≤ 1099511627776) := by
  have e : ptB (mP h) = spanB h h 0 1099511627776 := rfl
  rw [e]
  unfold spanB
  by_cases h1 : 0 ≤ h
  · by_cases h2 : h ≤ 1099511627776
    · rw [decide_eq_true h1, decide_eq_true h2, decide_eq_true (show 0 ≤ h ∧ h ≤ 1099511627776 from ⟨h1, h2⟩)]; simp
    · rw [decide_eq_false h2, decide_eq_false (show ¬ (0 ≤ h ∧ h ≤ 1099511627776) from fun h => h2 h.2)]; simp
  · rw [decide_eq_false h1, decide_eq_false (show ¬ (0 ≤ h ∧ h ≤ 1099511627776) from fun h => h1 h.1)]; simp

/-- If a heat fits, so does each lesser one. -/
theorem fit_mono {w : Wt} {P : List Pt} {a : Nat} {lim h h' : Int} (hw : WOk w) (ha : a ≤ P.length) (h0 : 0 ≤ h) (hle : h ≤ h') (hf : fitF w P a lim h' = true) : fitF w P a lim h = true := by
  unfold fitF at hf ⊢
  obtain ⟨e1, e2⟩ := ins_run (w := w) (heat := h') ha
  obtain ⟨g1, g2⟩ := ins_run (w := w) (heat := h) ha
  rw [e1, e2] at hf
  rw [g1, g2]
  rw [Bool.and_eq_true, Bool.not_eq_true', decide_eq_true_iff] at hf ⊢
  obtain ⟨k1, k2⟩ := hf
  by_cases hz : rE w (P.take a) = 0
  · rw [if_pos hz] at k1 ⊢
    have hw1 := end_ok hw hz
    obtain ⟨c1, c2, c3⟩ := rE_cons k1
    have hb : 0 ≤ h' ∧ h' ≤ 1099511627776 := by rw [mP_ok] at c1; exact of_decide_eq_true c1
    have hb2 : ptB (mP h) = true := by rw [mP_ok]; exact decide_eq_true ⟨h0, by omega⟩
    have l := add_mono hw1 h0 hle
    have c4 := err_le l c2
    obtain ⟨d1, d2⟩ := run_le (step_ok hw1 (ptB_iff.1 hb2) c4) (step_ok hw1 (ptB_iff.1 c1) c2) l c3
    exact ⟨rE_mk hb2 c4 d1, any_le (.cons l d2) k2⟩
  · rw [if_neg hz] at k1
    exact (hz k1).elim

/-- The search finds the greatest that fits. -/
theorem bs_spec {p : Int → Bool} {M : Int} : ∀ {m : Nat} {lo hi : Int}, lo ≤ hi → hi ≤ M → hi - lo < ((2 ^ m : Nat) : Int) → p lo = true → (hi = M ∨ p (hi + 1) = false) → lo ≤ bsF p m lo hi ∧ bsF p m lo hi ≤ hi ∧ p (bsF p m lo hi) = true ∧ (bsF p m lo hi = M ∨ p (bsF p m lo hi + 1) = false)
  | 0, lo, hi, h1, h2, hm, hp, hh => by
    have : hi = lo := by simp at hm; omega
    subst this
    exact ⟨Int.le_refl _, Int.le_refl _, hp, hh⟩
  | m + 1, lo, hi, h1, h2, hm, hp, hh => by
    rw [pow_pos2] at hm
    by_cases hlt : lo < hi
    · cases hq : p ((lo + hi + 1) / 2)
      · rw [bs_no hlt hq]
        obtain ⟨a1, a2, a3, a4⟩ := bs_spec (p := p) (M := M) (m := m) (lo := lo) (hi := (lo + hi + 1) / 2 - 1) (by omega) (by omega) (by omega) hp (.inr (by rw [Int.sub_add_cancel]; exact hq))
        exact ⟨a1, by omega, a3, a4⟩
      · rw [bs_yes hlt hq]
        obtain ⟨a1, a2, a3, a4⟩ := bs_spec (p := p) (M := M) (m := m) (lo := (lo + hi + 1) / 2) (hi := hi) (by omega) h2 (by omega) hq hh
        exact ⟨by omega, a2, a3, a4⟩
    · rw [bs_end hlt]
      have : hi = lo := by omega
      subst this
      exact ⟨Int.le_refl _, Int.le_refl _, hp, hh⟩
end Go.Sx.Str

/- stream: fits of the law StreamRoomy, evaluated. -/

namespace Go.Sx.Str
open Go Go.Sx Go.Proofs
set_option maxRecDepth 100000

def dsZ : List Nat := [6, 8, 11, 4]
def nsZ : List Nat := [0, 1, 2, 3, 4, 7]
def VZ (L : Nat) (i : Int) : List VV := [.bool false, .sl 7 L, I i, .ptr (.own 4 0)]
def BZ (P : List Pt) (cap : Nat) (w : Wt) (a : Nat) (lim : Int) (xs : List Wt) : List VB := [ptsA P.length (pF P), .cells (wtL w) 25, .cells [.slice (.el 0 [] 0 0) P.length cap] 26, .cells [I a] 3, .cells [I lim] 3, vecW xs]
def LZ (P : List Pt) (cap : Nat) (w : Wt) (a : Nat) (lim : Int) (xs : List Wt) : LT := fun lock t h K =>
  FitP lock h t ⟨8, nsZ.zip (BZ P cap w a lim xs)⟩ (dsZ.zip (VZ xs.length a)) ∧ (a ≤ xs.length ∧ xs.length ≤ 200000) ∧
    (anyH lim (xs.drop a) = false → K .normal (dsZ.zip (VZ xs.length xs.length)) ⟨8, nsZ.zip (BZ P cap w a lim xs)⟩) ∧
    (anyH lim (xs.drop a) = true → ∀ i : Int, K .ret (dsZ.zip (VZ xs.length i)) ⟨8, nsZ.zip (BZ P cap w a lim xs)⟩)
theorem z0_ev (P : List Pt) (cap : Nat) (w : Wt) (a : Nat) (lim : Int) (xs : List Wt) (i : Int) (X : VEx → List VV → List VB → Prop) : codeE Try.prog (callN Try.prog noSpec noL 10 20) (fun _ => none) true 10 60 0 (loopB 0 (bodyOf Try.prog 29)) (dsZ.zip (VZ xs.length i)) ⟨8, nsZ.zip (BZ P cap w a lim xs)⟩ (obs 8 dsZ nsZ X) =
  (bif decide (i < (↑xs.length : Int)) then
 bif decide ((0 : Int) ≤ i ∧ i < (↑xs.length : Int)) then
 bif xs.length.beq xs.length && true then
 bif xs.length.beq xs.length then
 bif decide ((xs.getD i.toNat w0).whi > lim) then
 X VEx.ret [VV.bool false, VV.sl 7 xs.length, I i, VV.ptr (VA.own 4 0)] [ptsA P.length (pF P), VB.cells (wtL w) (25 : TypeId), VB.cells [VV.slice (VA.el 0 [] (0 : Int) 0) P.length cap] (26 : TypeId), VB.cells [I (↑a : Int)] (3 : TypeId), VB.cells [I lim] (3 : TypeId), vecW xs]
 else bif inK IntKind.i64 (i + (1 : Int)) then
 X VEx.normal [VV.bool false, VV.sl 7 xs.length, I (i + (1 : Int)), VV.ptr (VA.own 4 0)] [ptsA P.length (pF P), VB.cells (wtL w) (25 : TypeId), VB.cells [VV.slice (VA.el 0 [] (0 : Int) 0) P.length cap] (26 : TypeId), VB.cells [I (↑a : Int)] (3 : TypeId), VB.cells [I lim] (3 : TypeId), vecW xs]
 else False
 else False
 else False
 else False
 else X (VEx.exit 0) [VV.bool false, VV.sl 7 xs.length, I i, VV.ptr (VA.own 4 0)] [ptsA P.length (pF P), VB.cells (wtL w) (25 : TypeId), VB.cells [VV.slice (VA.el 0 [] (0 : Int) 0) P.length cap] (26 : TypeId), VB.cells [I (↑a : Int)] (3 : TypeId), VB.cells [I lim] (3 : TypeId), vecW xs]) := by kernel_rfl

theorem f29_ev (P : List Pt) (cap : Nat) (w : Wt) (a : Nat) (lim heat : Int) (Q : VRes → List VB → Prop) : spBL Try.prog 29 (tabS [flT 13]) [(0, LZ P cap w a lim (flL w (insP P a heat)))] 10 20 0 [I heat, .ptr (.own 2 0), .ptr (.own 3 0), .ptr (.own 1 0), .ptr (.own 4 0)] (bF P cap w a lim) (ftR Q) =
  (bif decide ((0 : Int) ≤ (0 : Int) ∧ (0 : Int) ≤ (↑a : Int) ∧ (↑a : Int) ≤ (↑cap : Int)) then
 (∀ (j : Nat), j < ((↑a : Int) - (0 : Int)).toNat → (([] : List Int) = [] ∧ (0 : Int) ≤ (0 : Int) + (0 : Int) + (↑j : Int) ∧ (0 : Int) + (0 : Int) + (↑j : Int) < (↑P.length : Int)) ∧ ((ptI P) ((0 : Int) + (0 : Int) + (↑j : Int))).all VV.one = true) ∧ bif roomB (0 + ((↑a : Int) - (0 : Int)).toNat) (72) then
 bif (0 + ((↑a : Int) - (0 : Int)).toNat).beq (0 + ((↑a : Int) - (0 : Int)).toNat) then
 bif roomB (0 + ((↑a : Int) - (0 : Int)).toNat + 1) (72) then
 bif decide ((0 : Int) ≤ (↑a : Int) ∧ (↑a : Int) ≤ (↑P.length : Int) ∧ (↑P.length : Int) ≤ (↑cap : Int)) then
 (∀ (j : Nat), j < ((↑P.length : Int) - (↑a : Int)).toNat → (([] : List Int) = [] ∧ (0 : Int) ≤ (0 : Int) + (↑a : Int) + (↑j : Int) ∧ (0 : Int) + (↑a : Int) + (↑j : Int) < (↑P.length : Int)) ∧ ((ptI P) ((0 : Int) + (↑a : Int) + (↑j : Int))).all VV.one = true) ∧ bif (0 + ((↑a : Int) - (0 : Int)).toNat + 1).beq (0 + ((↑a : Int) - (0 : Int)).toNat + 1) then
 bif roomB (0 + ((↑a : Int) - (0 : Int)).toNat + 1 + ((↑P.length : Int) - (↑a : Int)).toNat) (72) then
 ∃ P_1, isList (VH.mk (7) [(5, VB.vec (0 + ((↑a : Int) - (0 : Int)).toNat + 1 + ((↑P.length : Int) - (↑a : Int)).toNat) (catG (0 + ((↑a : Int) - (0 : Int)).toNat + 1) (catG (0 + ((↑a : Int) - (0 : Int)).toNat) (catG 0 nil9 fun j => (ptI P) ((0 : Int) + (0 : Int) + (↑j : Int))) fun j => List.take (9) (List.drop (j * (9)) [I 2, I 0, I 0, I 0, I 0, I heat, I heat, I 0, I 0])) fun j => (ptI P) ((0 : Int) + (↑a : Int) + (↑j : Int))) (9) 47), (5, VB.vec (0 + ((↑a : Int) - (0 : Int)).toNat + 1) (catG (0 + ((↑a : Int) - (0 : Int)).toNat) (catG 0 nil9 fun j => (ptI P) ((0 : Int) + (0 : Int) + (↑j : Int))) fun j => List.take (9) (List.drop (j * (9)) [I 2, I 0, I 0, I 0, I 0, I heat, I heat, I 0, I 0])) (9) 47), (6, VB.vec 1 (fun j => List.take (9) (List.drop (j * (9)) [I 2, I 0, I 0, I 0, I 0, I heat, I heat, I 0, I 0])) (9) 47), (5, VB.vec (0 + ((↑a : Int) - (0 : Int)).toNat) (catG 0 nil9 fun j => (ptI P) ((0 : Int) + (0 : Int) + (↑j : Int))) (9) 47), (5, VB.vec 0 nil9 (9) 47), (0, ptsA P.length (pF P)), (1, VB.cells (wtL w) (25 : TypeId)), (2, VB.cells [VV.slice (VA.el 0 [] (0 : Int) 0) P.length cap] (26 : TypeId)), (3, VB.cells [I (↑a : Int)] (3 : TypeId)), (4, VB.cells [I lim] (3 : TypeId))]) (VV.sl (5) (0 + ((↑a : Int) - (0 : Int)).toNat + 1 + ((↑P.length : Int) - (↑a : Int)).toNat)) P_1.length 9 (pG P_1) ∧ bif !decide (flE w P_1 = (0 : Int)) then
 Q (VRes.ret (VV.bool false)) [ptsA P.length (pF P), VB.cells (wtL w) (25 : TypeId), VB.cells [VV.slice (VA.el 0 [] (0 : Int) 0) P.length cap] (26 : TypeId), VB.cells [I (↑a : Int)] (3 : TypeId), VB.cells [I lim] (3 : TypeId)]
 else bif !decide ((↑(flL w P_1).length : Int) = (↑(0 + ((↑a : Int) - (0 : Int)).toNat + 1 + ((↑P.length : Int) - (↑a : Int)).toNat) : Int)) then
 Q (VRes.ret (VV.bool false)) [ptsA P.length (pF P), VB.cells (wtL w) (25 : TypeId), VB.cells [VV.slice (VA.el 0 [] (0 : Int) 0) P.length cap] (26 : TypeId), VB.cells [I (↑a : Int)] (3 : TypeId), VB.cells [I lim] (3 : TypeId)]
 else FitP 0 (VH.mk (7 + 1) [(7, vecW (flL w P_1)), (5, VB.vec (0 + ((↑a : Int) - (0 : Int)).toNat + 1 + ((↑P.length : Int) - (↑a : Int)).toNat) (catG (0 + ((↑a : Int) - (0 : Int)).toNat + 1) (catG (0 + ((↑a : Int) - (0 : Int)).toNat) (catG 0 nil9 fun j => (ptI P) ((0 : Int) + (0 : Int) + (↑j : Int))) fun j => List.take (9) (List.drop (j * (9)) [I 2, I 0, I 0, I 0, I 0, I heat, I heat, I 0, I 0])) fun j => (ptI P) ((0 : Int) + (↑a : Int) + (↑j : Int))) (9) 47), (5, VB.vec (0 + ((↑a : Int) - (0 : Int)).toNat + 1) (catG (0 + ((↑a : Int) - (0 : Int)).toNat) (catG 0 nil9 fun j => (ptI P) ((0 : Int) + (0 : Int) + (↑j : Int))) fun j => List.take (9) (List.drop (j * (9)) [I 2, I 0, I 0, I 0, I 0, I heat, I heat, I 0, I 0])) (9) 47), (6, VB.vec 1 (fun j => List.take (9) (List.drop (j * (9)) [I 2, I 0, I 0, I 0, I 0, I heat, I heat, I 0, I 0])) (9) 47), (5, VB.vec (0 + ((↑a : Int) - (0 : Int)).toNat) (catG 0 nil9 fun j => (ptI P) ((0 : Int) + (0 : Int) + (↑j : Int))) (9) 47), (5, VB.vec 0 nil9 (9) 47), (0, ptsA P.length (pF P)), (1, VB.cells (wtL w) (25 : TypeId)), (2, VB.cells [VV.slice (VA.el 0 [] (0 : Int) 0) P.length cap] (26 : TypeId)), (3, VB.cells [I (↑a : Int)] (3 : TypeId)), (4, VB.cells [I lim] (3 : TypeId))]) [(11, I (↑a : Int)), (45, I (↑a : Int)), (44, VV.bool false), (44, VV.bool !decide ((↑(flL w P_1).length : Int) = (↑(0 + ((↑a : Int) - (0 : Int)).toNat + 1 + ((↑P.length : Int) - (↑a : Int)).toNat) : Int))), (43, VV.bool !decide ((↑(flL w P_1).length : Int) = (↑(0 + ((↑a : Int) - (0 : Int)).toNat + 1 + ((↑P.length : Int) - (↑a : Int)).toNat) : Int))), (38, VV.bool false), (42, I (↑(0 + ((↑a : Int) - (0 : Int)).toNat + 1 + ((↑P.length : Int) - (↑a : Int)).toNat) : Int)), (38, VV.bool false), (41, VV.sl (5) (0 + ((↑a : Int) - (0 : Int)).toNat + 1 + ((↑P.length : Int) - (↑a : Int)).toNat)), (38, VV.bool false), (40, I (↑(flL w P_1).length : Int)), (38, VV.bool false), (39, VV.sl (7) (flL w P_1).length), (38, VV.bool false), (38, VV.bool !decide (flE w P_1 = (0 : Int))), (37, VV.bool !decide (flE w P_1 = (0 : Int))), (36, I (flE w P_1)), (10, I (flE w P_1)), (9, I (flI w P_1)), (8, VV.sl (7) (flL w P_1).length), (35, I (flE w P_1)), (34, I (flI w P_1)), (33, VV.sl (7) (flL w P_1).length), (29, VV.tup [VV.sl (7) (flL w P_1).length, I (flI w P_1), I (flE w P_1)]), (32, flV (7) w P_1), (31, VV.sl (5) (0 + ((↑a : Int) - (0 : Int)).toNat + 1 + ((↑P.length : Int) - (↑a : Int)).toNat)), (30, VV.agg (wtL w)), (7, VV.sl (5) (0 + ((↑a : Int) - (0 : Int)).toNat + 1 + ((↑P.length : Int) - (↑a : Int)).toNat)), (28, VV.sl (5) (0 + ((↑a : Int) - (0 : Int)).toNat + 1 + ((↑P.length : Int) - (↑a : Int)).toNat)), (27, VV.slice (VA.el 0 [] ((0 : Int) + (↑a : Int)) 0) ((↑P.length : Int) - (↑a : Int)).toNat (cap - (↑a : Int).toNat)), (26, I (↑a : Int)), (25, VV.slice (VA.el 0 [] (0 : Int) 0) P.length cap), (24, VV.sl (5) (0 + ((↑a : Int) - (0 : Int)).toNat + 1)), (7, VV.sl (5) (0 + ((↑a : Int) - (0 : Int)).toNat + 1)), (23, VV.sl (5) (0 + ((↑a : Int) - (0 : Int)).toNat + 1)), (22, VV.sl (6) 1), (21, VV.agg [I 2, I 0, I 0, I 0, I 0, I heat, I heat, I 0, I 0]), (20, VV.agg [I heat, I heat]), (19, I heat), (18, I heat), (17, VV.sl (5) (0 + ((↑a : Int) - (0 : Int)).toNat)), (7, VV.sl (5) (0 + ((↑a : Int) - (0 : Int)).toNat)), (16, VV.sl (5) (0 + ((↑a : Int) - (0 : Int)).toNat)), (15, VV.slice (VA.el 0 [] ((0 : Int) + (0 : Int)) 0) ((↑a : Int) - (0 : Int)).toNat (cap - Int.toNat (0 : Int))), (14, I (↑a : Int)), (13, VV.slice (VA.el 0 [] (0 : Int) 0) P.length cap), (12, VV.sl (5) 0), (6, VV.bool false), (0, I heat), (1, VV.ptr (VA.own 2 0)), (2, VV.ptr (VA.own 3 0)), (3, VV.ptr (VA.own 1 0)), (4, VV.ptr (VA.own 4 0))] (VH.mk 8 (nsZ.zip (BZ P cap w a lim (flL w (insP P a heat))))) (dsZ.zip (VZ (flL w (insP P a heat)).length (↑a : Int))) ∧ (a ≤ (flL w (insP P a heat)).length ∧ (flL w (insP P a heat)).length ≤ 200000) ∧ (anyH lim (List.drop a (flL w (insP P a heat))) = false → Q (VRes.ret (VV.bool true)) [ptsA P.length (pF P), VB.cells (wtL w) (25 : TypeId), VB.cells [VV.slice (VA.el 0 [] (0 : Int) 0) P.length cap] (26 : TypeId), VB.cells [I (↑a : Int)] (3 : TypeId), VB.cells [I lim] (3 : TypeId)]) ∧ (anyH lim (List.drop a (flL w (insP P a heat))) = true → ∀ (i : Int), Q (VRes.ret (VV.bool false)) [ptsA P.length (pF P), VB.cells (wtL w) (25 : TypeId), VB.cells [VV.slice (VA.el 0 [] (0 : Int) 0) P.length cap] (26 : TypeId), VB.cells [I (↑a : Int)] (3 : TypeId), VB.cells [I lim] (3 : TypeId)])
 else False
 else False
 else False
 else False
 else False
 else False
 else False) := by kernel_rfl


end Go.Sx.Str

/- stream: fits of the law StreamRoomy. -/

namespace Go.Sx.Str
open Go Go.Sx Go.Proofs
set_option maxRecDepth 100000

section
variable {P : List Pt} {cap a : Nat} {w : Wt} {lim heat : Int}

def OZ (P : List Pt) (cap : Nat) (w : Wt) (a : Nat) (lim : Int) (xs : List Wt) (i : Int) (x : VEx) (vs : List VV) (bs : List VB) : Prop :=
  (x = .exit 0 ∧ anyH lim (xs.drop i.toNat) = false ∧ vs = VZ xs.length xs.length ∧ bs = BZ P cap w a lim xs) ∨ (x = .ret ∧ anyH lim (xs.drop i.toNat) = true ∧ (∃ j : Int, vs = VZ xs.length j) ∧ bs = BZ P cap w a lim xs)

theorem LZ_ok {xs : List Wt} : LSound Try.prog true (.block 0 (.loop (loopB 0 (bodyOf Try.prog 29)))) 60 (LZ P cap w a lim xs) := by
  by_cases hn : a ≤ xs.length ∧ xs.length ≤ 200000
  · obtain ⟨ha, hn⟩ := hn
    refine loop_row hmix good0 (un := 10) (ds := dsZ) (ns := nsZ) (nx := 8) (fun i : Int => VZ xs.length i) (fun _ => BZ P cap w a lim xs) (fun i => 0 ≤ i ∧ i ≤ xs.length) (fun i => (xs.length - i).toNat) (OZ P cap w a lim xs) noL_ok ?_ ?_
    · rintro i ⟨h0, h1⟩
      rw [z0_ev]
      by_cases hlt : i < (xs.length : Int)
      · have hx : xs.length.beq xs.length = true := Nat.beq_refl _
        have hx2 : (xs.length.beq xs.length && true) = true := by rw [hx]; rfl
        have hj : i.toNat < xs.length := by omega
        refine cond_dk hlt (cond_dk ⟨h0, hlt⟩ (cond_k hx2 (cond_k hx (cond_d (fun hp => ?_) (fun hp => cond_r (by omega) ?_)))))
        · exact .inr ⟨rfl, any_yes hj (decide_eq_true hp), ⟨i, rfl⟩, rfl⟩
        · refine ⟨i + 1, ⟨by omega, by omega⟩, by dsimp only; omega, rfl, fitBs_refl _, fun e vs bs ho => ?_⟩
          have e1 := any_no hj (decide_eq_false hp : hiF lim (xs.getD i.toNat w0) = false)
          unfold OZ at ho ⊢
          rw [e1]
          rw [show (i + 1).toNat = i.toNat + 1 by omega] at ho
          exact ho
      · refine cond_d (fun h => absurd h hlt) (fun _ => ?_)
        have : i = (xs.length : Int) := by omega
        subst this
        exact .inl ⟨rfl, by rw [List.drop_eq_nil_of_le (by omega)]; rfl, rfl, rfl⟩
    · rintro lock t h K ⟨hf, _, h1, h2⟩
      refine ⟨(a : Int), hf, ⟨by omega, by omega⟩, ?_⟩
      rintro x vs bs (⟨rfl, he, rfl, rfl⟩ | ⟨rfl, he, ⟨j, rfl⟩, rfl⟩)
      · rw [Int.toNat_natCast] at he; exact h1 he
      · rw [Int.toNat_natCast] at he; exact h2 he j
  · rintro lock t h K ⟨hf, hc, h1, _⟩
    exact (hn hc).elim

theorem ftR_get {Q : VRes → List VB → Prop} {r : VRes} {h' : VH} (h : ftR Q r h') : Q r [h'.at 0, h'.at 1, h'.at 2, h'.at 3, h'.at 4] := h

theorem fit29 (hw : WOk w) (ha : a ≤ P.length) (hcap : P.length ≤ cap) (hn : P.length ≤ 60) : ∃ h', CallsV Try.prog 29 [I heat, .ptr (.own 2 0), .ptr (.own 3 0), .ptr (.own 1 0), .ptr (.own 4 0)] (bF P cap w a lim) (.ret (.bool (fitF w P a lim heat))) h' ∧ ∀ n, n < 5 → h'.at n = (bF P cap w a lim).at n := by
  have hsp := spBL_ok hmix (tabs_ok (l := [flT 13]) (fun x hx => by
      simp only [List.mem_singleton] at hx
      subst hx
      exact fl13_ok)) (f := 29) (l := [(0, LZ P cap w a lim (flL w (insP P a heat)))]) (fun x hx => by
    simp only [List.mem_singleton] at hx
    subst hx
    exact ⟨by kernel_rfl, LZ_ok⟩) (un := 10) (fu := 20)
  obtain ⟨r, h', hQ, hc⟩ := of_sp hsp (args := [I heat, .ptr (.own 2 0), .ptr (.own 3 0), .ptr (.own 1 0), .ptr (.own 4 0)]) (h := bF P cap w a lim)
    (K := ftR fun r bs => r = .ret (.bool (fitF w P a lim heat)) ∧ bs = [ptsA P.length (pF P), .cells (wtL w) 25, .cells [.slice (.el 0 [] 0 0) P.length cap] 26, .cells [I a] 3, .cells [I lim] 3])
    (by
      rw [f29_ev]
      have e1 : ((a : Int) - 0).toNat = a := by omega
      have e2 : ((P.length : Int) - a).toNat = P.length - a := by omega
      have hl := ins_len (heat := heat) ha
      have hlen : 0 + ((a : Int) - 0).toNat + 1 + ((P.length : Int) - a).toNat = (insP P a heat).length := by rw [hl, e1, e2]; omega
      have hE := (flE_o (f := w) (P := insP P a heat) (watB_iff.2 hw) (by rw [hl]; omega)).1
      refine cond_dk ⟨by omega, by omega, by omega⟩ ⟨fun j hj => ⟨⟨rfl, by omega, by omega⟩, rfl⟩, cond_k (room72 (by omega)) (cond_k (Nat.beq_refl _) (cond_k (room72 (by omega)) (cond_dk ⟨by omega, by omega, by omega⟩ ⟨fun j hj => ⟨⟨rfl, by omega, by omega⟩, rfl⟩, cond_k (Nat.beq_refl _) (cond_k (room72 (by omega)) ?_)⟩)))⟩
      refine ⟨insP P a heat, ⟨hlen, _, _, rfl, fun j hj => ?_⟩, cond_nd (fun h0 => ?_) (fun h0 => ?_)⟩
      · exact ins_cat ha e1 (fun j hj => ptI_pG (by omega)) (fun j => ptI_pG (by omega)) j
      · rw [hE] at h0
        unfold fitF
        rw [decide_eq_false h0]
        exact ⟨rfl, rfl⟩
      · have hL := flL_0 h0
        have hLn : (flL w (insP P a heat)).length = P.length + 1 := by rw [hL, rL_len, hl]
        rw [hE] at h0
        refine cond_nd (fun h => absurd (show (((flL w (insP P a heat)).length : Nat) : Int) = ((0 + ((a : Int) - 0).toNat + 1 + ((P.length : Int) - a).toNat : Nat) : Int) by rw [hlen, hLn, hl]) h) (fun _ => ?_)
        refine ⟨⟨⟨rfl, rfl, VB.fit_refl _, VB.fit_refl _, VB.fit_refl _, VB.fit_refl _, VB.fit_refl _, VB.fit_refl _, trivial⟩, rfl, rfl, rfl, rfl, trivial⟩, ⟨by omega, by omega⟩, fun hx => ?_, fun hx i => ?_⟩
        · rw [hL] at hx
          unfold fitF
          rw [h0, hx]
          exact ⟨rfl, rfl⟩
        · rw [hL] at hx
          unfold fitF
          rw [h0, hx]
          exact ⟨rfl, rfl⟩)
  obtain ⟨rfl, hb⟩ := ftR_get hQ
  injection hb with g0 hb
  injection hb with g1 hb
  injection hb with g2 hb
  injection hb with g3 hb
  injection hb with g4 hb
  refine ⟨h', hc, fun n hn => ?_⟩
  match n, hn with
  | 0, _ => exact g0
  | 1, _ => exact g1
  | 2, _ => exact g2
  | 3, _ => exact g3
  | 4, _ => exact g4

/-- fits as a row. -/
def f29T (P : List Pt) (cap : Nat) (w : Wt) (at' lim : Int) : FuncId × Spec1 := (29, fun _ args h K => match args with
  | [.int .i64 heat, .ptr (.own 2 0), .ptr (.own 3 0), .ptr (.own 1 0), .ptr (.own 4 0)] =>
    ((h.at 0 = ptsA P.length (pF P) ∧ h.at 1 = .cells (wtL w) 25 ∧ h.at 2 = .cells [.slice (.el 0 [] 0 0) P.length cap] 26 ∧ h.at 3 = .cells [I at'] 3 ∧ h.at 4 = .cells [I lim] 3) ∧ (WOk w ∧ (0 ≤ at' ∧ at' ≤ P.length) ∧ P.length ≤ cap ∧ P.length ≤ 60)) ∧
      K (.ret (.bool (fitF w P at'.toNat lim heat))) h
  | _ => False)

theorem f29T_ok {at' : Int} : SpOk Try.prog (f29T P cap w at' lim).1 (f29T P cap w at' lim).2 := by
  intro lock args h K hK
  simp only [f29T] at hK
  split at hK
  · rename_i heat
    obtain ⟨⟨⟨g0, g1, g2, g3, g4⟩, hw, ⟨a0, a1⟩, hcap, hn⟩, hK⟩ := hK
    obtain ⟨h', hc, hs⟩ := fit29 (P := P) (cap := cap) (w := w) (a := at'.toNat) (lim := lim) (heat := heat) hw (by omega) hcap hn
    have hat : (at'.toNat : Int) = at' := Int.toNat_of_nonneg a0
    refine ⟨_, h, hK, lockP_refl _ _, calls_lift hc (lt_nx (n := 4) (by rw [g4]; simp)) (fun n hn => ?_) hs (fun n hn => ?_) (fun n hn => ?_) rfl rfl⟩
    · match n, hn with
      | 0, _ => exact g0
      | 1, _ => exact g1
      | 2, _ => exact g2
      | 3, _ => rw [g3, ← hat]; rfl
      | 4, _ => exact g4
    · match n, hn with
      | 0, _ => exact fun h => VB.noConfusion h
      | 1, _ => exact fun h => VB.noConfusion h
      | 2, _ => exact fun h => VB.noConfusion h
      | 3, _ => exact fun h => VB.noConfusion h
      | 4, _ => exact fun h => VB.noConfusion h
    · match n, hn with
      | 0, _ => rfl
      | 1, _ => rfl
      | 2, _ => rfl
      | 3, _ => rfl
      | 4, _ => rfl
  · exact hK.elim
end
end Go.Sx.Str

/- stream: the law StreamRoomy, evaluated. -/

namespace Go.Sx.Str
open Go Go.Sx Go.Proofs
set_option maxRecDepth 100000

def tL9 (P : List Pt) (cap : Nat) (w : Wt) (at' lim : Int) : List (FuncId × Spec1) := [awT, rmT 19, f29T P cap w at' lim]
theorem law9_ev (P : List Pt) (cap : Nat) (w : Wt) (at' lim u : Int) (Q : VRes → Prop) : callN Try.prog (tabS (tL9 P cap w at' lim)) noL 10 20 0 (.fn 9) [.agg (wtL w), .slice (.el 0 [] 0 0) P.length cap, I at', I lim, .int .u32 u] ⟨1, [(0, ptsA P.length (pF P))]⟩ (fun r _ => Q r) =
  (bif decide ((↑P.length : Int) > (20 : Int)) then
 Q (VRes.ret (VV.bool true))
 else ∃ P_1, isList (VH.mk (5) [(4, VB.cells [I lim] 3), (3, VB.cells [I at'] 3), (2, VB.cells [VV.slice (VA.el 0 [] (0 : Int) 0) P.length cap] 26), (1, VB.cells (wtL w) 25), (0, ptsA P.length (pF P))]) (VV.slice (VA.el 0 [] (0 : Int) 0) P.length cap) P_1.length 9 (pG P_1) ∧ bif !decide (rmE w P_1 at' lim = (0 : Int)) then
 bif !decide (rmE w P_1 at' lim = (11 : Int)) then
 bif decide (rmH w P_1 at' lim = (0 : Int)) then
 Q (VRes.ret (VV.bool true))
 else Q (VRes.ret (VV.bool false))
 else bif decide (at' < (0 : Int)) then
 Q (VRes.ret (VV.bool false))
 else bif decide (at' > (↑P.length : Int)) then
 Q (VRes.ret (VV.bool false))
 else bif decide (rmH w P_1 at' lim < (0 : Int)) then
 Q (VRes.ret (VV.bool false))
 else bif decide (rmH w P_1 at' lim > (1099511627776 : Int)) then
 Q (VRes.ret (VV.bool false))
 else bif !decide (rmE w P_1 at' lim = (0 : Int)) then
 bif decide (rmH w P_1 at' lim = (0 : Int)) then
 ((ptsA P.length (pF P) = ptsA P.length (pF P) ∧ VB.cells (wtL w) (25 : TypeId) = VB.cells (wtL w) (25 : TypeId) ∧ VB.cells [VV.slice (VA.el 0 [] (0 : Int) 0) P.length cap] (26 : TypeId) = VB.cells [VV.slice (VA.el 0 [] (0 : Int) 0) P.length cap] (26 : TypeId) ∧ VB.cells [I at'] (3 : TypeId) = VB.cells [I at'] (3 : TypeId) ∧ VB.cells [I lim] (3 : TypeId) = VB.cells [I lim] (3 : TypeId)) ∧ WOk w ∧ ((0 : Int) ≤ at' ∧ at' ≤ (↑P.length : Int)) ∧ P.length ≤ cap ∧ P.length ≤ 60) ∧ bif !fitF w P at'.toNat lim (0 : Int) then
 Q (VRes.ret (VV.bool true))
 else Q (VRes.ret (VV.bool false))
 else Q (VRes.ret (VV.bool false))
 else ((ptsA P.length (pF P) = ptsA P.length (pF P) ∧ VB.cells (wtL w) (25 : TypeId) = VB.cells (wtL w) (25 : TypeId) ∧ VB.cells [VV.slice (VA.el 0 [] (0 : Int) 0) P.length cap] (26 : TypeId) = VB.cells [VV.slice (VA.el 0 [] (0 : Int) 0) P.length cap] (26 : TypeId) ∧ VB.cells [I at'] (3 : TypeId) = VB.cells [I at'] (3 : TypeId) ∧ VB.cells [I lim] (3 : TypeId) = VB.cells [I lim] (3 : TypeId)) ∧ WOk w ∧ ((0 : Int) ≤ at' ∧ at' ≤ (↑P.length : Int)) ∧ P.length ≤ cap ∧ P.length ≤ 60) ∧ bif fitF w P at'.toNat lim (rmH w P_1 at' lim) then
 bif inK IntKind.i64 u then
 bif inK IntKind.i64 (rmH w P_1 at' lim + (1 : Int)) then
 bif decide (rmH w P_1 at' lim + (1 : Int) = (0 : Int)) then
 False
 else ((ptsA P.length (pF P) = ptsA P.length (pF P) ∧ VB.cells (wtL w) (25 : TypeId) = VB.cells (wtL w) (25 : TypeId) ∧ VB.cells [VV.slice (VA.el 0 [] (0 : Int) 0) P.length cap] (26 : TypeId) = VB.cells [VV.slice (VA.el 0 [] (0 : Int) 0) P.length cap] (26 : TypeId) ∧ VB.cells [I at'] (3 : TypeId) = VB.cells [I at'] (3 : TypeId) ∧ VB.cells [I lim] (3 : TypeId) = VB.cells [I lim] (3 : TypeId)) ∧ WOk w ∧ ((0 : Int) ≤ at' ∧ at' ≤ (↑P.length : Int)) ∧ P.length ≤ cap ∧ P.length ≤ 60) ∧ bif fitF w P at'.toNat lim (remZ u (rmH w P_1 at' lim + (1 : Int))) then
 bif decide (rmH w P_1 at' lim = (1099511627776 : Int)) then
 Q (VRes.ret (VV.bool true))
 else bif inK IntKind.i64 (rmH w P_1 at' lim + (1 : Int)) then
 ((ptsA P.length (pF P) = ptsA P.length (pF P) ∧ VB.cells (wtL w) (25 : TypeId) = VB.cells (wtL w) (25 : TypeId) ∧ VB.cells [VV.slice (VA.el 0 [] (0 : Int) 0) P.length cap] (26 : TypeId) = VB.cells [VV.slice (VA.el 0 [] (0 : Int) 0) P.length cap] (26 : TypeId) ∧ VB.cells [I at'] (3 : TypeId) = VB.cells [I at'] (3 : TypeId) ∧ VB.cells [I lim] (3 : TypeId) = VB.cells [I lim] (3 : TypeId)) ∧ WOk w ∧ ((0 : Int) ≤ at' ∧ at' ≤ (↑P.length : Int)) ∧ P.length ≤ cap ∧ P.length ≤ 60) ∧ bif !fitF w P at'.toNat lim (rmH w P_1 at' lim + (1 : Int)) then
 Q (VRes.ret (VV.bool true))
 else Q (VRes.ret (VV.bool false))
 else False
 else Q (VRes.ret (VV.bool false))
 else False
 else False
 else Q (VRes.ret (VV.bool false))
 else bif decide (at' < (0 : Int)) then
 Q (VRes.ret (VV.bool false))
 else bif decide (at' > (↑P.length : Int)) then
 Q (VRes.ret (VV.bool false))
 else bif decide (rmH w P_1 at' lim < (0 : Int)) then
 Q (VRes.ret (VV.bool false))
 else bif decide (rmH w P_1 at' lim > (1099511627776 : Int)) then
 Q (VRes.ret (VV.bool false))
 else bif !decide (rmE w P_1 at' lim = (0 : Int)) then
 bif decide (rmH w P_1 at' lim = (0 : Int)) then
 ((ptsA P.length (pF P) = ptsA P.length (pF P) ∧ VB.cells (wtL w) (25 : TypeId) = VB.cells (wtL w) (25 : TypeId) ∧ VB.cells [VV.slice (VA.el 0 [] (0 : Int) 0) P.length cap] (26 : TypeId) = VB.cells [VV.slice (VA.el 0 [] (0 : Int) 0) P.length cap] (26 : TypeId) ∧ VB.cells [I at'] (3 : TypeId) = VB.cells [I at'] (3 : TypeId) ∧ VB.cells [I lim] (3 : TypeId) = VB.cells [I lim] (3 : TypeId)) ∧ WOk w ∧ ((0 : Int) ≤ at' ∧ at' ≤ (↑P.length : Int)) ∧ P.length ≤ cap ∧ P.length ≤ 60) ∧ bif !fitF w P at'.toNat lim (0 : Int) then
 Q (VRes.ret (VV.bool true))
 else Q (VRes.ret (VV.bool false))
 else Q (VRes.ret (VV.bool false))
 else ((ptsA P.length (pF P) = ptsA P.length (pF P) ∧ VB.cells (wtL w) (25 : TypeId) = VB.cells (wtL w) (25 : TypeId) ∧ VB.cells [VV.slice (VA.el 0 [] (0 : Int) 0) P.length cap] (26 : TypeId) = VB.cells [VV.slice (VA.el 0 [] (0 : Int) 0) P.length cap] (26 : TypeId) ∧ VB.cells [I at'] (3 : TypeId) = VB.cells [I at'] (3 : TypeId) ∧ VB.cells [I lim] (3 : TypeId) = VB.cells [I lim] (3 : TypeId)) ∧ WOk w ∧ ((0 : Int) ≤ at' ∧ at' ≤ (↑P.length : Int)) ∧ P.length ≤ cap ∧ P.length ≤ 60) ∧ bif fitF w P at'.toNat lim (rmH w P_1 at' lim) then
 bif inK IntKind.i64 u then
 bif inK IntKind.i64 (rmH w P_1 at' lim + (1 : Int)) then
 bif decide (rmH w P_1 at' lim + (1 : Int) = (0 : Int)) then
 False
 else ((ptsA P.length (pF P) = ptsA P.length (pF P) ∧ VB.cells (wtL w) (25 : TypeId) = VB.cells (wtL w) (25 : TypeId) ∧ VB.cells [VV.slice (VA.el 0 [] (0 : Int) 0) P.length cap] (26 : TypeId) = VB.cells [VV.slice (VA.el 0 [] (0 : Int) 0) P.length cap] (26 : TypeId) ∧ VB.cells [I at'] (3 : TypeId) = VB.cells [I at'] (3 : TypeId) ∧ VB.cells [I lim] (3 : TypeId) = VB.cells [I lim] (3 : TypeId)) ∧ WOk w ∧ ((0 : Int) ≤ at' ∧ at' ≤ (↑P.length : Int)) ∧ P.length ≤ cap ∧ P.length ≤ 60) ∧ bif fitF w P at'.toNat lim (remZ u (rmH w P_1 at' lim + (1 : Int))) then
 bif decide (rmH w P_1 at' lim = (1099511627776 : Int)) then
 Q (VRes.ret (VV.bool true))
 else bif inK IntKind.i64 (rmH w P_1 at' lim + (1 : Int)) then
 ((ptsA P.length (pF P) = ptsA P.length (pF P) ∧ VB.cells (wtL w) (25 : TypeId) = VB.cells (wtL w) (25 : TypeId) ∧ VB.cells [VV.slice (VA.el 0 [] (0 : Int) 0) P.length cap] (26 : TypeId) = VB.cells [VV.slice (VA.el 0 [] (0 : Int) 0) P.length cap] (26 : TypeId) ∧ VB.cells [I at'] (3 : TypeId) = VB.cells [I at'] (3 : TypeId) ∧ VB.cells [I lim] (3 : TypeId) = VB.cells [I lim] (3 : TypeId)) ∧ WOk w ∧ ((0 : Int) ≤ at' ∧ at' ≤ (↑P.length : Int)) ∧ P.length ≤ cap ∧ P.length ≤ 60) ∧ bif !fitF w P at'.toNat lim (rmH w P_1 at' lim + (1 : Int)) then
 Q (VRes.ret (VV.bool true))
 else Q (VRes.ret (VV.bool false))
 else False
 else Q (VRes.ret (VV.bool false))
 else False
 else False
 else Q (VRes.ret (VV.bool false))) := by kernel_rfl


end Go.Sx.Str

/- stream: the law StreamRoomy. -/

namespace Go.Sx.Str
open Go Go.Sx Go.Proofs
set_option maxRecDepth 100000

theorem rE_val : ∀ (P : List Pt) (w : Wt), rE w P = 0 ∨ rE w P = 1 ∨ rE w P = 10 ∨ rE w P = 12
  | [], _ => .inl rfl
  | p :: r, w => by
    cases hb : ptB p
    · rw [rE_bad hb]; exact .inr (.inl rfl)
    · by_cases he : errW (stepW w p) = 0
      · rw [rE_pos hb he]; exact rE_val r _
      · rw [rE_err hb he]
        exact .inr (.inr (errW_ne he))

theorem flE_val (w : Wt) (P : List Pt) : flE w P ≠ 11 := by
  cases hw : watB w
  · rw [(flE_w hw).1]; decide
  · by_cases hl : (P.length : Int) > 64
    · rw [(flE_l hw hl).1]; decide
    · rw [(flE_o hw hl).1]
      rcases rE_val P w with h | h | h | h <;> rw [h] <;> decide

/-- What is known if Room tells a heat, or refuses. -/
theorem rm_known {w : Wt} {P : List Pt} {at' lim : Int} (h : rmE w P at' lim = 0 ∨ rmE w P at' lim = 11) : WOk w ∧ (0 ≤ at' ∧ at' ≤ P.length) ∧ (rmE w P at' lim = 0 → fitF w P at'.toNat lim 0 = true) ∧ (rmE w P at' lim = 11 → fitF w P at'.toNat lim 0 = false) := by
  cases h1 : watB w
  · rw [rm1 h1] at h; omega
  · cases h2 : inB lim 0 100000
    · rw [rm2 h1 h2] at h; omega
    · cases h3 : inB at' 0 P.length
      · rw [rm3 h1 h2 h3] at h; omega
      · by_cases h4 : flE w P = 0
        · refine ⟨watB_iff.1 h1, inB_iff.1 h3, fun h0 => ?_, fun h0 => ?_⟩
          · cases h5 : fitF w P at'.toNat lim 0
            · rw [rm5 h1 h2 h3 h4 h5] at h0; omega
            · rfl
          · cases h5 : fitF w P at'.toNat lim 0
            · rfl
            · rw [rm6 h1 h2 h3 h4 h5] at h0; omega
        · rw [rm4 h1 h2 h3 h4] at h
          have := flE_val w P
          omega

section
variable {P : List Pt} {cap : Nat} {w : Wt} {at' lim : Int}

theorem tL9_ok : ∀ x ∈ tL9 P cap w at' lim, SpOk Try.prog x.1 x.2 := by
  intro x hx
  simp only [tL9, List.mem_cons, List.not_mem_nil, or_false] at hx
  rcases hx with rfl | rfl | rfl
  · exact awT_ok
  · exact rm19_ok
  · exact f29T_ok

theorem law9_v {u : Int} (hu : 0 ≤ u ∧ u ≤ 4294967295) : ∃ h', CallsV Try.prog 9 [.agg (wtL w), .slice (.el 0 [] 0 0) P.length cap, I at', I lim, .int .u32 u] ⟨1, [(0, ptsA P.length (pF P))]⟩ (.ret (.bool true)) h' := by
  by_cases hcap : cap < P.length
  · exact ⟨⟨0, []⟩, vac_cap hcap⟩
  obtain ⟨r, h', hQ, hcc⟩ := of_callN (tab_good hmix (tL9_ok (P := P) (cap := cap) (w := w) (at' := at') (lim := lim)) 20) (un := 10) (f := 9) (args := [.agg (wtL w), .slice (.el 0 [] 0 0) P.length cap, I at', I lim, .int .u32 u]) (h := ⟨1, [(0, ptsA P.length (pF P))]⟩) (K := fun r _ => r = .ret (.bool true))
    (by
      refine cast (law9_ev P cap w at' lim u _).symm ?_
      refine cond_d (fun _ => rfl) (fun hn => ⟨P, isList_arr rfl, ?_⟩)
      have done : rmE w P at' lim = 0 ∨ rmE w P at' lim = 11 → WOk w ∧ (0 ≤ at' ∧ at' ≤ P.length) ∧ P.length ≤ cap ∧ P.length ≤ 60 := fun h => by
        obtain ⟨k1, k2, _, _⟩ := rm_known h
        exact ⟨k1, k2, by omega, by omega⟩
      have good : rmE w P at' lim = 0 → fitF w P at'.toNat lim (rmH w P at' lim) = true ∧ fitF w P at'.toNat lim (remZ u (rmH w P at' lim + 1)) = true ∧ (rmH w P at' lim = 1099511627776 ∨ fitF w P at'.toNat lim (rmH w P at' lim + 1) = false) ∧ 0 ≤ rmH w P at' lim ∧ rmH w P at' lim ≤ 1099511627776 := fun h0 => by
        obtain ⟨k1, k2, k3, _⟩ := rm_known (.inl h0)
        have := bs_spec (p := fitF w P at'.toNat lim) (M := 1099511627776) (m := 41) (lo := 0) (hi := 1099511627776) (by decide) (by decide) (by decide) (k3 h0) (.inl rfl)
        rw [rmH_0 h0]
        obtain ⟨b1, b2, b3, b4⟩ := this
        have b1 : 0 ≤ bsR w P at' lim := b1
        have b2 : bsR w P at' lim ≤ 1099511627776 := b2
        refine ⟨b3, ?_, b4, b1, b2⟩
        have r1 : 0 ≤ remZ u (bsR w P at' lim + 1) ∧ remZ u (bsR w P at' lim + 1) < bsR w P at' lim + 1 := by
          rw [remZ_nn hu.1]
          exact ⟨Int.emod_nonneg _ (by omega), Int.emod_lt_of_pos _ (by omega)⟩
        exact fit_mono k1 (by omega) r1.1 (show remZ u (bsR w P at' lim + 1) ≤ bsR w P at' lim by omega) b3
      refine cond_nd (fun e0 => cond_nd (fun e11 => cond_dk (rmH_1 e0) rfl) (fun e11 => ?_)) (fun e0 => ?_)
      · obtain ⟨d1, d2, d3, d4⟩ := done (.inr e11)
        obtain ⟨_, _, _, k4⟩ := rm_known (.inr e11)
        have hz := rmH_1 e0
        refine cond_d (fun h => by omega) (fun _ => cond_d (fun h => by omega) (fun _ => cond_d (fun h => by omega) (fun _ => cond_d (fun h => by omega) (fun _ => cond_nd (fun _ => cond_dk hz ⟨⟨⟨rfl, rfl, rfl, rfl, rfl⟩, d1, d2, d3, d4⟩, cond_nf (k4 e11) rfl⟩) (fun h => absurd h e0)))))
      · obtain ⟨d1, d2, d3, d4⟩ := done (.inl e0)
        obtain ⟨g1, g2, g3, g4, g5⟩ := good e0
        refine cond_d (fun h => by omega) (fun _ => cond_d (fun h => by omega) (fun _ => cond_d (fun h => by omega) (fun _ => cond_d (fun h => by omega) (fun _ => cond_nd (fun h => absurd e0 h) (fun _ => ?_)))))
        refine ⟨⟨⟨rfl, rfl, rfl, rfl, rfl⟩, d1, d2, d3, d4⟩, cond_t g1 (cond_r (by omega) (cond_r (by omega) (cond_d (fun h => by omega) (fun _ => ⟨⟨⟨rfl, rfl, rfl, rfl, rfl⟩, d1, d2, d3, d4⟩, cond_t g2 (cond_d (fun _ => rfl) (fun hne => cond_r (by omega) ⟨⟨⟨rfl, rfl, rfl, rfl, rfl⟩, d1, d2, d3, d4⟩, cond_nf (g3.resolve_left hne) rfl⟩))⟩))))⟩)
  subst hQ
  exact ⟨h', hcc⟩
end
end Go.Sx.Str
