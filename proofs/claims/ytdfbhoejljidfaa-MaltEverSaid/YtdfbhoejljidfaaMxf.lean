/- malt: contracts of both Plays. -/
import Derived.Test.YtdfbhoejljidfaaMxe

namespace Go.Sx.Malt
open Go Go.Sx Go.Proofs
set_option maxRecDepth 100000

def res4 (x : Vat × Int × Int) : VRes := .ret (.tup [.agg (vat6 x.1), .agg (vat8 x.1), I x.2.1, I x.2.2])

/-- What Play returns. -/
def plF (kf af bf : Int → Int) (off : Int) (n : Nat) (a b c d e f : Int) : Vat × Int × Int :=
  bif mB a b c d e f then (bif decide ((n : Int) > 256) then (vat0 0 0 0 0 0 0, 0, 3) else
    (bif decide ((plR kf af bf off n 0 (vat0 a b c d e f)).2.2 = 0) then ((plR kf af bf off n 0 (vat0 a b c d e f)).1, n, 0) else (vat0 0 0 0 0 0 0, (plR kf af bf off n 0 (vat0 a b c d e f)).2.1, (plR kf af bf off n 0 (vat0 a b c d e f)).2.2)))
  else (vat0 0 0 0 0 0 0, 0, 1)

theorem vat0_ok {a b c d e f : Int} (h : mB a b c d e f = true) : VOk (vat0 a b c d e f) := by
  obtain ⟨h1, h2, h3⟩ := mB_of h
  exact ⟨h1, h2, h3, by simp [vat0], by simp [vat0], by simp [vat0], by simp [vat0]⟩

section
variable (ok : List Int → Int → Prop) (kf af bf : Int → Int)

/-- A list of steps. -/
def SlS (a0 : VB) (sl : VV) (off : Int) (n : Nat) : Prop :=
  (∃ c, sl = .slice (.el 0 [] off 0) n c ∧ a0 = .arr 3 ok (gS kf af bf) ∧ 0 ≤ off ∧ ∀ j : Int, 0 ≤ j → j < (n : Int) → ok [] (off + j)) ∨ (sl = .nils ∧ n = 0)

theorem arr1_free {a : VB} (hn : a ≠ .free) : ∀ n, n < (VH.mk 1 [(0, a)]).nx → (VH.mk 1 [(0, a)]).at n ≠ .free := by
  intro n h
  have : n = 0 := by simp at h; omega
  subst this
  exact hn

theorem lift1 {f : FuncId} {args : List VV} {h hm' : VH} {r : VRes} {s : Nat} {g : List Int → Int → List VV} (hs : CallsV Try.prog f args ⟨1, [(0, .arr s ok g)]⟩ r hm') (h0 : h.at 0 = .arr s ok g) (h1 : hm'.at 0 = .arr s ok g) (ha : belL 1 args = true) (hr : r.bel 1 = true) : CallsV Try.prog f args h r h := by
  refine calls_lift hs (fun n hn => ?_) (fun n hn => ?_) (arr1_free (by simp)) (fun n hn => ?_) ha hr
  all_goals
    have e : n = 0 := by simp at hn; omega
    subst e
  · exact h0
  · exact h1
  · rfl

theorem mt_ok {g : FuncId} (hf : ∀ a b c d e f h, CallsV Try.prog g [.agg [I a, I b, I c, I d, I e, I f]] h (.ret (.bool (mB a b c d e f))) h) : ∀ f T, tabS [maltT g mB] f = some T → SpOk Try.prog f T := tabs_ok (maltT_ok hf)

theorem blocks12 : blocksOf 1 (bodyOf Try.prog 12) = [.loop (loopB 1 (bodyOf Try.prog 12))] := by kernel_rfl
theorem blocks13 : blocksOf 0 (bodyOf Try.prog 13) = [.loop (loopB 0 (bodyOf Try.prog 13))] := by kernel_rfl
theorem nt12 : ntOf Try.prog 12 = 90 := by kernel_rfl
theorem nt13 : ntOf Try.prog 13 = 164 := by kernel_rfl

theorem plF_1 {off : Int} {n : Nat} {a b c d e f : Int} (h : mB a b c d e f = false) : plF kf af bf off n a b c d e f = (vat0 0 0 0 0 0 0, 0, 1) := by unfold plF; rw [h]; rfl
theorem plF_3 {off : Int} {n : Nat} {a b c d e f : Int} (h : mB a b c d e f = true) (h2 : (n : Int) > 256) : plF kf af bf off n a b c d e f = (vat0 0 0 0 0 0 0, 0, 3) := by unfold plF; rw [h, decide_eq_true h2]; rfl
theorem plF_0 {off : Int} {n : Nat} {a b c d e f : Int} (h : mB a b c d e f = true) (h2 : ¬ (n : Int) > 256) (h3 : (plR kf af bf off n 0 (vat0 a b c d e f)).2.2 = 0) :
    plF kf af bf off n a b c d e f = ((plR kf af bf off n 0 (vat0 a b c d e f)).1, (n : Int), 0) := by unfold plF; rw [h, decide_eq_false h2, decide_eq_true h3]; rfl
theorem plF_e {off : Int} {n : Nat} {a b c d e f : Int} (h : mB a b c d e f = true) (h2 : ¬ (n : Int) > 256) (h3 : ¬ (plR kf af bf off n 0 (vat0 a b c d e f)).2.2 = 0) :
    plF kf af bf off n a b c d e f = (vat0 0 0 0 0 0 0, (plR kf af bf off n 0 (vat0 a b c d e f)).2) := by unfold plF; rw [h, decide_eq_false h2, decide_eq_false h3]; rfl

def isRes (x : Vat × Int × Int) (vs : List VV) : Prop := vs = [.agg (vat6 x.1), .agg (vat8 x.1), I x.2.1, I x.2.2]

theorem isRes_of {x y : Vat × Int × Int} {vs : List VV} (h : y = x) (hv : isRes x vs) : isRes y vs := by subst h; exact hv

theorem play_v {h : VH} {sl : VV} {off : Int} {n : Nat} (hsl : SlS ok kf af bf (h.at 0) sl off n) (a b c d e f : Int) : CallsV Try.prog 12 [.agg [I a, I b, I c, I d, I e, I f], sl] h (res4 (plF kf af bf off n a b c d e f)) h := by
  rcases hsl with ⟨k, rfl, h0, ho, hok⟩ | ⟨rfl, rfl⟩
  · by_cases hb : mB a b c d e f = true ∧ n ≤ 256
    · have hL : LoopsOk Try.prog 12 [(1, playB ok kf af bf off n k (vat0 a b c d e f))] := by
        intro x hx
        simp only [List.mem_singleton] at hx
        subst hx
        refine ⟨blocks12, ?_⟩
        rw [nt12]
        exact playB_ok ok kf af bf hb.2 ho hok (vat0_ok hb.1)
      obtain ⟨r, h', h1, h2⟩ := of_sp (spDL_ok hmix (mt_ok (fun a b c d e f h => malt_v a b c d e f h)) hL (un := 10) (fu := 20))
        (h := ⟨1, [(0, .arr 3 ok (gS kf af bf))]⟩) (args := [.agg [I a, I b, I c, I d, I e, I f], .slice (.el 0 [] off 0) n k])
        (K := plQ (fun vs a0 => isRes (plF kf af bf off n a b c d e f) vs ∧ a0 = .arr 3 ok (gS kf af bf)))
        (by
          rw [play_ev, hb.1]
          refine cond_d (fun h => by omega) (fun h3 => ⟨⟨⟨rfl, rfl, rfl, rfl, rfl, rfl, rfl, trivial⟩, rfl, rfl, rfl, rfl, rfl, rfl, rfl, rfl, trivial⟩, ?_⟩)
          exact cond_d (fun h4 => ⟨isRes_of (plF_0 kf af bf hb.1 h3 h4) rfl, rfl⟩) (fun h4 => ⟨isRes_of (plF_e kf af bf hb.1 h3 h4) rfl, rfl⟩))
      unfold plQ at h1
      split at h1
      · obtain ⟨rfl, h5⟩ := h1
        exact lift1 ok h2 h0 h5 rfl rfl
      · exact h1.elim
    · obtain ⟨r, h', h1, h2⟩ := of_sp (spDL_ok hmix (mt_ok (fun a b c d e f h => malt_v a b c d e f h)) (f := 12) (l := [(1, fun _ _ _ _ => False)]) (by
          intro x hx
          simp only [List.mem_singleton] at hx
          subst hx
          exact ⟨blocks12, fun _ _ _ _ h => h.elim⟩) (un := 10) (fu := 20))
        (h := ⟨1, [(0, .arr 3 ok (gS kf af bf))]⟩) (args := [.agg [I a, I b, I c, I d, I e, I f], .slice (.el 0 [] off 0) n k])
        (K := plQ (fun vs a0 => isRes (plF kf af bf off n a b c d e f) vs ∧ a0 = .arr 3 ok (gS kf af bf)))
        (by
          rw [playx_ev]
          cases hB : mB a b c d e f with
          | false => exact ⟨isRes_of (plF_1 kf af bf hB) rfl, rfl⟩
          | true =>
            have h3 : (n : Int) > 256 := by
              by_cases h4 : n ≤ 256
              · exact absurd ⟨hB, h4⟩ hb
              · omega
            exact cond_dk h3 ⟨isRes_of (plF_3 kf af bf hB h3) rfl, rfl⟩)
      unfold plQ at h1
      split at h1
      · obtain ⟨rfl, h5⟩ := h1
        exact lift1 ok h2 h0 h5 rfl rfl
      · exact h1.elim
  · obtain ⟨r, h', h1, h2⟩ := of_sp (spDL_ok hmix (mt_ok (fun a b c d e f h => malt_v a b c d e f h)) (f := 12) (l := []) (fun x hx => by cases hx) (un := 10) (fu := 20))
      (h := ⟨0, []⟩) (args := [.agg [I a, I b, I c, I d, I e, I f], .nils]) (K := plQ0 (fun vs => isRes (plF kf af bf off 0 a b c d e f) vs))
      (by
        rw [playn_ev]
        cases hB : mB a b c d e f with
        | false => exact isRes_of (plF_1 kf af bf hB) rfl
        | true => exact isRes_of (plF_0 kf af bf hB (by decide) rfl) rfl)
    unfold plQ0 at h1
    split at h1
    · obtain rfl := h1
      exact calls_lift0 h2 rfl rfl
    · exact h1.elim

theorem rplay_v {h : VH} {sl : VV} {off : Int} {n : Nat} (hsl : SlS ok kf af bf (h.at 0) sl off n) (a b c d e f : Int) : CallsV Try.prog 13 [.agg [I a, I b, I c, I d, I e, I f], sl] h (res4 (plF kf af bf off n a b c d e f)) h := by
  rcases hsl with ⟨k, rfl, h0, ho, hok⟩ | ⟨rfl, rfl⟩
  · by_cases hb : mB a b c d e f = true ∧ n ≤ 256
    · have hL : LoopsOk Try.prog 13 [(0, rLB ok kf af bf off n k (vat0 a b c d e f))] := by
        intro x hx
        simp only [List.mem_singleton] at hx
        subst hx
        refine ⟨blocks13, ?_⟩
        rw [nt13]
        exact rLB_ok ok kf af bf hb.2 ho hok (vat0_ok hb.1)
      obtain ⟨r, h', h1, h2⟩ := of_sp (spBL_ok hmix (mt_ok (fun a b c d e f h => rmalt_v a b c d e f h)) hL (un := 10) (fu := 20))
        (h := ⟨1, [(0, .arr 3 ok (gS kf af bf))]⟩) (args := [.agg [I a, I b, I c, I d, I e, I f], .slice (.el 0 [] off 0) n k])
        (K := plQ (fun vs a0 => isRes (plF kf af bf off n a b c d e f) vs ∧ a0 = .arr 3 ok (gS kf af bf)))
        (by
          rw [rplay_ev, hb.1]
          refine cond_d (fun h => by omega) (fun h3 => ⟨⟨⟨rfl, rfl, rfl, rfl, rfl, rfl, rfl, trivial⟩, rfl, rfl, rfl, rfl, rfl, rfl, trivial⟩, ?_⟩)
          exact cond_d (fun h4 => ⟨isRes_of (plF_0 kf af bf hb.1 h3 h4) rfl, rfl⟩) (fun h4 => ⟨isRes_of (plF_e kf af bf hb.1 h3 h4) rfl, rfl⟩))
      unfold plQ at h1
      split at h1
      · obtain ⟨rfl, h5⟩ := h1
        exact lift1 ok h2 h0 h5 rfl rfl
      · exact h1.elim
    · obtain ⟨r, h', h1, h2⟩ := of_sp (spBL_ok hmix (mt_ok (fun a b c d e f h => rmalt_v a b c d e f h)) (f := 13) (l := [(0, fun _ _ _ _ => False)]) (by
          intro x hx
          simp only [List.mem_singleton] at hx
          subst hx
          exact ⟨blocks13, fun _ _ _ _ h => h.elim⟩) (un := 10) (fu := 20))
        (h := ⟨1, [(0, .arr 3 ok (gS kf af bf))]⟩) (args := [.agg [I a, I b, I c, I d, I e, I f], .slice (.el 0 [] off 0) n k])
        (K := plQ (fun vs a0 => isRes (plF kf af bf off n a b c d e f) vs ∧ a0 = .arr 3 ok (gS kf af bf)))
        (by
          rw [rplayx_ev]
          cases hB : mB a b c d e f with
          | false => exact ⟨isRes_of (plF_1 kf af bf hB) rfl, rfl⟩
          | true =>
            have h3 : (n : Int) > 256 := by
              by_cases h4 : n ≤ 256
              · exact absurd ⟨hB, h4⟩ hb
              · omega
            exact cond_dk h3 ⟨isRes_of (plF_3 kf af bf hB h3) rfl, rfl⟩)
      unfold plQ at h1
      split at h1
      · obtain ⟨rfl, h5⟩ := h1
        exact lift1 ok h2 h0 h5 rfl rfl
      · exact h1.elim
  · obtain ⟨r, h', h1, h2⟩ := of_sp (spBL_ok hmix (mt_ok (fun a b c d e f h => rmalt_v a b c d e f h)) (f := 13) (l := []) (fun x hx => by cases hx) (un := 10) (fu := 20))
      (h := ⟨0, []⟩) (args := [.agg [I a, I b, I c, I d, I e, I f], .nils]) (K := plQ0 (fun vs => isRes (plF kf af bf off 0 a b c d e f) vs))
      (by
        rw [rplayn_ev]
        cases hB : mB a b c d e f with
        | false => exact isRes_of (plF_1 kf af bf hB) rfl
        | true => exact isRes_of (plF_0 kf af bf hB (by decide) rfl) rfl)
    unfold plQ0 at h1
    split at h1
    · obtain rfl := h1
      exact calls_lift0 h2 rfl rfl
    · exact h1.elim
end
end Go.Sx.Malt
