/- genuine: Gn1 Gn2 Gn3 Gn4 Gn5, in one text. -/
import Derived.Test.YtoionnljbacmkaaGK
import Derived.Test.YtoionnljbacmkaaGH
import Derived.Test.YtoionnljbacmkaaGc3
import Derived.Test.YtoionnljbacmkaaGM
/- genuine: keeps, evaluated. -/

namespace Go.Sx.Gen
open Go Go.Sx Go.Proofs
set_option maxRecDepth 100000

def dsK : List Nat := [7, 0, 1, 2, 6]
def VK (L cap : Nat) (n d i : Int) : List VV := [I i, .slice (.el 0 [] 0 0) L cap, I n, I d, .bool false]
/-- Does a share n / d keep the i-th bound? -/
def kpB (g : Nat → Int × Int) (n d i : Int) : Bool := !decide ((g i.toNat).1 * n < (g i.toNat).2 * d)
def LK26 (L cap : Nat) (g : Nat → Int × Int) (n d : Int) : LT := fun lock t h K =>
  FitP lock h t ⟨1, [0].zip [arrP L g]⟩ (dsK.zip (VK L cap n d 0)) ∧ (allB (kpB g n d) L 0 = true → K .normal (dsK.zip (VK L cap n d L)) ⟨1, [0].zip [arrP L g]⟩) ∧
    (allB (kpB g n d) L 0 = false → ∀ j, K .ret (dsK.zip (VK L cap n d j)) ⟨1, [0].zip [arrP L g]⟩)

theorem k26_ev (L cap : Nat) (g : Nat → Int × Int) (n d i : Int) (X : VEx → List VV → List VB → Prop) : codeE Try.prog (callN Try.prog noSpec noL 10 20) (fun _ => none) true 10 29 0 (loopB 0 (bodyOf Try.prog 26)) (dsK.zip (VK L cap n d i)) ⟨1, [0].zip [arrP L g]⟩ (obs 1 dsK [0] X) =
  (bif decide (i < (↑L : Int)) then
 bif decide ((0 : Int) ≤ i ∧ i < (↑L : Int)) then
 (([] : List Int) = [] ∧ (0 : Int) ≤ (0 : Int) + i ∧ (0 : Int) + i < (↑L : Int)) ∧ bif inK IntKind.i64 ((g ((0 : Int) + i).toNat).fst * n) then
 bif decide ((0 : Int) ≤ i ∧ i < (↑L : Int)) then
 (([] : List Int) = [] ∧ (0 : Int) ≤ (0 : Int) + i ∧ (0 : Int) + i < (↑L : Int)) ∧ bif inK IntKind.i64 ((g ((0 : Int) + i).toNat).snd * d) then
 bif decide ((g ((0 : Int) + i).toNat).fst * n < (g ((0 : Int) + i).toNat).snd * d) then
 X VEx.ret [I i, VV.slice (VA.el 0 [] (0 : Int) 0) L cap, I n, I d, VV.bool false] [arrP L g]
 else bif inK IntKind.i64 (i + (1 : Int)) then
 X VEx.normal [I (i + (1 : Int)), VV.slice (VA.el 0 [] (0 : Int) 0) L cap, I n, I d, VV.bool false] [arrP L g]
 else False
 else False
 else False
 else False
 else False
 else X (VEx.exit 0) [I i, VV.slice (VA.el 0 [] (0 : Int) 0) L cap, I n, I d, VV.bool false] [arrP L g]) := by kernel_rfl

theorem f26_ev (L cap : Nat) (g : Nat → Int × Int) (n d : Int) (Q : VRes → VH → Prop) : spBL Try.prog 26 noSpec [(0, LK26 L cap g n d)] 10 20 0 [.slice (.el 0 [] 0 0) L cap, I n, I d] ⟨1, [(0, arrP L g)]⟩ Q =
  (FitP 0 (VH.mk (1) ([0].zip [arrP L g])) (dsK.zip (VK L cap n d (0 : Int))) (VH.mk (1) ([0].zip [arrP L g])) (dsK.zip (VK L cap n d (0 : Int))) ∧ (allB (kpB g n d) L (0 : Int) = true → Q (VRes.ret (VV.bool true)) (VH.mk (1) ([(0, arrP L g)]))) ∧ (allB (kpB g n d) L (0 : Int) = false → ∀ (j : Int), Q (VRes.ret (VV.bool false)) (VH.mk (1) ([(0, arrP L g)])))) := by kernel_rfl


end Go.Sx.Gen

/- genuine: what the shares mean (plain). -/

namespace Go.Sx.Gen
open Go Go.Sx Go.Proofs

theorem mul_le_iff {a c p : Int} (hp : 0 < p) : a * p ≤ c * p ↔ a ≤ c := ⟨fun h => Int.le_of_mul_le_mul_right h hp, fun h => Int.mul_le_mul_of_nonneg_right h (Int.le_of_lt hp)⟩

/-- a / b ≤ c / d ≤ e / f. -/
theorem frac_le {a b c d e f : Int} (hb : 0 ≤ b) (hd : 0 < d) (hf : 0 ≤ f) (h1 : a * d ≤ c * b) (h2 : c * f ≤ e * d) : a * f ≤ e * b := by
  have k1 := Int.mul_le_mul_of_nonneg_right h1 hf
  have k2 := Int.mul_le_mul_of_nonneg_right h2 hb
  have e1 : c * b * f = c * f * b := by ac_rfl
  have e2 : a * f * d = a * d * f := by ac_rfl
  have e3 : e * b * d = e * d * b := by ac_rfl
  have k3 : a * f * d ≤ e * b * d := by rw [e2, e3]; omega
  exact (mul_le_iff hd).1 k3

theorem red_gcd {a c : Int} (h : 0 < c) : Int.gcd (redF a c).1 (redF a c).2 = 1 := by
  have hg := gcd_pos (a := a) h
  unfold redF
  rw [Int.gcd_ediv (Int.gcd_dvd_left a c) (Int.gcd_dvd_right a c)]
  exact Nat.div_self (by omega)

/-- What is known of the shares behind q bounds. -/
structure RfInv (b : Sus) (x y : Src) (L q : Nat) (r : Shr) : Prop where
  lb : 0 < r.lb
  mb : 0 < r.mb
  no : r.no = true ↔ ∃ p, p < q ∧ (bdF b x y p).1 = 0 ∧ 0 < (bdF b x y p).2
  lo : ∀ p, p < q → 0 < (bdF b x y p).1 → (bdF b x y p).2 * r.lb ≤ r.la * (bdF b x y p).1
  hi : ∀ p, p < q → (bdF b x y p).1 < 0 → r.ma * -(bdF b x y p).1 ≤ -(bdF b x y p).2 * r.mb
  loA : ∃ p, p < L ∧ 0 < (bdF b x y p).1 ∧ (bdF b x y p).2 * r.lb = r.la * (bdF b x y p).1
  hiA : ∃ p, p < L ∧ (bdF b x y p).1 < 0 ∧ r.ma * -(bdF b x y p).1 = -(bdF b x y p).2 * r.mb
  gl : Int.gcd r.la r.lb = 1
  gm : Int.gcd r.ma r.mb = 1

section
variable {b : Sus} {x y : Src} {L q : Nat}

theorem lt_succ_cases {p : Nat} (h : p < q + 1) : p < q ∨ p = q := by omega

theorem rfInv_step {r : Shr} (h : RfInv b x y L q r) (hq : q < L) : RfInv b x y L (q + 1) (rfK r (bdF b x y q).1 (bdF b x y q).2) := by
  obtain ⟨hlb, hmb, hno, hlo, hhi, hla, hma, hgl, hgm⟩ := h
  generalize hA : (bdF b x y q).1 = A
  generalize hC : (bdF b x y q).2 = C
  have no' : ∀ s : Shr, s.no = r.no → A ≠ 0 → (s.no = true ↔ ∃ p, p < q + 1 ∧ (bdF b x y p).1 = 0 ∧ 0 < (bdF b x y p).2) := by
    intro s hs h0
    rw [hs, hno]
    constructor
    · rintro ⟨p, h1, h2⟩; exact ⟨p, by omega, h2⟩
    · rintro ⟨p, h1, h2, h3⟩
      rcases lt_succ_cases h1 with h4 | rfl
      · exact ⟨p, h4, h2, h3⟩
      · rw [hA] at h2; exact absurd h2 h0
  unfold rfK
  by_cases a0 : A = 0
  · rw [if_pos a0]
    refine ⟨hlb, hmb, ?_, fun p hp hpos => ?_, fun p hp hneg => ?_, hla, hma, hgl, hgm⟩
    · simp only [Bool.or_eq_true, decide_eq_true_eq, hno]
      constructor
      · rintro (⟨p, h1, h2⟩ | h1)
        · exact ⟨p, by omega, h2⟩
        · exact ⟨q, by omega, by rw [hA]; exact a0, by rw [hC]; exact h1⟩
      · rintro ⟨p, h1, h2, h3⟩
        rcases lt_succ_cases h1 with h4 | rfl
        · exact .inl ⟨p, h4, h2, h3⟩
        · rw [hC] at h3; exact .inr h3
    · rcases lt_succ_cases hp with h4 | rfl
      · exact hlo p h4 hpos
      · omega
    · rcases lt_succ_cases hp with h4 | rfl
      · exact hhi p h4 hneg
      · omega
  · rw [if_neg a0]
    by_cases ap : A > 0
    · rw [if_pos ap]
      have hlow : lowF C A = redF C A := by unfold lowF; rw [if_neg (by omega)]
      rw [hlow]
      obtain ⟨g, g0, g1, g2, gp⟩ := red_mul (a := C) ap
      have gg := red_gcd (a := C) ap
      generalize (redF C A).1 = c at *
      generalize (redF C A).2 = a at *
      by_cases t : r.la * a < c * r.lb
      · rw [if_pos t]
        refine ⟨gp, hmb, no' _ rfl a0, fun p hp hpos => ?_, fun p hp hneg => ?_, ⟨q, hq, by omega, ?_⟩, hma, gg, hgm⟩
        · rcases lt_succ_cases hp with h4 | rfl
          · exact frac_le (Int.le_of_lt hpos) hlb (Int.le_of_lt gp) (hlo p h4 hpos) (Int.le_of_lt t)
          · rw [hA, hC]
            show C * a ≤ c * A
            rw [g1, g2]
            exact Int.le_of_eq (by ac_rfl)
        · rcases lt_succ_cases hp with h4 | rfl
          · exact hhi p h4 hneg
          · omega
        · rw [hA, hC]
          show C * a = c * A
          rw [g1, g2]; ac_rfl
      · rw [if_neg t]
        refine ⟨hlb, hmb, no' _ rfl a0, fun p hp hpos => ?_, fun p hp hneg => ?_, hla, hma, hgl, hgm⟩
        · rcases lt_succ_cases hp with h4 | rfl
          · exact hlo p h4 hpos
          · rw [hA, hC, g1, g2]
            have e1 : c * g * r.lb = c * r.lb * g := by ac_rfl
            have e2 : r.la * (a * g) = r.la * a * g := by ac_rfl
            rw [e1, e2]
            exact (mul_le_iff g0).2 (by omega)
        · rcases lt_succ_cases hp with h4 | rfl
          · exact hhi p h4 hneg
          · omega
    · rw [if_neg ap]
      have an : 0 < -A := by omega
      have hlow : lowF C A = redF (-C) (-A) := by unfold lowF; rw [if_pos (by omega), Int.zero_sub, Int.zero_sub]
      rw [hlow]
      obtain ⟨g, g0, g1, g2, gp⟩ := red_mul (a := -C) an
      have gg := red_gcd (a := -C) an
      generalize (redF (-C) (-A)).1 = c at *
      generalize (redF (-C) (-A)).2 = a at *
      by_cases t : c * r.mb < r.ma * a
      · rw [if_pos t]
        refine ⟨hlb, gp, no' _ rfl a0, fun p hp hpos => ?_, fun p hp hneg => ?_, hla, ⟨q, hq, by omega, ?_⟩, hgl, gg⟩
        · rcases lt_succ_cases hp with h4 | rfl
          · exact hlo p h4 hpos
          · omega
        · rcases lt_succ_cases hp with h4 | rfl
          · exact frac_le (Int.le_of_lt gp) hmb (by omega) (Int.le_of_lt t) (hhi p h4 hneg)
          · rw [hA, hC]
            show c * -A ≤ -C * a
            rw [g1, g2]
            exact Int.le_of_eq (by ac_rfl)
        · rw [hA, hC]
          show c * -A = -C * a
          rw [g1, g2]; ac_rfl
      · rw [if_neg t]
        refine ⟨hlb, hmb, no' _ rfl a0, fun p hp hpos => ?_, fun p hp hneg => ?_, hla, hma, hgl, hgm⟩
        · rcases lt_succ_cases hp with h4 | rfl
          · exact hlo p h4 hpos
          · omega
        · rcases lt_succ_cases hp with h4 | rfl
          · exact hhi p h4 hneg
          · rw [hA, hC, g1, g2]
            have e1 : c * g * r.mb = c * r.mb * g := by ac_rfl
            have e2 : r.ma * (a * g) = r.ma * a * g := by ac_rfl
            rw [e1, e2]
            exact (mul_le_iff g0).2 (by omega)

theorem rfInv_loop : ∀ {m q : Nat} {r : Shr}, RfInv b x y L q r → q + m ≤ L → RfInv b x y L (q + m) (rfL b x y m q r)
  | 0, _, _, h, _ => h
  | m + 1, q, r, h, hq => by
    have := rfInv_loop (m := m) (q := q + 1) (rfInv_step h (by omega)) (by omega)
    rw [show q + 1 + m = q + (m + 1) by omega] at this
    exact this

/-- The shares that are told. -/
theorem rfInv_all (b : Sus) (x y : Src) : RfInv b x y (3 + 2 * b.sl) (3 + 2 * b.sl) (rfF b x y) := by
  have h0 : RfInv b x y (3 + 2 * b.sl) 0 (mkS 0 1 1 1 false) := by
    refine ⟨by simp [mkS], by simp [mkS], Iff.intro (fun h => absurd h (by simp [mkS])) (fun h => ?_), fun p hp => by omega, fun p hp => by omega, ⟨0, by omega, by simp [bdF], by simp [bdF, mkS]⟩, ⟨1, by omega, by simp [bdF], by simp [bdF, mkS]⟩, by simp [mkS], by simp [mkS]⟩
    obtain ⟨p, hp, _⟩ := h
    omega
  have := rfInv_loop (m := 3 + 2 * b.sl) h0 (by omega)
  rw [Nat.zero_add] at this
  exact this

/-- Which shares keep all that is asked. -/
def kpA (b : Sus) (x y : Src) (n d : Int) : Prop := ∀ p, p < 3 + 2 * b.sl → (bdF b x y p).2 * d ≤ (bdF b x y p).1 * n

theorem kpA_iff {n d : Int} (hd : 0 < d) : kpA b x y n d ↔ (rfF b x y).no = false ∧ (rfF b x y).la * d ≤ n * (rfF b x y).lb ∧ n * (rfF b x y).mb ≤ (rfF b x y).ma * d := by
  obtain ⟨hlb, hmb, hno, hlo, hhi, ⟨p1, k1, k2, k3⟩, ⟨p2, k4, k5, k6⟩, _, _⟩ := rfInv_all b x y
  generalize rfF b x y = r at *
  constructor
  · intro h
    refine ⟨?_, ?_, ?_⟩
    · cases hr : r.no with
      | false => rfl
      | true =>
        obtain ⟨p, h1, h2, h3⟩ := hno.1 hr
        have h4 := h p h1
        rw [h2, Int.zero_mul] at h4
        have := Int.mul_pos h3 hd
        omega
    · have h4 := h p1 k1
      generalize (bdF b x y p1).1 = A at *
      generalize (bdF b x y p1).2 = C at *
      refine (mul_le_iff k2).1 ?_
      have e1 : r.la * d * A = r.la * A * d := by ac_rfl
      have e2 : n * r.lb * A = A * n * r.lb := by ac_rfl
      have e3 : C * r.lb * d = C * d * r.lb := by ac_rfl
      rw [e1, ← k3, e2, e3]
      exact Int.mul_le_mul_of_nonneg_right h4 (Int.le_of_lt hlb)
    · have h4 := h p2 k4
      generalize (bdF b x y p2).1 = A at *
      generalize (bdF b x y p2).2 = C at *
      have an : 0 < -A := by omega
      refine (mul_le_iff an).1 ?_
      have e1 : n * r.mb * -A = -A * n * r.mb := by ac_rfl
      have e2 : r.ma * d * -A = r.ma * -A * d := by ac_rfl
      have e3 : -C * r.mb * d = -C * d * r.mb := by ac_rfl
      rw [e1, e2, k6, e3]
      refine Int.mul_le_mul_of_nonneg_right ?_ (Int.le_of_lt hmb)
      rw [Int.neg_mul, Int.neg_mul]; omega
  · rintro ⟨h1, h2, h3⟩ p hp
    have c1 := hlo p hp
    have c2 := hhi p hp
    have c3 : ¬ ((bdF b x y p).1 = 0 ∧ 0 < (bdF b x y p).2) := fun hc => by
      have := hno.2 ⟨p, hp, hc⟩
      rw [h1] at this; cases this
    generalize (bdF b x y p).1 = A at *
    generalize (bdF b x y p).2 = C at *
    rcases Int.lt_trichotomy A 0 with ha | ha | ha
    · have an : 0 < -A := by omega
      have h5 := frac_le (a := n) (b := d) (c := r.ma) (d := r.mb) (e := -C) (f := -A) (Int.le_of_lt hd) hmb (Int.le_of_lt an) h3 (c2 ha)
      have e1 : n * -A = -(A * n) := by rw [Int.mul_comm, Int.neg_mul]
      have e2 : -C * d = -(C * d) := Int.neg_mul _ _
      omega
    · subst ha
      rw [Int.zero_mul]
      have : C ≤ 0 := by omega
      have := Int.mul_nonpos_of_nonpos_of_nonneg this (Int.le_of_lt hd)
      omega
    · have h5 := frac_le (a := C) (b := A) (c := r.la) (d := r.lb) (e := n) (f := d) (Int.le_of_lt ha) hlb (Int.le_of_lt hd) (c1 ha) h2
      rw [Int.mul_comm A n]; exact h5
end

/-- The shares of the second source. -/
structure Mir (r s : Shr) : Prop where
  la : s.la = r.mb - r.ma
  lb : s.lb = r.mb
  ma : s.ma = r.lb - r.la
  mb : s.mb = r.lb
  no : s.no = r.no

theorem red_mir {C A : Int} (h : 0 < A) : redF (A - C) A = ((redF C A).2 - (redF C A).1, (redF C A).2) := by
  have hg : Int.gcd (A - C) A = Int.gcd C A := Int.gcd_self_sub_left A C
  unfold redF
  rw [hg]
  congr 1
  exact Int.sub_ediv_of_dvd A (Int.gcd_dvd_left C A)

theorem mir_step {r s : Shr} (h : Mir r s) (A C : Int) : Mir (rfK r A C) (rfK s (-A) (C - A)) := by
  obtain ⟨h1, h2, h3, h4, h5⟩ := h
  unfold rfK
  by_cases a0 : A = 0
  · subst a0
    simp only [Int.neg_zero, if_true, Int.sub_zero]
    exact ⟨h1, h2, h3, h4, by rw [h5]⟩
  · rw [if_neg a0, if_neg (by omega : ¬ -A = 0)]
    by_cases ap : A > 0
    · rw [if_pos ap, if_neg (by omega : ¬ -A > 0)]
      have l1 : lowF C A = redF C A := by unfold lowF; rw [if_neg (by omega)]
      have l2 : lowF (C - A) (-A) = redF (A - C) A := by
        unfold lowF; rw [if_pos (by omega), show 0 - (C - A) = A - C by omega, show 0 - -A = A by omega]
      rw [l1, l2, red_mir ap]
      generalize (redF C A).1 = c
      generalize (redF C A).2 = a
      dsimp only
      have : (a - c) * s.mb < s.ma * a ↔ r.la * a < c * r.lb := by
        rw [h3, h4, Int.sub_mul, Int.sub_mul, Int.mul_comm a r.lb]
        omega
      by_cases t : r.la * a < c * r.lb
      · rw [if_pos t, if_pos (this.2 t)]
        exact ⟨h1, h2, rfl, rfl, h5⟩
      · rw [if_neg t, if_neg (fun h => t (this.1 h))]
        exact ⟨h1, h2, h3, h4, h5⟩
    · rw [if_neg ap, if_pos (by omega : -A > 0)]
      have an : 0 < -A := by omega
      have l1 : lowF C A = redF (-C) (-A) := by unfold lowF; rw [if_pos (by omega), Int.zero_sub, Int.zero_sub]
      have l2 : lowF (C - A) (-A) = redF (-A - -C) (-A) := by
        unfold lowF; rw [if_neg (by omega), show C - A = -A - -C by omega]
      rw [l1, l2, red_mir an]
      generalize (redF (-C) (-A)).1 = c
      generalize (redF (-C) (-A)).2 = a
      dsimp only
      have : s.la * a < (a - c) * s.lb ↔ c * r.mb < r.ma * a := by
        rw [h1, h2, Int.sub_mul, Int.sub_mul, Int.mul_comm a r.mb]
        omega
      by_cases t : c * r.mb < r.ma * a
      · rw [if_pos t, if_pos (this.2 t)]
        exact ⟨rfl, rfl, h3, h4, h5⟩
      · rw [if_neg t, if_neg (fun h => t (this.1 h))]
        exact ⟨h1, h2, h3, h4, h5⟩

theorem bdF_mir {b : Sus} {x y : Src} {q : Nat} (h : 2 ≤ q) : bdF b y x q = (-(bdF b x y q).1, (bdF b x y q).2 - (bdF b x y q).1) := by
  have h0 : ¬ q = 0 := by omega
  have h1 : ¬ q = 1 := by omega
  unfold bdF
  simp only [h0, h1, if_false]
  by_cases h2 : q = 2
  · simp only [h2, if_true]
    refine Prod.ext ?_ ?_ <;> dsimp only <;> omega
  · simp only [h2, if_false]
    by_cases h3 : (q - 3) % 2 = 0
    · simp only [h3, if_true]
      refine Prod.ext ?_ ?_ <;> dsimp only <;> omega
    · simp only [h3, if_false]
      refine Prod.ext ?_ ?_ <;> dsimp only <;> omega

theorem mir_loop {b : Sus} {x y : Src} : ∀ {m q : Nat} {r s : Shr}, 2 ≤ q → Mir r s → Mir (rfL b x y m q r) (rfL b y x m q s)
  | 0, _, _, _, _, h => h
  | m + 1, q, r, s, hq, h => by
    refine mir_loop (m := m) (q := q + 1) (by omega) ?_
    rw [bdF_mir (x := x) (y := y) hq]
    exact mir_step h _ _

theorem mir_all (b : Sus) (x y : Src) : Mir (rfF b x y) (rfF b y x) := by
  have e : ∀ x y : Src, rfF b x y = rfL b x y (2 * b.sl + 1) 2 (mkS 0 1 1 1 false) := by
    intro x y
    unfold rfF
    rw [show 3 + 2 * b.sl = 2 * b.sl + 1 + 1 + 1 by omega]
    show rfL b x y (2 * b.sl + 1) 2 (rfK (rfK (mkS 0 1 1 1 false) 1 0) (-1) (-1)) = _
    have e1 : rfK (mkS 0 1 1 1 false) 1 0 = mkS 0 1 1 1 false := by simp [rfK, mkS, lowF, redF]
    have e2 : rfK (mkS 0 1 1 1 false) (-1) (-1) = mkS 0 1 1 1 false := by simp [rfK, mkS, lowF, redF]
    rw [e1, e2]
  rw [e, e]
  exact mir_loop (Nat.le_refl 2) ⟨rfl, rfl, rfl, rfl, rfl⟩

theorem share_mir (b : Sus) (x y : Src) : shareB b y x = shareB b x y := by
  obtain ⟨h1, h2, h3, h4, h5⟩ := mir_all b x y
  rw [shareB_rf, shareB_rf, h1, h2, h3, h4, h5, Int.min_comm]
  congr 4
  rw [decide_eq_decide, Int.sub_mul, Int.sub_mul, Int.mul_comm (rfF b x y).lb]
  omega
end Go.Sx.Gen

/- genuine: keeps as a row. -/

namespace Go.Sx.Gen
open Go Go.Sx Go.Proofs
set_option maxRecDepth 100000

section
variable {n cap : Nat} {l : Int → Src} {b : Sus} {i j : Int}

theorem mulK {a c : Int} (ha : bdI 4194304 a) (hc : bdI 8589934592 c) : -9223372036854775808 ≤ a * c ∧ a * c ≤ 9223372036854775807 := by
  have h1 : a.natAbs ≤ 4194304 := by unfold bdI at ha; omega
  have h2 : c.natAbs ≤ 8589934592 := by unfold bdI at hc; omega
  have h3 : (a * c).natAbs ≤ 4194304 * 8589934592 := by rw [Int.natAbs_mul]; exact Nat.mul_le_mul h1 h2
  omega

def OK26 (L cap : Nat) (g : Nat → Int × Int) (m d i : Int) (e : VEx) (vs : List VV) (bs : List VB) : Prop :=
  bs = [arrP L g] ∧ ((e = .exit 0 ∧ allB (kpB g m d) (L - i).toNat i = true ∧ vs = VK L cap m d L) ∨ (e = .ret ∧ allB (kpB g m d) (L - i).toNat i = false ∧ ∃ j, vs = VK L cap m d j))

theorem LK26_ok {L cap : Nat} {g : Nat → Int × Int} {m d : Int} (hL : L ≤ maxI) (hg : ∀ q, q < L → bdI 4194304 (g q).1 ∧ bdI 4194304 (g q).2) (hm : bdI 8589934592 m) (hd : bdI 8589934592 d) :
    LSound Try.prog true (.block 0 (.loop (loopB 0 (bodyOf Try.prog 26)))) 29 (LK26 L cap g m d) := by
  unfold maxI at hL
  refine loop_row hmix good0 (un := 10) (ds := dsK) (ns := [0]) (nx := 1) (VK L cap m d) (fun _ => [arrP L g]) (fun i => 0 ≤ i ∧ i ≤ L) (fun i => (L - i).toNat) (OK26 L cap g m d) noL_ok ?_ ?_
  · rintro i ⟨h0, h1⟩
    rw [k26_ev]
    by_cases hlt : i < L
    · have hst := allB_step (p := kpB g m d) h0 hlt
      obtain ⟨b1, b2⟩ := hg i.toNat (by omega)
      refine cond_dk hlt (cond_dk ⟨h0, hlt⟩ ⟨⟨rfl, by omega, by omega⟩, ?_⟩)
      simp only [Int.zero_add]
      refine cond_r (mulK b1 hm) (cond_dk ⟨h0, hlt⟩ ⟨⟨trivial, h0, hlt⟩, cond_r (mulK b2 hd) (cond_d (fun q => ?_) (fun q => cond_r (by omega) ?_))⟩)
      · refine ⟨rfl, .inr ⟨rfl, ?_, i, rfl⟩⟩
        rw [hst]; simp [kpB, q]
      · refine ⟨i + 1, ⟨by omega, by omega⟩, by dsimp only; omega, rfl, fitBs_refl _, fun e vs bs ho => ?_⟩
        rw [OK26, hst]
        have : kpB g m d i = true := by unfold kpB; rw [decide_eq_false q]; rfl
        rw [this]
        exact ho
    · refine cond_d (fun h => absurd h hlt) (fun _ => ?_)
      have : i = L := by omega
      subst this
      exact ⟨rfl, .inl ⟨rfl, allB_end hlt, rfl⟩⟩
  · rintro lock t h K ⟨hf, h1, h2⟩
    refine ⟨0, hf, ⟨by omega, by omega⟩, ?_⟩
    rintro e vs bs ⟨rfl, ⟨rfl, ha, rfl⟩ | ⟨rfl, ha, j, rfl⟩⟩
    · exact h1 (by simpa using ha)
    · exact h2 (by simpa using ha) j

theorem keeps_v {L : Nat} {g : Nat → Int × Int} {m d : Int} (hL : L ≤ maxI) (hg : ∀ q, q < L → bdI 4194304 (g q).1 ∧ bdI 4194304 (g q).2) (hm : bdI 8589934592 m) (hd : bdI 8589934592 d) (cap : Nat) :
    ∃ h', CallsV Try.prog 26 [.slice (.el 0 [] 0 0) L cap, I m, I d] ⟨1, [(0, arrP L g)]⟩ (.ret (.bool (allB (kpB g m d) L 0))) h' := by
  have hsp := spBL_ok (sp := noSpec) hmix (fun _ _ h => absurd h (by simp [noSpec])) (f := 26) (lo_one (by kernel_rfl) (LK26_ok (cap := cap) hL hg hm hd)) (un := 10) (fu := 20)
  obtain ⟨r, h', hQ, hcc⟩ := of_sp hsp (args := [.slice (.el 0 [] 0 0) L cap, I m, I d]) (h := ⟨1, [(0, arrP L g)]⟩) (K := fun r h' => r = .ret (.bool (allB (kpB g m d) L 0)))
    (by
      rw [f26_ev]
      exact ⟨fitP_self rfl, fun h => by rw [h], fun h j => by rw [h]⟩)
  subst hQ
  exact ⟨h', hcc⟩

/-- Does a share keep all bounds? -/
def kpV (b : Sus) (x y : Src) (m d : Int) : Bool := allB (kpB (bdF b x y) m d) (3 + 2 * b.sl) 0

theorem kpV_iff {x y : Src} {m d : Int} : kpV b x y m d = true ↔ kpA b x y m d := by
  unfold kpV kpA
  rw [allB_iff]
  constructor
  · intro h p hp
    have := h p (by omega) (by omega)
    simp [kpB] at this
    exact this
  · intro h q h0 h1
    have := h q.toNat (by omega)
    simp [kpB]
    exact this

def kpT (n : Nat) (l : Int → Src) (b : Sus) (i j : Int) : FuncId × Spec1 := (26, fun _ args h K => match args with
  | [.sl a L, .int .i64 m, .int .i64 d] => (h.at a = vecBd b (l i) (l j) (3 + 2 * b.sl) ∧ L = 3 + 2 * b.sl ∧ OkS n l b i j ∧ bdI 8589934592 m ∧ bdI 8589934592 d) ∧ K (.ret (.bool (kpV b (l i) (l j) m d))) h
  | _ => False)

theorem kpT_ok : SpOk Try.prog (kpT n l b i j).1 (kpT n l b i j).2 := by
  intro lock args h K hK
  simp only [kpT] at hK
  split at hK
  · obtain ⟨⟨h1, rfl, h2, h3, h4⟩, hK⟩ := hK
    have hsl := (susOk_of h2.1).vl
    exact ⟨_, h, hK, lockP_refl _ _, view_one (keeps_v (by unfold maxI; omega) (fun q hq => bdF_bd h2 hq) h3 h4) rfl rfl (fun _ _ => rfl) h1⟩
  · exact hK.elim
end
end Go.Sx.Gen

/- genuine: GenuineEnds, evaluated. -/

namespace Go.Sx.Gen
open Go Go.Sx Go.Proofs
set_option maxRecDepth 100000

def t6 (n : Nat) (l : Int → Src) (b : Sus) (k m : Int) : List (FuncId × Spec1) := [awT, shT 13 n l b, srcT 21 n l b, susT 24 (bothB b n l) n l b, bndT n l b, kpT n l b (0 + k) (0 + m)]

def dsE : List Nat := [21, 11, 12, 20, 17, 18]
def VE (b : Sus) (p i : Int) (w : Bool) : List VV := [I i, .ptr (.own 4 0), .ptr (.own 5 0), .bool w, .sl 11 (3 + 2 * b.sl), I p]
def nsE : List Nat := [0, 1, 2, 3, 4, 5, 11]
def hE (n : Nat) (l : Int → Src) (b : Sus) (x y : Src) (s : Shr) : List VB := [srcA n l, valA n l, seenA b, cSu b, .cells [I s.la, I s.lb] 35, .cells [I s.ma, I s.mb] 35, vecBd b x y (3 + 2 * b.sl)]

/-- Nothing divides both. -/
def noDiv (s : Shr) (i : Int) : Prop := ¬ (remZ s.la i = 0 ∧ remZ s.lb i = 0) ∧ ¬ (remZ s.ma i = 0 ∧ remZ s.mb i = 0)
def LE0 (n : Nat) (l : Int → Src) (b : Sus) (x y : Src) (s : Shr) : LT := fun lock t h K => match look t 20, look t 18 with
  | .bool w, .int .i64 p => (FitP lock h t ⟨12, nsE.zip (hE n l b x y s)⟩ (dsE.zip (VE b p 2 w)) ∧ ∀ i : Int, 2 ≤ i → i ≤ 11 → noDiv s i) ∧ K .normal (dsE.zip (VE b p 12 w)) ⟨12, nsE.zip (hE n l b x y s)⟩
  | _, _ => False

theorem e0_ev (n : Nat) (l : Int → Src) (b : Sus) (x y : Src) (s : Shr) (p i : Int) (w : Bool) (X : VEx → List VV → List VB → Prop) : codeE Try.prog (callN Try.prog noSpec noL 10 20) (fun _ => none) true 10 323 0 (loopB 0 (bodyOf Try.prog 6)) (dsE.zip (VE b p i w)) ⟨12, nsE.zip (hE n l b x y s)⟩ (obs 12 dsE nsE X) =
  (bif decide (i ≤ (11 : Int)) then
 bif decide (i = (0 : Int)) then
 False
 else bif decide (remZ s.la i = (0 : Int)) then
 bif decide (i = (0 : Int)) then
 False
 else bif decide (remZ s.lb i = (0 : Int)) then
 X VEx.ret [I i, VV.ptr (VA.own 4 0), VV.ptr (VA.own 5 0), VV.bool w, VV.sl 11 (3 + 2 * b.sl), I p] [srcA n l, valA n l, seenA b, cSu b, VB.cells [I s.la, I s.lb] (35 : TypeId), VB.cells [I s.ma, I s.mb] (35 : TypeId), VB.vec (3 + 2 * b.sl) (fun q => [I (bdF b x y q).fst, I (bdF b x y q).snd]) 2 (85 : TypeId)]
 else bif decide (i = (0 : Int)) then
 False
 else bif decide (remZ s.ma i = (0 : Int)) then
 bif decide (i = (0 : Int)) then
 False
 else bif decide (remZ s.mb i = (0 : Int)) then
 X VEx.ret [I i, VV.ptr (VA.own 4 0), VV.ptr (VA.own 5 0), VV.bool w, VV.sl 11 (3 + 2 * b.sl), I p] [srcA n l, valA n l, seenA b, cSu b, VB.cells [I s.la, I s.lb] (35 : TypeId), VB.cells [I s.ma, I s.mb] (35 : TypeId), VB.vec (3 + 2 * b.sl) (fun q => [I (bdF b x y q).fst, I (bdF b x y q).snd]) 2 (85 : TypeId)]
 else bif inK IntKind.i64 (i + (1 : Int)) then
 X VEx.normal [I (i + (1 : Int)), VV.ptr (VA.own 4 0), VV.ptr (VA.own 5 0), VV.bool w, VV.sl 11 (3 + 2 * b.sl), I p] [srcA n l, valA n l, seenA b, cSu b, VB.cells [I s.la, I s.lb] (35 : TypeId), VB.cells [I s.ma, I s.mb] (35 : TypeId), VB.vec (3 + 2 * b.sl) (fun q => [I (bdF b x y q).fst, I (bdF b x y q).snd]) 2 (85 : TypeId)]
 else False
 else bif inK IntKind.i64 (i + (1 : Int)) then
 X VEx.normal [I (i + (1 : Int)), VV.ptr (VA.own 4 0), VV.ptr (VA.own 5 0), VV.bool w, VV.sl 11 (3 + 2 * b.sl), I p] [srcA n l, valA n l, seenA b, cSu b, VB.cells [I s.la, I s.lb] (35 : TypeId), VB.cells [I s.ma, I s.mb] (35 : TypeId), VB.vec (3 + 2 * b.sl) (fun q => [I (bdF b x y q).fst, I (bdF b x y q).snd]) 2 (85 : TypeId)]
 else False
 else bif decide (i = (0 : Int)) then
 False
 else bif decide (remZ s.ma i = (0 : Int)) then
 bif decide (i = (0 : Int)) then
 False
 else bif decide (remZ s.mb i = (0 : Int)) then
 X VEx.ret [I i, VV.ptr (VA.own 4 0), VV.ptr (VA.own 5 0), VV.bool w, VV.sl 11 (3 + 2 * b.sl), I p] [srcA n l, valA n l, seenA b, cSu b, VB.cells [I s.la, I s.lb] (35 : TypeId), VB.cells [I s.ma, I s.mb] (35 : TypeId), VB.vec (3 + 2 * b.sl) (fun q => [I (bdF b x y q).fst, I (bdF b x y q).snd]) 2 (85 : TypeId)]
 else bif inK IntKind.i64 (i + (1 : Int)) then
 X VEx.normal [I (i + (1 : Int)), VV.ptr (VA.own 4 0), VV.ptr (VA.own 5 0), VV.bool w, VV.sl 11 (3 + 2 * b.sl), I p] [srcA n l, valA n l, seenA b, cSu b, VB.cells [I s.la, I s.lb] (35 : TypeId), VB.cells [I s.ma, I s.mb] (35 : TypeId), VB.vec (3 + 2 * b.sl) (fun q => [I (bdF b x y q).fst, I (bdF b x y q).snd]) 2 (85 : TypeId)]
 else False
 else bif inK IntKind.i64 (i + (1 : Int)) then
 X VEx.normal [I (i + (1 : Int)), VV.ptr (VA.own 4 0), VV.ptr (VA.own 5 0), VV.bool w, VV.sl 11 (3 + 2 * b.sl), I p] [srcA n l, valA n l, seenA b, cSu b, VB.cells [I s.la, I s.lb] (35 : TypeId), VB.cells [I s.ma, I s.mb] (35 : TypeId), VB.vec (3 + 2 * b.sl) (fun q => [I (bdF b x y q).fst, I (bdF b x y q).snd]) 2 (85 : TypeId)]
 else False
 else X (VEx.exit 0) [I i, VV.ptr (VA.own 4 0), VV.ptr (VA.own 5 0), VV.bool w, VV.sl 11 (3 + 2 * b.sl), I p] [srcA n l, valA n l, seenA b, cSu b, VB.cells [I s.la, I s.lb] (35 : TypeId), VB.cells [I s.ma, I s.mb] (35 : TypeId), VB.vec (3 + 2 * b.sl) (fun q => [I (bdF b x y q).fst, I (bdF b x y q).snd]) 2 (85 : TypeId)]) := by kernel_rfl

theorem f6_ev (n cap : Nat) (l : Int → Src) (b : Sus) (k m u : Int) (Q : VRes → Prop) : spBL Try.prog 6 (tabS (t6 n l b k m)) [(0, LE0 n l b (l (0 + k)) (l (0 + m)) (shR n l b k m))] 10 20 0 [bV b, lV n cap, I k, I m, .int .u16 u] (bH n l b) (fun r _ => Q r) =
  (bif decide ((↑n : Int) > (12 : Int)) then
 Q (VRes.ret (VV.bool true))
 else bif decide ((↑b.sl : Int) > (12 : Int)) then
 Q (VRes.ret (VV.bool true))
 else ((srcA n l = srcA n l ∧ valA n l = valA n l ∧ seenA b = seenA b) ∧ [bV b, lV n cap] = [bV b, lV n cap]) ∧ ((srcA n l = srcA n l ∧ valA n l = valA n l ∧ seenA b = seenA b) ∧ [bV b, lV n cap] = [bV b, lV n cap]) ∧ bif decide (shE n l b k m = (1 : Int)) then
 bif decide ((shR n l b k m).la = (0 : Int)) && (decide ((shR n l b k m).lb = (0 : Int)) && true) then
 bif decide ((shR n l b k m).ma = (0 : Int)) && (decide ((shR n l b k m).mb = (0 : Int)) && true) then
 bif decide (shE n l b m k = shE n l b k m) then
 Q (VRes.ret (VV.bool true))
 else Q (VRes.ret (VV.bool false))
 else Q (VRes.ret (VV.bool false))
 else Q (VRes.ret (VV.bool false))
 else bif decide (shE n l b k m = (2 : Int)) then
 bif decide ((shR n l b k m).la = (0 : Int)) && (decide ((shR n l b k m).lb = (0 : Int)) && true) then
 bif decide ((shR n l b k m).ma = (0 : Int)) && (decide ((shR n l b k m).mb = (0 : Int)) && true) then
 bif decide (shE n l b m k = shE n l b k m) then
 Q (VRes.ret (VV.bool true))
 else Q (VRes.ret (VV.bool false))
 else Q (VRes.ret (VV.bool false))
 else Q (VRes.ret (VV.bool false))
 else bif decide (k < (0 : Int)) then
 Q (VRes.ret (VV.bool false))
 else bif decide (k ≥ (↑n : Int)) then
 Q (VRes.ret (VV.bool false))
 else bif decide (m < (0 : Int)) then
 Q (VRes.ret (VV.bool false))
 else bif decide (m ≥ (↑n : Int)) then
 Q (VRes.ret (VV.bool false))
 else ((srcA n l = srcA n l ∧ valA n l = valA n l ∧ seenA b = seenA b) ∧ n = n) ∧ bif !srcsB n l then
 Q (VRes.ret (VV.bool false))
 else ((srcA n l = srcA n l ∧ valA n l = valA n l ∧ seenA b = seenA b) ∧ [bV b, lV n cap] = [bV b, lV n cap]) ∧ bif !bothB b n l then
 Q (VRes.ret (VV.bool false))
 else bif !decide (shE n l b m k = shE n l b k m) then
 Q (VRes.ret (VV.bool false))
 else bif decide ((0 : Int) ≤ k ∧ k < (↑n : Int)) then
 (([] : List Int) = [] ∧ (0 : Int) ≤ (0 : Int) + k ∧ (0 : Int) + k < (↑n : Int)) ∧ bif decide ((0 : Int) ≤ m ∧ m < (↑n : Int)) then
 (([] : List Int) = [] ∧ (0 : Int) ≤ (0 : Int) + m ∧ (0 : Int) + m < (↑n : Int)) ∧ ((srcA n l = srcA n l ∧ valA n l = valA n l ∧ seenA b = seenA b) ∧ [bV b, VV.agg [I (l ((0 : Int) + k)).cask, I (l ((0 : Int) + k)).drawn, I (l ((0 : Int) + k)).slo, I (l ((0 : Int) + k)).shi, VV.slice (VA.el 1 [(0 : Int) + k] (0 : Int) 0) (l ((0 : Int) + k)).vl (l ((0 : Int) + k)).vc], VV.agg [I (l ((0 : Int) + m)).cask, I (l ((0 : Int) + m)).drawn, I (l ((0 : Int) + m)).slo, I (l ((0 : Int) + m)).shi, VV.slice (VA.el 1 [(0 : Int) + m] (0 : Int) 0) (l ((0 : Int) + m)).vl (l ((0 : Int) + m)).vc]] = [bV b, VV.agg [I (l ((0 : Int) + k)).cask, I (l ((0 : Int) + k)).drawn, I (l ((0 : Int) + k)).slo, I (l ((0 : Int) + k)).shi, VV.slice (VA.el 1 [(0 : Int) + k] (0 : Int) 0) (l ((0 : Int) + k)).vl (l ((0 : Int) + k)).vc], VV.agg [I (l ((0 : Int) + m)).cask, I (l ((0 : Int) + m)).drawn, I (l ((0 : Int) + m)).slo, I (l ((0 : Int) + m)).shi, VV.slice (VA.el 1 [(0 : Int) + m] (0 : Int) 0) (l ((0 : Int) + m)).vl (l ((0 : Int) + m)).vc]] ∧ OkS n l b ((0 : Int) + k) ((0 : Int) + m)) ∧ bif inK IntKind.i64 u then
 bif decide ((0 : Int) ≤ k ∧ k < (↑n : Int)) then
 (([] : List Int) = [] ∧ (0 : Int) ≤ (0 : Int) + k ∧ (0 : Int) + k < (↑n : Int)) ∧ bif decide ((0 : Int) ≤ m ∧ m < (↑n : Int)) then
 (([] : List Int) = [] ∧ (0 : Int) ≤ (0 : Int) + m ∧ (0 : Int) + m < (↑n : Int)) ∧ bif !decide (shE n l b k m = (0 : Int)) then
 bif decide (shE n l b k m = (4 : Int)) then
 bif decide (min (l ((0 : Int) + k)).drawn (l ((0 : Int) + m)).drawn < b.glass) then
 Q (VRes.ret (VV.bool true))
 else bif decide (min (l ((0 : Int) + k)).drawn (l ((0 : Int) + m)).drawn < b.paper) then
 Q (VRes.ret (VV.bool true))
 else (vecBd b (l ((0 : Int) + k)) (l ((0 : Int) + m)) (3 + 2 * b.sl) = vecBd b (l ((0 : Int) + k)) (l ((0 : Int) + m)) (3 + 2 * b.sl) ∧ 3 + 2 * b.sl = 3 + 2 * b.sl ∧ OkS n l b ((0 : Int) + k) ((0 : Int) + m) ∧ bdI 8589934592 (remZ u (1001 : Int)) ∧ bdI 8589934592 (1000 : Int)) ∧ bif !kpV b (l ((0 : Int) + k)) (l ((0 : Int) + m)) (remZ u (1001 : Int)) (1000 : Int) then
 Q (VRes.ret (VV.bool true))
 else Q (VRes.ret (VV.bool false))
 else Q (VRes.ret (VV.bool false))
 else bif decide (min (l ((0 : Int) + k)).drawn (l ((0 : Int) + m)).drawn < b.glass) then
 Q (VRes.ret (VV.bool false))
 else bif decide (min (l ((0 : Int) + k)).drawn (l ((0 : Int) + m)).drawn < b.paper) then
 Q (VRes.ret (VV.bool false))
 else bif decide ((shR n l b k m).lb < (1 : Int)) then
 Q (VRes.ret (VV.bool false))
 else bif decide ((shR n l b k m).mb < (1 : Int)) then
 Q (VRes.ret (VV.bool false))
 else bif decide ((shR n l b k m).lb > (4194304 : Int)) then
 Q (VRes.ret (VV.bool false))
 else bif decide ((shR n l b k m).mb > (4194304 : Int)) then
 Q (VRes.ret (VV.bool false))
 else bif decide ((shR n l b k m).la < (0 : Int)) then
 Q (VRes.ret (VV.bool false))
 else bif decide ((shR n l b k m).ma > (shR n l b k m).mb) then
 Q (VRes.ret (VV.bool false))
 else (vecBd b (l ((0 : Int) + k)) (l ((0 : Int) + m)) (3 + 2 * b.sl) = vecBd b (l ((0 : Int) + k)) (l ((0 : Int) + m)) (3 + 2 * b.sl) ∧ 3 + 2 * b.sl = 3 + 2 * b.sl ∧ OkS n l b ((0 : Int) + k) ((0 : Int) + m) ∧ bdI 8589934592 (shR n l b k m).la ∧ bdI 8589934592 (shR n l b k m).lb) ∧ bif !kpV b (l ((0 : Int) + k)) (l ((0 : Int) + m)) (shR n l b k m).la (shR n l b k m).lb then
 Q (VRes.ret (VV.bool false))
 else (vecBd b (l ((0 : Int) + k)) (l ((0 : Int) + m)) (3 + 2 * b.sl) = vecBd b (l ((0 : Int) + k)) (l ((0 : Int) + m)) (3 + 2 * b.sl) ∧ 3 + 2 * b.sl = 3 + 2 * b.sl ∧ OkS n l b ((0 : Int) + k) ((0 : Int) + m) ∧ bdI 8589934592 (shR n l b k m).ma ∧ bdI 8589934592 (shR n l b k m).mb) ∧ bif !kpV b (l ((0 : Int) + k)) (l ((0 : Int) + m)) (shR n l b k m).ma (shR n l b k m).mb then
 Q (VRes.ret (VV.bool false))
 else bif inK IntKind.i64 ((1000 : Int) * (shR n l b k m).la) then
 bif inK IntKind.i64 ((1000 : Int) * (shR n l b k m).la - (1 : Int)) then
 bif inK IntKind.i64 ((1000 : Int) * (shR n l b k m).lb) then
 (vecBd b (l ((0 : Int) + k)) (l ((0 : Int) + m)) (3 + 2 * b.sl) = vecBd b (l ((0 : Int) + k)) (l ((0 : Int) + m)) (3 + 2 * b.sl) ∧ 3 + 2 * b.sl = 3 + 2 * b.sl ∧ OkS n l b ((0 : Int) + k) ((0 : Int) + m) ∧ bdI 8589934592 ((1000 : Int) * (shR n l b k m).la - (1 : Int)) ∧ bdI 8589934592 ((1000 : Int) * (shR n l b k m).lb)) ∧ bif kpV b (l ((0 : Int) + k)) (l ((0 : Int) + m)) ((1000 : Int) * (shR n l b k m).la - (1 : Int)) ((1000 : Int) * (shR n l b k m).lb) then
 Q (VRes.ret (VV.bool false))
 else bif inK IntKind.i64 ((1000 : Int) * (shR n l b k m).ma) then
 bif inK IntKind.i64 ((1000 : Int) * (shR n l b k m).ma + (1 : Int)) then
 bif inK IntKind.i64 ((1000 : Int) * (shR n l b k m).mb) then
 (vecBd b (l ((0 : Int) + k)) (l ((0 : Int) + m)) (3 + 2 * b.sl) = vecBd b (l ((0 : Int) + k)) (l ((0 : Int) + m)) (3 + 2 * b.sl) ∧ 3 + 2 * b.sl = 3 + 2 * b.sl ∧ OkS n l b ((0 : Int) + k) ((0 : Int) + m) ∧ bdI 8589934592 ((1000 : Int) * (shR n l b k m).ma + (1 : Int)) ∧ bdI 8589934592 ((1000 : Int) * (shR n l b k m).mb)) ∧ bif kpV b (l ((0 : Int) + k)) (l ((0 : Int) + m)) ((1000 : Int) * (shR n l b k m).ma + (1 : Int)) ((1000 : Int) * (shR n l b k m).mb) then
 Q (VRes.ret (VV.bool false))
 else bif !decide ((shR n l b m k).lb = (shR n l b k m).mb) then
 Q (VRes.ret (VV.bool false))
 else bif inK IntKind.i64 ((shR n l b k m).mb - (shR n l b k m).ma) then
 bif !decide ((shR n l b m k).la = (shR n l b k m).mb - (shR n l b k m).ma) then
 Q (VRes.ret (VV.bool false))
 else bif !decide ((shR n l b m k).mb = (shR n l b k m).lb) then
 Q (VRes.ret (VV.bool false))
 else bif inK IntKind.i64 ((shR n l b k m).lb - (shR n l b k m).la) then
 bif !decide ((shR n l b m k).ma = (shR n l b k m).lb - (shR n l b k m).la) then
 Q (VRes.ret (VV.bool false))
 else bif inK IntKind.i64 ((shR n l b k m).la * (1000 : Int)) then
 bif inK IntKind.i64 (remZ u (1001 : Int) * (shR n l b k m).lb) then
 bif decide ((shR n l b k m).la * (1000 : Int) ≤ remZ u (1001 : Int) * (shR n l b k m).lb) then
 bif inK IntKind.i64 (remZ u (1001 : Int) * (shR n l b k m).mb) then
 bif inK IntKind.i64 ((shR n l b k m).ma * (1000 : Int)) then
 (FitP 0 (VH.mk (12) (nsE.zip (hE n l b (l ((0 : Int) + k)) (l ((0 : Int) + m)) (shR n l b k m)))) (dsE.zip (VE b (remZ u (1001 : Int)) (2 : Int) (decide (remZ u (1001 : Int) * (shR n l b k m).mb ≤ (shR n l b k m).ma * (1000 : Int))))) (VH.mk (12) (nsE.zip (hE n l b (l ((0 : Int) + k)) (l ((0 : Int) + m)) (shR n l b k m)))) (dsE.zip (VE b (remZ u (1001 : Int)) (2 : Int) (decide (remZ u (1001 : Int) * (shR n l b k m).mb ≤ (shR n l b k m).ma * (1000 : Int))))) ∧ ∀ (i : Int), (2 : Int) ≤ i → i ≤ (11 : Int) → ¬(remZ (shR n l b k m).la i = (0 : Int) ∧ remZ (shR n l b k m).lb i = (0 : Int)) ∧ (remZ (shR n l b k m).ma i = (0 : Int) ∧ remZ (shR n l b k m).mb i = (0 : Int) → False)) ∧ (vecBd b (l ((0 : Int) + k)) (l ((0 : Int) + m)) (3 + 2 * b.sl) = vecBd b (l ((0 : Int) + k)) (l ((0 : Int) + m)) (3 + 2 * b.sl) ∧ 3 + 2 * b.sl = 3 + 2 * b.sl ∧ OkS n l b ((0 : Int) + k) ((0 : Int) + m) ∧ bdI 8589934592 (remZ u (1001 : Int)) ∧ bdI 8589934592 (1000 : Int)) ∧ bif decide (remZ u (1001 : Int) * (shR n l b k m).mb ≤ (shR n l b k m).ma * (1000 : Int)) == kpV b (l ((0 : Int) + k)) (l ((0 : Int) + m)) (remZ u (1001 : Int)) (1000 : Int) then
 Q (VRes.ret (VV.bool true))
 else Q (VRes.ret (VV.bool false))
 else False
 else False
 else (FitP 0 (VH.mk (12) (nsE.zip (hE n l b (l ((0 : Int) + k)) (l ((0 : Int) + m)) (shR n l b k m)))) (dsE.zip (VE b (remZ u (1001 : Int)) (2 : Int) false)) (VH.mk (12) (nsE.zip (hE n l b (l ((0 : Int) + k)) (l ((0 : Int) + m)) (shR n l b k m)))) (dsE.zip (VE b (remZ u (1001 : Int)) (2 : Int) false)) ∧ ∀ (i : Int), (2 : Int) ≤ i → i ≤ (11 : Int) → ¬(remZ (shR n l b k m).la i = (0 : Int) ∧ remZ (shR n l b k m).lb i = (0 : Int)) ∧ (remZ (shR n l b k m).ma i = (0 : Int) ∧ remZ (shR n l b k m).mb i = (0 : Int) → False)) ∧ (vecBd b (l ((0 : Int) + k)) (l ((0 : Int) + m)) (3 + 2 * b.sl) = vecBd b (l ((0 : Int) + k)) (l ((0 : Int) + m)) (3 + 2 * b.sl) ∧ 3 + 2 * b.sl = 3 + 2 * b.sl ∧ OkS n l b ((0 : Int) + k) ((0 : Int) + m) ∧ bdI 8589934592 (remZ u (1001 : Int)) ∧ bdI 8589934592 (1000 : Int)) ∧ bif false == kpV b (l ((0 : Int) + k)) (l ((0 : Int) + m)) (remZ u (1001 : Int)) (1000 : Int) then
 Q (VRes.ret (VV.bool true))
 else Q (VRes.ret (VV.bool false))
 else False
 else False
 else False
 else False
 else False
 else False
 else False
 else False
 else False
 else False
 else False
 else False
 else False
 else False
 else False) := by kernel_rfl


end Go.Sx.Gen

/- genuine: GenuineEnds. -/

namespace Go.Sx.Gen
open Go Go.Sx Go.Proofs
set_option maxRecDepth 100000

section
variable {n cap : Nat} {l : Int → Src} {b : Sus} {k m : Int}

def OE0 (n : Nat) (l : Int → Src) (b : Sus) (x y : Src) (s : Shr) (p : Int) (w : Bool) (e : VEx) (vs : List VV) (bs : List VB) : Prop := e = .exit 0 ∧ vs = VE b p 12 w ∧ bs = hE n l b x y s

theorem LE0_ok {x y : Src} {s : Shr} : LSound Try.prog true (.block 0 (.loop (loopB 0 (bodyOf Try.prog 6)))) 323 (LE0 n l b x y s) := by
  have key : ∀ (p : Int) (w : Bool), (∀ i : Int, 2 ≤ i → i ≤ 11 → noDiv s i) → LSound Try.prog true (.block 0 (.loop (loopB 0 (bodyOf Try.prog 6)))) 323 (fun lock t h K => FitP lock h t ⟨12, nsE.zip (hE n l b x y s)⟩ (dsE.zip (VE b p 2 w)) ∧ K .normal (dsE.zip (VE b p 12 w)) ⟨12, nsE.zip (hE n l b x y s)⟩) := by
    intro p w hd
    refine loop_row hmix good0 (un := 10) (ds := dsE) (ns := nsE) (nx := 12) (fun i : Int => VE b p i w) (fun _ => hE n l b x y s) (fun i => 2 ≤ i ∧ i ≤ 12) (fun i => (12 - i).toNat) (fun _ => OE0 n l b x y s p w) noL_ok ?_ ?_
    · rintro i ⟨h0, h1⟩
      rw [e0_ev]
      by_cases hlt : i ≤ 11
      · obtain ⟨d1, d2⟩ := hd i h0 hlt
        have go : RoundQ (fun i : Int => VE b p i w) (fun _ => hE n l b x y s) (fun i => 2 ≤ i ∧ i ≤ 12) (fun i => (12 - i).toNat) (fun _ => OE0 n l b x y s p w) i .normal (VE b p (i + 1) w) (hE n l b x y s) := ⟨i + 1, ⟨by omega, by omega⟩, by dsimp only; omega, rfl, fitBs_refl _, fun _ _ _ h => h⟩
        have tail : ∀ X : Prop, X → (bif inK .i64 (i + 1) then X else False) := fun X hX => cond_r (by omega) hX
        have second : ∀ X Y : Prop, X → (bif decide (i = 0) then False else bif decide (remZ s.ma i = 0) then (bif decide (i = 0) then False else bif decide (remZ s.mb i = 0) then Y else bif inK .i64 (i + 1) then X else False) else bif inK .i64 (i + 1) then X else False) := fun X Y hX =>
          cond_d (fun h => by omega) (fun _ => cond_d (fun h3 => cond_d (fun h => by omega) (fun _ => cond_d (fun h4 => absurd ⟨h3, h4⟩ d2) (fun _ => tail X hX))) (fun _ => tail X hX))
        exact cond_dk hlt (cond_d (fun h => by omega) (fun _ => cond_d (fun h1 => cond_d (fun h => by omega) (fun _ => cond_d (fun h2 => absurd ⟨h1, h2⟩ d1) (fun _ => second _ _ go))) (fun _ => second _ _ go)))
      · refine cond_d (fun h => absurd h hlt) (fun _ => ?_)
        have : i = 12 := by omega
        subst this
        exact ⟨rfl, rfl, rfl⟩
    · rintro lock t h K ⟨hf, hK⟩
      refine ⟨2, hf, ⟨by omega, by omega⟩, ?_⟩
      rintro e vs bs ⟨rfl, rfl, rfl⟩
      exact hK
  intro lock t h K hK
  unfold LE0 at hK
  split at hK
  · obtain ⟨⟨hf, hd⟩, hK⟩ := hK
    exact key _ _ hd _ _ _ _ ⟨hf, hK⟩
  · exact hK.elim

theorem rem_dvd {a i : Int} (h : remZ a i = 0) : i ∣ a := Int.dvd_of_tmod_eq_zero h

theorem no_div {a c : Int} (h : Int.gcd a c = 1) {i : Int} (hi : 2 ≤ i) : ¬ (remZ a i = 0 ∧ remZ c i = 0) := by
  rintro ⟨h1, h2⟩
  have h3 := Int.dvd_coe_gcd (rem_dvd h1) (rem_dvd h2)
  rw [h] at h3
  have := Int.le_of_dvd (by decide) h3
  omega

/-- What is known where shares are told. -/
structure EndsOk (n : Nat) (l : Int → Src) (b : Sus) (k m : Int) (s s' : Shr) : Prop where
  ok : OkS n l b k m
  es : s = rfF b (l k) (l m)
  bd : Bd s
  lb : 0 < s.lb
  mb : 0 < s.mb
  la : 0 ≤ s.la
  ma : s.ma ≤ s.mb
  le : s.la * s.mb ≤ s.ma * s.lb
  no : s.no = false
  early : b.glass ≤ min (l k).drawn (l m).drawn ∧ b.paper ≤ min (l k).drawn (l m).drawn
  mir : Mir s s'
  gl : Int.gcd s.la s.lb = 1
  gm : Int.gcd s.ma s.mb = 1

theorem sh_zero (h : shE n l b k m = 0) : OkS n l b k m ∧ shareB b (l k) (l m) = true := by
  unfold shE at h
  cases hok : okB n l b with
  | false => rw [hok] at h; cases h
  | true =>
    rw [hok] at h
    cases hk : inR n k with
    | false => rw [hk] at h; cases h
    | true =>
      rw [hk] at h
      cases hm : inR n m with
      | false => rw [hm] at h; cases h
      | true =>
        rw [hm] at h
        cases hs : shareB b (l k) (l m) with
        | false => rw [hs] at h; cases h
        | true => exact ⟨⟨hok, inR_iff.1 hk, inR_iff.1 hm⟩, rfl⟩

theorem shE_sym : shE n l b m k = shE n l b k m := by
  unfold shE
  rw [share_mir b (l k) (l m)]
  cases okB n l b <;> cases inR n k <;> cases inR n m <;> cases shareB b (l k) (l m) <;> rfl

theorem ends_ok (h : shE n l b k m = 0) : EndsOk n l b k m (shR n l b k m) (shR n l b m k) := by
  obtain ⟨hS, hsh⟩ := sh_zero h
  have e1 : shR n l b k m = rfF b (l k) (l m) := by unfold shR; rw [h]; rfl
  have e2 : shR n l b m k = rfF b (l m) (l k) := by unfold shR; rw [shE_sym, h]; rfl
  rw [e1, e2]
  have hb := rfF_bd hS
  have hm := mir_all b (l k) (l m)
  obtain ⟨hlb, hmb, hno, hlo, hhi, _, _, hgl, hgm⟩ := rfInv_all b (l k) (l m)
  rw [shareB_rf] at hsh
  simp only [Bool.and_eq_true, Bool.not_eq_true', decide_eq_true_eq, decide_eq_false_iff_not, Int.not_lt] at hsh
  obtain ⟨⟨⟨h1, h2⟩, h3⟩, h4⟩ := hsh
  refine ⟨hS, rfl, hb, hlb, hmb, ?_, ?_, h2, h1, ⟨h3, h4⟩, hm, hgl, hgm⟩
  · have := hlo 0 (by omega) (by simp [bdF])
    simp [bdF] at this
    exact this
  · have := hhi 1 (by omega) (by simp [bdF])
    simp [bdF] at this
    exact this

theorem law6_v (hw : Wf n l b) {u : Int} (hu : 0 ≤ u ∧ u ≤ 65535) : ∃ h', CallsV Try.prog 6 [bV b, lV n cap, I k, I m, .int .u16 u] (bH n l b) (.ret (.bool true)) h' := by
  have hsp := spBL_ok hmix (tabs_ok (l := t6 n l b k m) (by
      intro x hx
      simp only [t6, List.mem_cons, List.not_mem_nil, or_false] at hx
      rcases hx with rfl | rfl | rfl | rfl | rfl | rfl
      · exact awT_ok
      · exact shT_ok (fun cap k m => sh13_v hw hw.hn)
      · exact srcT_ok (fun _ => src21_v hw)
      · exact susT_ok (fun _ => sus24_v hw)
      · exact bndT_ok
      · exact kpT_ok)) (f := 6) (lo_one (by kernel_rfl) (LE0_ok (n := n) (l := l) (b := b) (x := l (0 + k)) (y := l (0 + m)) (s := shR n l b k m))) (un := 10) (fu := 20)
  obtain ⟨r, h', hQ, hcc⟩ := of_sp hsp (args := [bV b, lV n cap, I k, I m, .int .u16 u]) (h := bH n l b) (K := fun r _ => r = .ret (.bool true))
    (by
      rw [f6_ev]
      refine cond_d (fun _ => rfl) (fun _ => cond_d (fun _ => rfl) (fun _ => ⟨⟨⟨rfl, rfl, rfl⟩, rfl⟩, ⟨⟨rfl, rfl, rfl⟩, rfl⟩, ?_⟩))
      have hz : shE n l b k m ≠ 0 → shR n l b k m = mkS 0 0 0 0 false := fun h => by unfold shR; rw [decide_eq_false h]; rfl
      refine cond_d (fun h1 => ?_) (fun h1 => cond_d (fun h2 => ?_) (fun h2 => ?_))
      · rw [hz (by omega)]
        exact cond_k rfl (cond_k rfl (cond_dk shE_sym rfl))
      · rw [hz (by omega)]
        exact cond_k rfl (cond_k rfl (cond_dk shE_sym rfl))
      · have hS : OkS n l b k m := by
          unfold shE at h1 h2
          cases hok : okB n l b with
          | false => rw [hok] at h1; exact absurd rfl h1
          | true =>
            rw [hok] at h2
            cases hk : inR n k with
            | false => rw [hk] at h2; exact absurd rfl h2
            | true =>
              rw [hk] at h2
              cases hm : inR n m with
              | false => rw [hm] at h2; exact absurd rfl h2
              | true => exact ⟨hok, inR_iff.1 hk, inR_iff.1 hm⟩
        obtain ⟨hok, ⟨k0, k1⟩, m0, m1⟩ := id hS
        have hok2 : srcsB n l = true ∧ bothB b n l = true := by simpa [okB] using hok
        have hp : 0 ≤ remZ u 1001 ∧ remZ u 1001 ≤ 1000 := by
          rw [remZ_nn hu.1]
          have := Int.emod_nonneg u (show (1001 : Int) ≠ 0 by decide)
          have := Int.emod_lt_of_pos u (show (0 : Int) < 1001 by decide)
          omega
        simp only [Int.zero_add]
        generalize hpp : remZ u 1001 = p at *
        refine cond_d (fun h => by omega) (fun _ => cond_d (fun h => by omega) (fun _ => cond_d (fun h => by omega) (fun _ => cond_d (fun h => by omega) (fun _ => ⟨⟨⟨trivial, trivial, trivial⟩, trivial⟩, cond_i (fun h => by rw [hok2.1] at h; cases h) (fun _ => ⟨⟨⟨trivial, trivial, trivial⟩, trivial⟩, cond_i (fun h => by rw [hok2.2] at h; cases h) (fun _ => cond_nd (fun h => absurd shE_sym h) (fun _ => cond_dk ⟨k0, k1⟩ ⟨⟨trivial, k0, k1⟩, cond_dk ⟨m0, m1⟩ ⟨⟨trivial, m0, m1⟩, ⟨⟨trivial, trivial, trivial⟩, trivial, hS⟩, cond_r (by omega) (cond_dk ⟨k0, k1⟩ ⟨⟨trivial, k0, k1⟩, cond_dk ⟨m0, m1⟩ ⟨⟨trivial, m0, m1⟩, cond_nd (fun h3 => ?_) (fun h3 => ?_)⟩⟩)⟩⟩))⟩)⟩))))
        · have hsh : shareB b (l k) (l m) = false := by
            cases hs : shareB b (l k) (l m) with
            | false => rfl
            | true => exact absurd (by unfold shE; rw [hok, inR_iff.2 ⟨k0, k1⟩, inR_iff.2 ⟨m0, m1⟩, hs]; rfl) h3
          have h4 : shE n l b k m = 4 := by unfold shE; rw [hok, inR_iff.2 ⟨k0, k1⟩, inR_iff.2 ⟨m0, m1⟩, hsh]; rfl
          refine cond_dk h4 (cond_d (fun _ => trivial) (fun q1 => cond_d (fun _ => trivial) (fun q2 => ⟨⟨trivial, trivial, hS, by unfold bdI; omega, by unfold bdI; omega⟩, cond_i (fun _ => trivial) (fun q3 => ?_)⟩)))
          exfalso
          have q3 : kpV b (l k) (l m) p 1000 = true := by simpa using q3
          obtain ⟨g1, g2, g3⟩ := (kpA_iff (by decide)).1 (kpV_iff.1 q3)
          rw [shareB_rf, g1] at hsh
          obtain ⟨hlb, hmb, _⟩ := rfInv_all b (l k) (l m)
          have g4 := frac_le (a := (rfF b (l k) (l m)).la) (b := (rfF b (l k) (l m)).lb) (c := p) (d := 1000) (e := (rfF b (l k) (l m)).ma) (f := (rfF b (l k) (l m)).mb) (Int.le_of_lt hlb) (by decide) (Int.le_of_lt hmb) g2 g3
          have g5 : ¬ (rfF b (l k) (l m)).ma * (rfF b (l k) (l m)).lb < (rfF b (l k) (l m)).la * (rfF b (l k) (l m)).mb := by omega
          rw [decide_eq_false g5, decide_eq_true (show min (l k).drawn (l m).drawn ≥ b.glass by omega), decide_eq_true (show min (l k).drawn (l m).drawn ≥ b.paper by omega)] at hsh
          cases hsh
        · obtain ⟨_, hes, ⟨c1, c2, c3, c4⟩, hlb, hmb, hla, hma, hle, hno, hea, hmir, hgl, hgm⟩ := ends_ok h3
          generalize shR n l b k m = s at *
          generalize shR n l b m k = s' at *
          have kp : ∀ x d : Int, 0 < d → (kpV b (l k) (l m) x d = true ↔ s.la * d ≤ x * s.lb ∧ x * s.mb ≤ s.ma * d) := by
            intro x d hd
            rw [kpV_iff, kpA_iff hd, ← hes]
            exact ⟨fun h => h.2, fun h => ⟨hno, h⟩⟩
          have w1 : bdI 8589934592 s.la := by unfold bdI at *; omega
          have w2 : bdI 8589934592 s.lb := by unfold bdI at *; omega
          have w3 : bdI 8589934592 s.ma := by unfold bdI at *; omega
          have w4 : bdI 8589934592 s.mb := by unfold bdI at *; omega
          have w5 : bdI 8589934592 (1000 * s.la - 1) := by unfold bdI at *; omega
          have w6 : bdI 8589934592 (1000 * s.lb) := by unfold bdI at *; omega
          have w7 : bdI 8589934592 (1000 * s.ma + 1) := by unfold bdI at *; omega
          have w8 : bdI 8589934592 (1000 * s.mb) := by unfold bdI at *; omega
          have a1 : kpV b (l k) (l m) s.la s.lb = true := (kp _ _ hlb).2 ⟨Int.le_refl _, hle⟩
          have a2 : kpV b (l k) (l m) s.ma s.mb = true := (kp _ _ hmb).2 ⟨hle, Int.le_refl _⟩
          have a3 : kpV b (l k) (l m) (1000 * s.la - 1) (1000 * s.lb) = false := by
            cases hx : kpV b (l k) (l m) (1000 * s.la - 1) (1000 * s.lb) with
            | false => rfl
            | true =>
              obtain ⟨z, _⟩ := (kp _ _ (by omega)).1 hx
              have e1 : s.la * (1000 * s.lb) = 1000 * s.la * s.lb := by ac_rfl
              have e2 : (1000 * s.la - 1) * s.lb = 1000 * s.la * s.lb - s.lb := by rw [Int.sub_mul, Int.one_mul]
              omega
          have a4 : kpV b (l k) (l m) (1000 * s.ma + 1) (1000 * s.mb) = false := by
            cases hx : kpV b (l k) (l m) (1000 * s.ma + 1) (1000 * s.mb) with
            | false => rfl
            | true =>
              obtain ⟨_, z⟩ := (kp _ _ (by omega)).1 hx
              have e1 : s.ma * (1000 * s.mb) = 1000 * s.ma * s.mb := by ac_rfl
              have e2 : (1000 * s.ma + 1) * s.mb = 1000 * s.ma * s.mb + s.mb := by rw [Int.add_mul, Int.one_mul]
              omega
          have nd : ∀ i : Int, 2 ≤ i → i ≤ 11 → noDiv s i := fun i hi _ => ⟨no_div hgl hi, no_div hgm hi⟩
          have m1' : -9223372036854775808 ≤ p * s.lb ∧ p * s.lb ≤ 9223372036854775807 := by
            rw [Int.mul_comm]; exact mulK c2 (by unfold bdI; omega)
          have m2' : -9223372036854775808 ≤ p * s.mb ∧ p * s.mb ≤ 9223372036854775807 := by
            rw [Int.mul_comm]; exact mulK c4 (by unfold bdI; omega)
          have kpp := kp p 1000 (by decide)
          refine cond_d (fun h => by omega) (fun _ => cond_d (fun h => by omega) (fun _ => cond_d (fun h => by omega) (fun _ => cond_d (fun h => by omega) (fun _ => cond_d (fun h => by unfold bdI at *; omega) (fun _ => cond_d (fun h => by unfold bdI at *; omega) (fun _ => cond_d (fun h => by omega) (fun _ => cond_d (fun h => by omega) (fun _ => ⟨⟨trivial, trivial, hS, w1, w2⟩, ?_⟩))))))))
          rw [a1]
          refine ⟨⟨trivial, trivial, hS, w3, w4⟩, ?_⟩
          rw [a2]
          refine cond_r (by unfold bdI at *; omega) (cond_r (by unfold bdI at *; omega) (cond_r (by unfold bdI at *; omega) ⟨⟨trivial, trivial, hS, w5, w6⟩, ?_⟩))
          rw [a3]
          refine cond_r (by unfold bdI at *; omega) (cond_r (by unfold bdI at *; omega) (cond_r (by unfold bdI at *; omega) ⟨⟨trivial, trivial, hS, w7, w8⟩, ?_⟩))
          rw [a4]
          refine cond_nd (fun h => absurd hmir.lb h) (fun _ => cond_r (by unfold bdI at *; omega) (cond_nd (fun h => absurd hmir.la h) (fun _ => cond_nd (fun h => absurd hmir.mb h) (fun _ => cond_r (by unfold bdI at *; omega) (cond_nd (fun h => absurd hmir.ma h) (fun _ => cond_r (by unfold bdI at *; omega) (cond_r m1' (cond_d (fun z1 => cond_r m2' (cond_r (by unfold bdI at *; omega) ⟨⟨fitP_self rfl, nd⟩, ?_⟩)) (fun z1 => ⟨⟨fitP_self rfl, nd⟩, ?_⟩)))))))))
          · refine ⟨⟨trivial, trivial, hS, by unfold bdI; omega, by unfold bdI; omega⟩, ?_⟩
            have : decide (p * s.mb ≤ s.ma * 1000) = kpV b (l k) (l m) p 1000 := by
              rw [Bool.eq_iff_iff, kpp, decide_eq_true_eq]
              exact ⟨fun h => ⟨z1, h⟩, fun h => h.2⟩
            rw [this]
            exact cond_k (by simp) trivial
          · refine ⟨⟨trivial, trivial, hS, by unfold bdI; omega, by unfold bdI; omega⟩, ?_⟩
            have : kpV b (l k) (l m) p 1000 = false := by
              cases hx : kpV b (l k) (l m) p 1000 with
              | false => rfl
              | true => exact absurd (kpp.1 hx).1 z1
            rw [this]
            exact cond_k rfl trivial)
  subst hQ
  exact ⟨h', hcc⟩
end
end Go.Sx.Gen
