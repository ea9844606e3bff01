/- stream: Nd1 Nd2 Nd3 Nd4 Nd5 Nd6, in one text. -/
import Derived.Test.YtnfkbbcbehnnkaaNC
/- nose: the greatest differences, evaluated. -/

namespace Go.Sx.Nos
open Go Go.Sx Go.Proofs
set_option maxRecDepth 1000000

def dsK : List Nat := [3, 9, 60, 61, 10, 64, 65, 11, 12, 78, 79]
def VK (n m i f k : Int) : List VV := [.ptr (.own 6 0), I n, I n, I m, I m, I n, I i, I i, I f, I n, I k]
def nsK : List Nat := [0, 1, 2, 3, 4, 5, 6]
def BK (p : Pn) (c1 c2 c3 : Nat) (N : List Nd) (d : Nat → Int) : List VB := BP p c1 c2 c3 ++ [maB N, faB 4 d, p5]
def dsC : List Nat := [3, 9, 60, 61, 10, 113, 114]
def VC (n m i : Int) : List VV := [.ptr (.own 6 0), I n, I n, I m, I m, I n, I i]
theorem k_ev (p : Pn) (c1 c2 c3 : Nat) (N : List Nd) (d : Nat → Int) (n m i f k : Int) (X : VEx → List VV → List VB → Prop) : codeE Try.prog (callN Try.prog noSpec noL 10 20) (fun _ => none) true 10 131 0 (loopB 10 (bodyOf Try.prog 63)) (dsK.zip (VK n m i f k)) ⟨10, nsK.zip (BK p c1 c2 c3 N d)⟩ (obs 10 dsK nsK X) =
  (bif decide (k < n) then
 bif decide ((0 : Int) ≤ m ∧ m < (↑65 : Int)) then
 bif decide ((0 : Int) ≤ k ∧ k < (↑65 : Int)) then
 bif decide (m.toNat * (65) + k.toNat * (1) < 4225) then
 bif decide (d (m.toNat * (65) + k.toNat * (1)) < (1125899906842624 : Int)) then
 bif decide ((0 : Int) ≤ i ∧ i < (↑65 : Int)) then
 bif decide ((0 : Int) ≤ k ∧ k < (↑65 : Int)) then
 bif decide (i.toNat * (65) + k.toNat * (1) < 4225) then
 bif inK IntKind.i64 (f + d (m.toNat * (65) + k.toNat * (1))) then
 bif decide ((0 : Int) ≤ i ∧ i < (↑65 : Int)) then
 bif decide ((0 : Int) ≤ k ∧ k < (↑65 : Int)) then
 bif decide (i.toNat * (65) + k.toNat * (1) + (1) ≤ 4225) then
 bif inK IntKind.i64 (k + (1 : Int)) then
 X VEx.normal [VV.ptr (VA.own 6 0), I n, I n, I m, I m, I n, I i, I i, I f, I n, I (k + (1 : Int))] [arD p, arT p, arS p, pnB p c1 c2 c3, maB N, VB.fam [VV.mp 4] 4225 (setF d (i.toNat * (65) + k.toNat * (1)) [min (d (i.toNat * (65) + k.toNat * (1))) (f + d (m.toNat * (65) + k.toNat * (1)))]) (93 : TypeId), p5]
 else False
 else False
 else False
 else False
 else False
 else False
 else False
 else False
 else bif inK IntKind.i64 (k + (1 : Int)) then
 X VEx.normal [VV.ptr (VA.own 6 0), I n, I n, I m, I m, I n, I i, I i, I f, I n, I (k + (1 : Int))] [arD p, arT p, arS p, pnB p c1 c2 c3, maB N, faB 4 d, p5]
 else False
 else False
 else False
 else False
 else X (VEx.exit 10) [VV.ptr (VA.own 6 0), I n, I n, I m, I m, I n, I i, I i, I f, I n, I k] [arD p, arT p, arS p, pnB p c1 c2 c3, maB N, faB 4 d, p5]) := by kernel_rfl

theorem c_ev (p : Pn) (c1 c2 c3 : Nat) (N : List Nd) (d : Nat → Int) (n m i : Int) (X : VEx → List VV → List VB → Prop) : codeE Try.prog (callN Try.prog noSpec noL 10 20) (fun _ => none) true 10 131 0 (loopB 12 (bodyOf Try.prog 63)) (dsC.zip (VC n m i)) ⟨10, nsK.zip (BK p c1 c2 c3 N d)⟩ (obs 10 dsC nsK X) =
  (bif decide (i < n) then
 bif decide ((0 : Int) ≤ i ∧ i < (↑65 : Int)) then
 bif decide ((0 : Int) ≤ i ∧ i < (↑65 : Int)) then
 bif decide (i.toNat * (65) + i.toNat * (1) < 4225) then
 bif decide (d (i.toNat * (65) + i.toNat * (1)) < (0 : Int)) then
 X (VEx.panic (VV.iface 108 (VV.agg []))) [VV.ptr (VA.own 6 0), I n, I n, I m, I m, I n, I i] [arD p, arT p, arS p, pnB p c1 c2 c3, maB N, faB 4 d, p5]
 else bif inK IntKind.i64 (i + (1 : Int)) then
 X VEx.normal [VV.ptr (VA.own 6 0), I n, I n, I m, I m, I n, I (i + (1 : Int))] [arD p, arT p, arS p, pnB p c1 c2 c3, maB N, faB 4 d, p5]
 else False
 else False
 else False
 else False
 else X (VEx.exit 12) [VV.ptr (VA.own 6 0), I n, I n, I m, I m, I n, I i] [arD p, arT p, arS p, pnB p c1 c2 c3, maB N, faB 4 d, p5]) := by kernel_rfl


end Go.Sx.Nos

/- nose: the greatest differences. -/

namespace Go.Sx.Nos
open Go Go.Sx Go.Proofs
set_option maxRecDepth 1000000

/-- One row, by way of the unknown m. -/
def kF (m i : Nat) (f : Int) (c : Nat) (d : Nat → Int) : Nat → Int := fun x =>
  if i * 65 ≤ x ∧ x < i * 65 + c then (if d (m * 65 + (x - i * 65)) < WW then min (d x) (f + d (m * 65 + (x - i * 65))) else d x) else d x
/-- The first c rows, by way of the unknown m. -/
def iF (n m : Nat) (c : Nat) (d : Nat → Int) : Nat → Int := fun x =>
  if x / 65 < c ∧ x % 65 < n then (if d (x / 65 * 65 + m) ≠ WW ∧ d (m * 65 + x % 65) < WW then min (d x) (d (x / 65 * 65 + m) + d (m * 65 + x % 65)) else d x) else d x
/-- By way of the first m unknowns. -/
def fwN (n : Nat) : Nat → (Nat → Int) → Nat → Int
  | 0, d => d
  | m + 1, d => iF n m n (fwN n m d)
def badD (n : Nat) (d : Nat → Int) : Prop := ∃ i, i < n ∧ d (i * 65 + i) < 0

structure i64 (x : Int) : Prop where
  lo : -9223372036854775808 ≤ x
  hi : x ≤ 9223372036854775807

theorem kF_0 (m i : Nat) (f : Int) (d : Nat → Int) : kF m i f 0 d = d := by
  funext x
  unfold kF
  rw [if_neg (by omega)]

theorem kF_s {m i k : Nat} {f : Int} {d : Nat → Int} (hk : k < 65) (h : d (m * 65 + k) < WW) :
    setF (kF m i f k d) (i * 65 + k) [min (kF m i f k d (i * 65 + k)) (f + kF m i f k d (m * 65 + k))] = kF m i f (k + 1) d := by
  have e1 : kF m i f k d (i * 65 + k) = d (i * 65 + k) := by unfold kF; rw [if_neg (by omega)]
  have e2 : kF m i f k d (m * 65 + k) = d (m * 65 + k) := by unfold kF; rw [if_neg (by omega)]
  funext x
  rw [e1, e2, setF_eq]
  simp only [List.length_singleton]
  by_cases hx : x = i * 65 + k
  · subst hx
    rw [if_pos (by omega)]
    unfold kF
    rw [if_pos (by omega), show i * 65 + k - i * 65 = k by omega, if_pos h]
    simp
  · rw [if_neg (by omega)]
    unfold kF
    by_cases h2 : i * 65 ≤ x ∧ x < i * 65 + k
    · rw [if_pos h2, if_pos (show i * 65 ≤ x ∧ x < i * 65 + (k + 1) by omega)]
    · rw [if_neg h2, if_neg (show ¬ (i * 65 ≤ x ∧ x < i * 65 + (k + 1)) by omega)]

theorem kF_n {m i k : Nat} {f : Int} {d : Nat → Int} (h : ¬ d (m * 65 + k) < WW) : kF m i f k d = kF m i f (k + 1) d := by
  funext x
  unfold kF
  by_cases hx : x = i * 65 + k
  · subst hx
    rw [if_neg (by omega), if_pos (by omega), show i * 65 + k - i * 65 = k by omega, if_neg h]
  · by_cases h2 : i * 65 ≤ x ∧ x < i * 65 + k
    · rw [if_pos h2, if_pos (show i * 65 ≤ x ∧ x < i * 65 + (k + 1) by omega)]
    · rw [if_neg h2, if_neg (show ¬ (i * 65 ≤ x ∧ x < i * 65 + (k + 1)) by omega)]

theorem kF_at {m i k : Nat} {f : Int} {d : Nat → Int} (hk : k < 65) : kF m i f k d (m * 65 + k) = d (m * 65 + k) := by
  unfold kF; rw [if_neg (by omega)]

theorem iF_0 (n m : Nat) (d : Nat → Int) : iF n m 0 d = d := by
  funext x
  unfold iF
  rw [if_neg (by omega)]

/-- The row of m itself stays. -/
theorem iF_row {n m c k : Nat} {d : Nat → Int} (hn : n ≤ 65) (_ : m < n) (hz : d (m * 65 + m) = 0) (hk : k < n) : iF n m c d (m * 65 + k) = d (m * 65 + k) := by
  have e1 : (m * 65 + k) / 65 = m := by omega
  have e2 : (m * 65 + k) % 65 = k := by omega
  unfold iF
  rw [e1, e2, hz]
  split
  · split
    · omega
    · rfl
  · rfl

theorem iF_s {n m i : Nat} {d : Nat → Int} (hn : n ≤ 65) (hm : m < n) (_ : i < n) (hz : d (m * 65 + m) = 0) :
    (if iF n m i d (i * 65 + m) = WW then iF n m i d else kF m i (iF n m i d (i * 65 + m)) n (iF n m i d)) = iF n m (i + 1) d := by
  have e0 : ∀ k, k < n → iF n m i d (i * 65 + k) = d (i * 65 + k) := fun k hk => by unfold iF; rw [if_neg (by omega)]
  rw [e0 m hm]
  have rest : ∀ x, ¬ (i * 65 ≤ x ∧ x < i * 65 + n) → iF n m i d x = iF n m (i + 1) d x := fun x hx => by
    unfold iF
    by_cases h : x / 65 < i ∧ x % 65 < n
    · rw [if_pos h, if_pos (show x / 65 < i + 1 ∧ x % 65 < n by omega)]
    · rw [if_neg h, if_neg (show ¬ (x / 65 < i + 1 ∧ x % 65 < n) by omega)]
  have row : ∀ k, k < n → iF n m (i + 1) d (i * 65 + k) = if d (i * 65 + m) ≠ WW ∧ d (m * 65 + k) < WW then min (d (i * 65 + k)) (d (i * 65 + m) + d (m * 65 + k)) else d (i * 65 + k) := fun k hk => by
    have e1 : (i * 65 + k) / 65 = i := by omega
    have e2 : (i * 65 + k) % 65 = k := by omega
    unfold iF
    rw [e1, e2, if_pos (by omega)]
  by_cases hw : d (i * 65 + m) = WW
  · rw [if_pos hw]
    funext x
    by_cases hx : i * 65 ≤ x ∧ x < i * 65 + n
    · obtain ⟨k, hk, rfl⟩ : ∃ k, k < n ∧ x = i * 65 + k := ⟨x - i * 65, by omega, by omega⟩
      rw [row k hk, e0 k hk, if_neg (fun h => h.1 hw)]
    · exact rest x hx
  · rw [if_neg hw]
    funext x
    by_cases hx : i * 65 ≤ x ∧ x < i * 65 + n
    · obtain ⟨k, hk, rfl⟩ : ∃ k, k < n ∧ x = i * 65 + k := ⟨x - i * 65, by omega, by omega⟩
      rw [row k hk]
      unfold kF
      rw [if_pos hx, show i * 65 + k - i * 65 = k by omega, iF_row hn hm hz hk, e0 k hk]
      by_cases h2 : d (m * 65 + k) < WW
      · rw [if_pos h2, if_pos ⟨hw, h2⟩]
      · rw [if_neg h2, if_neg (fun h => h2 h.2)]
    · rw [← rest x hx]
      unfold kF
      rw [if_neg hx]

section
variable {p : Pn} {c1 c2 c3 : Nat} {N : List Nd} {n m : Nat}

/-- The loop over a row. -/
def lK (p : Pn) (c1 c2 c3 : Nat) (N : List Nd) (n m i : Nat) (f : Int) (d : Nat → Int) : LT := fun lock tt h K =>
  FitP lock h tt ⟨10, nsK.zip (BK p c1 c2 c3 N d)⟩ (dsK.zip (VK n m i f 0)) ∧ (n ≤ 65 ∧ m < n ∧ i < n ∧ ∀ k, k < n → d (m * 65 + k) < WW → i64 (f + d (m * 65 + k))) ∧
    K .normal (dsK.zip (VK n m i f n)) ⟨10, nsK.zip (BK p c1 c2 c3 N (kF m i f n d))⟩

theorem lK_ok {i : Nat} {f : Int} {d : Nat → Int} : LSound Try.prog true (.block 10 (.loop (loopB 10 (bodyOf Try.prog 63)))) 131 (lK p c1 c2 c3 N n m i f d) := by
  by_cases hh : n ≤ 65 ∧ m < n ∧ i < n ∧ ∀ k, k < n → d (m * 65 + k) < WW → i64 (f + d (m * 65 + k))
  · obtain ⟨hn, hm, hi, hs⟩ := hh
    refine loop_row hmix good0 (un := 10) (ds := dsK) (ns := nsK) (nx := 10) (fun k : Nat => VK n m i f k) (fun k => BK p c1 c2 c3 N (kF m i f k d)) (fun k => k ≤ n) (fun k => n - k)
      (fun _ e vs bs => e = .exit 10 ∧ vs = VK n m i f n ∧ bs = BK p c1 c2 c3 N (kF m i f n d)) noL_ok ?_ ?_
    · intro k hk
      refine cast (k_ev p c1 c2 c3 N _ n m i f k _).symm ?_
      by_cases h : k < n
      · have b1 : (0 : Int) ≤ (m : Int) ∧ (m : Int) < ((65 : Nat) : Int) := ⟨by omega, by omega⟩
        have b2 : (0 : Int) ≤ (k : Int) ∧ (k : Int) < ((65 : Nat) : Int) := ⟨by omega, by omega⟩
        have b3 : (0 : Int) ≤ (i : Int) ∧ (i : Int) < ((65 : Nat) : Int) := ⟨by omega, by omega⟩
        refine cond_dk (by omega) (cond_dk b1 (cond_dk b2 ?_))
        simp only [Int.toNat_natCast, Nat.mul_one]
        have ha := kF_at (m := m) (i := i) (f := f) (d := d) (show k < 65 by omega)
        refine cond_dk (by omega) (cond_d (fun hw => ?_) (fun hw => cond_r (by omega) ?_))
        · rw [ha] at hw
          have h64 := hs k h hw
          have h64 := And.intro h64.lo h64.hi
          refine cond_dk b3 (cond_dk b2 (cond_dk (by omega) (cond_r (by rw [ha]; exact h64) (cond_dk b3 (cond_dk b2 (cond_dk (by omega) (cond_r (by omega) ?_)))))))
          refine ⟨k + 1, by omega, by dsimp only; omega, vst (V := VK n m i f) k, ?_, fun e vs bs ho => ho⟩
          rw [kF_s (by omega) hw]
          exact fitBs_refl _
        · rw [ha] at hw
          refine ⟨k + 1, by omega, by dsimp only; omega, vst (V := VK n m i f) k, ?_, fun e vs bs ho => ho⟩
          show fitBs (BK p c1 c2 c3 N (kF m i f (k + 1) d)) _
          rw [← kF_n hw]
          exact fitBs_refl _
      · have : k = n := by omega
        subst this
        exact cond_d (fun h => by omega) (fun _ => ⟨rfl, rfl, rfl⟩)
    · rintro lock tt h K ⟨hf, _, hK⟩
      refine ⟨0, ?_, Nat.zero_le _, ?_⟩
      · rw [kF_0]
        exact hf
      · rintro x vs bs ⟨rfl, rfl, rfl⟩
        exact hK
  · rintro lock tt h K ⟨_, hc, _⟩
    exact (hh hc).elim

/-- The check. -/
def lC (p : Pn) (c1 c2 c3 : Nat) (N : List Nd) (n m : Nat) (d : Nat → Int) : LT := fun lock tt h K =>
  FitP lock h tt ⟨10, nsK.zip (BK p c1 c2 c3 N d)⟩ (dsC.zip (VC n m 0)) ∧ n ≤ 65 ∧ (¬ badD n d → K .normal (dsC.zip (VC n m n)) ⟨10, nsK.zip (BK p c1 c2 c3 N d)⟩) ∧
    (badD n d → ∀ i : Nat, K (.panic (.iface 108 (.agg []))) (dsC.zip (VC n m i)) ⟨10, nsK.zip (BK p c1 c2 c3 N d)⟩)

theorem lC_ok {d : Nat → Int} : LSound Try.prog true (.block 12 (.loop (loopB 12 (bodyOf Try.prog 63)))) 131 (lC p c1 c2 c3 N n m d) := by
  by_cases hn : n ≤ 65
  · refine loop_row hmix good0 (un := 10) (ds := dsC) (ns := nsK) (nx := 10) (fun i : Nat => VC n m i) (fun _ => BK p c1 c2 c3 N d) (fun i => i ≤ n ∧ ∀ j, j < i → ¬ d (j * 65 + j) < 0) (fun i => n - i)
      (fun _ e vs bs => (e = .exit 12 ∧ ¬ badD n d ∧ vs = VC n m n ∧ bs = BK p c1 c2 c3 N d) ∨ (e = .panic (.iface 108 (.agg [])) ∧ badD n d ∧ (∃ i : Nat, vs = VC n m i) ∧ bs = BK p c1 c2 c3 N d)) noL_ok ?_ ?_
    · rintro i ⟨hi, hg⟩
      refine cast (c_ev p c1 c2 c3 N d n m i _).symm ?_
      by_cases h : i < n
      · have b1 : (0 : Int) ≤ (i : Int) ∧ (i : Int) < ((65 : Nat) : Int) := ⟨by omega, by omega⟩
        refine cond_dk (by omega) (cond_dk b1 (cond_dk b1 ?_))
        simp only [Int.toNat_natCast, Nat.mul_one]
        refine cond_dk (by omega) (cond_d (fun hb => ?_) (fun hb => cond_r (by omega) ?_))
        · exact .inr ⟨rfl, ⟨i, h, hb⟩, ⟨i, rfl⟩, rfl⟩
        · refine ⟨i + 1, ⟨by omega, fun j hj => ?_⟩, by dsimp only; omega, vst (V := VC n m) i, fitBs_refl _, fun e vs bs ho => ho⟩
          by_cases hji : j = i
          · rw [hji]; exact hb
          · exact hg j (by omega)
      · have : i = n := by omega
        subst this
        exact cond_d (fun h => by omega) (fun _ => .inl ⟨rfl, fun ⟨j, h1, h2⟩ => hg j h1 h2, rfl, rfl⟩)
    · rintro lock tt h K ⟨hf, _, h1, h2⟩
      refine ⟨0, hf, ⟨Nat.zero_le _, fun j hj => by omega⟩, ?_⟩
      rintro x vs bs (⟨rfl, he, rfl, rfl⟩ | ⟨rfl, he, ⟨i, rfl⟩, rfl⟩)
      · exact h1 he
      · exact h2 he i
  · rintro lock tt h K ⟨_, hc, _⟩
    exact (hn hc).elim
end
end Go.Sx.Nos

/- nose: the greatest differences, evaluated. -/

namespace Go.Sx.Nos
open Go Go.Sx Go.Proofs
set_option maxRecDepth 1000000

def dsR : List Nat := [3, 9, 60, 61, 10, 64, 65]
def VR (n m i : Int) : List VV := [.ptr (.own 6 0), I n, I n, I m, I m, I n, I i]
theorem i_ev (p : Pn) (c1 c2 c3 : Nat) (N : List Nd) (d : Nat → Int) (n m i : Nat) (f : Int) (X : VEx → List VV → List VB → Prop) : codeE Try.prog (callN Try.prog noSpec noL 10 20) (tabB [(10, lK p c1 c2 c3 N n m i f d)]) true 10 131 0 (loopB 8 (bodyOf Try.prog 63)) (dsR.zip (VR n m i)) ⟨10, nsK.zip (BK p c1 c2 c3 N d)⟩ (obs 10 dsR nsK X) =
  (bif decide ((↑i : Int) < (↑n : Int)) then
 bif decide ((0 : Int) ≤ (↑i : Int) ∧ (↑i : Int) < (↑65 : Int)) then
 bif decide ((0 : Int) ≤ (↑m : Int) ∧ (↑m : Int) < (↑65 : Int)) then
 bif decide ((↑i : Int).toNat * (65) + (↑m : Int).toNat * (1) < 4225) then
 bif decide (d ((↑i : Int).toNat * (65) + (↑m : Int).toNat * (1)) = (1125899906842624 : Int)) then
 bif inK IntKind.i64 ((↑i : Int) + (1 : Int)) then
 X VEx.normal [VV.ptr (VA.own 6 0), I (↑n : Int), I (↑n : Int), I (↑m : Int), I (↑m : Int), I (↑n : Int), I ((↑i : Int) + (1 : Int))] [arD p, arT p, arS p, pnB p c1 c2 c3, maB N, faB 4 d, p5]
 else False
 else FitP 0 (VH.mk 10 (nsK.zip (BK p c1 c2 c3 N d))) ((79, I 0) :: (78, I (↑n : Int)) :: (77, VV.bool false) :: (77, VV.bool (decide (d ((↑i : Int).toNat * (65) + (↑m : Int).toNat * (1)) = (1125899906842624 : Int)))) :: (76, I (d ((↑i : Int).toNat * (65) + (↑m : Int).toNat * (1)))) :: (12, I (d ((↑i : Int).toNat * (65) + (↑m : Int).toNat * (1)))) :: (75, I (d ((↑i : Int).toNat * (65) + (↑m : Int).toNat * (1)))) :: (74, VV.ptr (VA.fa 5 (1) ((↑i : Int).toNat * (65) + (↑m : Int).toNat * (1)))) :: (73, VV.ptr (VA.fa 5 (1) ((↑i : Int).toNat * (65)))) :: (72, VV.ptr (VA.own 5 (1))) :: (71, VV.ptr (VA.own 5 0)) :: (70, I (↑m : Int)) :: (69, I (↑i : Int)) :: (68, VV.ptr (VA.own 5 0)) :: (11, I (↑i : Int)) :: (67, I (↑i : Int)) :: (66, VV.bool true) :: (66, VV.bool (decide ((↑i : Int) < (↑n : Int)))) :: dsR.zip (VR (↑n : Int) (↑m : Int) (↑i : Int))) (VH.mk 10 (nsK.zip (BK p c1 c2 c3 N d))) (dsK.zip (VK (↑n : Int) (↑m : Int) (↑i : Int) f (0 : Int))) ∧ (n ≤ 65 ∧ m < n ∧ i < n ∧ ∀ (k : Nat), k < n → d (m * 65 + k) < WW → i64 (f + d (m * 65 + k))) ∧ bif inK IntKind.i64 ((↑i : Int) + (1 : Int)) then
 X VEx.normal [VV.ptr (VA.own 6 0), I (↑n : Int), I (↑n : Int), I (↑m : Int), I (↑m : Int), I (↑n : Int), I ((↑i : Int) + (1 : Int))] [arD p, arT p, arS p, pnB p c1 c2 c3, maB N, VB.fam [VV.mp 4] 4225 (kF m i f n d) (93 : TypeId), p5]
 else False
 else False
 else False
 else False
 else X (VEx.exit 8) [VV.ptr (VA.own 6 0), I (↑n : Int), I (↑n : Int), I (↑m : Int), I (↑m : Int), I (↑n : Int), I (↑i : Int)] [arD p, arT p, arS p, pnB p c1 c2 c3, maB N, faB 4 d, p5]) := by kernel_rfl


end Go.Sx.Nos

/- nose: the greatest differences by way of one unknown. -/

namespace Go.Sx.Nos
open Go Go.Sx Go.Proofs
set_option maxRecDepth 1000000

section
variable {p : Pn} {c1 c2 c3 : Nat} {N : List Nd} {n m : Nat}

/-- What makes one round safe. -/
structure RdOk (n m : Nat) (d : Nat → Int) : Prop where
  hn : n ≤ 65
  hm : m < n
  z : d (m * 65 + m) = 0
  s : ∀ i k, i < n → k < n → d (i * 65 + m) ≠ WW → d (m * 65 + k) < WW → i64 (d (i * 65 + m) + d (m * 65 + k))

/-- The loop over the rows. -/
def lI (p : Pn) (c1 c2 c3 : Nat) (N : List Nd) (n m : Nat) (d : Nat → Int) : LT := fun lock tt h K =>
  FitP lock h tt ⟨10, nsK.zip (BK p c1 c2 c3 N d)⟩ (dsR.zip (VR n m 0)) ∧ RdOk n m d ∧ K .normal (dsR.zip (VR n m n)) ⟨10, nsK.zip (BK p c1 c2 c3 N (iF n m n d))⟩

theorem lsp_k {i : Nat} {f : Int} {d : Nat → Int} : ∀ id T, tabB [(10, lK p c1 c2 c3 N n m i f d)] id = some T → ∀ b' ∈ blocksOf id (loopB 8 (bodyOf Try.prog 63)), LSound Try.prog true (.block id b') 131 T := by
  intro id T hT b' hb
  simp only [tabB] at hT
  cases hid : Nat.beq id 10 with
  | false => rw [hid] at hT; cases hT
  | true =>
    rw [hid] at hT
    have := Nat.eq_of_beq_eq_true hid
    subst this
    cases hT
    have h2 : blocksOf 10 (loopB 8 (bodyOf Try.prog 63)) = [.loop (loopB 10 (bodyOf Try.prog 63))] := by kernel_rfl
    rw [h2] at hb
    simp only [List.mem_singleton] at hb
    subst hb
    exact lK_ok

theorem lI_ok {d : Nat → Int} : LSound Try.prog true (.block 8 (.loop (loopB 8 (bodyOf Try.prog 63)))) 131 (lI p c1 c2 c3 N n m d) := by
  by_cases hh : RdOk n m d
  · obtain ⟨hn, hm, hz, hs⟩ := hh
    refine loop_rowD hmix good0 (un := 10) (ds := dsR) (ns := nsK) (nx := 10) (lsp := fun i : Nat => tabB [(10, lK p c1 c2 c3 N n m i (iF n m i d ((i : Int).toNat * 65 + (m : Int).toNat * 1)) (iF n m i d))]) (fun i : Nat => VR n m i) (fun i => BK p c1 c2 c3 N (iF n m i d)) (fun i => i ≤ n) (fun i => n - i)
      (fun _ e vs bs => e = .exit 8 ∧ vs = VR n m n ∧ bs = BK p c1 c2 c3 N (iF n m n d)) (fun _ _ => lsp_k) ?_ ?_
    · intro i hi
      refine cast (i_ev p c1 c2 c3 N _ n m i _ _).symm ?_
      by_cases h : i < n
      · have b1 : (0 : Int) ≤ (m : Int) ∧ (m : Int) < ((65 : Nat) : Int) := ⟨by omega, by omega⟩
        have b3 : (0 : Int) ≤ (i : Int) ∧ (i : Int) < ((65 : Nat) : Int) := ⟨by omega, by omega⟩
        have hs' := iF_s hn hm h hz
        have e0 : iF n m i d (i * 65 + m) = d (i * 65 + m) := by unfold iF; rw [if_neg (by omega)]
        have ei : (i : Int).toNat * 65 + (m : Int).toNat * 1 = i * 65 + m := by simp
        refine cond_dk (by omega) (cond_dk b3 (cond_dk b1 (cond_dk (by rw [ei]; omega) (cond_d (fun hw => cond_r (by omega) ?_) (fun hw => ?_)))))
        · rw [ei] at hw
          rw [if_pos hw] at hs'
          refine ⟨i + 1, by omega, by dsimp only; omega, vst (V := VR n m) i, ?_, fun e vs bs ho => ho⟩
          show fitBs (BK p c1 c2 c3 N (iF n m (i + 1) d)) _
          rw [← hs']
          exact fitBs_refl _
        · refine ⟨⟨⟨rfl, rfl, VB.fit_refl _, VB.fit_refl _, VB.fit_refl _, VB.fit_refl _, VB.fit_refl _, VB.fit_refl _, VB.fit_refl _, trivial⟩, rfl, rfl, rfl, rfl, rfl, rfl, rfl, rfl, rfl, rfl, rfl, trivial⟩, ⟨hn, hm, h, fun k hk hw2 => ?_⟩, cond_r (by omega) ?_⟩
          · rw [iF_row hn hm hz hk] at hw2 ⊢
            rw [ei, e0]
            rw [ei, e0] at hw
            exact hs i k h hk hw hw2
          · rw [ei] at hw ⊢
            rw [if_neg hw] at hs'
            refine ⟨i + 1, by omega, by dsimp only; omega, vst (V := VR n m) i, ?_, fun e vs bs ho => ho⟩
            show fitBs (BK p c1 c2 c3 N (iF n m (i + 1) d)) _
            rw [← hs']
            exact fitBs_refl _
      · have : i = n := by omega
        subst this
        exact cond_d (fun h => by omega) (fun _ => ⟨rfl, rfl, rfl⟩)
    · rintro lock tt h K ⟨hf, _, hK⟩
      refine ⟨0, ?_, Nat.zero_le _, ?_⟩
      · rw [iF_0]
        exact hf
      · rintro x vs bs ⟨rfl, rfl, rfl⟩
        exact hK
  · rintro lock tt h K ⟨_, hc, _⟩
    exact (hh hc).elim
end
end Go.Sx.Nos

/- nose: the greatest differences, evaluated. -/

namespace Go.Sx.Nos
open Go Go.Sx Go.Proofs
set_option maxRecDepth 1000000

def dsM : List Nat := [3, 9, 60, 61]
def VM (n m : Int) : List VV := [.ptr (.own 6 0), I n, I n, I m]
theorem m_ev (p : Pn) (c1 c2 c3 : Nat) (N : List Nd) (d : Nat → Int) (n m : Nat) (X : VEx → List VV → List VB → Prop) : codeE Try.prog (callN Try.prog noSpec noL 10 20) (tabB [(8, lI p c1 c2 c3 N n m d), (12, lC p c1 c2 c3 N n m (iF n m n d))]) true 10 131 0 (loopB 6 (bodyOf Try.prog 63)) (dsM.zip (VM n m)) ⟨10, nsK.zip (BK p c1 c2 c3 N d)⟩ (obs 10 dsM nsK X) =
  (bif decide ((↑m : Int) < (↑n : Int)) then
 FitP 0 (VH.mk 10 (nsK.zip (BK p c1 c2 c3 N d))) (dsR.zip (VR (↑n : Int) (↑m : Int) (0 : Int))) (VH.mk 10 (nsK.zip (BK p c1 c2 c3 N d))) (dsR.zip (VR (↑n : Int) (↑m : Int) (0 : Int))) ∧ RdOk n m d ∧ FitP 0 (VH.mk 10 (nsK.zip (BK p c1 c2 c3 N (iF n m n d)))) (dsC.zip (VC (↑n : Int) (↑m : Int) (0 : Int))) (VH.mk 10 (nsK.zip (BK p c1 c2 c3 N (iF n m n d)))) (dsC.zip (VC (↑n : Int) (↑m : Int) (0 : Int))) ∧ n ≤ 65 ∧ (¬badD n (iF n m n d) → bif inK IntKind.i64 ((↑m : Int) + (1 : Int)) then
 X VEx.normal [VV.ptr (VA.own 6 0), I (↑n : Int), I (↑n : Int), I ((↑m : Int) + (1 : Int))] [arD p, arT p, arS p, pnB p c1 c2 c3, maB N, VB.fam [VV.mp 4] 4225 (iF n m n d) (93 : TypeId), p5]
 else False) ∧ (badD n (iF n m n d) → ∀ (i : Nat), X (VEx.panic (VV.iface (108 : TypeId) (VV.agg []))) [VV.ptr (VA.own 6 0), I (↑n : Int), I (↑n : Int), I (↑m : Int)] [arD p, arT p, arS p, pnB p c1 c2 c3, maB N, VB.fam [VV.mp 4] 4225 (iF n m n d) (93 : TypeId), p5])
 else X (VEx.exit 6) [VV.ptr (VA.own 6 0), I (↑n : Int), I (↑n : Int), I (↑m : Int)] [arD p, arT p, arS p, pnB p c1 c2 c3, maB N, faB 4 d, p5]) := by kernel_rfl


end Go.Sx.Nos

/- nose: the greatest differences by way of all unknowns. -/

namespace Go.Sx.Nos
open Go Go.Sx Go.Proofs
set_option maxRecDepth 1000000

/-- Nothing grows too far, as long as nothing is torn. -/
structure Safe (n : Nat) (d : Nat → Int) : Prop where
  hn : n ≤ 65
  rd : ∀ m, m < n → (∀ j, j < m → ¬ badD n (fwN n (j + 1) d)) → RdOk n m (fwN n m d)

def goodF (n : Nat) (d : Nat → Int) : Prop := ∀ m, m < n → ¬ badD n (fwN n (m + 1) d)

abbrev misV : VV := .iface 108 (.agg [])

section
variable {p : Pn} {c1 c2 c3 : Nat} {N : List Nd} {n : Nat}

/-- The loop over the unknowns. -/
def lM (p : Pn) (c1 c2 c3 : Nat) (N : List Nd) (n : Nat) (d : Nat → Int) : LT := fun lock tt h K =>
  FitP lock h tt ⟨10, nsK.zip (BK p c1 c2 c3 N d)⟩ (dsM.zip (VM n 0)) ∧ Safe n d ∧ (goodF n d → K .normal (dsM.zip (VM n n)) ⟨10, nsK.zip (BK p c1 c2 c3 N (fwN n n d))⟩) ∧
    (¬ goodF n d → ∀ (m : Nat) (d' : Nat → Int), K (.panic misV) (dsM.zip (VM n m)) ⟨10, nsK.zip (BK p c1 c2 c3 N d')⟩)

theorem lsp_m {m : Nat} {d : Nat → Int} : ∀ id T, tabB [(8, lI p c1 c2 c3 N n m d), (12, lC p c1 c2 c3 N n m (iF n m n d))] id = some T → ∀ b' ∈ blocksOf id (loopB 6 (bodyOf Try.prog 63)), LSound Try.prog true (.block id b') 131 T := by
  intro id T hT b' hb
  simp only [tabB] at hT
  cases hid : Nat.beq id 8 with
  | true =>
    rw [hid] at hT
    have := Nat.eq_of_beq_eq_true hid
    subst this
    cases hT
    have h2 : blocksOf 8 (loopB 6 (bodyOf Try.prog 63)) = [.loop (loopB 8 (bodyOf Try.prog 63))] := by kernel_rfl
    rw [h2] at hb
    simp only [List.mem_singleton] at hb
    subst hb
    exact lI_ok
  | false =>
    rw [hid] at hT
    simp only [cond_false] at hT
    cases hid2 : Nat.beq id 12 with
    | false => rw [hid2] at hT; cases hT
    | true =>
      rw [hid2] at hT
      have := Nat.eq_of_beq_eq_true hid2
      subst this
      cases hT
      have h2 : blocksOf 12 (loopB 6 (bodyOf Try.prog 63)) = [.loop (loopB 12 (bodyOf Try.prog 63))] := by kernel_rfl
      rw [h2] at hb
      simp only [List.mem_singleton] at hb
      subst hb
      exact lC_ok

theorem lM_ok {d : Nat → Int} : LSound Try.prog true (.block 6 (.loop (loopB 6 (bodyOf Try.prog 63)))) 131 (lM p c1 c2 c3 N n d) := by
  by_cases hs : Safe n d
  · refine loop_rowD hmix good0 (un := 10) (ds := dsM) (ns := nsK) (nx := 10) (lsp := fun m : Nat => tabB [(8, lI p c1 c2 c3 N n m (fwN n m d)), (12, lC p c1 c2 c3 N n m (iF n m n (fwN n m d)))]) (fun m : Nat => VM n m) (fun m => BK p c1 c2 c3 N (fwN n m d)) (fun m => m ≤ n ∧ ∀ j, j < m → ¬ badD n (fwN n (j + 1) d)) (fun m => n - m)
      (fun _ e vs bs => (e = .exit 6 ∧ goodF n d ∧ vs = VM n n ∧ bs = BK p c1 c2 c3 N (fwN n n d)) ∨ (e = .panic misV ∧ ¬ goodF n d ∧ ∃ (m : Nat) (d' : Nat → Int), vs = VM n m ∧ bs = BK p c1 c2 c3 N d')) (fun _ _ => lsp_m) ?_ ?_
    · rintro m ⟨hm, hg⟩
      refine cast (m_ev p c1 c2 c3 N _ n m _).symm ?_
      have hn := hs.hn
      by_cases h : m < n
      · refine cond_dk (by omega) ⟨fitP_self rfl, hs.rd m h hg, fitP_self rfl, hn, fun hb => cond_r (by omega) ?_, fun hb i => .inr ⟨rfl, fun hh => hh m h hb, m, _, rfl, rfl⟩⟩
        refine ⟨m + 1, ⟨by omega, fun j hj => ?_⟩, by dsimp only; omega, vst (V := VM n) m, fitBs_refl _, fun e vs bs ho => ho⟩
        by_cases hjm : j = m
        · rw [hjm]; exact hb
        · exact hg j (by omega)
      · have : m = n := by omega
        subst this
        exact cond_d (fun h => by omega) (fun _ => .inl ⟨rfl, hg, rfl, rfl⟩)
    · rintro lock tt h K ⟨hf, _, h1, h2⟩
      refine ⟨0, hf, ⟨Nat.zero_le _, fun j hj => by omega⟩, ?_⟩
      rintro x vs bs (⟨rfl, he, rfl, rfl⟩ | ⟨rfl, he, m, d', rfl, rfl⟩)
      · exact h1 he
      · exact h2 he m d'
  · rintro lock tt h K ⟨_, hc, _⟩
    exact (hs hc).elim
end
end Go.Sx.Nos
