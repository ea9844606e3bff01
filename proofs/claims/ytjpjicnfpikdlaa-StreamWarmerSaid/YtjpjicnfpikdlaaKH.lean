/- stream: Kg1 Kg2 Kg3, in one text. -/
import Derived.Test.YtjpjicnfpikdlaaKG
import Derived.OpenShut
/- stream: the law StreamStep, evaluated. -/

namespace Go.Sx.Str
open Go Go.Sx Go.Proofs
set_option maxRecDepth 100000

/-- A number of a span. -/
def pkT : FuncId × Spec1 := (25, fun _ args h K => match args with
  | [.agg [.int .i64 lo, .int .i64 hi], .int .u32 by'] => ((0 ≤ by' ∧ by' ≤ 4294967295) ∧ (-4611686018427387904 ≤ lo ∧ lo ≤ hi ∧ hi ≤ 4611686018427387902)) ∧ ∀ x, (lo ≤ x ∧ x ≤ hi) → K (.ret (I x)) h
  | _ => False)
def tL6 : List (FuncId × Spec1) := [awT, flT 13, waT 23, ptT, pkT]
theorem pk_ev (lo hi u : Int) (Q : VRes → Prop) : callN Try.prog noSpec noL 10 20 0 (.fn 25) [.agg [I lo, I hi], .int .u32 u] ⟨0, []⟩ (fun r _ => Q r) =
  (bif inK IntKind.i64 u then
 bif inK IntKind.i64 (hi - lo) then
 bif inK IntKind.i64 (hi - lo + (1 : Int)) then
 bif decide (hi - lo + (1 : Int) = (0 : Int)) then
 False
 else bif inK IntKind.i64 (lo + remZ u (hi - lo + (1 : Int))) then
 Q (VRes.ret (I (lo + remZ u (hi - lo + (1 : Int)))))
 else False
 else False
 else False
 else False) := by kernel_rfl

theorem law6_ev (w : Wt) (p : Pt) (a b c d : Int) (Q : VRes → Prop) : callN Try.prog (tabS tL6) noL 10 20 0 (.fn 6) [.agg (wtL w), .agg (ptL p), .agg [.int .u32 a, .int .u32 b, .int .u32 c, .int .u32 d]] ⟨0, []⟩ (fun r _ => Q r) =
  (∃ P, isList (VH.mk (4) [(3, VB.vec 1 (fun j => List.take (9) (List.drop (j * (9)) (ptL p))) (9) 47), (2, VB.cells [VV.int IntKind.u32 a, VV.int IntKind.u32 b, VV.int IntKind.u32 c, VV.int IntKind.u32 d] 49), (1, VB.cells (ptL p) 47), (0, VB.cells (wtL w) 25)]) (VV.sl (3) 1) P.length 9 (pG P) ∧ bif !decide (flE w P = (0 : Int)) then
 bif decide ((↑(flL w P).length : Int) = (0 : Int)) then
 bif decide (flI w P = (0 : Int)) then
 Q (VRes.ret (VV.bool true))
 else Q (VRes.ret (VV.bool false))
 else Q (VRes.ret (VV.bool false))
 else bif !watB w then
 Q (VRes.ret (VV.bool false))
 else bif !ptB p then
 Q (VRes.ret (VV.bool false))
 else bif !decide (flI w P = (1 : Int)) then
 Q (VRes.ret (VV.bool false))
 else bif !decide ((↑(flL w P).length : Int) = (1 : Int)) then
 Q (VRes.ret (VV.bool false))
 else (((0 : Int) ≤ a ∧ a ≤ (4294967295 : Int)) ∧ (-4611686018427387904 : Int) ≤ w.flo ∧ w.flo ≤ w.fhi ∧ w.fhi ≤ (4611686018427387902 : Int)) ∧ ∀ (x : Int), w.flo ≤ x ∧ x ≤ w.fhi → (((0 : Int) ≤ b ∧ b ≤ (4294967295 : Int)) ∧ (-4611686018427387904 : Int) ≤ w.wlo ∧ w.wlo ≤ w.whi ∧ w.whi ≤ (4611686018427387902 : Int)) ∧ ∀ (x_1 : Int), w.wlo ≤ x_1 ∧ x_1 ≤ w.whi → bif decide (p.k = (0 : Int)) then
 (((0 : Int) ≤ c ∧ c ≤ (4294967295 : Int)) ∧ (-4611686018427387904 : Int) ≤ p.flo ∧ p.flo ≤ p.fhi ∧ p.fhi ≤ (4611686018427387902 : Int)) ∧ ∀ (x_2 : Int), p.flo ≤ x_2 ∧ x_2 ≤ p.fhi → (((0 : Int) ≤ d ∧ d ≤ (4294967295 : Int)) ∧ (-4611686018427387904 : Int) ≤ p.wlo ∧ p.wlo ≤ p.whi ∧ p.whi ≤ (4611686018427387902 : Int)) ∧ ∀ (x_3 : Int), p.wlo ≤ x_3 ∧ x_3 ≤ p.whi → bif inK IntKind.i64 (x + x_2) then
 bif inK IntKind.i64 (x * x_1) then
 bif inK IntKind.i64 (x_2 * x_3) then
 bif inK IntKind.i64 (x * x_1 + x_2 * x_3) then
 bif inK IntKind.i64 (x + x_2) then
 bif decide ((0 : Int) ≤ (0 : Int) ∧ (0 : Int) < (↑(flL w P).length : Int)) then
 bif (flL w P).length.beq (flL w P).length && true then
 bif (flL w P).length.beq (flL w P).length then
 bif decide (((flL w P).getD (Int.toNat (0 : Int)) w0).flo ≤ x + x_2) then
 bif decide (x + x_2 ≤ ((flL w P).getD (Int.toNat (0 : Int)) w0).fhi) then
 bif inK IntKind.i64 (((flL w P).getD (Int.toNat (0 : Int)) w0).wlo * (x + x_2)) then
 bif decide (((flL w P).getD (Int.toNat (0 : Int)) w0).wlo * (x + x_2) ≤ x * x_1 + x_2 * x_3) then
 bif inK IntKind.i64 (((flL w P).getD (Int.toNat (0 : Int)) w0).whi * (x + x_2)) then
 bif decide (x * x_1 + x_2 * x_3 ≤ ((flL w P).getD (Int.toNat (0 : Int)) w0).whi * (x + x_2)) then
 bif decide (((flL w P).getD (Int.toNat (0 : Int)) w0).flo ≥ (1 : Int)) then
 Q (VRes.ret (VV.bool true))
 else Q (VRes.ret (VV.bool false))
 else Q (VRes.ret (VV.bool false))
 else False
 else Q (VRes.ret (VV.bool false))
 else False
 else Q (VRes.ret (VV.bool false))
 else Q (VRes.ret (VV.bool false))
 else False
 else False
 else False
 else False
 else False
 else False
 else False
 else False
 else bif decide (p.k = (1 : Int)) then
 (((0 : Int) ≤ c ∧ c ≤ (4294967295 : Int)) ∧ (-4611686018427387904 : Int) ≤ p.flo ∧ p.flo ≤ p.fhi ∧ p.fhi ≤ (4611686018427387902 : Int)) ∧ ∀ (x_2 : Int), p.flo ≤ x_2 ∧ x_2 ≤ p.fhi → bif inK IntKind.i64 (x - x_2) then
 bif decide ((0 : Int) ≤ (0 : Int) ∧ (0 : Int) < (↑(flL w P).length : Int)) then
 bif (flL w P).length.beq (flL w P).length && true then
 bif (flL w P).length.beq (flL w P).length then
 bif decide (((flL w P).getD (Int.toNat (0 : Int)) w0).flo ≤ x - x_2) then
 bif decide (x - x_2 ≤ ((flL w P).getD (Int.toNat (0 : Int)) w0).fhi) then
 bif inK IntKind.i64 (((flL w P).getD (Int.toNat (0 : Int)) w0).wlo * (1 : Int)) then
 bif decide (((flL w P).getD (Int.toNat (0 : Int)) w0).wlo * (1 : Int) ≤ x_1) then
 bif inK IntKind.i64 (((flL w P).getD (Int.toNat (0 : Int)) w0).whi * (1 : Int)) then
 bif decide (x_1 ≤ ((flL w P).getD (Int.toNat (0 : Int)) w0).whi * (1 : Int)) then
 bif decide (((flL w P).getD (Int.toNat (0 : Int)) w0).flo ≥ (1 : Int)) then
 Q (VRes.ret (VV.bool true))
 else Q (VRes.ret (VV.bool false))
 else Q (VRes.ret (VV.bool false))
 else False
 else Q (VRes.ret (VV.bool false))
 else False
 else Q (VRes.ret (VV.bool false))
 else Q (VRes.ret (VV.bool false))
 else False
 else False
 else False
 else False
 else bif decide (p.k = (2 : Int)) then
 bif inK IntKind.i64 (x * x_1) then
 (((0 : Int) ≤ c ∧ c ≤ (4294967295 : Int)) ∧ (-4611686018427387904 : Int) ≤ p.hlo ∧ p.hlo ≤ p.hhi ∧ p.hhi ≤ (4611686018427387902 : Int)) ∧ ∀ (x_2 : Int), p.hlo ≤ x_2 ∧ x_2 ≤ p.hhi → bif inK IntKind.i64 (x * x_1 + x_2) then
 bif decide ((0 : Int) ≤ (0 : Int) ∧ (0 : Int) < (↑(flL w P).length : Int)) then
 bif (flL w P).length.beq (flL w P).length && true then
 bif (flL w P).length.beq (flL w P).length then
 bif decide (((flL w P).getD (Int.toNat (0 : Int)) w0).flo ≤ x) then
 bif decide (x ≤ ((flL w P).getD (Int.toNat (0 : Int)) w0).fhi) then
 bif inK IntKind.i64 (((flL w P).getD (Int.toNat (0 : Int)) w0).wlo * x) then
 bif decide (((flL w P).getD (Int.toNat (0 : Int)) w0).wlo * x ≤ x * x_1 + x_2) then
 bif inK IntKind.i64 (((flL w P).getD (Int.toNat (0 : Int)) w0).whi * x) then
 bif decide (x * x_1 + x_2 ≤ ((flL w P).getD (Int.toNat (0 : Int)) w0).whi * x) then
 bif decide (((flL w P).getD (Int.toNat (0 : Int)) w0).flo ≥ (1 : Int)) then
 Q (VRes.ret (VV.bool true))
 else Q (VRes.ret (VV.bool false))
 else Q (VRes.ret (VV.bool false))
 else False
 else Q (VRes.ret (VV.bool false))
 else False
 else Q (VRes.ret (VV.bool false))
 else Q (VRes.ret (VV.bool false))
 else False
 else False
 else False
 else False
 else False
 else bif decide (p.k = (3 : Int)) then
 (((0 : Int) ≤ c ∧ c ≤ (4294967295 : Int)) ∧ (-4611686018427387904 : Int) ≤ p.wlo ∧ p.wlo ≤ p.whi ∧ p.whi ≤ (4611686018427387902 : Int)) ∧ ∀ (x_2 : Int), p.wlo ≤ x_2 ∧ x_2 ≤ p.whi → (((0 : Int) ≤ d ∧ d ≤ (4294967295 : Int)) ∧ (-4611686018427387904 : Int) ≤ p.slo ∧ p.slo ≤ p.shi ∧ p.shi ≤ (4611686018427387902 : Int)) ∧ ∀ (x_3 : Int), p.slo ≤ x_3 ∧ x_3 ≤ p.shi → bif inK IntKind.i64 ((10000 : Int) * x_1) then
 bif inK IntKind.i64 (x_1 - x_2) then
 bif inK IntKind.i64 (x_3 * (x_1 - x_2)) then
 bif inK IntKind.i64 ((10000 : Int) * x_1 - x_3 * (x_1 - x_2)) then
 bif decide ((0 : Int) ≤ (0 : Int) ∧ (0 : Int) < (↑(flL w P).length : Int)) then
 bif (flL w P).length.beq (flL w P).length && true then
 bif (flL w P).length.beq (flL w P).length then
 bif decide (((flL w P).getD (Int.toNat (0 : Int)) w0).flo ≤ x) then
 bif decide (x ≤ ((flL w P).getD (Int.toNat (0 : Int)) w0).fhi) then
 bif inK IntKind.i64 (((flL w P).getD (Int.toNat (0 : Int)) w0).wlo * (10000 : Int)) then
 bif decide (((flL w P).getD (Int.toNat (0 : Int)) w0).wlo * (10000 : Int) ≤ (10000 : Int) * x_1 - x_3 * (x_1 - x_2)) then
 bif inK IntKind.i64 (((flL w P).getD (Int.toNat (0 : Int)) w0).whi * (10000 : Int)) then
 bif decide ((10000 : Int) * x_1 - x_3 * (x_1 - x_2) ≤ ((flL w P).getD (Int.toNat (0 : Int)) w0).whi * (10000 : Int)) then
 bif decide (((flL w P).getD (Int.toNat (0 : Int)) w0).flo ≥ (1 : Int)) then
 Q (VRes.ret (VV.bool true))
 else Q (VRes.ret (VV.bool false))
 else Q (VRes.ret (VV.bool false))
 else False
 else Q (VRes.ret (VV.bool false))
 else False
 else Q (VRes.ret (VV.bool false))
 else Q (VRes.ret (VV.bool false))
 else False
 else False
 else False
 else False
 else False
 else False
 else False
 else bif decide ((0 : Int) ≤ (0 : Int) ∧ (0 : Int) < (↑(flL w P).length : Int)) then
 bif (flL w P).length.beq (flL w P).length && true then
 bif (flL w P).length.beq (flL w P).length then
 bif decide (((flL w P).getD (Int.toNat (0 : Int)) w0).flo ≤ x) then
 bif decide (x ≤ ((flL w P).getD (Int.toNat (0 : Int)) w0).fhi) then
 bif inK IntKind.i64 (((flL w P).getD (Int.toNat (0 : Int)) w0).wlo * (1 : Int)) then
 bif decide (((flL w P).getD (Int.toNat (0 : Int)) w0).wlo * (1 : Int) ≤ x_1) then
 bif inK IntKind.i64 (((flL w P).getD (Int.toNat (0 : Int)) w0).whi * (1 : Int)) then
 bif decide (x_1 ≤ ((flL w P).getD (Int.toNat (0 : Int)) w0).whi * (1 : Int)) then
 bif decide (((flL w P).getD (Int.toNat (0 : Int)) w0).flo ≥ (1 : Int)) then
 Q (VRes.ret (VV.bool true))
 else Q (VRes.ret (VV.bool false))
 else Q (VRes.ret (VV.bool false))
 else False
 else Q (VRes.ret (VV.bool false))
 else False
 else Q (VRes.ret (VV.bool false))
 else Q (VRes.ret (VV.bool false))
 else False
 else False
 else False) := by kernel_rfl


end Go.Sx.Str

/- stream: the law StreamStep. -/

namespace Go.Sx.Str
open Go Go.Sx Go.Proofs
set_option maxRecDepth 100000

theorem pkT_ok : SpOk Try.prog pkT.1 pkT.2 := by
  intro lock args h K hK
  simp only [pkT] at hK
  split at hK
  · rename_i lo hi u
    obtain ⟨⟨hu, hl⟩, hK⟩ := hK
    have hr : 0 ≤ remZ u (hi - lo + 1) ∧ remZ u (hi - lo + 1) < hi - lo + 1 := by
      rw [remZ_nn hu.1]
      exact ⟨Int.emod_nonneg _ (by omega), Int.emod_lt_of_pos _ (by omega)⟩
    obtain ⟨r, h', hQ, hc⟩ := of_callN good0 (f := 25) (args := [.agg [I lo, I hi], .int .u32 u]) (h := ⟨0, []⟩) (K := fun r _ => r = .ret (I (lo + remZ u (hi - lo + 1))))
      (by
        refine cast (pk_ev lo hi u _).symm ?_
        exact cond_r (by omega) (cond_r (by omega) (cond_r (by omega) (cond_d (fun h => by omega) (fun _ => cond_r (by omega) rfl)))))
    subst hQ
    exact ⟨_, h, hK _ ⟨by omega, by omega⟩, lockP_refl _ _, lift0 hc rfl rfl⟩
  · exact hK.elim

theorem tL6_ok : ∀ x ∈ tL6, SpOk Try.prog x.1 x.2 := by
  intro x hx
  simp only [tL6, List.mem_cons, List.not_mem_nil, or_false] at hx
  rcases hx with rfl | rfl | rfl | rfl | rfl
  · exact awT_ok
  · exact fl13_ok
  · exact waT_ok wa23_v
  · exact ptT_ok
  · exact pkT_ok

/-- Of one point. -/
theorem fl_one {w : Wt} {p : Pt} (h : flE w [p] = 0) : WOk w ∧ ptB p = true ∧ errW (stepW w p) = 0 ∧ flL w [p] = [stepW w p] ∧ flI w [p] = 1 := by
  obtain ⟨h1, h2, h3⟩ := flE_len h
  have hl : flL w [p] = [stepW w p] := by rw [flL_0 h]; rfl
  have hb : ptB p = true := by
    cases hb : ptB p
    · rw [rE_bad hb] at h3; exact absurd h3 (by decide)
    · rfl
  have he : errW (stepW w p) = 0 := by
    by_cases he : errW (stepW w p) = 0
    · exact he
    · rw [rE_err hb he] at h3; exact (he h3).elim
  refine ⟨watB_iff.1 h2, hb, he, hl, ?_⟩
  obtain ⟨_, e2, _⟩ := flE_o (f := w) (P := [p]) h2 (show ¬ ((1 : Nat) : Int) > 64 by omega)
  rw [e2, rI_end _ _ _ h3]
  rfl

theorem fl_bad {w : Wt} {p : Pt} (h : flE w [p] ≠ 0) : flI w [p] = 0 := by
  cases hw : watB w
  · exact (flE_w hw).2.1
  · obtain ⟨e1, e2, _⟩ := flE_o (f := w) (P := [p]) hw (show ¬ ((1 : Nat) : Int) > 64 by omega)
    rw [e1] at h
    rw [e2]
    simp only [rI]
    cases hb : ptB p
    · rfl
    · by_cases he : errW (stepW w p) = 0
      · rw [rE_pos hb he] at h; exact (h rfl).elim
      · rw [decide_eq_false he]; rfl

theorem le_mul2 {a b F : Int} (h : a ≤ b) (hF : 0 ≤ F) : a * F ≤ b * F := Int.mul_le_mul_of_nonneg_right h hF

/-- Products of what is known. -/
theorem prod_in {a F : Int} (ha : 0 ≤ a ∧ a ≤ 100000) (hF : 0 ≤ F ∧ F ≤ 4294967296) : 0 ≤ a * F ∧ a * F ≤ 429496729600000 := mul_in ha hF

theorem join_true {w : Wt} {p : Pt} {F t G u : Int} (hw : WOk w) (f : 1 ≤ p.flo ∧ p.flo ≤ p.fhi) (v : 0 ≤ p.wlo ∧ p.wlo ≤ p.whi) (hF : w.flo ≤ F ∧ F ≤ w.fhi) (hG : p.flo ≤ G ∧ G ≤ p.fhi) (ht : w.wlo ≤ t ∧ t ≤ w.whi) (hu : p.wlo ≤ u ∧ u ≤ p.whi) :
    (joinW w p).wlo * (F + G) ≤ F * t + G * u ∧ F * t + G * u ≤ (joinW w p).whi * (F + G) := by
  have a1 := join_lo (p := p) hw f v.1 hF hG
  have a2 := join_hi (p := p) hw f (by omega) hF hG
  have hf := hw.f
  have b1 := le_mul2 ht.1 (show 0 ≤ F by omega)
  have b2 := le_mul2 ht.2 (show 0 ≤ F by omega)
  have b3 := le_mul2 hu.1 (show 0 ≤ G by omega)
  have b4 := le_mul2 hu.2 (show 0 ≤ G by omega)
  rw [Int.mul_comm F t, Int.mul_comm G u]
  omega

theorem add_true {w : Wt} {p : Pt} {F t H : Int} (hw : WOk w) (h : 0 ≤ p.hlo ∧ p.hlo ≤ p.hhi) (hF : w.flo ≤ F ∧ F ≤ w.fhi) (hH : p.hlo ≤ H ∧ H ≤ p.hhi) (ht : w.wlo ≤ t ∧ t ≤ w.whi) :
    (addW w p).wlo * F ≤ F * t + H ∧ F * t + H ≤ (addW w p).whi * F := by
  have hf := hw.f
  have q1 : quoZ p.hlo w.fhi * F ≤ p.hlo := by
    rw [quoZ_nn h.1]
    have := Int.ediv_mul_le p.hlo (show w.fhi ≠ 0 by omega)
    have := Int.mul_le_mul_of_nonneg_left hF.2 (Int.ediv_nonneg h.1 (show 0 ≤ w.fhi by omega))
    omega
  have q2 : p.hhi ≤ quoZ (p.hhi + w.flo - 1) w.flo * F := by
    rw [quoZ_nn (by omega)]
    have h0 : 0 ≤ (p.hhi + w.flo - 1) / w.flo := Int.ediv_nonneg (by omega) (by omega)
    have h1 := Int.lt_ediv_add_one_mul_self (p.hhi + w.flo - 1) (show 0 < w.flo by omega)
    rw [Int.add_mul, Int.one_mul] at h1
    have := Int.mul_le_mul_of_nonneg_left hF.1 h0
    omega
  have b1 := le_mul2 ht.1 (show 0 ≤ F by omega)
  have b2 := le_mul2 ht.2 (show 0 ≤ F by omega)
  show (w.wlo + quoZ p.hlo w.fhi) * F ≤ F * t + H ∧ F * t + H ≤ (w.whi + quoZ (p.hhi + w.flo - 1) w.flo) * F
  rw [Int.add_mul, Int.add_mul, Int.mul_comm F t]
  omega

theorem air_true {w : Wt} {p : Pt} {t u S : Int} (hw : WOk w) (v : 0 ≤ p.wlo ∧ p.wlo ≤ p.whi) (s : 0 ≤ p.slo ∧ p.slo ≤ p.shi ∧ p.shi ≤ 10000) (hS : p.slo ≤ S ∧ S ≤ p.shi) (ht : w.wlo ≤ t ∧ t ≤ w.whi) (hu : p.wlo ≤ u ∧ u ≤ p.whi) :
    (airW w p).wlo * 10000 ≤ 10000 * t - S * (t - u) ∧ 10000 * t - S * (t - u) ≤ (airW w p).whi * 10000 := by
  have a1 := air_lo (p := p) hw v.1 s hS
  have a2 := air_hi (p := p) hw (by omega) s hS
  have b1 := le_mul2 ht.1 (show 0 ≤ 10000 - S by omega)
  have b2 := le_mul2 ht.2 (show 0 ≤ 10000 - S by omega)
  have b3 := le_mul2 hu.1 (show 0 ≤ S by omega)
  have b4 := le_mul2 hu.2 (show 0 ≤ S by omega)
  have e : 10000 * t - S * (t - u) = t * (10000 - S) + u * S := by
    rw [Int.mul_sub, Int.mul_sub, Int.mul_comm S t, Int.mul_comm S u]
    omega
  rw [e]
  omega

theorem law6_v (w : Wt) (p : Pt) {a b c d : Int} (ha : 0 ≤ a ∧ a ≤ 4294967295) (hb : 0 ≤ b ∧ b ≤ 4294967295) (hc : 0 ≤ c ∧ c ≤ 4294967295) (hd : 0 ≤ d ∧ d ≤ 4294967295) :
    ∃ h', CallsV Try.prog 6 [.agg (wtL w), .agg (ptL p), .agg [.int .u32 a, .int .u32 b, .int .u32 c, .int .u32 d]] ⟨0, []⟩ (.ret (.bool true)) h' := by
  obtain ⟨r, h', hQ, hcc⟩ := of_callN (tab_good hmix tL6_ok 20) (un := 10) (f := 6) (args := [.agg (wtL w), .agg (ptL p), .agg [.int .u32 a, .int .u32 b, .int .u32 c, .int .u32 d]]) (h := ⟨0, []⟩) (K := fun r _ => r = .ret (.bool true))
    (by
      refine cast (law6_ev w p a b c d _).symm ?_
      refine ⟨[p], ⟨rfl, _, _, rfl, fun j hj => ?_⟩, cond_nd (fun h0 => ?_) (fun h0 => ?_)⟩
      · match j, hj with
        | 0, _ => rfl
      · rw [flL_1 h0, fl_bad h0]
        exact cond_dk rfl (cond_dk rfl rfl)
      · obtain ⟨hw, hp, he, hl, hi⟩ := fl_one h0
        rw [hl, hi, watB_iff.2 hw, hp]
        have hw' := step_ok hw (ptB_iff.1 hp) he
        obtain ⟨f1, f2, f3⟩ := hw.f
        obtain ⟨v1, v2, v3⟩ := hw.w
        obtain ⟨g1, g2, g3⟩ := hw'.f
        obtain ⟨y1, y2, y3⟩ := hw'.w
        have fin : ∀ {fl A B : Int} , (stepW w p).flo ≤ fl → fl ≤ (stepW w p).fhi → (0 ≤ B ∧ B ≤ 4294967296) → (stepW w p).wlo * B ≤ A → A ≤ (stepW w p).whi * B →
            (bif decide ((0 : Int) ≤ (0 : Int) ∧ (0 : Int) < (([stepW w p].length : Nat) : Int)) then
            bif [stepW w p].length.beq [stepW w p].length && true then
            bif [stepW w p].length.beq [stepW w p].length then
            bif decide (([stepW w p].getD (Int.toNat (0 : Int)) w0).flo ≤ fl) then
            bif decide (fl ≤ ([stepW w p].getD (Int.toNat (0 : Int)) w0).fhi) then
            bif inK IntKind.i64 (([stepW w p].getD (Int.toNat (0 : Int)) w0).wlo * B) then
            bif decide (([stepW w p].getD (Int.toNat (0 : Int)) w0).wlo * B ≤ A) then
            bif inK IntKind.i64 (([stepW w p].getD (Int.toNat (0 : Int)) w0).whi * B) then
            bif decide (A ≤ ([stepW w p].getD (Int.toNat (0 : Int)) w0).whi * B) then
            bif decide (([stepW w p].getD (Int.toNat (0 : Int)) w0).flo ≥ (1 : Int)) then
            (VRes.ret (VV.bool true)) = VRes.ret (.bool true)
            else (VRes.ret (VV.bool false)) = VRes.ret (.bool true)
            else (VRes.ret (VV.bool false)) = VRes.ret (.bool true)
            else False
            else (VRes.ret (VV.bool false)) = VRes.ret (.bool true)
            else False
            else (VRes.ret (VV.bool false)) = VRes.ret (.bool true)
            else (VRes.ret (VV.bool false)) = VRes.ret (.bool true)
            else False
            else False
            else False) := fun {fl A B} k1 k2 k3 k4 k5 => by
          have m1 := prod_in (a := (stepW w p).wlo) (F := B) ⟨by omega, by omega⟩ k3
          have m2 := prod_in (a := (stepW w p).whi) (F := B) ⟨by omega, by omega⟩ k3
          refine cond_dk ⟨Int.le_refl 0, by show (0 : Int) < 1; decide⟩ (cond_k rfl (cond_k rfl ?_))
          show (bif decide ((stepW w p).flo ≤ fl) then
            bif decide (fl ≤ (stepW w p).fhi) then
            bif inK IntKind.i64 ((stepW w p).wlo * B) then
            bif decide ((stepW w p).wlo * B ≤ A) then
            bif inK IntKind.i64 ((stepW w p).whi * B) then
            bif decide (A ≤ (stepW w p).whi * B) then
            bif decide ((stepW w p).flo ≥ (1 : Int)) then _ else _ else _ else _ else _ else _ else _ else _ : Prop)
          exact cond_dk k1 (cond_dk k2 (cond_r (by omega) (cond_dk k4 (cond_r (by omega) (cond_dk k5 (cond_dk g1 rfl))))))
        refine cond_f rfl (cond_f rfl (cond_f rfl (cond_f rfl ?_)))
        refine ⟨⟨ha, by omega, f2, by omega⟩, fun F hF => ⟨⟨hb, by omega, v2, by omega⟩, fun t ht => ?_⟩⟩
        rcases ptB_iff.1 hp with ⟨k, f, v⟩ | ⟨k, f⟩ | ⟨k, h⟩ | ⟨k, v, s⟩
        · refine cond_dk k ⟨⟨hc, by omega, f.2.1, by omega⟩, fun G hG => ⟨⟨hd, by omega, v.2.1, by omega⟩, fun u hu => ?_⟩⟩
          obtain ⟨j1, j2⟩ := join_true hw ⟨f.1, f.2.1⟩ ⟨v.1, v.2.1⟩ hF hG ht hu
          rw [step0 k] at *
          have e1 : (joinW w p).flo = w.flo + p.flo := rfl
          have e2 : (joinW w p).fhi = w.fhi + p.fhi := rfl
          have p1 := mul_in (a := F) (b := t) (A := 1073741824) (B := 100000) ⟨by omega, by omega⟩ ⟨by omega, by omega⟩
          have p2 := mul_in (a := G) (b := u) (A := 1073741824) (B := 100000) ⟨by omega, by omega⟩ ⟨by omega, by omega⟩
          exact cond_r (by omega) (cond_r (by omega) (cond_r (by omega) (cond_r (by omega) (cond_r (by omega) (fin (by omega) (by omega) ⟨by omega, by omega⟩ j1 j2)))))
        · refine cond_d (fun h => by omega) (fun _ => cond_dk k ⟨⟨hc, by omega, f.2.1, by omega⟩, fun G hG => ?_⟩)
          rw [step1 k] at *
          have e1 : (drawW w p).flo = w.flo - p.fhi := rfl
          have e2 : (drawW w p).fhi = w.fhi - p.flo := rfl
          have e3 : (drawW w p).wlo = w.wlo := rfl
          have e4 : (drawW w p).whi = w.whi := rfl
          exact cond_r (by omega) (fin (by omega) (by omega) ⟨by omega, by omega⟩ (by omega) (by omega))
        · have p1 := mul_in (a := F) (b := t) (A := 1073741824) (B := 100000) ⟨by omega, by omega⟩ ⟨by omega, by omega⟩
          refine cond_d (fun h => by omega) (fun _ => cond_d (fun h => by omega) (fun _ => cond_dk k (cond_r (by omega) ⟨⟨hc, by omega, h.2.1, by omega⟩, fun H hH => ?_⟩)))
          obtain ⟨j1, j2⟩ := add_true hw ⟨h.1, h.2.1⟩ hF hH ht
          rw [step2 k] at *
          have e1 : (addW w p).flo = w.flo := rfl
          have e2 : (addW w p).fhi = w.fhi := rfl
          exact cond_r (by omega) (fin (by omega) (by omega) ⟨by omega, by omega⟩ j1 j2)
        · refine cond_d (fun h => by omega) (fun _ => cond_d (fun h => by omega) (fun _ => cond_d (fun h => by omega) (fun _ => cond_dk k ⟨⟨hc, by omega, v.2.1, by omega⟩, fun u hu => ⟨⟨hd, by omega, s.2.1, by omega⟩, fun S hS => ?_⟩⟩)))
          obtain ⟨j1, j2⟩ := air_true hw ⟨v.1, v.2.1⟩ s hS ht hu
          rw [step3 k] at *
          have e1 : (airW w p).flo = w.flo := rfl
          have e2 : (airW w p).fhi = w.fhi := rfl
          have p1 := prod_in (a := (airW w p).wlo) (F := 10000) ⟨by omega, by omega⟩ (by decide)
          have p2 := prod_in (a := (airW w p).whi) (F := 10000) ⟨by omega, by omega⟩ (by decide)
          exact cond_r (by omega) (cond_r (by omega) (cond_r (by omega) (cond_r (by omega) (fin (by omega) (by omega) (by decide) j1 j2)))))
  subst hQ
  exact ⟨h', hcc⟩
end Go.Sx.Str

/- stream: numbers of the machine, read. -/

namespace Go.Sx.Str
open Go Go.Sx Go.Proofs Go.ChangeShapes Go.WideShapes Go.RowKit
set_option maxRecDepth 100000

theorem und48 : Try.prog.underlying 48 = some (.int .u32) := by kernel_rfl
theorem und49 : Try.prog.underlying 49 = some (.array 4 48) := by kernel_rfl
theorem cells48 : Try.prog.cellsOf 48 = 1 := by kernel_rfl
theorem cells49 : Try.prog.cellsOf 49 = 4 := by kernel_rfl

theorem wf_u32 {n : Int} (h : (Lit.int .u32 n).wf = true) : 0 ≤ n ∧ n ≤ 4294967295 := by
  have h' : (decide ((0 : Int) ≤ n) && decide (n ≤ 4294967295)) = true := h
  simpa using h'

section
variable {H : Type} {enc : TypeId × Value → H} {W : World} {base : Nat} {spare : Nat → Bool} {held : Bool} {r : Go.Reach} {b0 : Nat} {v : Value} {d : DataW H} {ps : List MemPlace}

theorem read_four (hval : Value.okWide Try.prog W r b0 49 v) (hd : DataW.Trod enc Try.prog W base spare held 49 v d ps) :
    ∃ a b c e : Int, (0 ≤ a ∧ a ≤ 4294967295) ∧ (0 ≤ b ∧ b ≤ 4294967295) ∧ (0 ≤ c ∧ c ≤ 4294967295) ∧ (0 ≤ e ∧ e ≤ 4294967295) ∧ ∀ R, VRel R (.agg [.int .u32 a, .int .u32 b, .int .u32 c, .int .u32 e]) v := by
  unfold Value.okWide at hval
  rw [und49] at hval
  obtain ⟨cs, rfl, hsz, _⟩ := hval
  obtain ⟨fuel, hf⟩ := hd
  obtain ⟨xs, m, _, _, hl, hx, hg⟩ := DataW.trod_array und49 hf
  rw [cells49] at hsz hl
  rw [cells48] at hg
  have hc : (Value.agg cs).cells.toList = cs.toList := rfl
  rw [hc] at hg hl
  have key : ∀ i, i < 4 → ∃ n : Int, cs.toList[i]? = some (.int .u32 n) ∧ 0 ≤ n ∧ n ≤ 4294967295 := fun i hi => by
    have h1 := hg i hi
    have hi2 : i < cs.toList.length := by omega
    rw [List.drop_eq_getElem_cons (show i * 1 < cs.toList.length by omega), List.take_succ_cons, List.take_zero] at h1
    obtain ⟨y, hy⟩ : ∃ y, xs[i]? = some y := ⟨xs[i], List.getElem?_eq_getElem (by omega)⟩
    rw [hy] at h1
    obtain ⟨n, hn, hw⟩ := leaf_int und48 h1
    refine ⟨n, ?_, wf_u32 hw⟩
    simp only [Nat.mul_one] at hn
    rw [List.getElem?_eq_getElem hi2, hn]
  obtain ⟨a, ha, ha'⟩ := key 0 (by decide)
  obtain ⟨b, hb, hb'⟩ := key 1 (by decide)
  obtain ⟨c, hc2, hc'⟩ := key 2 (by decide)
  obtain ⟨e, he, he'⟩ := key 3 (by decide)
  refine ⟨a, b, c, e, ha', hb', hc', he', fun R => ⟨[.int .u32 a, .int .u32 b, .int .u32 c, .int .u32 e], ⟨_, _, rfl, ⟨_, _, rfl, ⟨_, _, rfl, ⟨_, _, rfl, rfl, rfl⟩, rfl⟩, rfl⟩, rfl⟩, ?_⟩⟩
  congr 1
  apply Array.ext'
  refine List.ext_getElem? fun i => ?_
  match i with
  | 0 => rw [ha]; rfl
  | 1 => rw [hb]; rfl
  | 2 => rw [hc2]; rfl
  | 3 => rw [he]; rfl
  | i + 4 => rw [List.getElem?_eq_none (by omega)]; rfl
end
end Go.Sx.Str
