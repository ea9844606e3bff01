/- malt: MaltNarrows, where the list is nil; the row. -/
import Derived.Test.YtdfbhoejljidfaaMn2

namespace Go.Sx.Malt
open Go Go.Sx Go.Proofs
set_option maxRecDepth 100000

set_option maxHeartbeats 4000000 in
theorem law3n_v {by1 cut : Int} (hby : 0 ≤ by1 ∧ by1 ≤ 4294967295) (hcut : 0 ≤ cut ∧ cut ≤ 255) (a b c d e f : Int) :
    ∃ h', CallsV Try.prog 5 [.agg [I a, I b, I c, I d, I e, I f], .nils, .int .u32 by1, .int .u8 cut] ⟨0, []⟩ (.ret (.bool true)) h' := by
  obtain ⟨r, h', h1, h2⟩ := of_callN (tab_good hmix (n3T_ok (fun _ _ => True) (fun _ => 0) (fun _ => 0) (fun _ => 0)) 20) (f := 5) (h := ⟨0, []⟩) (args := [.agg [I a, I b, I c, I d, I e, I f], .nils, .int .u32 by1, .int .u8 cut]) (K := boQ (fun b => b = true))
    (by
      rw [law3n_ev]
      by_cases he : (plF (fun _ => 0) (fun _ => 0) (fun _ => 0) 0 0 a b c d e f).2.2 = 0
      · obtain ⟨hB, hn2, _⟩ := pl_ok he
        refine cond_nd (fun h => absurd he h) (fun _ => ?_)
        have hr : remZ cut ((0 : Int) + (1 : Int)) = 0 := by
          rw [remZ_nn hcut.1]
          omega
        obtain ⟨w, z, x, hF, hF2, hF3, hoff, hw, hz, hx⟩ := nar_parts (k := 0) he (Nat.le_refl 0)
        have hwz : w = z := by
          have := hF.symm.trans hF2
          simp only [Prod.mk.injEq] at this
          exact this.1
        subst hwz
        obtain ⟨⟨g1, g2, g3⟩, ⟨g4, g5, g6⟩, ⟨g7, g8, g9⟩⟩ := mB_of hB
        have k1 := pk_in (z := by1) g2
        have k2 := pk_in (z := by1) g5
        have hy := nar_less he k1 k2
        have hF3' : plF (fun _ => 0) (fun _ => 0) (fun _ => 0) (0 : Int) 0 (w, ((0 : Nat) : Int), (0 : Int)).fst.dl (w, ((0 : Nat) : Int), (0 : Int)).fst.dh (w, ((0 : Nat) : Int), (0 : Int)).fst.wl (w, ((0 : Nat) : Int), (0 : Int)).fst.wh (w, ((0 : Nat) : Int), (0 : Int)).fst.pl (w, ((0 : Nat) : Int), (0 : Int)).fst.ph = (x, ((0 : Nat) : Int), 0) := hF3
        rw [hr, hF, hF3', hB]
        rw [hF] at hy
        generalize plF (fun _ => 0) (fun _ => 0) (fun _ => 0) 0 0 (pk a b by1) b c (pk c d by1) e f = y at *
        have p1 : PkOk a b by1 ∧ a ≤ b := ⟨⟨hby, ⟨by omega, by omega⟩, ⟨by omega, by omega⟩⟩, g2⟩
        have p2 : PkOk c d by1 ∧ c ≤ d := ⟨⟨hby, ⟨by omega, by omega⟩, ⟨by omega, by omega⟩⟩, g5⟩
        refine cond_i (fun h => by cases h) (fun _ => ⟨p1, p2, ?_⟩)
        clear hF hF2 hF3 hF3' he
        simp only [Off, VOk, Sub] at hoff hw hz hx hy
        obtain ⟨o1, o2, o3, o4, o5, o6, o7⟩ := hoff
        obtain ⟨_, _, _, w4, w5, w6, w7⟩ := hw
        dsimp only
        rcases hy with ⟨y0, y1, y2, y3, y4, y5, y6, y7⟩ | y0
        · repeat' first
            | refine cond_r (by omega) ?_
            | (refine cond_d (fun _ => ?_) (fun _ => ?_) <;> try (exfalso; omega))
            | (refine cond_nd (fun _ => ?_) (fun _ => ?_) <;> try (exfalso; omega))
            | refine cond_i (fun h => by exfalso; simp only [Bool.not_eq_true', Bool.and_true, Bool.and_eq_false_iff, decide_eq_false_iff_not] at h; omega) (fun _ => ?_)
          all_goals trivial
        · repeat' first
            | refine cond_r (by omega) ?_
            | (refine cond_d (fun _ => ?_) (fun _ => ?_) <;> try (exfalso; omega))
            | (refine cond_nd (fun _ => ?_) (fun _ => ?_) <;> try (exfalso; omega))
            | refine cond_i (fun h => by exfalso; simp only [Bool.not_eq_true', Bool.and_true, Bool.and_eq_false_iff, decide_eq_false_iff_not] at h; omega) (fun _ => ?_)
          all_goals trivial
      · exact cond_nd (fun _ => rfl) (fun h => absurd h he))
  have := boQ_true h1 (fun _ h => h)
  subst this
  exact ⟨h', h2⟩
end Go.Sx.Malt
