/- stream: Kf1 Kf2 Kf3, in one text. -/
import Derived.Test.YtjpjicnfpikdlaaKF
import Derived.Test.YtjpjicnfpikdlaaSxX
import Derived.Test.YtjpjicnfpikdlaaRows
/- stream: the laws StreamFlows and StreamRooms, evaluated. -/

namespace Go.Sx.Str
open Go Go.Sx Go.Proofs
set_option maxRecDepth 100000

def tL3 : List (FuncId × Spec1) := [awT, flT 13, flT 14, wmT 15, wmT 16, saT, inT18]
def tL4 : List (FuncId × Spec1) := [awT, rmT 19, rmT 20]
theorem law3_ev (P : List Pt) (cap : Nat) (w : Wt) (lim : Int) (Q : VRes → Prop) : callN Try.prog (tabS tL3) noL 10 20 0 (.fn 3) [.agg (wtL w), .slice (.el 0 [] 0 0) P.length cap, I lim] ⟨1, [(0, ptsA P.length (pF P))]⟩ (fun r _ => Q r) =
  (bif decide ((↑P.length : Int) > (30 : Int)) then
 bif decide ((↑P.length : Int) ≤ (64 : Int)) then
 Q (VRes.ret (VV.bool true))
 else bif decide ((↑P.length : Int) > (70 : Int)) then
 Q (VRes.ret (VV.bool true))
 else ∃ P_1, isList (VH.mk (2) [(1, VB.cells (wtL w) 25), (0, ptsA P.length (pF P))]) (VV.slice (VA.el 0 [] (0 : Int) 0) P.length cap) P_1.length 9 (pG P_1) ∧ ∃ P_2, isList (VH.mk (2 + 1) [(2, vecW (flL w P_1)), (1, VB.cells (wtL w) 25), (0, ptsA P.length (pF P))]) (VV.slice (VA.el 0 [] (0 : Int) 0) P.length cap) P_2.length 9 (pG P_2) ∧ ∃ P_3, isList (VH.mk (2 + 1 + 1) [(2 + 1, vecW (flL w P_2)), (2, vecW (flL w P_1)), (1, VB.cells (wtL w) 25), (0, ptsA P.length (pF P))]) (VV.slice (VA.el 0 [] (0 : Int) 0) P.length cap) P_3.length 9 (pG P_3) ∧ ∃ P_4, isList (VH.mk (2 + 1 + 1 + 2) [(2 + 1 + 1 + 1, vecI (wmP w P_3 lim)), (2 + 1 + 1, vecI (wmS w P_3 lim)), (2 + 1, vecW (flL w P_2)), (2, vecW (flL w P_1)), (1, VB.cells (wtL w) 25), (0, ptsA P.length (pF P))]) (VV.slice (VA.el 0 [] (0 : Int) 0) P.length cap) P_4.length 9 (pG P_4) ∧ ∃ xs, (isList (VH.mk (2 + 1 + 1 + 2 + 2) [(2 + 1 + 1 + 2 + 1, vecI (wmP w P_4 lim)), (2 + 1 + 1 + 2, vecI (wmS w P_4 lim)), (2 + 1 + 1 + 1, vecI (wmP w P_3 lim)), (2 + 1 + 1, vecI (wmS w P_3 lim)), (2 + 1, vecW (flL w P_2)), (2, vecW (flL w P_1)), (1, VB.cells (wtL w) 25), (0, ptsA P.length (pF P))]) (VV.sl (2) (flL w P_1).length) xs.length 4 (wG xs) ∧ isList (VH.mk (2 + 1 + 1 + 2 + 2) [(2 + 1 + 1 + 2 + 1, vecI (wmP w P_4 lim)), (2 + 1 + 1 + 2, vecI (wmS w P_4 lim)), (2 + 1 + 1 + 1, vecI (wmP w P_3 lim)), (2 + 1 + 1, vecI (wmS w P_3 lim)), (2 + 1, vecW (flL w P_2)), (2, vecW (flL w P_1)), (1, VB.cells (wtL w) 25), (0, ptsA P.length (pF P))]) (VV.sl (2 + 1) (flL w P_2).length) xs.length 4 (wG xs) ∧ xs.length ≤ 100000) ∧ bif decide (flI w P_1 = flI w P_2) then
 bif decide (flE w P_1 = flE w P_2) then
 ∃ xs, (isList (VH.mk (2 + 1 + 1 + 2 + 2) [(2 + 1 + 1 + 2 + 1, vecI (wmP w P_4 lim)), (2 + 1 + 1 + 2, vecI (wmS w P_4 lim)), (2 + 1 + 1 + 1, vecI (wmP w P_3 lim)), (2 + 1 + 1, vecI (wmS w P_3 lim)), (2 + 1, vecW (flL w P_2)), (2, vecW (flL w P_1)), (1, VB.cells (wtL w) 25), (0, ptsA P.length (pF P))]) (VV.sl (2 + 1 + 1) (wmS w P_3 lim).length) xs.length 1 (iG xs) ∧ isList (VH.mk (2 + 1 + 1 + 2 + 2) [(2 + 1 + 1 + 2 + 1, vecI (wmP w P_4 lim)), (2 + 1 + 1 + 2, vecI (wmS w P_4 lim)), (2 + 1 + 1 + 1, vecI (wmP w P_3 lim)), (2 + 1 + 1, vecI (wmS w P_3 lim)), (2 + 1, vecW (flL w P_2)), (2, vecW (flL w P_1)), (1, VB.cells (wtL w) 25), (0, ptsA P.length (pF P))]) (VV.sl (2 + 1 + 1 + 2) (wmS w P_4 lim).length) xs.length 1 (iG xs) ∧ xs.length ≤ 100000) ∧ ∃ xs, (isList (VH.mk (2 + 1 + 1 + 2 + 2) [(2 + 1 + 1 + 2 + 1, vecI (wmP w P_4 lim)), (2 + 1 + 1 + 2, vecI (wmS w P_4 lim)), (2 + 1 + 1 + 1, vecI (wmP w P_3 lim)), (2 + 1 + 1, vecI (wmS w P_3 lim)), (2 + 1, vecW (flL w P_2)), (2, vecW (flL w P_1)), (1, VB.cells (wtL w) 25), (0, ptsA P.length (pF P))]) (VV.sl (2 + 1 + 1 + 1) (wmP w P_3 lim).length) xs.length 1 (iG xs) ∧ isList (VH.mk (2 + 1 + 1 + 2 + 2) [(2 + 1 + 1 + 2 + 1, vecI (wmP w P_4 lim)), (2 + 1 + 1 + 2, vecI (wmS w P_4 lim)), (2 + 1 + 1 + 1, vecI (wmP w P_3 lim)), (2 + 1 + 1, vecI (wmS w P_3 lim)), (2 + 1, vecW (flL w P_2)), (2, vecW (flL w P_1)), (1, VB.cells (wtL w) 25), (0, ptsA P.length (pF P))]) (VV.sl (2 + 1 + 1 + 2 + 1) (wmP w P_4 lim).length) xs.length 1 (iG xs) ∧ xs.length ≤ 100000) ∧ bif decide (wmE w P_3 lim = wmE w P_4 lim) then
 Q (VRes.ret (VV.bool true))
 else Q (VRes.ret (VV.bool false))
 else Q (VRes.ret (VV.bool false))
 else Q (VRes.ret (VV.bool false))
 else bif decide ((↑P.length : Int) > (70 : Int)) then
 Q (VRes.ret (VV.bool true))
 else ∃ P_1, isList (VH.mk (2) [(1, VB.cells (wtL w) 25), (0, ptsA P.length (pF P))]) (VV.slice (VA.el 0 [] (0 : Int) 0) P.length cap) P_1.length 9 (pG P_1) ∧ ∃ P_2, isList (VH.mk (2 + 1) [(2, vecW (flL w P_1)), (1, VB.cells (wtL w) 25), (0, ptsA P.length (pF P))]) (VV.slice (VA.el 0 [] (0 : Int) 0) P.length cap) P_2.length 9 (pG P_2) ∧ ∃ P_3, isList (VH.mk (2 + 1 + 1) [(2 + 1, vecW (flL w P_2)), (2, vecW (flL w P_1)), (1, VB.cells (wtL w) 25), (0, ptsA P.length (pF P))]) (VV.slice (VA.el 0 [] (0 : Int) 0) P.length cap) P_3.length 9 (pG P_3) ∧ ∃ P_4, isList (VH.mk (2 + 1 + 1 + 2) [(2 + 1 + 1 + 1, vecI (wmP w P_3 lim)), (2 + 1 + 1, vecI (wmS w P_3 lim)), (2 + 1, vecW (flL w P_2)), (2, vecW (flL w P_1)), (1, VB.cells (wtL w) 25), (0, ptsA P.length (pF P))]) (VV.slice (VA.el 0 [] (0 : Int) 0) P.length cap) P_4.length 9 (pG P_4) ∧ ∃ xs, (isList (VH.mk (2 + 1 + 1 + 2 + 2) [(2 + 1 + 1 + 2 + 1, vecI (wmP w P_4 lim)), (2 + 1 + 1 + 2, vecI (wmS w P_4 lim)), (2 + 1 + 1 + 1, vecI (wmP w P_3 lim)), (2 + 1 + 1, vecI (wmS w P_3 lim)), (2 + 1, vecW (flL w P_2)), (2, vecW (flL w P_1)), (1, VB.cells (wtL w) 25), (0, ptsA P.length (pF P))]) (VV.sl (2) (flL w P_1).length) xs.length 4 (wG xs) ∧ isList (VH.mk (2 + 1 + 1 + 2 + 2) [(2 + 1 + 1 + 2 + 1, vecI (wmP w P_4 lim)), (2 + 1 + 1 + 2, vecI (wmS w P_4 lim)), (2 + 1 + 1 + 1, vecI (wmP w P_3 lim)), (2 + 1 + 1, vecI (wmS w P_3 lim)), (2 + 1, vecW (flL w P_2)), (2, vecW (flL w P_1)), (1, VB.cells (wtL w) 25), (0, ptsA P.length (pF P))]) (VV.sl (2 + 1) (flL w P_2).length) xs.length 4 (wG xs) ∧ xs.length ≤ 100000) ∧ bif decide (flI w P_1 = flI w P_2) then
 bif decide (flE w P_1 = flE w P_2) then
 ∃ xs, (isList (VH.mk (2 + 1 + 1 + 2 + 2) [(2 + 1 + 1 + 2 + 1, vecI (wmP w P_4 lim)), (2 + 1 + 1 + 2, vecI (wmS w P_4 lim)), (2 + 1 + 1 + 1, vecI (wmP w P_3 lim)), (2 + 1 + 1, vecI (wmS w P_3 lim)), (2 + 1, vecW (flL w P_2)), (2, vecW (flL w P_1)), (1, VB.cells (wtL w) 25), (0, ptsA P.length (pF P))]) (VV.sl (2 + 1 + 1) (wmS w P_3 lim).length) xs.length 1 (iG xs) ∧ isList (VH.mk (2 + 1 + 1 + 2 + 2) [(2 + 1 + 1 + 2 + 1, vecI (wmP w P_4 lim)), (2 + 1 + 1 + 2, vecI (wmS w P_4 lim)), (2 + 1 + 1 + 1, vecI (wmP w P_3 lim)), (2 + 1 + 1, vecI (wmS w P_3 lim)), (2 + 1, vecW (flL w P_2)), (2, vecW (flL w P_1)), (1, VB.cells (wtL w) 25), (0, ptsA P.length (pF P))]) (VV.sl (2 + 1 + 1 + 2) (wmS w P_4 lim).length) xs.length 1 (iG xs) ∧ xs.length ≤ 100000) ∧ ∃ xs, (isList (VH.mk (2 + 1 + 1 + 2 + 2) [(2 + 1 + 1 + 2 + 1, vecI (wmP w P_4 lim)), (2 + 1 + 1 + 2, vecI (wmS w P_4 lim)), (2 + 1 + 1 + 1, vecI (wmP w P_3 lim)), (2 + 1 + 1, vecI (wmS w P_3 lim)), (2 + 1, vecW (flL w P_2)), (2, vecW (flL w P_1)), (1, VB.cells (wtL w) 25), (0, ptsA P.length (pF P))]) (VV.sl (2 + 1 + 1 + 1) (wmP w P_3 lim).length) xs.length 1 (iG xs) ∧ isList (VH.mk (2 + 1 + 1 + 2 + 2) [(2 + 1 + 1 + 2 + 1, vecI (wmP w P_4 lim)), (2 + 1 + 1 + 2, vecI (wmS w P_4 lim)), (2 + 1 + 1 + 1, vecI (wmP w P_3 lim)), (2 + 1 + 1, vecI (wmS w P_3 lim)), (2 + 1, vecW (flL w P_2)), (2, vecW (flL w P_1)), (1, VB.cells (wtL w) 25), (0, ptsA P.length (pF P))]) (VV.sl (2 + 1 + 1 + 2 + 1) (wmP w P_4 lim).length) xs.length 1 (iG xs) ∧ xs.length ≤ 100000) ∧ bif decide (wmE w P_3 lim = wmE w P_4 lim) then
 Q (VRes.ret (VV.bool true))
 else Q (VRes.ret (VV.bool false))
 else Q (VRes.ret (VV.bool false))
 else Q (VRes.ret (VV.bool false))) := by kernel_rfl

theorem law4_ev (P : List Pt) (cap : Nat) (w : Wt) (at' lim : Int) (Q : VRes → Prop) : callN Try.prog (tabS tL4) noL 10 20 0 (.fn 4) [.agg (wtL w), .slice (.el 0 [] 0 0) P.length cap, I at', I lim] ⟨1, [(0, ptsA P.length (pF P))]⟩ (fun r _ => Q r) =
  (bif decide ((↑P.length : Int) > (30 : Int)) then
 bif decide ((↑P.length : Int) ≤ (64 : Int)) then
 Q (VRes.ret (VV.bool true))
 else bif decide ((↑P.length : Int) > (70 : Int)) then
 Q (VRes.ret (VV.bool true))
 else ∃ P_1, isList (VH.mk (2) [(1, VB.cells (wtL w) 25), (0, ptsA P.length (pF P))]) (VV.slice (VA.el 0 [] (0 : Int) 0) P.length cap) P_1.length 9 (pG P_1) ∧ ∃ P_2, isList (VH.mk (2) [(1, VB.cells (wtL w) 25), (0, ptsA P.length (pF P))]) (VV.slice (VA.el 0 [] (0 : Int) 0) P.length cap) P_2.length 9 (pG P_2) ∧ bif decide (rmH w P_1 at' lim = rmH w P_2 at' lim) then
 bif decide (rmE w P_1 at' lim = rmE w P_2 at' lim) then
 Q (VRes.ret (VV.bool true))
 else Q (VRes.ret (VV.bool false))
 else Q (VRes.ret (VV.bool false))
 else bif decide ((↑P.length : Int) > (70 : Int)) then
 Q (VRes.ret (VV.bool true))
 else ∃ P_1, isList (VH.mk (2) [(1, VB.cells (wtL w) 25), (0, ptsA P.length (pF P))]) (VV.slice (VA.el 0 [] (0 : Int) 0) P.length cap) P_1.length 9 (pG P_1) ∧ ∃ P_2, isList (VH.mk (2) [(1, VB.cells (wtL w) 25), (0, ptsA P.length (pF P))]) (VV.slice (VA.el 0 [] (0 : Int) 0) P.length cap) P_2.length 9 (pG P_2) ∧ bif decide (rmH w P_1 at' lim = rmH w P_2 at' lim) then
 bif decide (rmE w P_1 at' lim = rmE w P_2 at' lim) then
 Q (VRes.ret (VV.bool true))
 else Q (VRes.ret (VV.bool false))
 else Q (VRes.ret (VV.bool false))) := by kernel_rfl


end Go.Sx.Str

/- stream: the laws StreamFlows and StreamRooms. -/

namespace Go.Sx.Str
open Go Go.Sx Go.Proofs
set_option maxRecDepth 100000

theorem ixs_len (p : Wt → Bool) : ∀ (xs : List Wt) (i : Int), (ixs p i xs).length ≤ xs.length
  | [], _ => Nat.le_refl _
  | w :: r, i => by
    have := ixs_len p r (i + 1)
    simp only [ixs]
    cases p w
    · simp only [cond_false, List.length_cons]; omega
    · simp only [cond_true, List.length_cons]; omega

theorem wm_len (w : Wt) (P : List Pt) (lim : Int) : (wmS w P lim).length ≤ 100000 ∧ (wmP w P lim).length ≤ 100000 := by
  by_cases h : wmE w P lim = 0
  · obtain ⟨h1, h2⟩ := wm_good h
    have hf : flE w P = 0 := by
      unfold wmE at h
      cases h3 : watB w
      · rw [h3] at h; exact absurd h (show (1 : Int) ≠ 0 by decide)
      · rw [h3] at h
        cases h4 : inB lim 0 100000
        · rw [h4] at h; exact absurd h (show (2 : Int) ≠ 0 by decide)
        · rw [h4] at h; exact h
    have l1 := (flE_len hf).1
    have l2 := ixs_len (loF lim) (rL w P) 0
    have l3 := ixs_len (hiF lim) (rL w P) 0
    rw [rL_len] at l2 l3
    rw [h1, h2]
    omega
  · obtain ⟨h1, h2⟩ := wm_bad h
    rw [h1, h2]
    exact ⟨Nat.zero_le _, Nat.zero_le _⟩

theorem isList_vecW {h : VH} {m : Nat} {xs : List Wt} (hm : h.at m = vecW xs) : isList h (.sl m xs.length) xs.length 4 (wG xs) := ⟨rfl, _, _, hm, fun _ _ => rfl⟩

theorem tL3_ok : ∀ x ∈ tL3, SpOk Try.prog x.1 x.2 := by
  intro x hx
  simp only [tL3, List.mem_cons, List.not_mem_nil, or_false] at hx
  rcases hx with rfl | rfl | rfl | rfl | rfl | rfl | rfl
  · exact awT_ok
  · exact fl13_ok
  · exact fl14_ok
  · exact wm15_ok
  · exact wm16_ok
  · exact saT_ok
  · exact inT18_ok
theorem tL4_ok : ∀ x ∈ tL4, SpOk Try.prog x.1 x.2 := by
  intro x hx
  simp only [tL4, List.mem_cons, List.not_mem_nil, or_false] at hx
  rcases hx with rfl | rfl | rfl
  · exact awT_ok
  · exact rm19_ok
  · exact rm20_ok

theorem law3_v (w : Wt) (P : List Pt) (lim : Int) (cap : Nat) : ∃ h', CallsV Try.prog 3 [.agg (wtL w), .slice (.el 0 [] 0 0) P.length cap, I lim] ⟨1, [(0, ptsA P.length (pF P))]⟩ (.ret (.bool true)) h' := by
  obtain ⟨r, h', hQ, hc⟩ := of_callN (tab_good hmix tL3_ok 20) (un := 10) (f := 3) (args := [.agg (wtL w), .slice (.el 0 [] 0 0) P.length cap, I lim]) (h := ⟨1, [(0, ptsA P.length (pF P))]⟩) (K := fun r _ => r = .ret (.bool true))
    (by
      refine cast (law3_ev P cap w lim _).symm ?_
      obtain ⟨l1, l2⟩ := wm_len w P lim
      have l3 := flL_len w P
      refine cond_d (fun _ => cond_d (fun _ => rfl) (fun _ => cond_d (fun _ => rfl) (fun _ => ?_))) (fun _ => cond_d (fun _ => rfl) (fun _ => ?_))
      all_goals exact ⟨P, isList_arr rfl, P, isList_arr rfl, P, isList_arr rfl, P, isList_arr rfl, flL w P, ⟨isList_vecW rfl, isList_vecW rfl, by omega⟩, cond_dk rfl (cond_dk rfl ⟨wmS w P lim, ⟨isList_vecI rfl, isList_vecI rfl, l1⟩, wmP w P lim, ⟨isList_vecI rfl, isList_vecI rfl, l2⟩, cond_dk rfl rfl⟩)⟩)
  subst hQ
  exact ⟨h', hc⟩

theorem law4_v (w : Wt) (P : List Pt) (at' lim : Int) (cap : Nat) : ∃ h', CallsV Try.prog 4 [.agg (wtL w), .slice (.el 0 [] 0 0) P.length cap, I at', I lim] ⟨1, [(0, ptsA P.length (pF P))]⟩ (.ret (.bool true)) h' := by
  obtain ⟨r, h', hQ, hc⟩ := of_callN (tab_good hmix tL4_ok 20) (un := 10) (f := 4) (args := [.agg (wtL w), .slice (.el 0 [] 0 0) P.length cap, I at', I lim]) (h := ⟨1, [(0, ptsA P.length (pF P))]⟩) (K := fun r _ => r = .ret (.bool true))
    (by
      refine cast (law4_ev P cap w at' lim _).symm ?_
      refine cond_d (fun _ => cond_d (fun _ => rfl) (fun _ => cond_d (fun _ => rfl) (fun _ => ?_))) (fun _ => cond_d (fun _ => rfl) (fun _ => ?_))
      all_goals exact ⟨P, isList_arr rfl, P, isList_arr rfl, cond_dk rfl (cond_dk rfl rfl)⟩)
  subst hQ
  exact ⟨h', hc⟩
end Go.Sx.Str

/- stream: arguments read. -/

namespace Go.Sx.Str
open Go Go.Sx Go.Proofs Go.ChangeShapes Go.WideShapes Go.RowKit
set_option maxRecDepth 100000

theorem leaves25 : leavesT Try.prog 5 25 = some [3, 3, 3, 3] := by kernel_rfl
theorem leaves47 : leavesT Try.prog 5 47 = some [3, 3, 3, 3, 3, 3, 3, 3, 3] := by kernel_rfl
theorem und3 : Try.prog.underlying 3 = some (.int .i64) := by kernel_rfl
theorem und4 : Try.prog.underlying 4 = some .bool := by kernel_rfl
theorem und26 : Try.prog.underlying 26 = some (.slice 47) := by kernel_rfl
theorem cells47 : Try.prog.cellsOf 47 = 9 := by kernel_rfl
theorem str25 : isStrB Try.prog 25 = true := by kernel_rfl
theorem str47 : isStrB Try.prog 47 = true := by kernel_rfl

theorem all3 {us : List TypeId} (h : us.all (· == 3) = true) : ∀ u ∈ us, Try.prog.underlying u = some (.int .i64) := by
  intro u hu
  have := List.all_eq_true.1 h u hu
  rw [beq_iff_eq] at this
  subst this
  exact und3

theorem list4 {l : List Int} (h : l.length = 4) : ∃ a b c d, l = [a, b, c, d] := by
  match l, h with
  | [a, b, c, d], _ => exact ⟨a, b, c, d, rfl⟩
theorem list9 {l : List Int} (h : l.length = 9) : ∃ a b c d e f g i j, l = [a, b, c, d, e, f, g, i, j] := by
  match l, h with
  | [a, b, c, d, e, f, g, i, j], _ => exact ⟨a, b, c, d, e, f, g, i, j, rfl⟩

/-- A number of the machine. -/
def i64B (n : Int) : Prop := -9223372036854775808 ≤ n ∧ n ≤ 9223372036854775807

structure WtB (w : Wt) : Prop where
  a : i64B w.flo
  b : i64B w.fhi
  c : i64B w.wlo
  d : i64B w.whi
structure PtB (p : Pt) : Prop where
  k : i64B p.k
  f1 : i64B p.flo
  f2 : i64B p.fhi
  w1 : i64B p.wlo
  w2 : i64B p.whi
  h1 : i64B p.hlo
  h2 : i64B p.hhi
  s1 : i64B p.slo
  s2 : i64B p.shi

section
variable {H : Type} {enc : TypeId × Value → H} {W : World} {base : Nat} {spare : Nat → Bool} {held : Bool} {r : Go.Reach} {b0 : Nat} {v : Value} {d : DataW H} {ps : List MemPlace}

theorem read_wt (hval : Value.okWide Try.prog W r b0 25 v) (hd : DataW.Trod enc Try.prog W base spare held 25 v d ps) : ∃ w : Wt, WtB w ∧ ∀ R, VRel R (.agg (wtL w)) v := by
  obtain ⟨ns, hl, rfl, hb⟩ := open_nums str25 leaves25 (all3 rfl) hval hd
  obtain ⟨a, b, c, e, rfl⟩ := list4 hl
  exact ⟨⟨a, b, c, e⟩, ⟨hb a (by simp), hb b (by simp), hb c (by simp), hb e (by simp)⟩, fun R => ⟨_, vrel_nums [a, b, c, e], rfl⟩⟩

theorem read_pt (hval : Value.okWide Try.prog W r b0 47 v) (hd : DataW.Trod enc Try.prog W base spare held 47 v d ps) : ∃ p : Pt, PtB p ∧ ∀ R, VRel R (.agg (ptL p)) v := by
  obtain ⟨ns, hl, rfl, hb⟩ := open_nums str47 leaves47 (all3 rfl) hval hd
  obtain ⟨k, a, b, c, e, f, g, i, j, rfl⟩ := list9 hl
  exact ⟨⟨k, a, b, c, e, f, g, i, j⟩, ⟨hb k (by simp), hb a (by simp), hb b (by simp), hb c (by simp), hb e (by simp), hb f (by simp), hb g (by simp), hb i (by simp), hb j (by simp)⟩, fun R => ⟨_, vrel_nums [k, a, b, c, e, f, g, i, j], rfl⟩⟩

theorem wf_i64 {n : Int} (h : (Lit.int .i64 n).wf = true) : i64B n := by
  have h' : (decide ((-9223372036854775808 : Int) ≤ n) && decide (n ≤ 9223372036854775807)) = true := h
  simpa [i64B] using h'

theorem read_pts (hval : Value.okWide Try.prog W r b0 26 v) (hd : DataW.Trod enc Try.prog W base spare held 26 v d ps) : ∃ (P : List Pt) (cap : Nat) (q : Addr), RowIn W v P.length 9 cap (pG P) q ∧ ∀ p ∈ P, PtB p := by
  rcases open_rows und26 leaves47 cells47 (by decide) (all3 rfl) hval hd with rfl | ⟨ad, len, cap, rfl, hlc, hcm, hbl, hcell⟩
  · exact ⟨[], 0, default, ⟨.inr ⟨rfl, rfl, rfl⟩, Nat.le_refl _, fun j hj => absurd hj (Nat.not_lt_zero j)⟩, by simp⟩
  · have hc : ∀ i, i < len → ∀ k, k < 9 → W.cell? (ad.add (i * 9 + k)) = some (.int .i64 (rdI W (ad.add (i * 9 + k)))) ∧ (Lit.int .i64 (rdI W (ad.add (i * 9 + k)))).wf = true := hcell
    let F : Nat → Pt := fun j => ⟨rdI W (ad.add (j * 9 + 0)), rdI W (ad.add (j * 9 + 1)), rdI W (ad.add (j * 9 + 2)), rdI W (ad.add (j * 9 + 3)), rdI W (ad.add (j * 9 + 4)), rdI W (ad.add (j * 9 + 5)), rdI W (ad.add (j * 9 + 6)), rdI W (ad.add (j * 9 + 7)), rdI W (ad.add (j * 9 + 8))⟩
    have hF : ∀ j, j < len → ((List.range len).map F).getD j p0 = F j := fun j hj => by simp [List.getD_eq_getElem?_getD, hj]
    have hl : ((List.range len).map F).length = len := by simp
    refine ⟨(List.range len).map F, cap, ad, ⟨.inl (by rw [hl]), by rw [hl]; exact hlc, ?_⟩, ?_⟩
    · intro j hj
      rw [hl] at hj
      obtain ⟨h1, h2⟩ := hbl (by omega)
      refine ⟨h1, h2, fun R => ⟨[rdI W (ad.add (j * 9 + 0)), rdI W (ad.add (j * 9 + 1)), rdI W (ad.add (j * 9 + 2)), rdI W (ad.add (j * 9 + 3)), rdI W (ad.add (j * 9 + 4)), rdI W (ad.add (j * 9 + 5)), rdI W (ad.add (j * 9 + 6)), rdI W (ad.add (j * 9 + 7)), rdI W (ad.add (j * 9 + 8))].map (Value.int .i64), ?_, rfl, fun k y hk => ?_⟩⟩
      · show VRelL R (ptL (((List.range len).map F).getD j p0)) _
        rw [hF j hj]
        exact vrel_nums [rdI W (ad.add (j * 9 + 0)), rdI W (ad.add (j * 9 + 1)), rdI W (ad.add (j * 9 + 2)), rdI W (ad.add (j * 9 + 3)), rdI W (ad.add (j * 9 + 4)), rdI W (ad.add (j * 9 + 5)), rdI W (ad.add (j * 9 + 6)), rdI W (ad.add (j * 9 + 7)), rdI W (ad.add (j * 9 + 8))]
      · match k, hk with
        | 0, hk => simp at hk; subst hk; exact (hc j hj 0 (by decide)).1
        | 1, hk => simp at hk; subst hk; exact (hc j hj 1 (by decide)).1
        | 2, hk => simp at hk; subst hk; exact (hc j hj 2 (by decide)).1
        | 3, hk => simp at hk; subst hk; exact (hc j hj 3 (by decide)).1
        | 4, hk => simp at hk; subst hk; exact (hc j hj 4 (by decide)).1
        | 5, hk => simp at hk; subst hk; exact (hc j hj 5 (by decide)).1
        | 6, hk => simp at hk; subst hk; exact (hc j hj 6 (by decide)).1
        | 7, hk => simp at hk; subst hk; exact (hc j hj 7 (by decide)).1
        | 8, hk => simp at hk; subst hk; exact (hc j hj 8 (by decide)).1
        | k + 9, hk => simp at hk
    · intro p hp
      obtain ⟨j, hj, rfl⟩ := List.mem_map.1 hp
      rw [List.mem_range] at hj
      exact ⟨wf_i64 (hc j hj 0 (by decide)).2, wf_i64 (hc j hj 1 (by decide)).2, wf_i64 (hc j hj 2 (by decide)).2, wf_i64 (hc j hj 3 (by decide)).2, wf_i64 (hc j hj 4 (by decide)).2, wf_i64 (hc j hj 5 (by decide)).2, wf_i64 (hc j hj 6 (by decide)).2, wf_i64 (hc j hj 7 (by decide)).2, wf_i64 (hc j hj 8 (by decide)).2⟩
end
end Go.Sx.Str
