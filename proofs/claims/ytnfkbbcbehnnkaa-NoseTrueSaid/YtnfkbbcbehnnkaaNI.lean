/- stream: Ni1 Ni2 Nj1 Nj2, in one text. -/
import Derived.Test.YtnfkbbcbehnnkaaNG
/- nose: the difference of two unknowns, evaluated. -/

namespace Go.Sx.Nos
open Go Go.Sx Go.Proofs
set_option maxRecDepth 1000000

theorem btw_ev (p : Pn) (c1 c2 c3 : Nat) (b : Bool) (y z : Int) (b' : Bool) (y' z' : Int) (Q : VRes → Prop) : callN Try.prog (tabS [panC, thT p c1 c2 c3, triT, numK]) noL 10 20 0 (.fn 42) [.agg (pnV p c1 c2 c3), .agg [.bool b, I y, I z], .agg [.bool b', I y', I z']] (pnH p) (fun r _ => Q r) =
  (∃ p_1, pnIs (VH.mk (7) [(6, VB.cells [I 0, I 0] 34), (5, VB.cells [VV.bool b', I y', I z'] 73), (4, VB.cells [VV.bool b, I y, I z] 73), (3, VB.cells [VV.slice (VA.el 0 [] (0 : Int) 0) p.D.length c1, VV.slice (VA.el 1 [] (0 : Int) 0) p.T.length c2, VV.slice (VA.el 2 [] (0 : Int) 0) p.S.length c3] 26), (0, arD p), (1, arT p), (2, arS p)]) p_1 (VV.slice (VA.el 0 [] (0 : Int) 0) p.D.length c1) (VV.slice (VA.el 1 [] (0 : Int) 0) p.T.length c2) (VV.slice (VA.el 2 [] (0 : Int) 0) p.S.length c3) ∧ bif !panB p_1 then
 Q (VRes.ret (VV.tup [VV.agg [I 0, I 0], I 1]))
 else (arD p = arD p ∧ arT p = arT p ∧ arS p = arS p ∧ pnB p c1 c2 c3 = pnB p c1 c2 c3) ∧ PnOk p ∧ bif !thB p (ndB b y z) then
 Q (VRes.ret (VV.tup [VV.agg [I 0, I 0], I 4]))
 else (arD p = arD p ∧ arT p = arT p ∧ arS p = arS p ∧ pnB p c1 c2 c3 = pnB p c1 c2 c3) ∧ PnOk p ∧ bif !thB p (ndB b' y' z') then
 Q (VRes.ret (VV.tup [VV.agg [I 0, I 0], I 4]))
 else ∃ p_2, pnIs (VH.mk (7) [(6, VB.cells [I 0, I 0] 34), (5, VB.cells [VV.bool b', I y', I z'] 73), (4, VB.cells [VV.bool b, I y, I z] 73), (3, VB.cells [VV.slice (VA.el 0 [] (0 : Int) 0) p.D.length c1, VV.slice (VA.el 1 [] (0 : Int) 0) p.T.length c2, VV.slice (VA.el 2 [] (0 : Int) 0) p.S.length c3] 26), (0, arD p), (1, arT p), (2, arS p)]) p_2 (VV.slice (VA.el 0 [] (0 : Int) 0) p.D.length c1) (VV.slice (VA.el 1 [] (0 : Int) 0) p.T.length c2) (VV.slice (VA.el 2 [] (0 : Int) 0) p.S.length c3) ∧ PnOk p_2 ∧ (fitF p_2 → ∃ N, (maskH [0, 1, 2, 3, 4, 5, 6, 7, 8, 9, 10, 11] (VH.mk (12) ((11, VB.cells [VV.bool b', I y', I z'] 73) :: (10, VB.cells [VV.bool b, I y, I z] 73) :: maskL (VH.mk (10) [(9, VB.cells [VV.ptr (VA.own (7 + 1) 0)] 79), (9, VB.cells [VV.nilp] 79), (7 + 1, faB (7) (farF p_2)), (7, maB (noP p_2)), (6, VB.cells [I 0, I 0] 34), (5, VB.cells [VV.bool b', I y', I z'] 73), (4, VB.cells [VV.bool b, I y, I z] 73), (3, VB.cells [VV.slice (VA.el 0 [] (0 : Int) 0) p.D.length c1, VV.slice (VA.el 1 [] (0 : Int) 0) p.T.length c2, VV.slice (VA.el 2 [] (0 : Int) 0) p.S.length c3] 26), (0, arD p), (1, arT p), (2, arS p)]) [9, 0, 1, 2, 3, 4, 5, 6, 7, 8]))).at (7) = maB N ∧ ndB b y z ∈ N ∧ ∃ N_1, (maskH [0, 1, 2, 3, 4, 5, 6, 7, 8, 9, 10, 11] (VH.mk (12) ((11, VB.cells [VV.bool b', I y', I z'] 73) :: (10, VB.cells [VV.bool b, I y, I z] 73) :: maskL (VH.mk (10) [(9, VB.cells [VV.ptr (VA.own (7 + 1) 0)] 79), (9, VB.cells [VV.nilp] 79), (7 + 1, faB (7) (farF p_2)), (7, maB (noP p_2)), (6, VB.cells [I 0, I 0] 34), (5, VB.cells [VV.bool b', I y', I z'] 73), (4, VB.cells [VV.bool b, I y, I z] 73), (3, VB.cells [VV.slice (VA.el 0 [] (0 : Int) 0) p.D.length c1, VV.slice (VA.el 1 [] (0 : Int) 0) p.T.length c2, VV.slice (VA.el 2 [] (0 : Int) 0) p.S.length c3] 26), (0, arD p), (1, arT p), (2, arS p)]) [9, 0, 1, 2, 3, 4, 5, 6, 7, 8]))).at (7) = maB N_1 ∧ ndB b' y' z' ∈ N_1 ∧ bif decide ((0 : Int) ≤ (↑(ixN N (ndB b y z)) : Int) ∧ (↑(ixN N (ndB b y z)) : Int) < (↑65 : Int)) then
 bif decide ((0 : Int) ≤ (↑(ixN N_1 (ndB b' y' z')) : Int) ∧ (↑(ixN N_1 (ndB b' y' z')) : Int) < (↑65 : Int)) then
 bif decide ((↑(ixN N (ndB b y z)) : Int).toNat * (65) + (↑(ixN N_1 (ndB b' y' z')) : Int).toNat * (1) < 4225) then
 ∃ N_2, (maskH [0, 1, 2, 3, 4, 5, 6, 7, 8, 9, 10, 11] (VH.mk (12) [(11, VB.cells [VV.bool b, I y, I z] 73), (10, VB.cells [VV.bool b', I y', I z'] 73), (9, VB.cells [VV.ptr (VA.own (7 + 1) 0)] 79), (9, VB.cells [VV.ptr (VA.own (7 + 1) 0)] 79), (9, VB.cells [VV.nilp] 79), (7 + 1, faB (7) (farF p_2)), (7, maB (noP p_2)), (6, VB.cells [I 0, I 0] 34), (5, VB.cells [VV.bool b', I y', I z'] 73), (4, VB.cells [VV.bool b, I y, I z] 73), (3, VB.cells [VV.slice (VA.el 0 [] (0 : Int) 0) p.D.length c1, VV.slice (VA.el 1 [] (0 : Int) 0) p.T.length c2, VV.slice (VA.el 2 [] (0 : Int) 0) p.S.length c3] 26), (0, arD p), (1, arT p), (2, arS p)])).at (7) = maB N_2 ∧ ndB b' y' z' ∈ N_2 ∧ keepP (VH.mk (12) [(11, VB.cells [VV.bool b, I y, I z] 73), (10, VB.cells [VV.bool b', I y', I z'] 73), (9, VB.cells [VV.ptr (VA.own (7 + 1) 0)] 79), (9, VB.cells [VV.ptr (VA.own (7 + 1) 0)] 79), (9, VB.cells [VV.nilp] 79), (7 + 1, faB (7) (farF p_2)), (7, maB (noP p_2)), (6, VB.cells [I 0, I 0] 34), (5, VB.cells [VV.bool b', I y', I z'] 73), (4, VB.cells [VV.bool b, I y, I z] 73), (3, VB.cells [VV.slice (VA.el 0 [] (0 : Int) 0) p.D.length c1, VV.slice (VA.el 1 [] (0 : Int) 0) p.T.length c2, VV.slice (VA.el 2 [] (0 : Int) 0) p.S.length c3] 26), (0, arD p), (1, arT p), (2, arS p)]) (maskH [0, 1, 2, 3, 4, 5, 6, 7, 8, 9, 10, 11] (VH.mk (12) [(11, VB.cells [VV.bool b, I y, I z] 73), (10, VB.cells [VV.bool b', I y', I z'] 73), (9, VB.cells [VV.ptr (VA.own (7 + 1) 0)] 79), (9, VB.cells [VV.ptr (VA.own (7 + 1) 0)] 79), (9, VB.cells [VV.nilp] 79), (7 + 1, faB (7) (farF p_2)), (7, maB (noP p_2)), (6, VB.cells [I 0, I 0] 34), (5, VB.cells [VV.bool b', I y', I z'] 73), (4, VB.cells [VV.bool b, I y, I z] 73), (3, VB.cells [VV.slice (VA.el 0 [] (0 : Int) 0) p.D.length c1, VV.slice (VA.el 1 [] (0 : Int) 0) p.T.length c2, VV.slice (VA.el 2 [] (0 : Int) 0) p.S.length c3] 26), (0, arD p), (1, arT p), (2, arS p)])) (7) [0, 1, 2, 3, 4, 5, 6, 7, 8, 9, 10, 11] ∧ ∃ N_3, (maskH [0, 1, 2, 3, 4, 5, 6, 7, 8, 9, 10, 11] (VH.mk (12) [(7, VB.map kU (PK.int IntKind.i64) (esOf (noP p_2))), (11, VB.cells [VV.bool b, I y, I z] 73), (10, VB.cells [VV.bool b', I y', I z'] 73), (9, VB.cells [VV.ptr (VA.own (7 + 1) 0)] 79), (9, VB.cells [VV.ptr (VA.own (7 + 1) 0)] 79), (9, VB.cells [VV.nilp] 79), (7 + 1, faB (7) (farF p_2)), (7, maB (noP p_2)), (6, VB.cells [I 0, I 0] 34), (5, VB.cells [VV.bool b', I y', I z'] 73), (4, VB.cells [VV.bool b, I y, I z] 73), (3, VB.cells [VV.slice (VA.el 0 [] (0 : Int) 0) p.D.length c1, VV.slice (VA.el 1 [] (0 : Int) 0) p.T.length c2, VV.slice (VA.el 2 [] (0 : Int) 0) p.S.length c3] 26), (0, arD p), (1, arT p), (2, arS p)])).at (7) = maB N_3 ∧ ndB b y z ∈ N_3 ∧ keepP (VH.mk (12) [(7, VB.map kU (PK.int IntKind.i64) (esOf (noP p_2))), (11, VB.cells [VV.bool b, I y, I z] 73), (10, VB.cells [VV.bool b', I y', I z'] 73), (9, VB.cells [VV.ptr (VA.own (7 + 1) 0)] 79), (9, VB.cells [VV.ptr (VA.own (7 + 1) 0)] 79), (9, VB.cells [VV.nilp] 79), (7 + 1, faB (7) (farF p_2)), (7, maB (noP p_2)), (6, VB.cells [I 0, I 0] 34), (5, VB.cells [VV.bool b', I y', I z'] 73), (4, VB.cells [VV.bool b, I y, I z] 73), (3, VB.cells [VV.slice (VA.el 0 [] (0 : Int) 0) p.D.length c1, VV.slice (VA.el 1 [] (0 : Int) 0) p.T.length c2, VV.slice (VA.el 2 [] (0 : Int) 0) p.S.length c3] 26), (0, arD p), (1, arT p), (2, arS p)]) (maskH [0, 1, 2, 3, 4, 5, 6, 7, 8, 9, 10, 11] (VH.mk (12) [(7, VB.map kU (PK.int IntKind.i64) (esOf (noP p_2))), (11, VB.cells [VV.bool b, I y, I z] 73), (10, VB.cells [VV.bool b', I y', I z'] 73), (9, VB.cells [VV.ptr (VA.own (7 + 1) 0)] 79), (9, VB.cells [VV.ptr (VA.own (7 + 1) 0)] 79), (9, VB.cells [VV.nilp] 79), (7 + 1, faB (7) (farF p_2)), (7, maB (noP p_2)), (6, VB.cells [I 0, I 0] 34), (5, VB.cells [VV.bool b', I y', I z'] 73), (4, VB.cells [VV.bool b, I y, I z] 73), (3, VB.cells [VV.slice (VA.el 0 [] (0 : Int) 0) p.D.length c1, VV.slice (VA.el 1 [] (0 : Int) 0) p.T.length c2, VV.slice (VA.el 2 [] (0 : Int) 0) p.S.length c3] 26), (0, arD p), (1, arT p), (2, arS p)])) (7) [0, 1, 2, 3, 4, 5, 6, 7, 8, 9, 10, 11] ∧ bif decide ((0 : Int) ≤ (↑(ixN N_2 (ndB b' y' z')) : Int) ∧ (↑(ixN N_2 (ndB b' y' z')) : Int) < (↑65 : Int)) then
 bif decide ((0 : Int) ≤ (↑(ixN N_3 (ndB b y z)) : Int) ∧ (↑(ixN N_3 (ndB b y z)) : Int) < (↑65 : Int)) then
 bif decide ((↑(ixN N_2 (ndB b' y' z')) : Int).toNat * (65) + (↑(ixN N_3 (ndB b y z)) : Int).toNat * (1) < 4225) then
 bif decide (max (farF p_2 ((↑(ixN N (ndB b y z)) : Int).toNat * (65) + (↑(ixN N_1 (ndB b' y' z')) : Int).toNat * (1))) (farF p_2 ((↑(ixN N_2 (ndB b' y' z')) : Int).toNat * (65) + (↑(ixN N_3 (ndB b y z)) : Int).toNat * (1))) = (1125899906842624 : Int)) then
 Q (VRes.ret (VV.tup [VV.agg [I 0, I 0], I 12]))
 else bif inK IntKind.i64 ((0 : Int) - farF p_2 ((↑(ixN N_2 (ndB b' y' z')) : Int).toNat * (65) + (↑(ixN N_3 (ndB b y z)) : Int).toNat * (1))) then
 Q (VRes.ret (VV.tup [VV.agg [I ((0 : Int) - farF p_2 ((↑(ixN N_2 (ndB b' y' z')) : Int).toNat * (65) + (↑(ixN N_3 (ndB b y z)) : Int).toNat * (1))), I (farF p_2 ((↑(ixN N (ndB b y z)) : Int).toNat * (65) + (↑(ixN N_1 (ndB b' y' z')) : Int).toNat * (1)))], I 0]))
 else False
 else False
 else False
 else False
 else False
 else False
 else False) ∧ (¬fitF p_2 → Q (VRes.ret (VV.tup [VV.agg [I 0, I 0], I 6])))) := by kernel_rfl


end Go.Sx.Nos

/- nose: the difference of two unknowns. -/

namespace Go.Sx.Nos
open Go Go.Sx Go.Proofs
set_option maxRecDepth 1000000

theorem pnIs_own {h : VH} {p : Pn} {c1 c2 c3 : Nat} (g0 : h.at 0 = arD p) (g1 : h.at 1 = arT p) (g2 : h.at 2 = arS p) : pnIs h p (.slice (.el 0 [] 0 0) p.D.length c1) (.slice (.el 1 [] 0 0) p.T.length c2) (.slice (.el 2 [] 0 0) p.S.length c3) := by
  refine ⟨⟨rfl, by decide, _, _, g0, fun j hj => ⟨⟨rfl, by omega, by omega⟩, ?_⟩⟩, ⟨rfl, by decide, _, _, g1, fun j hj => ⟨⟨rfl, by omega, by omega⟩, ?_⟩⟩, ⟨rfl, by decide, _, _, g2, fun j hj => ⟨⟨rfl, by omega, by omega⟩, ?_⟩⟩⟩
  all_goals rw [zero_toNat]

open Classical in
/-- The span of a difference: from, to, and the error. -/
noncomputable def btF (p : Pn) (a b : Nd) : Int × Int × Int :=
  if PnOk p then (if thP p a ∧ thP p b then (if fitF p then (if farAB p a b = WW ∨ farAB p b a = WW then (0, 0, 12) else (0 - farAB p b a, farAB p a b, 0)) else (0, 0, 6)) else (0, 0, 4)) else (0, 0, 1)

def spV (r : Int × Int × Int) : VV := .tup [.agg [I r.1, I r.2.1], I r.2.2]

theorem btw_v (p : Pn) (c1 c2 c3 : Nat) (b : Bool) (y z : Int) (b' : Bool) (y' z' : Int) : ∃ h', CallsV Try.prog 42 [.agg (pnV p c1 c2 c3), .agg [.bool b, I y, I z], .agg [.bool b', I y', I z']] (pnH p) (.ret (spV (btF p (ndB b y z) (ndB b' y' z')))) h' := by
  obtain ⟨r, h', rfl, hc⟩ := of_callN (tab_good hmix (l := [panC, thT p c1 c2 c3, triT, numK]) (fun x hx => by
      simp only [List.mem_cons, List.not_mem_nil, or_false] at hx
      rcases hx with rfl | rfl | rfl | rfl
      · exact panC_ok
      · exact thT_ok
      · exact triT_ok
      · exact numK_ok) 20) (un := 10) (f := 42) (args := [.agg (pnV p c1 c2 c3), .agg [.bool b, I y, I z], .agg [.bool b', I y', I z']]) (h := pnH p)
    (K := fun r _ => r = .ret (spV (btF p (ndB b y z) (ndB b' y' z'))))
    (by
      refine cast (btw_ev p c1 c2 c3 b y z b' y' z' _).symm ?_
      generalize ndB b y z = a1
      generalize ndB b' y' z' = a2
      refine ⟨p, pnIs_own rfl rfl rfl, ?_⟩
      cases hpb : panB p with
      | false =>
        have hn : ¬ PnOk p := fun h => by rw [← panB_iff, hpb] at h; cases h
        show VRes.ret _ = _
        unfold btF; rw [if_neg hn]; rfl
      | true =>
        have hp : PnOk p := panB_iff.1 hpb
        refine ⟨⟨rfl, rfl, rfl, rfl⟩, hp, ?_⟩
        cases ha : thB p a1 with
        | false =>
          have hn : ¬ thP p a1 := fun h => by rw [← thB_iff, ha] at h; cases h
          show VRes.ret _ = _
          unfold btF; rw [if_pos hp, if_neg (fun h => hn h.1)]; rfl
        | true =>
          have ha : thP p a1 := thB_iff.1 ha
          refine ⟨⟨rfl, rfl, rfl, rfl⟩, hp, ?_⟩
          cases hb : thB p a2 with
          | false =>
            have hn : ¬ thP p a2 := fun h => by rw [← thB_iff, hb] at h; cases h
            show VRes.ret _ = _
            unfold btF; rw [if_pos hp, if_neg (fun h => hn h.2)]; rfl
          | true =>
            have hb : thP p a2 := thB_iff.1 hb
            refine ⟨p, pnIs_own rfl rfl rfl, hp, fun hf => ?_, fun hf => ?_⟩
            · have ma := (mem_no hp a1).2 ha
              have mb := (mem_no hp a2).2 hb
              have ia := ixN_lt ma
              have ib := ixN_lt mb
              have hn := no_le hp
              change ixN (noP p) a1 < (noP p).length at ia
              change ixN (noP p) a2 < (noP p).length at ib
              change (noP p).length ≤ 65 at hn
              have wa : (0 : Int) ≤ (ixN (noP p) a1 : Int) ∧ (ixN (noP p) a1 : Int) < ((65 : Nat) : Int) := ⟨by omega, by omega⟩
              have wb : (0 : Int) ≤ (ixN (noP p) a2 : Int) ∧ (ixN (noP p) a2 : Int) < ((65 : Nat) : Int) := ⟨by omega, by omega⟩
              have e1 : farF p ((ixN (noP p) a1 : Int).toNat * 65 + (ixN (noP p) a2 : Int).toNat * 1) = farAB p a1 a2 := by unfold farAB; rw [Int.toNat_natCast, Int.toNat_natCast, Nat.mul_one]
              have e2 : farF p ((ixN (noP p) a2 : Int).toNat * 65 + (ixN (noP p) a1 : Int).toNat * 1) = farAB p a2 a1 := by unfold farAB; rw [Int.toNat_natCast, Int.toNat_natCast, Nat.mul_one]
              refine ⟨noP p, rfl, ma, noP p, rfl, mb, cond_dk wa (cond_dk wb (cond_dk (by simp only [Int.toNat_natCast]; omega) ⟨noP p, rfl, mb, ?_, noP p, rfl, ma, ?_, cond_dk wb (cond_dk wa (cond_dk (by simp only [Int.toNat_natCast]; omega) ?_))⟩))⟩
              · exact ⟨rfl, rfl, rfl, rfl, rfl, rfl, rfl, rfl, rfl, rfl, rfl, trivial⟩
              · exact ⟨rfl, rfl, rfl, rfl, rfl, rfl, rfl, rfl, rfl, rfl, rfl, trivial⟩
              · rw [e1, e2]
                have hW := eWW
                have b1 : farAB p a1 a2 ≠ WW → farAB p a1 a2 ≤ 66000000 ∧ -66000000 ≤ farAB p a1 a2 := fun h => ⟨(far_mx hp hf ma mb h).2.2, (far_mx hp hf ma mb h).2.1⟩
                have b2 : farAB p a2 a1 ≠ WW → farAB p a2 a1 ≤ 66000000 ∧ -66000000 ≤ farAB p a2 a1 := fun h => ⟨(far_mx hp hf mb ma h).2.2, (far_mx hp hf mb ma h).2.1⟩
                refine cond_d (fun hm => ?_) (fun hm => ?_)
                · have : farAB p a1 a2 = WW ∨ farAB p a2 a1 = WW := by omega
                  unfold btF; rw [if_pos hp, if_pos ⟨ha, hb⟩, if_pos hf, if_pos this]; rfl
                · have : ¬ (farAB p a1 a2 = WW ∨ farAB p a2 a1 = WW) := by omega
                  refine cond_r (by omega) ?_
                  unfold btF; rw [if_pos hp, if_pos ⟨ha, hb⟩, if_pos hf, if_neg this]; rfl
            · show VRes.ret _ = _
              unfold btF; rw [if_pos hp, if_pos ⟨ha, hb⟩, if_neg hf]; rfl)
  exact ⟨h', hc⟩

/-- The difference of two unknowns, as a row. -/
noncomputable def btwT : FuncId × Spec1 := (42, fun _ args h K => match args with
  | [.agg [d, t, s], .agg [.bool b, .int .i64 y, .int .i64 z], .agg [.bool b', .int .i64 y', .int .i64 z']] => ∃ p : Pn, pnIs h p d t s ∧ K (.ret (spV (btF p (ndB b y z) (ndB b' y' z')))) h
  | _ => False)

theorem btwT_ok : SpOk Try.prog btwT.1 btwT.2 := by
  intro lock args h K hK
  simp only [btwT] at hK
  split at hK
  · rename_i d t s b y z b' y' z'
    obtain ⟨p, hp, hK⟩ := hK
    exact ⟨_, h, hK, lockP_refl _ _, calls_pn (pl := [.agg [.bool b, .int .i64 y, .int .i64 z], .agg [.bool b', .int .i64 y', .int .i64 z']]) (fun c1 c2 c3 => btw_v p c1 c2 c3 b y z b' y' z') rfl rfl hp⟩
  · exact hK.elim
end Go.Sx.Nos

/- nose: what is asked of a panel, evaluated. -/

namespace Go.Sx.Nos
open Go Go.Sx Go.Proofs
set_option maxRecDepth 1000000

theorem val_ev (p : Pn) (c1 c2 c3 : Nat) (s : Int) (Q : VRes → Prop) : callN Try.prog (tabS [panC, btwT]) noL 10 20 0 (.fn 17) [.agg (pnV p c1 c2 c3), I s] (pnH p) (fun r _ => Q r) =
  (∃ p_1, pnIs (VH.mk (5) [(4, VB.cells [I 0, I 0] 34), (3, VB.cells [VV.slice (VA.el 0 [] (0 : Int) 0) p.D.length c1, VV.slice (VA.el 1 [] (0 : Int) 0) p.T.length c2, VV.slice (VA.el 2 [] (0 : Int) 0) p.S.length c3] 26), (0, arD p), (1, arT p), (2, arS p)]) p_1 (VV.slice (VA.el 0 [] (0 : Int) 0) p.D.length c1) (VV.slice (VA.el 1 [] (0 : Int) 0) p.T.length c2) (VV.slice (VA.el 2 [] (0 : Int) 0) p.S.length c3) ∧ bif panB p_1 then
 bif decide ((0 : Int) ≤ s) then
 bif !decide (s ≤ (15 : Int)) then
 Q (VRes.ret (VV.tup [VV.agg [I 0, I 0], I 4]))
 else bif inK IntKind.i64 (s + (1 : Int)) then
 ∃ p_2, pnIs (VH.mk (5) [(4, VB.cells [I 0, I 0] 34), (3, VB.cells [VV.slice (VA.el 0 [] (0 : Int) 0) p.D.length c1, VV.slice (VA.el 1 [] (0 : Int) 0) p.T.length c2, VV.slice (VA.el 2 [] (0 : Int) 0) p.S.length c3] 26), (0, arD p), (1, arT p), (2, arS p)]) p_2 (VV.slice (VA.el 0 [] (0 : Int) 0) p.D.length c1) (VV.slice (VA.el 1 [] (0 : Int) 0) p.T.length c2) (VV.slice (VA.el 2 [] (0 : Int) 0) p.S.length c3) ∧ Q (VRes.ret (VV.tup [VV.agg [I (btF p_2 (ndB false (s + (1 : Int)) (0 : Int)) (ndB false (0 : Int) (0 : Int))).fst, I (btF p_2 (ndB false (s + (1 : Int)) (0 : Int)) (ndB false (0 : Int) (0 : Int))).snd.fst], I (btF p_2 (ndB false (s + (1 : Int)) (0 : Int)) (ndB false (0 : Int) (0 : Int))).snd.snd]))
 else False
 else Q (VRes.ret (VV.tup [VV.agg [I 0, I 0], I 4]))
 else bif inK IntKind.i64 (s + (1 : Int)) then
 ∃ p_2, pnIs (VH.mk (5) [(4, VB.cells [I 0, I 0] 34), (3, VB.cells [VV.slice (VA.el 0 [] (0 : Int) 0) p.D.length c1, VV.slice (VA.el 1 [] (0 : Int) 0) p.T.length c2, VV.slice (VA.el 2 [] (0 : Int) 0) p.S.length c3] 26), (0, arD p), (1, arT p), (2, arS p)]) p_2 (VV.slice (VA.el 0 [] (0 : Int) 0) p.D.length c1) (VV.slice (VA.el 1 [] (0 : Int) 0) p.T.length c2) (VV.slice (VA.el 2 [] (0 : Int) 0) p.S.length c3) ∧ Q (VRes.ret (VV.tup [VV.agg [I (btF p_2 (ndB false (s + (1 : Int)) (0 : Int)) (ndB false (0 : Int) (0 : Int))).fst, I (btF p_2 (ndB false (s + (1 : Int)) (0 : Int)) (ndB false (0 : Int) (0 : Int))).snd.fst], I (btF p_2 (ndB false (s + (1 : Int)) (0 : Int)) (ndB false (0 : Int) (0 : Int))).snd.snd]))
 else False) := by kernel_rfl

theorem dif_ev (p : Pn) (c1 c2 c3 : Nat) (s t : Int) (Q : VRes → Prop) : callN Try.prog (tabS [panC, btwT]) noL 10 20 0 (.fn 18) [.agg (pnV p c1 c2 c3), I s, I t] (pnH p) (fun r _ => Q r) =
  (∃ p_1, pnIs (VH.mk (5) [(4, VB.cells [I 0, I 0] 34), (3, VB.cells [VV.slice (VA.el 0 [] (0 : Int) 0) p.D.length c1, VV.slice (VA.el 1 [] (0 : Int) 0) p.T.length c2, VV.slice (VA.el 2 [] (0 : Int) 0) p.S.length c3] 26), (0, arD p), (1, arT p), (2, arS p)]) p_1 (VV.slice (VA.el 0 [] (0 : Int) 0) p.D.length c1) (VV.slice (VA.el 1 [] (0 : Int) 0) p.T.length c2) (VV.slice (VA.el 2 [] (0 : Int) 0) p.S.length c3) ∧ bif panB p_1 then
 bif decide ((0 : Int) ≤ s) then
 bif !decide (s ≤ (15 : Int)) then
 Q (VRes.ret (VV.tup [VV.agg [I 0, I 0], I 4]))
 else bif decide ((0 : Int) ≤ t) then
 bif !decide (t ≤ (15 : Int)) then
 Q (VRes.ret (VV.tup [VV.agg [I 0, I 0], I 4]))
 else bif inK IntKind.i64 (s + (1 : Int)) then
 bif inK IntKind.i64 (t + (1 : Int)) then
 ∃ p_2, pnIs (VH.mk (5) [(4, VB.cells [I 0, I 0] 34), (3, VB.cells [VV.slice (VA.el 0 [] (0 : Int) 0) p.D.length c1, VV.slice (VA.el 1 [] (0 : Int) 0) p.T.length c2, VV.slice (VA.el 2 [] (0 : Int) 0) p.S.length c3] 26), (0, arD p), (1, arT p), (2, arS p)]) p_2 (VV.slice (VA.el 0 [] (0 : Int) 0) p.D.length c1) (VV.slice (VA.el 1 [] (0 : Int) 0) p.T.length c2) (VV.slice (VA.el 2 [] (0 : Int) 0) p.S.length c3) ∧ Q (VRes.ret (VV.tup [VV.agg [I (btF p_2 (ndB false (s + (1 : Int)) (0 : Int)) (ndB false (t + (1 : Int)) (0 : Int))).fst, I (btF p_2 (ndB false (s + (1 : Int)) (0 : Int)) (ndB false (t + (1 : Int)) (0 : Int))).snd.fst], I (btF p_2 (ndB false (s + (1 : Int)) (0 : Int)) (ndB false (t + (1 : Int)) (0 : Int))).snd.snd]))
 else False
 else False
 else Q (VRes.ret (VV.tup [VV.agg [I 0, I 0], I 4]))
 else Q (VRes.ret (VV.tup [VV.agg [I 0, I 0], I 4]))
 else bif inK IntKind.i64 (s + (1 : Int)) then
 bif inK IntKind.i64 (t + (1 : Int)) then
 ∃ p_2, pnIs (VH.mk (5) [(4, VB.cells [I 0, I 0] 34), (3, VB.cells [VV.slice (VA.el 0 [] (0 : Int) 0) p.D.length c1, VV.slice (VA.el 1 [] (0 : Int) 0) p.T.length c2, VV.slice (VA.el 2 [] (0 : Int) 0) p.S.length c3] 26), (0, arD p), (1, arT p), (2, arS p)]) p_2 (VV.slice (VA.el 0 [] (0 : Int) 0) p.D.length c1) (VV.slice (VA.el 1 [] (0 : Int) 0) p.T.length c2) (VV.slice (VA.el 2 [] (0 : Int) 0) p.S.length c3) ∧ Q (VRes.ret (VV.tup [VV.agg [I (btF p_2 (ndB false (s + (1 : Int)) (0 : Int)) (ndB false (t + (1 : Int)) (0 : Int))).fst, I (btF p_2 (ndB false (s + (1 : Int)) (0 : Int)) (ndB false (t + (1 : Int)) (0 : Int))).snd.fst], I (btF p_2 (ndB false (s + (1 : Int)) (0 : Int)) (ndB false (t + (1 : Int)) (0 : Int))).snd.snd]))
 else False
 else False) := by kernel_rfl

theorem bia_ev (p : Pn) (c1 c2 c3 : Nat) (s t : Int) (Q : VRes → Prop) : callN Try.prog (tabS [panC, btwT]) noL 10 20 0 (.fn 19) [.agg (pnV p c1 c2 c3), I s, I t] (pnH p) (fun r _ => Q r) =
  (∃ p_1, pnIs (VH.mk (5) [(4, VB.cells [I 0, I 0] 34), (3, VB.cells [VV.slice (VA.el 0 [] (0 : Int) 0) p.D.length c1, VV.slice (VA.el 1 [] (0 : Int) 0) p.T.length c2, VV.slice (VA.el 2 [] (0 : Int) 0) p.S.length c3] 26), (0, arD p), (1, arT p), (2, arS p)]) p_1 (VV.slice (VA.el 0 [] (0 : Int) 0) p.D.length c1) (VV.slice (VA.el 1 [] (0 : Int) 0) p.T.length c2) (VV.slice (VA.el 2 [] (0 : Int) 0) p.S.length c3) ∧ Q (VRes.ret (VV.tup [VV.agg [I (btF p_1 (ndB false (0 : Int) (0 : Int)) (ndB true s t)).fst, I (btF p_1 (ndB false (0 : Int) (0 : Int)) (ndB true s t)).snd.fst], I (btF p_1 (ndB false (0 : Int) (0 : Int)) (ndB true s t)).snd.snd]))) := by kernel_rfl

theorem apa_ev (p : Pn) (c1 c2 c3 : Nat) (s t u v : Int) (Q : VRes → Prop) : callN Try.prog (tabS [panC, btwT]) noL 10 20 0 (.fn 21) [.agg (pnV p c1 c2 c3), I s, I t, I u, I v] (pnH p) (fun r _ => Q r) =
  (∃ p_1, pnIs (VH.mk (5) [(4, VB.cells [I 0, I 0] 34), (3, VB.cells [VV.slice (VA.el 0 [] (0 : Int) 0) p.D.length c1, VV.slice (VA.el 1 [] (0 : Int) 0) p.T.length c2, VV.slice (VA.el 2 [] (0 : Int) 0) p.S.length c3] 26), (0, arD p), (1, arT p), (2, arS p)]) p_1 (VV.slice (VA.el 0 [] (0 : Int) 0) p.D.length c1) (VV.slice (VA.el 1 [] (0 : Int) 0) p.T.length c2) (VV.slice (VA.el 2 [] (0 : Int) 0) p.S.length c3) ∧ Q (VRes.ret (VV.tup [VV.agg [I (btF p_1 (ndB true u v) (ndB true s t)).fst, I (btF p_1 (ndB true u v) (ndB true s t)).snd.fst], I (btF p_1 (ndB true u v) (ndB true s t)).snd.snd]))) := by kernel_rfl

theorem fit_ev (p : Pn) (c1 c2 c3 : Nat) (Q : VRes → Prop) : callN Try.prog (tabS [panC, triT]) noL 10 20 0 (.fn 23) [.agg (pnV p c1 c2 c3)] (pnH p) (fun r _ => Q r) =
  (∃ p_1, pnIs (VH.mk (4) [(3, VB.cells [VV.slice (VA.el 0 [] (0 : Int) 0) p.D.length c1, VV.slice (VA.el 1 [] (0 : Int) 0) p.T.length c2, VV.slice (VA.el 2 [] (0 : Int) 0) p.S.length c3] 26), (0, arD p), (1, arT p), (2, arS p)]) p_1 (VV.slice (VA.el 0 [] (0 : Int) 0) p.D.length c1) (VV.slice (VA.el 1 [] (0 : Int) 0) p.T.length c2) (VV.slice (VA.el 2 [] (0 : Int) 0) p.S.length c3) ∧ bif !panB p_1 then
 Q (VRes.ret (VV.tup [VV.bool false, I 1]))
 else ∃ p_2, pnIs (VH.mk (4) [(3, VB.cells [VV.slice (VA.el 0 [] (0 : Int) 0) p.D.length c1, VV.slice (VA.el 1 [] (0 : Int) 0) p.T.length c2, VV.slice (VA.el 2 [] (0 : Int) 0) p.S.length c3] 26), (0, arD p), (1, arT p), (2, arS p)]) p_2 (VV.slice (VA.el 0 [] (0 : Int) 0) p.D.length c1) (VV.slice (VA.el 1 [] (0 : Int) 0) p.T.length c2) (VV.slice (VA.el 2 [] (0 : Int) 0) p.S.length c3) ∧ PnOk p_2 ∧ (fitF p_2 → Q (VRes.ret (VV.tup [VV.bool true, I 0]))) ∧ (¬fitF p_2 → Q (VRes.ret (VV.tup [VV.bool false, I 0])))) := by kernel_rfl


end Go.Sx.Nos

/- nose: what is asked of a panel. -/

namespace Go.Sx.Nos
open Go Go.Sx Go.Proofs
set_option maxRecDepth 1000000

/-- A function of a panel and numbers, whose result is F's, turned by sh. -/
def shT (f : FuncId) (n : Nat) {R : Type} (sh : R → VV) (C : Pn → List Int → Prop) (F : Pn → List Int → R) : FuncId × Spec1 := (f, fun _ args h K => match args with
  | .agg [d, t, s] :: r => numsE r fun ns => bif Nat.beq ns.length n then ∃ p : Pn, pnIs h p d t s ∧ C p ns ∧ K (.ret (sh (F p ns))) h else False
  | _ => False)

theorem shT_ok {f : FuncId} {n : Nat} {R : Type} {sh : R → VV} {C : Pn → List Int → Prop} {F : Pn → List Int → R} (hsh : ∀ r, (sh r).pure = true)
    (hf : ∀ (p : Pn) (ns : List Int), ns.length = n → C p ns → ∀ c1 c2 c3, ∃ h', CallsV Try.prog f (.agg (pnV p c1 c2 c3) :: ns.map (VV.int .i64)) (pnH p) (.ret (sh (F p ns))) h') : SpOk Try.prog (shT f n sh C F).1 (shT f n sh C F).2 := by
  intro lock args h K hK
  simp only [shT] at hK
  split at hK
  · rename_i d t s r
    obtain ⟨ns, hK2, rfl⟩ := numsE_sound hK
    obtain ⟨hn, p, hp, hv, hK⟩ := cond_f hK2
    exact ⟨_, h, hK, lockP_refl _ _, calls_pn (hf p ns (Nat.eq_of_beq_eq_true hn) hv) (hsh _) (pure_ints ns) hp⟩
  · exact hK.elim

theorem pq_ok : ∀ x ∈ [panC, btwT], SpOk Try.prog x.1 x.2 := fun x hx => by
  simp only [List.mem_cons, List.not_mem_nil, or_false] at hx
  rcases hx with rfl | rfl
  · exact panC_ok
  · exact btwT_ok

def sOk16 (s : Int) : Prop := 0 ≤ s ∧ s ≤ 15
instance (s : Int) : Decidable (sOk16 s) := inferInstanceAs (Decidable (_ ∧ _))
def n64 (s : Int) : Prop := -9223372036854775808 ≤ s + 1 ∧ s + 1 ≤ 9223372036854775807

open Classical in
noncomputable def valF (p : Pn) (s : Int) : Int × Int × Int := if PnOk p ∧ ¬ sOk16 s then (0, 0, 4) else btF p (vN s) zeroN
open Classical in
noncomputable def difF (p : Pn) (a b : Int) : Int × Int × Int := if PnOk p ∧ (¬ sOk16 a ∨ ¬ sOk16 b) then (0, 0, 4) else btF p (vN a) (vN b)
noncomputable def biaF (p : Pn) (j t : Int) : Int × Int × Int := btF p zeroN (cN j t)
noncomputable def apaF (p : Pn) (j t o a : Int) : Int × Int × Int := btF p (cN o a) (cN j t)
open Classical in
noncomputable def fitB (p : Pn) : Bool := decide (fitF p)
open Classical in
theorem fitB_t {p : Pn} (h : fitF p) : fitB p = true := decide_eq_true h
open Classical in
theorem fitB_f {p : Pn} (h : ¬ fitF p) : fitB p = false := decide_eq_false h
open Classical in
noncomputable def fisF (p : Pn) : Bool × Int := if PnOk p then (fitB p, 0) else (false, 1)

abbrev g0 (ns : List Int) (i : Nat) : Int := ns.getD i 0

def fiV (r : Bool × Int) : VV := .tup [.bool r.1, I r.2]
noncomputable def valT := shT 17 1 spV (fun _ ns => n64 (g0 ns 0)) fun p ns => valF p (g0 ns 0)
noncomputable def difT := shT 18 2 spV (fun _ ns => n64 (g0 ns 0) ∧ n64 (g0 ns 1)) fun p ns => difF p (g0 ns 0) (g0 ns 1)
noncomputable def biaT := shT 19 2 spV (fun _ _ => True) fun p ns => biaF p (g0 ns 0) (g0 ns 1)
noncomputable def apaT := shT 21 4 spV (fun _ _ => True) fun p ns => apaF p (g0 ns 0) (g0 ns 1) (g0 ns 2) (g0 ns 3)
noncomputable def fisT := shT 23 0 fiV (fun _ _ => True) fun p _ => fisF p

theorem biaT_ok : SpOk Try.prog biaT.1 biaT.2 := shT_ok (fun _ => rfl) fun p ns hn _ c1 c2 c3 => by
  match ns, hn with
  | [s, t], _ =>
    obtain ⟨r, h', rfl, hc⟩ := of_callN (tab_good hmix pq_ok 20) (un := 10) (f := 19) (args := [.agg (pnV p c1 c2 c3), I s, I t]) (h := pnH p) (K := fun r _ => r = .ret (spV (biaF p s t)))
      (by refine cast (bia_ev p c1 c2 c3 s t _).symm ?_; exact ⟨p, pnIs_own rfl rfl rfl, rfl⟩)
    exact ⟨h', hc⟩

theorem apaT_ok : SpOk Try.prog apaT.1 apaT.2 := shT_ok (fun _ => rfl) fun p ns hn _ c1 c2 c3 => by
  match ns, hn with
  | [s, t, u, v], _ =>
    obtain ⟨r, h', rfl, hc⟩ := of_callN (tab_good hmix pq_ok 20) (un := 10) (f := 21) (args := [.agg (pnV p c1 c2 c3), I s, I t, I u, I v]) (h := pnH p) (K := fun r _ => r = .ret (spV (apaF p s t u v)))
      (by refine cast (apa_ev p c1 c2 c3 s t u v _).symm ?_; exact ⟨p, pnIs_own rfl rfl rfl, rfl⟩)
    exact ⟨h', hc⟩

theorem fisT_ok : SpOk Try.prog fisT.1 fisT.2 := shT_ok (fun _ => rfl) fun p ns hn _ c1 c2 c3 => by
  match ns, hn with
  | [], _ =>
    obtain ⟨r, h', rfl, hc⟩ := of_callN (tab_good hmix (l := [panC, triT]) (fun x hx => by
        simp only [List.mem_cons, List.not_mem_nil, or_false] at hx
        rcases hx with rfl | rfl
        · exact panC_ok
        · exact triT_ok) 20) (un := 10) (f := 23) (args := [.agg (pnV p c1 c2 c3)]) (h := pnH p) (K := fun r _ => r = .ret (fiV (fisF p)))
      (by
        refine cast (fit_ev p c1 c2 c3 _).symm ?_
        refine ⟨p, pnIs_own rfl rfl rfl, ?_⟩
        cases hpb : panB p with
        | false =>
          have hn : ¬ PnOk p := fun h => by rw [← panB_iff, hpb] at h; cases h
          show VRes.ret _ = _
          unfold fisF; rw [if_neg hn]; rfl
        | true =>
          have hp : PnOk p := panB_iff.1 hpb
          refine ⟨p, pnIs_own rfl rfl rfl, hp, fun hf => ?_, fun hf => ?_⟩
          · unfold fisF; rw [if_pos hp, fitB_t hf]; rfl
          · unfold fisF; rw [if_pos hp, fitB_f hf]; rfl)
    exact ⟨h', hc⟩

theorem valT_ok : SpOk Try.prog valT.1 valT.2 := shT_ok (fun _ => rfl) fun p ns hn hC c1 c2 c3 => by
  match ns, hn with
  | [s], _ =>
    have hk : n64 s := hC
    have k0 : -9223372036854775808 ≤ s + 1 := hk.1
    have k1 : s + 1 ≤ 9223372036854775807 := hk.2
    obtain ⟨r, h', rfl, hc⟩ := of_callN (tab_good hmix pq_ok 20) (un := 10) (f := 17) (args := [.agg (pnV p c1 c2 c3), I s]) (h := pnH p) (K := fun r _ => r = .ret (spV (valF p s)))
      (by
        refine cast (val_ev p c1 c2 c3 s _).symm ?_
        have e1 : PnOk p ∧ ¬ sOk16 s → valF p s = (0, 0, 4) := fun h => by unfold valF; rw [if_pos h]
        have e2 : ¬ (PnOk p ∧ ¬ sOk16 s) → valF p s = btF p (vN s) zeroN := fun h => by unfold valF; rw [if_neg h]
        refine ⟨p, pnIs_own rfl rfl rfl, ?_⟩
        cases hpb : panB p with
        | false =>
          have hn : ¬ PnOk p := fun h => by rw [← panB_iff, hpb] at h; cases h
          rw [e2 (fun h => hn h.1)]
          exact cond_r (by omega) ⟨p, pnIs_own rfl rfl rfl, rfl⟩
        | true =>
          have hp : PnOk p := panB_iff.1 hpb
          refine cond_d (fun a0 => cond_nd (fun a1 => ?_) (fun a1 => cond_r (by omega) ⟨p, pnIs_own rfl rfl rfl, ?_⟩)) (fun a0 => ?_)
          · rw [e1 ⟨hp, fun h => a1 h.2⟩]; rfl
          · rw [e2 (fun h => h.2 ⟨a0, a1⟩)]; rfl
          · rw [e1 ⟨hp, fun h => a0 h.1⟩]; rfl)
    exact ⟨h', hc⟩

theorem difT_ok : SpOk Try.prog difT.1 difT.2 := shT_ok (fun _ => rfl) fun p ns hn hC c1 c2 c3 => by
  match ns, hn with
  | [s, t], _ =>
    have hk : n64 s ∧ n64 t := hC
    have k0 : -9223372036854775808 ≤ s + 1 := hk.1.1
    have k1 : s + 1 ≤ 9223372036854775807 := hk.1.2
    have l0 : -9223372036854775808 ≤ t + 1 := hk.2.1
    have l1 : t + 1 ≤ 9223372036854775807 := hk.2.2
    obtain ⟨r, h', rfl, hc⟩ := of_callN (tab_good hmix pq_ok 20) (un := 10) (f := 18) (args := [.agg (pnV p c1 c2 c3), I s, I t]) (h := pnH p) (K := fun r _ => r = .ret (spV (difF p s t)))
      (by
        refine cast (dif_ev p c1 c2 c3 s t _).symm ?_
        have e1 : PnOk p ∧ (¬ sOk16 s ∨ ¬ sOk16 t) → difF p s t = (0, 0, 4) := fun h => by unfold difF; rw [if_pos h]
        have e2 : ¬ (PnOk p ∧ (¬ sOk16 s ∨ ¬ sOk16 t)) → difF p s t = btF p (vN s) (vN t) := fun h => by unfold difF; rw [if_neg h]
        refine ⟨p, pnIs_own rfl rfl rfl, ?_⟩
        cases hpb : panB p with
        | false =>
          have hn : ¬ PnOk p := fun h => by rw [← panB_iff, hpb] at h; cases h
          rw [e2 (fun h => hn h.1)]
          exact cond_r (by omega) (cond_r (by omega) ⟨p, pnIs_own rfl rfl rfl, rfl⟩)
        | true =>
          have hp : PnOk p := panB_iff.1 hpb
          refine cond_d (fun a0 => cond_nd (fun a1 => ?_) (fun a1 => cond_d (fun b0 => cond_nd (fun b1 => ?_) (fun b1 => cond_r (by omega) (cond_r (by omega) ⟨p, pnIs_own rfl rfl rfl, ?_⟩))) (fun b0 => ?_))) (fun a0 => ?_)
          · rw [e1 ⟨hp, .inl fun h => a1 h.2⟩]; rfl
          · rw [e1 ⟨hp, .inr fun h => b1 h.2⟩]; rfl
          · rw [e2 (fun h => h.2.elim (fun h => h ⟨a0, a1⟩) (fun h => h ⟨b0, b1⟩))]; rfl
          · rw [e1 ⟨hp, .inr fun h => b0 h.1⟩]; rfl
          · rw [e1 ⟨hp, .inl fun h => a0 h.1⟩]; rfl)
    exact ⟨h', hc⟩
end Go.Sx.Nos
