/- stream: Nn1 Nn2, in one text. -/
import Derived.Test.YtnfkbbcbehnnkaaNM
/- nose: the loops of Groups, evaluated. -/

namespace Go.Sx.Nos
open Go Go.Sx Go.Proofs
set_option maxRecDepth 1000000

def dsG0 : List Nat := [24, 4, 6, 2, 3]
def VG0 (k : Nat) (i : Int) : List VV := [I i, .ptr (.own 5 0), .sl 6 k, .nils, I 0]
def dsG2 : List Nat := [43, 44, 45, 24, 4, 6, 2, 3, 7, 8, 10]
def VG2 (k : Nat) (x f m : Int) : List VV := [.sl 6 k, I k, I m, I k, .ptr (.own 5 0), .sl 6 k, .nils, I 0, I k, I x, I f]
def nsG : List Nat := [0, 1, 2, 3, 4, 5, 6]
noncomputable def BG (p : Pn) (c1 c2 c3 : Nat) (k : Nat) (g : Nat → List VV) : List VB := [arD p, arT p, arS p, pnB p c1 c2 c3, maB (noP p), faB 4 (farF p), .vec k g 1 3]
/-- May two samples be compared? -/
noncomputable def bdP (p : Pn) (s o : Int) : Prop := farAB p (vN s) (vN o) < WW ∧ farAB p (vN o) (vN s) < WW
open Classical in
/-- The first sample of a list that may be compared with one. -/
noncomputable def gFirst (p : Pn) (s : Int) : List Int → Int
  | [] => s
  | o :: r => if 0 ≤ o ∧ bdP p s o then o else gFirst p s r
open Classical in
noncomputable def gN (p : Pn) (s : Nat) (out : List Int) : Int := if thP p (vN s) then gFirst p s out else -1
noncomputable def grp (p : Pn) : Nat → List Int
  | 0 => []
  | k + 1 => grp p k ++ [gN p k (grp p k)]
noncomputable def lG2 (p : Pn) (c1 c2 c3 : Nat) (k : Nat) : LT := fun lock tt h K => ∃ x : Int,
  FitP lock h tt ⟨7, nsG.zip (BG p c1 c2 c3 k (dG (grp p k)))⟩ (dsG2.zip (VG2 k x k 0)) ∧ ((PnOk p ∧ fitF p) ∧ k ≤ 16 ∧ thP p (vN k) ∧ x = (ixN (noP p) (vN k) : Nat)) ∧
    ∀ m : Int, K .normal (dsG2.zip (VG2 k x (gFirst p k (grp p k)) m)) ⟨7, nsG.zip (BG p c1 c2 c3 k (dG (grp p k)))⟩
theorem g2_ev (p : Pn) (c1 c2 c3 : Nat) (k : Nat) (l : List Int) (x f m : Int) (X : VEx → List VV → List VB → Prop) : codeE Try.prog (callN Try.prog noSpec noL 10 20) (fun _ => none) true 10 86 0 (loopB 2 (bodyOf Try.prog 31)) (dsG2.zip (VG2 k x f m)) ⟨7, nsG.zip (BG p c1 c2 c3 k (dG l))⟩ (obs 7 dsG2 nsG X) =
  (bif decide (m < (↑k : Int)) then
 bif decide ((0 : Int) ≤ m ∧ m < (↑k : Int)) then
 bif k.beq k && Nat.ble 1 Try.prog.types[3].size then
 bif k.beq k then
 bif decide (l.getD m.toNat (0 : Int) < (0 : Int)) then
 bif inK IntKind.i64 (m + (1 : Int)) then
 X VEx.normal [VV.sl 6 k, I (↑k : Int), I (m + (1 : Int)), I (↑k : Int), VV.ptr (VA.own 5 0), VV.sl 6 k, VV.nils, I 0, I (↑k : Int), I x, I f] [arD p, arT p, arS p, pnB p c1 c2 c3, maB (noP p), VB.fam [VV.mp 4] 4225 (farF p) (93 : TypeId), VB.vec k (dG l) 1 (3 : TypeId)]
 else False
 else bif inK IntKind.i64 (l.getD m.toNat (0 : Int) + (1 : Int)) then
 KeyLaw Try.prog 73 kU ∧ bif decide ((0 : Int) ≤ x ∧ x < (↑65 : Int)) then
 bif decide ((0 : Int) ≤ valOf (esOf (noP p)) (vN (l.getD m.toNat 0)) ∧ valOf (esOf (noP p)) (vN (l.getD m.toNat 0)) < (↑65 : Int)) then
 bif decide (x.toNat * (65) + (valOf (esOf (noP p)) (vN (l.getD m.toNat 0))).toNat * (1) < 4225) then
 bif decide (farF p (x.toNat * (65) + (valOf (esOf (noP p)) (vN (l.getD m.toNat 0))).toNat * (1)) < (1125899906842624 : Int)) then
 bif decide ((0 : Int) ≤ valOf (esOf (noP p)) (vN (l.getD m.toNat 0)) ∧ valOf (esOf (noP p)) (vN (l.getD m.toNat 0)) < (↑65 : Int)) then
 bif decide ((0 : Int) ≤ x ∧ x < (↑65 : Int)) then
 bif decide ((valOf (esOf (noP p)) (vN (l.getD m.toNat 0))).toNat * (65) + x.toNat * (1) < 4225) then
 bif decide (farF p ((valOf (esOf (noP p)) (vN (l.getD m.toNat 0))).toNat * (65) + x.toNat * (1)) < (1125899906842624 : Int)) then
 X (VEx.exit 2) [VV.sl 6 k, I (↑k : Int), I m, I (↑k : Int), VV.ptr (VA.own 5 0), VV.sl 6 k, VV.nils, I 0, I (↑k : Int), I x, I (l.getD m.toNat (0 : Int))] [arD p, arT p, arS p, pnB p c1 c2 c3, maB (noP p), VB.fam [VV.mp 4] 4225 (farF p) (93 : TypeId), VB.vec k (dG l) 1 (3 : TypeId)]
 else bif inK IntKind.i64 (m + (1 : Int)) then
 X VEx.normal [VV.sl 6 k, I (↑k : Int), I (m + (1 : Int)), I (↑k : Int), VV.ptr (VA.own 5 0), VV.sl 6 k, VV.nils, I 0, I (↑k : Int), I x, I f] [arD p, arT p, arS p, pnB p c1 c2 c3, maB (noP p), VB.fam [VV.mp 4] 4225 (farF p) (93 : TypeId), VB.vec k (dG l) 1 (3 : TypeId)]
 else False
 else False
 else False
 else False
 else bif inK IntKind.i64 (m + (1 : Int)) then
 X VEx.normal [VV.sl 6 k, I (↑k : Int), I (m + (1 : Int)), I (↑k : Int), VV.ptr (VA.own 5 0), VV.sl 6 k, VV.nils, I 0, I (↑k : Int), I x, I f] [arD p, arT p, arS p, pnB p c1 c2 c3, maB (noP p), VB.fam [VV.mp 4] 4225 (farF p) (93 : TypeId), VB.vec k (dG l) 1 (3 : TypeId)]
 else False
 else False
 else False
 else False
 else False
 else False
 else False
 else False
 else X (VEx.exit 2) [VV.sl 6 k, I (↑k : Int), I m, I (↑k : Int), VV.ptr (VA.own 5 0), VV.sl 6 k, VV.nils, I 0, I (↑k : Int), I x, I f] [arD p, arT p, arS p, pnB p c1 c2 c3, maB (noP p), VB.fam [VV.mp 4] 4225 (farF p) (93 : TypeId), VB.vec k (dG l) 1 (3 : TypeId)]) := by kernel_rfl

theorem g0_ev (p : Pn) (c1 c2 c3 : Nat) (k : Nat) (X : VEx → List VV → List VB → Prop) : codeE Try.prog (callN Try.prog noSpec noL 10 20) (tabB [(2, lG2 p c1 c2 c3 k)]) true 10 86 0 (loopB 0 (bodyOf Try.prog 31)) (dsG0.zip (VG0 k k)) ⟨7, nsG.zip (BG p c1 c2 c3 k (dG (grp p k)))⟩ (obs 7 dsG0 nsG X) =
  (bif decide ((↑k : Int) < (16 : Int)) then
 bif inK IntKind.i64 ((↑k : Int) + (1 : Int)) then
 KeyLaw Try.prog 73 kU ∧ bif !hasE (esOf (noP p)) (vN (k : Int)) then
 bif k.beq k then
 bif roomB (k + 1) (8) then
 bif inK IntKind.i64 ((↑k : Int) + (1 : Int)) then
 X VEx.normal [I ((↑k : Int) + (1 : Int)), VV.ptr (VA.own 5 0), VV.sl 6 (k + 1), VV.nils, I 0] [arD p, arT p, arS p, pnB p c1 c2 c3, maB (noP p), VB.fam [VV.mp 4] 4225 (farF p) (93 : TypeId), VB.vec (k + 1) (catG k (dG (grp p k)) fun j => List.take (1) (List.drop (j * (1)) [I (-1)])) (1) 3]
 else False
 else False
 else False
 else ∃ x, FitP 0 (VH.mk 7 (nsG.zip (BG p c1 c2 c3 k (dG (grp p k))))) ((45, I 0) :: (44, I (↑k : Int)) :: (43, VV.sl 6 k) :: (10, I (↑k : Int)) :: (42, I (↑k : Int)) :: (38, VV.bool false) :: (38, VV.bool !hasE (esOf (noP p)) (vN (k : Int))) :: (37, VV.bool (hasE (esOf (noP p)) (vN (k : Int)))) :: (9, VV.bool (hasE (esOf (noP p)) (vN (k : Int)))) :: (8, I (valOf (esOf (noP p)) (vN (k : Int)))) :: (36, VV.bool (hasE (esOf (noP p)) (vN (k : Int)))) :: (35, I (valOf (esOf (noP p)) (vN (k : Int)))) :: (27, VV.tup [(PK.int IntKind.i64).vv (valOf (esOf (noP p)) (vN (k : Int))), VV.bool (hasE (esOf (noP p)) (vN (k : Int)))]) :: (34, VV.tup [(PK.int IntKind.i64).vv (valOf (esOf (noP p)) (vN (k : Int))), VV.bool (hasE (esOf (noP p)) (vN (k : Int)))]) :: (33, VV.agg [VV.bool false, I ((↑k : Int) + (1 : Int)), I 0]) :: (32, I (↑k : Int)) :: (31, VV.mp 4) :: (30, VV.ptr (VA.own 5 0)) :: (29, VV.ptr (VA.own 5 0)) :: (28, VV.ptr (VA.own 5 0)) :: (7, I (↑k : Int)) :: (26, I (↑k : Int)) :: (25, VV.bool true) :: (25, VV.bool (decide ((↑k : Int) < (16 : Int)))) :: dsG0.zip (VG0 k (↑k : Int))) (VH.mk 7 (nsG.zip (BG p c1 c2 c3 k (dG (grp p k))))) (dsG2.zip (VG2 k x (↑k : Int) (0 : Int))) ∧ ((PnOk p ∧ fitF p) ∧ k ≤ 16 ∧ thP p (vN (↑k : Int)) ∧ x = (↑(ixN (noP p) (vN (↑k : Int))) : Int)) ∧ ∀ (m : Int), bif k.beq k then
 bif roomB (k + 1) (8) then
 bif inK IntKind.i64 ((↑k : Int) + (1 : Int)) then
 X VEx.normal [I ((↑k : Int) + (1 : Int)), VV.ptr (VA.own 5 0), VV.sl 6 (k + 1), VV.nils, I 0] [arD p, arT p, arS p, pnB p c1 c2 c3, maB (noP p), VB.fam [VV.mp 4] 4225 (farF p) (93 : TypeId), VB.vec (k + 1) (catG k (dG (grp p k)) fun j => List.take (1) (List.drop (j * (1)) [I (gFirst p (↑k : Int) (grp p k))])) (1) 3]
 else False
 else False
 else False
 else False
 else X (VEx.exit 0) [I (↑k : Int), VV.ptr (VA.own 5 0), VV.sl 6 k, VV.nils, I 0] [arD p, arT p, arS p, pnB p c1 c2 c3, maB (noP p), VB.fam [VV.mp 4] 4225 (farF p) (93 : TypeId), VB.vec k (dG (grp p k)) 1 (3 : TypeId)]) := by kernel_rfl

noncomputable def lG0s (p : Pn) (c1 c2 c3 : Nat) : LT := fun lock tt h K =>
  FitP lock h tt ⟨7, nsG.zip (BG p c1 c2 c3 0 (dG (grp p 0)))⟩ (dsG0.zip (VG0 0 0)) ∧ (PnOk p ∧ fitF p) ∧ K .normal (dsG0.zip (VG0 16 16)) ⟨7, nsG.zip (BG p c1 c2 c3 16 (dG (grp p 16)))⟩
def dsG00 : List Nat := [6, 24, 4, 2, 3]
def VG00 : List VV := [.nils, I 0, .ptr (.own 5 0), .nils, I 0]
def nsG0 : List Nat := [0, 1, 2, 3, 4, 5]
noncomputable def lG0 (p : Pn) (c1 c2 c3 : Nat) : LT := fun lock tt h K =>
  FitP lock h tt ⟨6, nsG0.zip [arD p, arT p, arS p, pnB p c1 c2 c3, maB (noP p), faB 4 (farF p)]⟩ (dsG00.zip VG00) ∧ (PnOk p ∧ fitF p) ∧ K .normal (dsG0.zip (VG0 16 16)) ⟨7, nsG.zip (BG p c1 c2 c3 16 (dG (grp p 16)))⟩
def th6 (Q : VRes → VB → Prop) : VRes → VH → Prop := fun r h => Q r (h.at 6)
theorem grp_ev (p : Pn) (c1 c2 c3 : Nat) (Q : VRes → VB → Prop) : callN Try.prog (tabS [panC, triT]) (atF 31 [(0, lG0 p c1 c2 c3)]) 10 20 0 (.fn 31) [.agg (pnV p c1 c2 c3)] (pnH p) (th6 Q) =
  (∃ p_1, pnIs (VH.mk (4) [(3, VB.cells [VV.slice (VA.el 0 [] (0 : Int) 0) p.D.length c1, VV.slice (VA.el 1 [] (0 : Int) 0) p.T.length c2, VV.slice (VA.el 2 [] (0 : Int) 0) p.S.length c3] 26), (0, arD p), (1, arT p), (2, arS p)]) p_1 (VV.slice (VA.el 0 [] (0 : Int) 0) p.D.length c1) (VV.slice (VA.el 1 [] (0 : Int) 0) p.T.length c2) (VV.slice (VA.el 2 [] (0 : Int) 0) p.S.length c3) ∧ bif !panB p_1 then
 Q (VRes.ret (VV.tup [VV.nils, I 1])) VB.free
 else ∃ p_2, pnIs (VH.mk (4) [(3, VB.cells [VV.slice (VA.el 0 [] (0 : Int) 0) p.D.length c1, VV.slice (VA.el 1 [] (0 : Int) 0) p.T.length c2, VV.slice (VA.el 2 [] (0 : Int) 0) p.S.length c3] 26), (0, arD p), (1, arT p), (2, arS p)]) p_2 (VV.slice (VA.el 0 [] (0 : Int) 0) p.D.length c1) (VV.slice (VA.el 1 [] (0 : Int) 0) p.T.length c2) (VV.slice (VA.el 2 [] (0 : Int) 0) p.S.length c3) ∧ PnOk p_2 ∧ (fitF p_2 → FitP 0 (VH.mk (4 + 2) [(4 + 1, faB (4) (farF p_2)), (4, maB (noP p_2)), (3, VB.cells [VV.slice (VA.el 0 [] (0 : Int) 0) p.D.length c1, VV.slice (VA.el 1 [] (0 : Int) 0) p.T.length c2, VV.slice (VA.el 2 [] (0 : Int) 0) p.S.length c3] 26), (0, arD p), (1, arT p), (2, arS p)]) [(24, I 0), (6, VV.nils), (23, VV.bool false), (23, VV.bool !true), (22, VV.bool true), (5, VV.bool true), (4, VV.ptr (VA.own (4 + 1) 0)), (21, VV.bool true), (20, VV.ptr (VA.own (4 + 1) 0)), (17, VV.tup [VV.ptr (VA.own (4 + 1) 0), VV.bool true]), (19, VV.tup [VV.ptr (VA.own (4 + 1) 0), VV.bool true]), (18, VV.agg [VV.slice (VA.el 0 [] (0 : Int) 0) p.D.length c1, VV.slice (VA.el 1 [] (0 : Int) 0) p.T.length c2, VV.slice (VA.el 2 [] (0 : Int) 0) p.S.length c3]), (16, VV.bool false), (16, VV.bool !panB p_1), (15, VV.bool (panB p_1)), (14, VV.agg [VV.slice (VA.el 0 [] (0 : Int) 0) p.D.length c1, VV.slice (VA.el 1 [] (0 : Int) 0) p.T.length c2, VV.slice (VA.el 2 [] (0 : Int) 0) p.S.length c3]), (3, I 0), (2, VV.nils), (1, VV.ptr (VA.own (3) 0)), (0, VV.agg (pnV p c1 c2 c3))] (VH.mk 6 (nsG0.zip [arD p, arT p, arS p, pnB p c1 c2 c3, maB (noP p), faB 4 (farF p)])) (dsG00.zip VG00) ∧ (PnOk p ∧ fitF p) ∧ Q (VRes.ret (VV.tup [VV.sl 6 16, I 0])) (VB.vec 16 (dG (grp p 16)) 1 (3 : TypeId))) ∧ (¬fitF p_2 → Q (VRes.ret (VV.tup [VV.nils, I 6])) VB.free)) := by kernel_rfl


end Go.Sx.Nos

/- nose: Groups. -/

namespace Go.Sx.Nos
open Go Go.Sx Go.Proofs
set_option maxRecDepth 1000000

/-- A loop that begins with nil is one that begins with a list of no elements. -/
theorem ghost_row {c : Code} {n d nx : Nat} {bs : List (Nat × VB)} {t0 : Slots} {T0 T : LT} (g : Nat → List VV) (s : Nat) (ty : TypeId) (h0 : LSound Try.prog true c n T0)
    (hT : ∀ lock t h K, T lock t h K → FitP lock h t ⟨nx, bs⟩ ((d, .nils) :: t0) ∧ T0 0 ((d, .sl nx 0) :: t0) ((VH.mk nx bs).new (.vec 0 g s ty)) K) : LSound Try.prog true c n T := by
  intro lock t h K hK
  obtain ⟨hf, hK⟩ := hT lock t h K hK
  obtain ⟨e, t', h', hk, _, hs⟩ := h0 _ _ _ _ hK
  obtain rfl := hf.1.1
  refine ⟨e, t', h', hk, lock0 _ _, sem_fit hf (sem_ghost g s ty hs fun R a hv ht => ?_)⟩
  have h1 := slot_ghost (d := d) (n0 := nx) (t := (d, .nils) :: t0) (by rw [look_cons]; exact if_pos rfl) R a hv ht
  intro d'
  have h2 := h1 d'
  rw [look_cons] at h2 ⊢
  by_cases h : d = d'
  · rw [if_pos h] at h2 ⊢; exact h2
  · rw [if_neg h] at h2 ⊢
    rw [look_cons, if_neg h] at h2
    exact h2

section
variable {p : Pn} {c1 c2 c3 : Nat}

theorem gFirst_cases {s : Int} : ∀ l : List Int, gFirst p s l = s ∨ (gFirst p s l ∈ l ∧ 0 ≤ gFirst p s l)
  | [] => .inl rfl
  | o :: r => by
    unfold gFirst
    split
    · rename_i h
      exact .inr ⟨List.mem_cons_self .., h.1⟩
    · rcases gFirst_cases r with h | ⟨h, h'⟩
      · exact .inl h
      · exact .inr ⟨List.mem_cons_of_mem _ h, h'⟩

theorem grp_len : ∀ k, (grp p k).length = k
  | 0 => rfl
  | k + 1 => by
    show (grp p k ++ [_]).length = k + 1
    rw [List.length_append, grp_len k]
    rfl

theorem grp_mem : ∀ k, ∀ o ∈ grp p k, o = -1 ∨ (0 ≤ o ∧ o < k ∧ thP p (vN o))
  | 0, _, h => by cases h
  | k + 1, o, h => by
    rcases List.mem_append.1 h with h | h
    · rcases grp_mem k o h with h | ⟨h1, h2, h3⟩
      · exact .inl h
      · exact .inr ⟨h1, by omega, h3⟩
    · rw [List.mem_singleton.1 h]
      unfold gN
      split
      · rename_i ht
        rcases gFirst_cases (p := p) (s := k) (grp p k) with h | ⟨h, h'⟩
        · rw [h]; exact .inr ⟨by omega, by omega, ht⟩
        · rcases grp_mem k _ h with g | ⟨g1, g2, g3⟩
          · omega
          · exact .inr ⟨g1, by omega, g3⟩
      · exact .inl rfl

theorem lG2_ok (k : Nat) : LSound Try.prog true (.block 2 (.loop (loopB 2 (bodyOf Try.prog 31)))) 86 (lG2 p c1 c2 c3 k) := by
  by_cases hh : (PnOk p ∧ fitF p) ∧ k ≤ 16 ∧ thP p (vN k)
  · obtain ⟨⟨hp, hf⟩, hk16, ht⟩ := hh
    have hl := grp_len (p := p) k
    have mk := (mem_no hp (vN k)).2 ht
    have ik := ixN_lt mk
    have hn := no_le hp
    change ixN (noP p) (vN k) < (noP p).length at ik
    change (noP p).length ≤ 65 at hn
    obtain ⟨x, hx⟩ : ∃ x : Int, x = (ixN (noP p) (vN k) : Nat) := ⟨_, rfl⟩
    refine loop_row hmix good0 (un := 10) (ds := dsG2) (ns := nsG) (nx := 7) (fun m : Nat => VG2 k x k m) (fun _ => BG p c1 c2 c3 k (dG (grp p k))) (fun m => m ≤ k) (fun m => k - m)
      (fun m ex vs bs => ex = .exit 2 ∧ (∃ m' : Int, vs = VG2 k x (gFirst p k ((grp p k).drop m)) m') ∧ bs = BG p c1 c2 c3 k (dG (grp p k))) noL_ok ?_ ?_
    · intro m hm
      refine cast (g2_ev p c1 c2 c3 k (grp p k) x k m _).symm ?_
      by_cases h : m < k
      · have hm' : m < (grp p k).length := by omega
        have hd : (grp p k).drop m = (grp p k).getD m 0 :: (grp p k).drop (m + 1) := by
          rw [List.drop_eq_getElem_cons hm', List.getD_eq_getElem?_getD, List.getElem?_eq_getElem hm']
          rfl
        have ho : (grp p k).getD m 0 ∈ grp p k := by
          rw [List.getD_eq_getElem?_getD, List.getElem?_eq_getElem hm']
          exact List.getElem_mem hm'
        have hoc := grp_mem k _ ho
        have go : ¬ (0 ≤ (grp p k).getD m 0 ∧ bdP p k ((grp p k).getD m 0)) → RoundQ (fun m : Nat => VG2 k x k m) (fun _ => BG p c1 c2 c3 k (dG (grp p k))) (fun m => m ≤ k) (fun m => k - m)
            (fun m ex vs bs => ex = .exit 2 ∧ (∃ m' : Int, vs = VG2 k x (gFirst p k ((grp p k).drop m)) m') ∧ bs = BG p c1 c2 c3 k (dG (grp p k))) m .normal (VG2 k x k (m + 1)) (BG p c1 c2 c3 k (dG (grp p k))) := fun hc =>
          ⟨m + 1, by omega, by dsimp only; omega, vst (V := VG2 k x k) m, fitBs_refl _, fun ex vs bs ho => by
            obtain ⟨h1, ⟨m', h2⟩, h3⟩ := ho
            refine ⟨h1, ⟨m', ?_⟩, h3⟩
            rw [hd]
            unfold gFirst
            rw [if_neg hc]
            exact h2⟩
        refine cond_dk (by omega) (cond_dk ⟨by omega, by omega⟩ (cond_k (by rw [beq_t rfl, Bool.true_and]; kernel_rfl) (cond_k (beq_t rfl) ?_)))
        rw [Int.toNat_natCast]
        generalize (grp p k).getD m 0 = o at hoc hd go ⊢
        refine cond_d (fun h0 => cond_r (by omega) (go (fun h => by omega))) (fun h0 => ?_)
        rcases hoc with rfl | ⟨o0, o1, o2⟩
        · exact absurd (by decide) h0
        · have mo := (mem_no hp (vN o)).2 o2
          have io := ixN_lt mo
          change ixN (noP p) (vN o) < (noP p).length at io
          have hv : valOf (esOf (noP p)) (vN o) = (ixN (noP p) (vN o) : Int) := esOf_val mo
          rw [hv]
          have wa : (0 : Int) ≤ x ∧ x < ((65 : Nat) : Int) := ⟨by omega, by omega⟩
          have wb : (0 : Int) ≤ (ixN (noP p) (vN o) : Int) ∧ (ixN (noP p) (vN o) : Int) < ((65 : Nat) : Int) := ⟨by omega, by omega⟩
          have hxn : x.toNat = ixN (noP p) (vN k) := by rw [hx, Int.toNat_natCast]
          have e1 : farF p (x.toNat * 65 + (ixN (noP p) (vN o) : Int).toNat * 1) = farAB p (vN k) (vN o) := by unfold farAB; rw [hxn, Int.toNat_natCast, Nat.mul_one]
          have e2 : farF p ((ixN (noP p) (vN o) : Int).toNat * 65 + x.toNat * 1) = farAB p (vN o) (vN k) := by unfold farAB; rw [hxn, Int.toNat_natCast, Nat.mul_one]
          have hW : (1125899906842624 : Int) = WW := rfl
          refine cond_r (by omega) ⟨key73, cond_dk wa (cond_dk wb (cond_dk (by rw [hxn, Int.toNat_natCast]; omega) ?_))⟩
          rw [e1, e2, hW]
          refine cond_d (fun b1 => cond_dk wb (cond_dk wa (cond_dk (by rw [hxn, Int.toNat_natCast]; omega) (cond_d (fun b2 => ?_) (fun b2 => cond_r (by omega) (go (fun h => b2 h.2.2))))))) (fun b1 => cond_r (by omega) (go (fun h => b1 h.2.1)))
          refine ⟨rfl, ⟨m, ?_⟩, rfl⟩
          rw [hd]
          unfold gFirst
          rw [if_pos ⟨o0, b1, b2⟩]
          rfl
      · obtain rfl : m = k := by omega
        refine cond_d (fun h => by omega) (fun _ => ⟨rfl, ⟨m, ?_⟩, rfl⟩)
        rw [List.drop_eq_nil_of_le (by omega)]
        rfl
    · rintro lock tt h K ⟨x', hf', ⟨_, _, _, hx'⟩, hK⟩
      obtain rfl : x' = x := by rw [hx, hx']
      refine ⟨0, hf', Nat.zero_le _, ?_⟩
      rintro ex vs bs ⟨rfl, ⟨m', rfl⟩, rfl⟩
      exact hK m'
  · rintro lock tt h K ⟨_, _, ⟨h1, h2, h3, _⟩, _⟩
    exact (hh ⟨h1, h2, h3⟩).elim

theorem lsp_G2 {k : Nat} : ∀ id T, tabB [(2, lG2 p c1 c2 c3 k)] id = some T → ∀ b' ∈ blocksOf id (loopB 0 (bodyOf Try.prog 31)), LSound Try.prog true (.block id b') 86 T := by
  intro id T hT
  have hm := tabB_some hT
  simp only [List.mem_singleton, Prod.mk.injEq] at hm
  obtain ⟨rfl, rfl⟩ := hm
  have hb : blocksOf 2 (loopB 0 (bodyOf Try.prog 31)) = [.loop (loopB 2 (bodyOf Try.prog 31))] := by kernel_rfl
  intro b' hb'
  rw [hb, List.mem_singleton] at hb'
  subst hb'
  exact lG2_ok k

theorem fit_grp {k : Nat} {y : Int} (hy : grp p (k + 1) = grp p k ++ [y]) : (VB.vec (k + 1) (dG (grp p (k + 1))) 1 3).fit (.vec (k + 1) (catG k (dG (grp p k)) fun j => List.take 1 (List.drop (j * 1) [I y])) 1 3) := by
  refine ⟨rfl, rfl, rfl, fun j hj => ?_⟩
  have hl := grp_len (p := p) k
  rw [hy]
  unfold catG
  by_cases hjk : j < k
  · rw [blt_t hjk]; exact dG_l (by omega)
  · rw [blt_f (by omega)]
    obtain rfl : j = k := by omega
    show List.take 1 (List.drop ((j - j) * 1) [I y]) = _
    rw [Nat.sub_self]
    have := dG_r (S := grp p j) (R := [y]) (j := 0)
    rw [hl] at this
    exact this.symm

theorem lG0s_ok : LSound Try.prog true (.block 0 (.loop (loopB 0 (bodyOf Try.prog 31)))) 86 (lG0s p c1 c2 c3) := by
  by_cases hh : PnOk p ∧ fitF p
  · obtain ⟨hp, hf⟩ := hh
    refine loop_rowD hmix good0 (un := 10) (ds := dsG0) (ns := nsG) (nx := 7) (lsp := fun k : Nat => tabB [(2, lG2 p c1 c2 c3 k)]) (fun k : Nat => VG0 k k) (fun k => BG p c1 c2 c3 k (dG (grp p k))) (fun k => k ≤ 16) (fun k => 16 - k)
      (fun _ ex vs bs => ex = .exit 0 ∧ vs = VG0 16 16 ∧ bs = BG p c1 c2 c3 16 (dG (grp p 16))) (fun _ _ => lsp_G2) ?_ ?_
    · intro k hk
      refine cast (g0_ev p c1 c2 c3 k _).symm ?_
      by_cases h : k < 16
      · have go : ∀ y, grp p (k + 1) = grp p k ++ [y] → RoundQ (fun k : Nat => VG0 k k) (fun k => BG p c1 c2 c3 k (dG (grp p k))) (fun k => k ≤ 16) (fun k => 16 - k)
            (fun _ ex vs bs => ex = .exit 0 ∧ vs = VG0 16 16 ∧ bs = BG p c1 c2 c3 16 (dG (grp p 16))) k .normal (VG0 (k + 1) ((k : Int) + 1)) [arD p, arT p, arS p, pnB p c1 c2 c3, maB (noP p), faB 4 (farF p), .vec (k + 1) (catG k (dG (grp p k)) fun j => List.take 1 (List.drop (j * 1) [I y])) 1 3] := fun y hy =>
          ⟨k + 1, by omega, by dsimp only; omega, vst (V := VG0 (k + 1)) k, ⟨VB.fit_refl _, VB.fit_refl _, VB.fit_refl _, VB.fit_refl _, VB.fit_refl _, VB.fit_refl _, fit_grp hy, trivial⟩, fun _ _ _ ho => ho⟩
        refine cond_dk (by omega) (cond_r (by omega) ⟨key73, ?_⟩)
        have hh : hasE (esOf (noP p)) (vN k) = decide (vN k ∈ noP p) := esOf_has _ _
        rw [hh]
        by_cases hm : vN k ∈ noP p
        · have ht : thP p (vN k) := (mem_no hp (vN k)).1 hm
          have hv : valOf (esOf (noP p)) (vN k) = (ixN (noP p) (vN k) : Int) := esOf_val hm
          rw [decide_eq_true hm, hv]
          refine ⟨_, ⟨⟨rfl, rfl, VB.fit_refl _, VB.fit_refl _, VB.fit_refl _, VB.fit_refl _, VB.fit_refl _, VB.fit_refl _, VB.fit_refl _, trivial⟩, rfl, rfl, rfl, rfl, rfl, rfl, rfl, rfl, rfl, rfl, rfl, trivial⟩, ⟨⟨hp, hf⟩, by omega, ht, rfl⟩, fun m => cond_k (beq_t rfl) (cond_k (room8 (by omega)) (cond_r (by omega) (go _ ?_)))⟩
          show grp p k ++ [gN p k (grp p k)] = _
          unfold gN
          rw [if_pos ht]
        · rw [decide_eq_false hm]
          refine cond_k rfl (cond_k (beq_t rfl) (cond_k (room8 (by omega)) (cond_r (by omega) (go (-1) ?_))))
          show grp p k ++ [gN p k (grp p k)] = _
          unfold gN
          rw [if_neg (fun ht => hm ((mem_no hp (vN k)).2 ht))]
      · obtain rfl : k = 16 := by omega
        exact cond_d (fun h => by omega) (fun _ => ⟨rfl, rfl, rfl⟩)
    · rintro lock tt h K ⟨hf, _, hK⟩
      refine ⟨0, hf, Nat.zero_le _, ?_⟩
      rintro ex vs bs ⟨rfl, rfl, rfl⟩
      exact hK
  · rintro lock tt h K ⟨_, hc, _⟩
    exact (hh hc).elim

theorem lG0_ok : LSound Try.prog true (.block 0 (.loop (loopB 0 (bodyOf Try.prog 31)))) 86 (lG0 p c1 c2 c3) :=
  ghost_row (d := 6) (nx := 6) (bs := nsG0.zip [arD p, arT p, arS p, pnB p c1 c2 c3, maB (noP p), faB 4 (farF p)]) (t0 := [24, 4, 2, 3].zip [I 0, .ptr (.own 5 0), .nils, I 0]) (dG (grp p 0)) 1 3 lG0s_ok (by
    rintro lock t h K ⟨hf, hi, hK⟩
    exact ⟨hf, ⟨⟨rfl, rfl, VB.fit_refl _, VB.fit_refl _, VB.fit_refl _, VB.fit_refl _, VB.fit_refl _, VB.fit_refl _, VB.fit_refl _, trivial⟩, rfl, rfl, rfl, rfl, rfl, trivial⟩, hi, hK⟩)

theorem gr_ok : ∀ x ∈ [panC, triT], SpOk Try.prog x.1 x.2 := fun x hx => by
  simp only [List.mem_cons, List.not_mem_nil, or_false] at hx
  rcases hx with rfl | rfl
  · exact panC_ok
  · exact triT_ok

theorem grL_ok : LoopsOk Try.prog 31 [(0, lG0 p c1 c2 c3)] := by
  intro x hx
  simp only [List.mem_singleton] at hx
  subst hx
  exact ⟨by kernel_rfl, lG0_ok⟩

theorem grp_v :
    (¬ PnOk p → ∃ h', CallsV Try.prog 31 [.agg (pnV p c1 c2 c3)] (pnH p) (.ret (.tup [.nils, I 1])) h') ∧
    (PnOk p → ¬ fitF p → ∃ h', CallsV Try.prog 31 [.agg (pnV p c1 c2 c3)] (pnH p) (.ret (.tup [.nils, I 6])) h') ∧
    (PnOk p → fitF p → CallsV Try.prog 31 [.agg (pnV p c1 c2 c3)] (pnH p) (.ret (.tup [.sl 6 16, I 0])) ⟨7, [(6, .vec 16 (dG (grp p 16)) 1 3)]⟩) := by
  obtain ⟨r, h', hQ, hc⟩ := of_callN (callL_good hmix (tabs_ok gr_ok) (grL_ok (p := p) (c1 := c1) (c2 := c2) (c3 := c3)) (un := 10) 20) (f := 31) (args := [.agg (pnV p c1 c2 c3)]) (h := pnH p)
    (K := th6 fun r b => (¬ PnOk p ∧ r = .ret (.tup [.nils, I 1])) ∨ (PnOk p ∧ ¬ fitF p ∧ r = .ret (.tup [.nils, I 6])) ∨ (PnOk p ∧ fitF p ∧ r = .ret (.tup [.sl 6 16, I 0]) ∧ b = .vec 16 (dG (grp p 16)) 1 3))
    (by
      refine cast (grp_ev p c1 c2 c3 _).symm ?_
      refine ⟨p, pnIs_own rfl rfl rfl, cond_b (fun hb => ?_) (fun hb => ?_)⟩
      · exact .inl ⟨fun h => by rw [panB_iff.2 h] at hb; exact absurd hb (by decide), rfl⟩
      · have hp : PnOk p := panB_iff.1 (by simpa using hb)
        exact ⟨p, pnIs_own rfl rfl rfl, hp, fun hf => ⟨⟨⟨rfl, rfl, VB.fit_refl _, VB.fit_refl _, VB.fit_refl _, VB.fit_refl _, VB.fit_refl _, VB.fit_refl _, trivial⟩, rfl, rfl, rfl, rfl, rfl, trivial⟩, ⟨hp, hf⟩, .inr (.inr ⟨hp, hf, rfl, rfl⟩)⟩, fun hf => .inr (.inl ⟨hp, hf, rfl⟩)⟩)
  rcases hQ with ⟨h1, rfl⟩ | ⟨h1, h2, rfl⟩ | ⟨h1, h2, rfl, hb⟩
  · exact ⟨fun _ => ⟨_, hc⟩, fun h => absurd h h1, fun h => absurd h h1⟩
  · exact ⟨fun h => absurd h1 h, fun _ _ => ⟨_, hc⟩, fun _ h => absurd h h2⟩
  · exact ⟨fun h => absurd h1 h, fun _ h => absurd h2 h, fun _ _ => calls_weak hc (show 3 ≤ 7 by decide) ⟨by rw [hb]; exact VB.fit_refl _, trivial⟩ rfl rfl⟩
end

/-- Which samples can be compared, as a row. -/
noncomputable def grpT : FuncId × Spec1 := (31, fun _ args h K => match args with
  | [.agg [d, t, s]] => ∃ p : Pn, pnIs h p d t s ∧ (match h with
      | ⟨nx, bs⟩ => (¬ PnOk p → K (.ret (.tup [.nils, I 1])) ⟨nx, bs⟩) ∧ (PnOk p → ¬ fitF p → K (.ret (.tup [.nils, I 6])) ⟨nx, bs⟩) ∧ (PnOk p → fitF p → K (.ret (.tup [.sl nx 16, I 0])) ⟨nx + 1, (nx, .vec 16 (dG (grp p 16)) 1 3) :: bs⟩))
  | _ => False)

theorem grpT_ok : SpOk Try.prog grpT.1 grpT.2 := by
  intro lock args h K hK
  simp only [grpT] at hK
  split at hK
  · rename_i d t s
    obtain ⟨p, hpn, hK⟩ := hK
    obtain ⟨nx, bs⟩ := h
    obtain ⟨k1, k2, k3⟩ := hK
    by_cases hp : PnOk p
    · by_cases hf : fitF p
      · have h1 := calls_pnN (f := 31) (pl := []) (r := .ret (.tup [.sl 6 16, I 0])) (bl := [.vec 16 (dG (grp p 16)) 1 3]) 6 (fun c1 c2 c3 => ⟨_, grp_v.2.2 hp hf, fun i => by
          match i with
          | 0 => rfl
          | i + 1 =>
            rw [at_8 (by omega)]
            rfl⟩) rfl (fun c hc => by
          simp only [List.mem_singleton] at hc
          subst hc
          exact fun j _ => rfl) rfl hpn
        have s6 : shN 6 nx 6 = nx := by unfold shN; rw [if_neg (by decide)]; omega
        have e1 : (VRes.ret (.tup [.sl 6 16, I 0])).sh 6 nx = .ret (.tup [.sl nx 16, I 0]) := congrArg (fun n => VRes.ret (.tup [.sl n 16, I 0])) s6
        refine ⟨_, _, k3 hp hf, lockP_push (lock := lock) (VH.mk nx bs) [.vec 16 (dG (grp p 16)) 1 3], ?_⟩
        have h1 : CallsV Try.prog 31 [.agg [d, t, s]] ⟨nx, bs⟩ ((VRes.ret (.tup [.sl 6 16, I 0])).sh 6 nx) (pushL ⟨nx, bs⟩ (([.vec 16 (dG (grp p 16)) 1 3] : List VB).map (VB.sh 6 nx))) := h1
        rw [e1] at h1
        exact h1
      · exact ⟨_, _, k2 hp hf, lockP_refl _ _, calls_pn (f := 31) (pl := []) (r := .ret (.tup [.nils, I 6])) (fun c1 c2 c3 => grp_v.2.1 hp hf) rfl rfl hpn⟩
    · exact ⟨_, _, k1 hp, lockP_refl _ _, calls_pn (f := 31) (pl := []) (r := .ret (.tup [.nils, I 1])) (fun c1 c2 c3 => grp_v.1 hp) rfl rfl hpn⟩
  · exact hK.elim
end Go.Sx.Nos
