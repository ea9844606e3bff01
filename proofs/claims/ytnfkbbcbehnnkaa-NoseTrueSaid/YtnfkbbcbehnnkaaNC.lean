/- stream: Nc1 Nc2 Nc3 Nc4 Nc5 Nc6, in one text. -/
import Derived.Test.YtnfkbbcbehnnkaaNB
/- nose: the matrix at the beginning, evaluated. -/

namespace Go.Sx.Nos
open Go Go.Sx Go.Proofs
set_option maxRecDepth 1000000

abbrev WW : Int := 1125899906842624
def rowW : List Int := List.replicate 65 WW
def ds0 : List Nat := [0, 3, 4, 21]
def V0 (i : Int) : List VV := [.ptr (.own 3 0), .ptr (.own 6 0), .ptr (.own 7 0), I i]
def ds2 : List Nat := [0, 3, 4, 27]
def ns0 : List Nat := [0, 1, 2, 3, 4, 5, 6, 7]
abbrev p5 : VB := .cells [.ptr (.own 5 0)] 79
def BP (p : Pn) (c1 c2 c3 : Nat) : List VB := [arD p, arT p, arS p, pnB p c1 c2 c3]
def B0 (p : Pn) (c1 c2 c3 : Nat) (N : List Nd) (d g : Nat → Int) : List VB := BP p c1 c2 c3 ++ [maB N, faB 4 d, p5, .fam [] 65 g 89]
theorem ini_ev (p : Pn) (c1 c2 c3 : Nat) (N : List Nd) (d g : Nat → Int) (i : Int) (X : VEx → List VV → List VB → Prop) : codeE Try.prog (callN Try.prog noSpec noL 10 20) (fun _ => none) true 10 131 0 (loopB 0 (bodyOf Try.prog 63)) (ds0.zip (V0 i)) ⟨8, ns0.zip (B0 p c1 c2 c3 N d g)⟩ (obs 8 ds0 ns0 X) =
  (bif decide (i < (65 : Int)) then
 bif decide ((0 : Int) ≤ i ∧ i < (↑65 : Int)) then
 bif decide (i.toNat * (1) + (1) ≤ 65) then
 bif inK IntKind.i64 (i + (1 : Int)) then
 X VEx.normal [VV.ptr (VA.own 3 0), VV.ptr (VA.own 6 0), VV.ptr (VA.own 7 0), I (i + (1 : Int))] [arD p, arT p, arS p, pnB p c1 c2 c3, maB N, faB 4 d, p5, VB.fam [] 65 (setF g (i.toNat * (1)) [(1125899906842624 : Int)]) (89 : TypeId)]
 else False
 else False
 else False
 else X (VEx.exit 0) [VV.ptr (VA.own 3 0), VV.ptr (VA.own 6 0), VV.ptr (VA.own 7 0), I i] [arD p, arT p, arS p, pnB p c1 c2 c3, maB N, faB 4 d, p5, VB.fam [] 65 g (89 : TypeId)]) := by kernel_rfl

theorem far_ev (p : Pn) (c1 c2 c3 : Nat) (N : List Nd) (d : Nat → Int) (i : Int) (X : VEx → List VV → List VB → Prop) : codeE Try.prog (callN Try.prog noSpec noL 10 20) (fun _ => none) true 10 131 0 (loopB 2 (bodyOf Try.prog 63)) (ds2.zip (V0 i)) ⟨8, ns0.zip (B0 p c1 c2 c3 N d (fun _ => WW))⟩ (obs 8 ds2 ns0 X) =
  (bif decide (i < (65 : Int)) then
 bif decide ((0 : Int) ≤ i ∧ i < (↑65 : Int)) then
 bif decide (i.toNat * (65) + (65) ≤ 4225) then
 bif decide ((0 : Int) ≤ i ∧ i < (↑65 : Int)) then
 bif decide ((0 : Int) ≤ i ∧ i < (↑65 : Int)) then
 bif decide (i.toNat * (65) + i.toNat * (1) + (1) ≤ 4225) then
 bif inK IntKind.i64 (i + (1 : Int)) then
 X VEx.normal [VV.ptr (VA.own 3 0), VV.ptr (VA.own 6 0), VV.ptr (VA.own 7 0), I (i + (1 : Int))] [arD p, arT p, arS p, pnB p c1 c2 c3, maB N, VB.fam [VV.mp 4] 4225 (setF (setF d (i.toNat * (65)) rowW) (i.toNat * (65) + i.toNat * (1)) [(0 : Int)]) (93 : TypeId), p5, VB.fam [] 65 (fun x => WW) (89 : TypeId)]
 else False
 else False
 else False
 else False
 else False
 else False
 else X (VEx.exit 2) [VV.ptr (VA.own 3 0), VV.ptr (VA.own 6 0), VV.ptr (VA.own 7 0), I i] [arD p, arT p, arS p, pnB p c1 c2 c3, maB N, faB 4 d, p5, VB.fam [] 65 (fun x => WW) (89 : TypeId)]) := by kernel_rfl


end Go.Sx.Nos

/- nose: the matrix at the beginning. -/

namespace Go.Sx.Nos
open Go Go.Sx Go.Proofs
set_option maxRecDepth 1000000

def dIni : Nat → Int := fun k => if k / 65 = k % 65 then 0 else WW

def lIni (p : Pn) (c1 c2 c3 : Nat) (N : List Nd) (d : Nat → Int) : LT := fun lock t h K =>
  FitP lock h t ⟨8, ns0.zip (B0 p c1 c2 c3 N d fun _ => 0)⟩ (ds0.zip (V0 0)) ∧ ∀ g, (∀ k, k < 65 → g k = WW) → K .normal (ds0.zip (V0 65)) ⟨8, ns0.zip (B0 p c1 c2 c3 N d g)⟩
def lFar (p : Pn) (c1 c2 c3 : Nat) (N : List Nd) : LT := fun lock t h K =>
  FitP lock h t ⟨8, ns0.zip (B0 p c1 c2 c3 N (fun _ => 0) fun _ => WW)⟩ (ds2.zip (V0 0)) ∧ ∀ d, (∀ k, k < 4225 → d k = dIni k) → K .normal (ds2.zip (V0 65)) ⟨8, ns0.zip (B0 p c1 c2 c3 N d fun _ => WW)⟩

section
variable {p : Pn} {c1 c2 c3 : Nat} {N : List Nd} {d : Nat → Int}

theorem vst {V : Int → List VV} (i : Nat) : V ((i : Int) + 1) = V ((i + 1 : Nat) : Int) := by rw [Int.natCast_add]; rfl

theorem lIni_ok : LSound Try.prog true (.block 0 (.loop (loopB 0 (bodyOf Try.prog 63)))) 131 (lIni p c1 c2 c3 N d) := by
  refine loop_row hmix good0 (un := 10) (ds := ds0) (ns := ns0) (nx := 8) (fun s : Nat × (Nat → Int) => V0 s.1) (fun s => B0 p c1 c2 c3 N d s.2) (fun s => s.1 ≤ 65 ∧ ∀ k, k < 65 → s.2 k = if k < s.1 then WW else 0) (fun s => 65 - s.1)
    (fun _ e vs bs => e = .exit 0 ∧ vs = V0 65 ∧ ∃ g, (∀ k, k < 65 → g k = WW) ∧ bs = B0 p c1 c2 c3 N d g) noL_ok ?_ ?_
  · rintro ⟨i, g⟩ ⟨hi, hg⟩
    dsimp only at hi hg ⊢
    refine cast (ini_ev p c1 c2 c3 N d _ i _).symm ?_
    by_cases h : i < 65
    · refine cond_dk (by omega) (cond_dk ⟨by omega, by omega⟩ (cond_dk (by simp only [Int.toNat_natCast]; omega) (cond_r (by omega) ?_)))
      refine ⟨(i + 1, setF g ((i : Int).toNat * 1) [WW]), ⟨by dsimp only; omega, fun k hk => ?_⟩, by dsimp only; omega, vst (V := V0) i, fitBs_refl _, fun e vs bs ho => ho⟩
      dsimp only
      rw [Int.toNat_natCast, Nat.mul_one, setF_eq]
      simp only [List.length_singleton]
      by_cases hki : k = i
      · subst hki; simp
      · rw [if_neg (by omega), hg k hk]
        by_cases hk2 : k < i
        · rw [if_pos hk2, if_pos (by omega)]
        · rw [if_neg hk2, if_neg (by omega)]
    · have : i = 65 := by omega
      subst this
      refine cond_d (fun h => by omega) (fun _ => ⟨rfl, rfl, g, fun k hk => ?_, rfl⟩)
      rw [hg k hk, if_pos hk]
  · rintro lock t h K ⟨hf, hK⟩
    refine ⟨(0, fun _ => 0), hf, ⟨Nat.zero_le _, fun k _ => ?_⟩, ?_⟩
    · exact (if_neg (Nat.not_lt_zero k)).symm
    · rintro x vs bs ⟨rfl, rfl, g, hg, rfl⟩
      exact hK g hg

theorem rowW_get {k : Nat} (h : k < 65) : rowW.getD k 0 = WW := by
  unfold rowW
  rw [List.getD_eq_getElem?_getD, List.getElem?_replicate, if_pos h]; rfl

theorem lFar_ok : LSound Try.prog true (.block 2 (.loop (loopB 2 (bodyOf Try.prog 63)))) 131 (lFar p c1 c2 c3 N) := by
  refine loop_row hmix good0 (un := 10) (ds := ds2) (ns := ns0) (nx := 8) (fun s : Nat × (Nat → Int) => V0 s.1) (fun s => B0 p c1 c2 c3 N s.2 fun _ => WW) (fun s => s.1 ≤ 65 ∧ ∀ k, k < 4225 → s.2 k = if k < s.1 * 65 then dIni k else 0) (fun s => 65 - s.1)
    (fun _ e vs bs => e = .exit 2 ∧ vs = V0 65 ∧ ∃ d, (∀ k, k < 4225 → d k = dIni k) ∧ bs = B0 p c1 c2 c3 N d fun _ => WW) noL_ok ?_ ?_
  · rintro ⟨i, g⟩ ⟨hi, hg⟩
    dsimp only at hi hg ⊢
    refine cast (far_ev p c1 c2 c3 N _ i _).symm ?_
    by_cases h : i < 65
    · have hb : 0 ≤ (i : Int) ∧ (i : Int) < ((65 : Nat) : Int) := ⟨by omega, by omega⟩
      refine cond_dk (by omega) (cond_dk hb (cond_dk (by simp only [Int.toNat_natCast]; omega) (cond_dk hb (cond_dk hb (cond_dk (by simp only [Int.toNat_natCast]; omega) (cond_r (by omega) ?_))))))
      refine ⟨(i + 1, setF (setF g ((i : Int).toNat * 65) rowW) ((i : Int).toNat * 65 + (i : Int).toNat * 1) [0]), ⟨by dsimp only; omega, fun k hk => ?_⟩, by dsimp only; omega, vst (V := V0) i, fitBs_refl _, fun e vs bs ho => ho⟩
      dsimp only
      rw [Int.toNat_natCast, Nat.mul_one, setF_eq, setF_eq]
      simp only [List.length_singleton]
      have hl : rowW.length = 65 := List.length_replicate ..
      rw [hl]
      unfold dIni
      by_cases h1 : i * 65 + i ≤ k ∧ k < i * 65 + i + 1
      · rw [if_pos h1, if_pos (by omega)]
        have : k = i * 65 + i := by omega
        subst this
        rw [if_pos (by omega)]
        simp
      · rw [if_neg h1]
        by_cases h2 : i * 65 ≤ k ∧ k < i * 65 + 65
        · rw [if_pos h2, if_pos (by omega), rowW_get (by omega), if_neg (by omega)]
        · rw [if_neg h2, hg k hk]
          unfold dIni
          by_cases h3 : k < i * 65
          · simp only [h3, if_true, show k < (i + 1) * 65 by omega]
          · simp only [h3, if_false, show ¬ k < (i + 1) * 65 by omega]
    · have : i = 65 := by omega
      subst this
      refine cond_d (fun h => by omega) (fun _ => ⟨rfl, rfl, g, fun k hk => ?_, rfl⟩)
      rw [hg k hk, if_pos hk]
  · rintro lock t h K ⟨hf, hK⟩
    refine ⟨(0, fun _ => 0), hf, ⟨Nat.zero_le _, fun k _ => ?_⟩, ?_⟩
    · rw [Nat.zero_mul]; exact (if_neg (Nat.not_lt_zero k)).symm
    · rintro x vs bs ⟨rfl, rfl, g, hg, rfl⟩
      exact hK g hg
end
end Go.Sx.Nos

/- nose: the links of a panel, evaluated. -/

namespace Go.Sx.Nos
open Go Go.Sx Go.Proofs
set_option maxRecDepth 1000000

def zeroN : Nd := [0, 0, 0]
def rfOf : Code → Option (Code × Code)
  | .rangeFunc _ _ ac bd => some (ac, bd)
  | .seq a b => match rfOf a with
    | some r => some r
    | none => rfOf b
  | .block _ b => rfOf b
  | _ => none
def rfAs (P : Program) (f : FuncId) : Code := match rfOf (bodyOf P f) with
  | some (ac, _) => ac
  | none => .skip
def rfBd (P : Program) (f : FuncId) : Code := match rfOf (bodyOf P f) with
  | some (_, bd) => bd
  | none => .skip
noncomputable def as63 : Code := rfAs Try.prog 63
noncomputable def bd63 : Code := rfBd Try.prog 63
def slT : Slots := [(45, .func 70 [] [.ptr (.own 8 0)]), (44, .ptr (.own 3 0)), (0, .ptr (.own 3 0)), (3, .ptr (.own 6 0)), (4, .ptr (.own 7 0)), (27, I 65)]
noncomputable def recT : VB := .loop true none slT 131 [46, 47] as63 bd63
def dsO : List Nat := [0, 1, 16, 17, 18]
def VO (p : Pn) (c2 : Nat) (i : Int) : List VV := [.yld 9, .ptr (.own 8 0), .slice (.el 1 [] 0 0) p.T.length c2, I p.T.length, I i]
def nsO : List Nat := [0, 1, 2, 3, 4, 5, 6, 8, 9]
noncomputable def BO (p : Pn) (c1 c2 c3 : Nat) (N : List Nd) (d : Nat → Int) : List VB := BP p c1 c2 c3 ++ [maB N, faB 4 d, p5, .cells [.ptr (.own 3 0)] 104, recT]
abbrev vN (s : Int) : Nd := ndB false (s + 1) 0
abbrev cN (j p : Int) : Nd := ndB true j p
abbrev vV (s : Int) : List VV := [.bool false, I (s + 1), I 0]
abbrev cV (j p : Int) : List VV := [.bool true, I j, I p]
def dsL : List Nat := [0, 1, 16, 17, 18, 4, 5, 6, 57, 58, 59]
def VL (p : Pn) (c2 : Nat) (i k : Int) : List VV := VO p c2 i ++ [.ptr (.own 10 0), .ptr (.own 11 0), .ptr (.own 12 0), .slice (.el 1 [] 0 0) p.T.length c2, I p.T.length, I k]
def nsL : List Nat := [0, 1, 2, 3, 4, 5, 6, 8, 9, 10, 11, 12]
noncomputable def BL (p : Pn) (c1 c2 c3 : Nat) (N : List Nd) (d : Nat → Int) (t : Ts) : List VB := BO p c1 c2 c3 N d ++ [.cells (tsL t) 32, .cells (vV t.s) 73, .cells (cV t.j t.p) 73]
def dsS : List Nat := [0, 1, 115, 116, 117]
def VS (p : Pn) (c3 : Nat) (i : Int) : List VV := [.yld 9, .ptr (.own 8 0), .slice (.el 2 [] 0 0) p.S.length c3, I p.S.length, I i]
theorem inn_ev (p : Pn) (c1 c2 c3 : Nat) (N : List Nd) (d : Nat → Int) (t : Ts) (i k : Int) (X : VEx → List VV → List VB → Prop) : codeE Try.prog (callN Try.prog (tabS [limT]) noL 10 20) (fun _ => none) true 10 147 0 (loopB 2 (bodyOf Try.prog 70)) (dsL.zip (VL p c2 i k)) ⟨15, nsL.zip (BL p c1 c2 c3 N d t)⟩ (obs 15 dsL nsL X) =
  (bif decide (k < (↑p.T.length : Int)) then
 bif decide ((0 : Int) ≤ k ∧ k < (↑p.T.length : Int)) then
 (([] : List Int) = [] ∧ (0 : Int) ≤ (0 : Int) + k ∧ (0 : Int) + k < (↑p.T.length : Int)) ∧ bif !decide ((p.T.getD ((0 : Int) + k).toNat t0).j = t.j) then
 bif inK IntKind.i64 (k + (1 : Int)) then
 X VEx.normal [VV.yld 9, VV.ptr (VA.own 8 0), VV.slice (VA.el 1 [] (0 : Int) 0) p.T.length c2, I (↑p.T.length : Int), I i, VV.ptr (VA.own 10 0), VV.ptr (VA.own 11 0), VV.ptr (VA.own 12 0), VV.slice (VA.el 1 [] (0 : Int) 0) p.T.length c2, I (↑p.T.length : Int), I (k + (1 : Int))] [arD p, arT p, arS p, pnB p c1 c2 c3, maB N, faB 4 d, p5, VB.cells [VV.ptr (VA.own 3 0)] (104 : TypeId), recT, VB.cells [I t.j, I t.s, I t.p, I t.c, I t.o] (32 : TypeId), VB.cells [VV.bool false, I (t.s + (1 : Int)), I 0] (73 : TypeId), VB.cells [VV.bool true, I t.j, I t.p] (73 : TypeId)]
 else False
 else bif decide ((p.T.getD ((0 : Int) + k).toNat t0).p ≤ t.p) then
 bif inK IntKind.i64 (k + (1 : Int)) then
 X VEx.normal [VV.yld 9, VV.ptr (VA.own 8 0), VV.slice (VA.el 1 [] (0 : Int) 0) p.T.length c2, I (↑p.T.length : Int), I i, VV.ptr (VA.own 10 0), VV.ptr (VA.own 11 0), VV.ptr (VA.own 12 0), VV.slice (VA.el 1 [] (0 : Int) 0) p.T.length c2, I (↑p.T.length : Int), I (k + (1 : Int))] [arD p, arT p, arS p, pnB p c1 c2 c3, maB N, faB 4 d, p5, VB.cells [VV.ptr (VA.own 3 0)] (104 : TypeId), recT, VB.cells [I t.j, I t.s, I t.p, I t.c, I t.o] (32 : TypeId), VB.cells [VV.bool false, I (t.s + (1 : Int)), I 0] (73 : TypeId), VB.cells [VV.bool true, I t.j, I t.p] (73 : TypeId)]
 else False
 else bif decide ((0 : Int) ≤ t.j ∧ t.j < (↑p.D.length : Int)) then
 (([] : List Int) = [] ∧ (0 : Int) ≤ (0 : Int) + t.j ∧ (0 : Int) + t.j < (↑p.D.length : Int)) ∧ bif inK IntKind.i64 ((p.T.getD ((0 : Int) + k).toNat t0).p - t.p) then
 bif inK IntKind.i64 (p.D.getD ((0 : Int) + t.j).toNat (0 : Int) * ((p.T.getD ((0 : Int) + k).toNat t0).p - t.p)) then
 ∃ N_1, ((VH.mk (18) ((9, VB.gone) :: (17, VB.cells [VV.bool true, I t.j, I t.p, VV.bool true, I (p.T.getD ((0 : Int) + k).toNat t0).j, I (p.T.getD ((0 : Int) + k).toNat t0).p] 117) :: (17, VB.cells [VV.bool false, I 0, I 0, VV.bool false, I 0, I 0] 117) :: (16, VB.cells [VV.bool true, I (p.T.getD ((0 : Int) + k).toNat t0).j, I (p.T.getD ((0 : Int) + k).toNat t0).p] 73) :: (16, VB.cells [VV.bool false, I 0, I 0] 73) :: (15, VB.cells [I (p.T.getD ((0 : Int) + k).toNat t0).j, I (p.T.getD ((0 : Int) + k).toNat t0).s, I (p.T.getD ((0 : Int) + k).toNat t0).p, I (p.T.getD ((0 : Int) + k).toNat t0).c, I (p.T.getD ((0 : Int) + k).toNat t0).o] 32) :: (15, VB.cells [I 0, I 0, I 0, I 0, I 0] 32) :: nsL.zip (BL p c1 c2 c3 N d t))).at 4 = maB N_1 ∧ (limN N_1 (ndB true t.j t.p) (ndB true (p.T.getD ((0 : Int) + k).toNat t0).j (p.T.getD ((0 : Int) + k).toNat t0).p)).length ≤ 65) ∧ ∃ N_2, ((VH.mk (19) ((9, VB.gone) :: (18, VB.cells [VV.bool true, I (p.T.getD ((0 : Int) + k).toNat t0).j, I (p.T.getD ((0 : Int) + k).toNat t0).p, VV.bool true, I t.j, I t.p] 117) :: (18, VB.cells [VV.bool false, I 0, I 0, VV.bool false, I 0, I 0] 117) :: (9, recT) :: (5, faB 4 (limD N_1 d (ndB true t.j t.p) (ndB true (p.T.getD ((0 : Int) + k).toNat t0).j (p.T.getD ((0 : Int) + k).toNat t0).p) (p.D.getD ((0 : Int) + t.j).toNat (0 : Int) * ((p.T.getD ((0 : Int) + k).toNat t0).p - t.p)))) :: (4, maB (limN N_1 (ndB true t.j t.p) (ndB true (p.T.getD ((0 : Int) + k).toNat t0).j (p.T.getD ((0 : Int) + k).toNat t0).p))) :: (9, VB.gone) :: (17, VB.cells [VV.bool true, I t.j, I t.p, VV.bool true, I (p.T.getD ((0 : Int) + k).toNat t0).j, I (p.T.getD ((0 : Int) + k).toNat t0).p] 117) :: (17, VB.cells [VV.bool false, I 0, I 0, VV.bool false, I 0, I 0] 117) :: (16, VB.cells [VV.bool true, I (p.T.getD ((0 : Int) + k).toNat t0).j, I (p.T.getD ((0 : Int) + k).toNat t0).p] 73) :: (16, VB.cells [VV.bool false, I 0, I 0] 73) :: (15, VB.cells [I (p.T.getD ((0 : Int) + k).toNat t0).j, I (p.T.getD ((0 : Int) + k).toNat t0).s, I (p.T.getD ((0 : Int) + k).toNat t0).p, I (p.T.getD ((0 : Int) + k).toNat t0).c, I (p.T.getD ((0 : Int) + k).toNat t0).o] 32) :: (15, VB.cells [I 0, I 0, I 0, I 0, I 0] 32) :: nsL.zip (BL p c1 c2 c3 N d t))).at 4 = maB N_2 ∧ (limN N_2 (ndB true (p.T.getD ((0 : Int) + k).toNat t0).j (p.T.getD ((0 : Int) + k).toNat t0).p) (ndB true t.j t.p)).length ≤ 65) ∧ bif inK IntKind.i64 (k + (1 : Int)) then
 X VEx.normal [VV.yld 9, VV.ptr (VA.own 8 0), VV.slice (VA.el 1 [] (0 : Int) 0) p.T.length c2, I (↑p.T.length : Int), I i, VV.ptr (VA.own 10 0), VV.ptr (VA.own 11 0), VV.ptr (VA.own 12 0), VV.slice (VA.el 1 [] (0 : Int) 0) p.T.length c2, I (↑p.T.length : Int), I (k + (1 : Int))] [arD p, arT p, arS p, pnB p c1 c2 c3, VB.map kU (PK.int IntKind.i64) (esOf (limN N_2 (ndB true (p.T.getD ((0 : Int) + k).toNat t0).j (p.T.getD ((0 : Int) + k).toNat t0).p) (ndB true t.j t.p))), VB.fam [VV.mp 4] 4225 (limD N_2 (limD N_1 d (ndB true t.j t.p) (ndB true (p.T.getD ((0 : Int) + k).toNat t0).j (p.T.getD ((0 : Int) + k).toNat t0).p) (p.D.getD ((0 : Int) + t.j).toNat (0 : Int) * ((p.T.getD ((0 : Int) + k).toNat t0).p - t.p))) (ndB true (p.T.getD ((0 : Int) + k).toNat t0).j (p.T.getD ((0 : Int) + k).toNat t0).p) (ndB true t.j t.p) (p.D.getD ((0 : Int) + t.j).toNat (0 : Int) * ((p.T.getD ((0 : Int) + k).toNat t0).p - t.p))) (93 : TypeId), p5, VB.cells [VV.ptr (VA.own 3 0)] (104 : TypeId), recT, VB.cells [I t.j, I t.s, I t.p, I t.c, I t.o] (32 : TypeId), VB.cells [VV.bool false, I (t.s + (1 : Int)), I 0] (73 : TypeId), VB.cells [VV.bool true, I t.j, I t.p] (73 : TypeId)]
 else False
 else False
 else False
 else False
 else False
 else X (VEx.exit 2) [VV.yld 9, VV.ptr (VA.own 8 0), VV.slice (VA.el 1 [] (0 : Int) 0) p.T.length c2, I (↑p.T.length : Int), I i, VV.ptr (VA.own 10 0), VV.ptr (VA.own 11 0), VV.ptr (VA.own 12 0), VV.slice (VA.el 1 [] (0 : Int) 0) p.T.length c2, I (↑p.T.length : Int), I k] [arD p, arT p, arS p, pnB p c1 c2 c3, maB N, faB 4 d, p5, VB.cells [VV.ptr (VA.own 3 0)] (104 : TypeId), recT, VB.cells [I t.j, I t.s, I t.p, I t.c, I t.o] (32 : TypeId), VB.cells [VV.bool false, I (t.s + (1 : Int)), I 0] (73 : TypeId), VB.cells [VV.bool true, I t.j, I t.p] (73 : TypeId)]) := by kernel_rfl

theorem std_ev (p : Pn) (c1 c2 c3 : Nat) (N : List Nd) (d : Nat → Int) (i : Int) (X : VEx → List VV → List VB → Prop) : codeE Try.prog (callN Try.prog (tabS [limT]) noL 10 20) (fun _ => none) true 10 147 0 (loopB 4 (bodyOf Try.prog 70)) (dsS.zip (VS p c3 i)) ⟨10, nsO.zip (BO p c1 c2 c3 N d)⟩ (obs 10 dsS nsO X) =
  (bif decide (i < (↑p.S.length : Int)) then
 bif decide ((0 : Int) ≤ i ∧ i < (↑p.S.length : Int)) then
 (([] : List Int) = [] ∧ (0 : Int) ≤ (0 : Int) + i ∧ (0 : Int) + i < (↑p.S.length : Int)) ∧ bif inK IntKind.i64 ((p.S.getD ((0 : Int) + i).toNat s0).s + (1 : Int)) then
 ∃ N_1, ((VH.mk (12) ((9, VB.gone) :: (11, VB.cells [VV.bool false, I ((p.S.getD ((0 : Int) + i).toNat s0).s + (1 : Int)), I 0, VV.bool false, I 0, I 0] 117) :: (11, VB.cells [VV.bool false, I 0, I 0, VV.bool false, I 0, I 0] 117) :: (10, VB.cells [I (p.S.getD ((0 : Int) + i).toNat s0).s, I (p.S.getD ((0 : Int) + i).toNat s0).lo, I (p.S.getD ((0 : Int) + i).toNat s0).hi] 36) :: (10, VB.cells [I 0, I 0, I 0] 36) :: nsO.zip (BO p c1 c2 c3 N d))).at 4 = maB N_1 ∧ (limN N_1 (ndB false ((p.S.getD ((0 : Int) + i).toNat s0).s + (1 : Int)) (0 : Int)) (ndB false (0 : Int) (0 : Int))).length ≤ 65) ∧ bif inK IntKind.i64 ((p.S.getD ((0 : Int) + i).toNat s0).s + (1 : Int)) then
 bif inK IntKind.i64 ((0 : Int) - (p.S.getD ((0 : Int) + i).toNat s0).lo) then
 ∃ N_2, ((VH.mk (13) ((9, VB.gone) :: (12, VB.cells [VV.bool false, I 0, I 0, VV.bool false, I ((p.S.getD ((0 : Int) + i).toNat s0).s + (1 : Int)), I 0] 117) :: (12, VB.cells [VV.bool false, I 0, I 0, VV.bool false, I 0, I 0] 117) :: (9, recT) :: (5, faB 4 (limD N_1 d (ndB false ((p.S.getD ((0 : Int) + i).toNat s0).s + (1 : Int)) (0 : Int)) (ndB false (0 : Int) (0 : Int)) (p.S.getD ((0 : Int) + i).toNat s0).hi)) :: (4, maB (limN N_1 (ndB false ((p.S.getD ((0 : Int) + i).toNat s0).s + (1 : Int)) (0 : Int)) (ndB false (0 : Int) (0 : Int)))) :: (9, VB.gone) :: (11, VB.cells [VV.bool false, I ((p.S.getD ((0 : Int) + i).toNat s0).s + (1 : Int)), I 0, VV.bool false, I 0, I 0] 117) :: (11, VB.cells [VV.bool false, I 0, I 0, VV.bool false, I 0, I 0] 117) :: (10, VB.cells [I (p.S.getD ((0 : Int) + i).toNat s0).s, I (p.S.getD ((0 : Int) + i).toNat s0).lo, I (p.S.getD ((0 : Int) + i).toNat s0).hi] 36) :: (10, VB.cells [I 0, I 0, I 0] 36) :: nsO.zip (BO p c1 c2 c3 N d))).at 4 = maB N_2 ∧ (limN N_2 (ndB false (0 : Int) (0 : Int)) (ndB false ((p.S.getD ((0 : Int) + i).toNat s0).s + (1 : Int)) (0 : Int))).length ≤ 65) ∧ bif inK IntKind.i64 (i + (1 : Int)) then
 X VEx.normal [VV.yld 9, VV.ptr (VA.own 8 0), VV.slice (VA.el 2 [] (0 : Int) 0) p.S.length c3, I (↑p.S.length : Int), I (i + (1 : Int))] [arD p, arT p, arS p, pnB p c1 c2 c3, VB.map kU (PK.int IntKind.i64) (esOf (limN N_2 (ndB false (0 : Int) (0 : Int)) (ndB false ((p.S.getD ((0 : Int) + i).toNat s0).s + (1 : Int)) (0 : Int)))), VB.fam [VV.mp 4] 4225 (limD N_2 (limD N_1 d (ndB false ((p.S.getD ((0 : Int) + i).toNat s0).s + (1 : Int)) (0 : Int)) (ndB false (0 : Int) (0 : Int)) (p.S.getD ((0 : Int) + i).toNat s0).hi) (ndB false (0 : Int) (0 : Int)) (ndB false ((p.S.getD ((0 : Int) + i).toNat s0).s + (1 : Int)) (0 : Int)) ((0 : Int) - (p.S.getD ((0 : Int) + i).toNat s0).lo)) (93 : TypeId), p5, VB.cells [VV.ptr (VA.own 3 0)] (104 : TypeId), recT]
 else False
 else False
 else False
 else False
 else False
 else X (VEx.exit 4) [VV.yld 9, VV.ptr (VA.own 8 0), VV.slice (VA.el 2 [] (0 : Int) 0) p.S.length c3, I (↑p.S.length : Int), I i] [arD p, arT p, arS p, pnB p c1 c2 c3, maB N, faB 4 d, p5, VB.cells [VV.ptr (VA.own 3 0)] (104 : TypeId), recT]) := by kernel_rfl


end Go.Sx.Nos

/- nose: the links of a panel. -/

namespace Go.Sx.Nos
open Go Go.Sx Go.Proofs
set_option maxRecDepth 1000000

/-- That one unknown is at most so much more than another one. -/
abbrev Lk := Nd × Nd × Int
abbrev St := List Nd × (Nat → Int)

def stepL (s : St) (l : Lk) : St := (limN s.1 l.1 l.2.1, limD s.1 s.2 l.1 l.2.1 l.2.2)
def dr (p : Pn) (t u : Ts) : Int := p.D.getD t.j.toNat 0 * (u.p - t.p)
def lkH (t : Ts) : List Lk := [(vN t.s, cN t.j t.p, t.c + t.o), (cN t.j t.p, vN t.s, t.o - t.c)]
def lkI (p : Pn) (t u : Ts) : List Lk := if u.j = t.j ∧ t.p < u.p then [(cN t.j t.p, cN u.j u.p, dr p t u), (cN u.j u.p, cN t.j t.p, dr p t u)] else []
def lkT (p : Pn) (t : Ts) : List Lk := lkH t ++ p.T.flatMap (lkI p t)
def lkS (s : Sd) : List Lk := [(vN s.s, zeroN, s.hi), (zeroN, vN s.s, 0 - s.lo)]
/-- All limits that a panel says. -/
def links (p : Pn) : List Lk := p.T.flatMap (lkT p) ++ p.S.flatMap lkS

/-- The unknowns that a panel may have. -/
def uni (p : Pn) : List Nd := zeroN :: ((List.range 16).map fun s => vN (s : Nat)) ++ p.T.map fun t => cN t.j t.p

structure Gd (p : Pn) (N : List Nd) : Prop where
  nodup : N.Nodup
  sub : ∀ x ∈ N, x ∈ uni p

theorem nodup_le {α : Type} [BEq α] [LawfulBEq α] : ∀ {l m : List α}, l.Nodup → (∀ x ∈ l, x ∈ m) → l.length ≤ m.length
  | [], _, _, _ => by simp
  | x :: r, m, h, hs => by
    obtain ⟨h1, h2⟩ := List.nodup_cons.1 h
    have hx := hs x (by simp)
    have := nodup_le (l := r) (m := m.erase x) h2 (fun y hy => by
      have hne : y ≠ x := fun e => h1 (e ▸ hy)
      exact (List.mem_erase_of_ne hne).2 (hs y (by simp [hy])))
    rw [List.length_erase_of_mem hx] at this
    have := List.length_pos_of_mem hx
    simp only [List.length_cons]
    omega

theorem Gd.le {p : Pn} {N : List Nd} (h : Gd p N) (ht : p.T.length ≤ 48) : N.length ≤ 65 := by
  have := nodup_le h.nodup h.sub
  simp [uni] at this
  omega

theorem Gd.add {p : Pn} {N : List Nd} (h : Gd p N) {x : Nd} (hx : x ∈ uni p) : Gd p (addN N x) := by
  unfold addN
  split
  · exact h
  · rename_i hn
    refine ⟨List.nodup_append.2 ⟨h.nodup, by simp, fun a ha b hb e => ?_⟩, fun y hy => ?_⟩
    · simp only [List.mem_singleton] at hb
      subst hb; subst e
      exact hn ha
    · rcases List.mem_append.1 hy with hy | hy
      · exact h.sub y hy
      · simp only [List.mem_singleton] at hy
        subst hy; exact hx

theorem Gd.lim {p : Pn} {N : List Nd} (h : Gd p N) {a b : Nd} (ha : a ∈ uni p) (hb : b ∈ uni p) : Gd p (limN N a b) := (h.add ha).add hb

theorem Gd.fold {p : Pn} : ∀ {l : List Lk} {s : St}, Gd p s.1 → (∀ x ∈ l, x.1 ∈ uni p ∧ x.2.1 ∈ uni p) → Gd p (l.foldl stepL s).1
  | [], _, h, _ => h
  | x :: r, s, h, hl => Gd.fold (l := r) (s := stepL s x) (h.lim (hl x (by simp)).1 (hl x (by simp)).2) fun y hy => hl y (by simp [hy])

theorem uni_z (p : Pn) : zeroN ∈ uni p := by simp [uni]
theorem uni_v (p : Pn) {s : Int} (h : 0 ≤ s ∧ s ≤ 15) : vN s ∈ uni p := by
  unfold uni
  simp only [List.mem_append, List.mem_cons, List.mem_map, List.mem_range]
  refine .inl (.inr ⟨s.toNat, by omega, ?_⟩)
  rw [Int.toNat_of_nonneg h.1]
theorem uni_c (p : Pn) {t : Ts} (h : t ∈ p.T) : cN t.j t.p ∈ uni p := by
  unfold uni
  simp only [List.mem_append, List.mem_map]
  exact .inr ⟨t, h, rfl⟩

theorem inB_iff {n lo hi : Int} : inB n lo hi = true ↔ lo ≤ n ∧ n ≤ hi := by simp [inB]

/-- What is known of a valid panel. -/
structure PnOk (p : Pn) : Prop where
  d : p.D.length ≤ 8
  t : p.T.length ≤ 48
  s : p.S.length ≤ 16
  dr : ∀ x ∈ p.D, 0 ≤ x ∧ x ≤ 1000
  ts : ∀ t ∈ p.T, (0 ≤ t.j ∧ t.j < p.D.length) ∧ (0 ≤ t.s ∧ t.s ≤ 15) ∧ (0 ≤ t.p ∧ t.p ≤ 1000) ∧ (-100000 ≤ t.c ∧ t.c ≤ 100000) ∧ (0 ≤ t.o ∧ t.o ≤ 10000)
  sd : ∀ s ∈ p.S, (0 ≤ s.s ∧ s.s ≤ 15) ∧ -100000 ≤ s.lo ∧ s.lo ≤ s.hi ∧ s.hi ≤ 100000

theorem panB_iff {p : Pn} : panB p = true ↔ PnOk p := by
  unfold panB
  simp only [Bool.and_eq_true, decide_eq_true_eq, List.all_eq_true]
  have e1 : ∀ x, dOk x = true ↔ 0 ≤ x ∧ x ≤ 1000 := fun x => inB_iff
  have e2 : ∀ t, tOk p t = true ↔ (0 ≤ t.j ∧ t.j < p.D.length) ∧ (0 ≤ t.s ∧ t.s ≤ 15) ∧ (0 ≤ t.p ∧ t.p ≤ 1000) ∧ (-100000 ≤ t.c ∧ t.c ≤ 100000) ∧ (0 ≤ t.o ∧ t.o ≤ 10000) := fun t => by
    simp only [tOk, Bool.and_eq_true, inB_iff]
    have : t.j ≤ (p.D.length : Int) - 1 ↔ t.j < p.D.length := by omega
    rw [this]
  have e3 : ∀ s, sOk s = true ↔ (0 ≤ s.s ∧ s.s ≤ 15) ∧ -100000 ≤ s.lo ∧ s.lo ≤ s.hi ∧ s.hi ≤ 100000 := fun s => by simp only [sOk, Bool.and_eq_true, inB_iff, decide_eq_true_eq]
  simp only [e1, e2, e3]
  exact ⟨fun ⟨a, b, c, d, e, f⟩ => ⟨a, b, c, d, e, f⟩, fun ⟨a, b, c, d, e, f⟩ => ⟨a, b, c, d, e, f⟩⟩

theorem getT {p : Pn} {k : Nat} (h : k < p.T.length) : p.T.getD k t0 ∈ p.T ∧ p.T.drop k = p.T.getD k t0 :: p.T.drop (k + 1) := by
  rw [List.getD_eq_getElem?_getD, List.getElem?_eq_getElem h]
  exact ⟨List.getElem_mem h, List.drop_eq_getElem_cons h⟩
theorem getS {p : Pn} {k : Nat} (h : k < p.S.length) : p.S.getD k s0 ∈ p.S ∧ p.S.drop k = p.S.getD k s0 :: p.S.drop (k + 1) := by
  rw [List.getD_eq_getElem?_getD, List.getElem?_eq_getElem h]
  exact ⟨List.getElem_mem h, List.drop_eq_getElem_cons h⟩

theorem dr_in {p : Pn} (hp : PnOk p) {t u : Ts} (ht : t ∈ p.T) (hu : u ∈ p.T) (hlt : t.p < u.p) : 0 ≤ dr p t u ∧ dr p t u ≤ 1000000 := by
  obtain ⟨⟨j0, j1⟩, _, ⟨p0, p1⟩, _⟩ := hp.ts t ht
  obtain ⟨_, _, ⟨q0, q1⟩, _⟩ := hp.ts u hu
  have hj : t.j.toNat < p.D.length := by omega
  have hd := hp.dr (p.D.getD t.j.toNat 0) (by rw [List.getD_eq_getElem?_getD, List.getElem?_eq_getElem hj]; exact List.getElem_mem hj)
  unfold dr
  have h2 : 0 ≤ u.p - t.p ∧ u.p - t.p ≤ 1000 := by omega
  exact ⟨Int.mul_nonneg hd.1 h2.1, by
    calc _ ≤ 1000 * (u.p - t.p) := Int.mul_le_mul_of_nonneg_right hd.2 h2.1
      _ ≤ 1000000 := by omega⟩

theorem lkI_uni {p : Pn} {t u : Ts} (ht : t ∈ p.T) (hu : u ∈ p.T) : ∀ x ∈ lkI p t u, x.1 ∈ uni p ∧ x.2.1 ∈ uni p := by
  intro x hx
  unfold lkI at hx
  split at hx
  · rcases List.mem_cons.1 hx with rfl | hx
    · exact ⟨uni_c p ht, uni_c p hu⟩
    · simp only [List.mem_singleton] at hx
      subst hx
      exact ⟨uni_c p hu, uni_c p ht⟩
  · cases hx

theorem lkH_uni {p : Pn} (hp : PnOk p) {t : Ts} (ht : t ∈ p.T) : ∀ x ∈ lkH t, x.1 ∈ uni p ∧ x.2.1 ∈ uni p := by
  intro x hx
  have hs := (hp.ts t ht).2.1
  rcases List.mem_cons.1 hx with rfl | hx
  · exact ⟨uni_v p hs, uni_c p ht⟩
  · simp only [List.mem_singleton] at hx
    subst hx
    exact ⟨uni_c p ht, uni_v p hs⟩

theorem lkS_uni {p : Pn} (hp : PnOk p) {s : Sd} (h : s ∈ p.S) : ∀ x ∈ lkS s, x.1 ∈ uni p ∧ x.2.1 ∈ uni p := by
  intro x hx
  have hs := (hp.sd s h).1
  rcases List.mem_cons.1 hx with rfl | hx
  · exact ⟨uni_v p hs, uni_z p⟩
  · simp only [List.mem_singleton] at hx
    subst hx
    exact ⟨uni_z p, uni_v p hs⟩

theorem lkT_uni {p : Pn} (hp : PnOk p) {t : Ts} (ht : t ∈ p.T) : ∀ x ∈ lkT p t, x.1 ∈ uni p ∧ x.2.1 ∈ uni p := by
  intro x hx
  rcases List.mem_append.1 hx with hx | hx
  · exact lkH_uni hp ht x hx
  · obtain ⟨u, hu, hx⟩ := List.mem_flatMap.1 hx
    exact lkI_uni ht hu x hx

section
variable {p : Pn} {c1 c2 c3 : Nat}

theorem tLi_ok : ∀ x ∈ [limT], SpOk Try.prog x.1 x.2 := fun x hx => by
  simp only [List.mem_singleton] at hx
  subst hx
  exact limT_ok

/-- The inner loop. -/
def lInn (p : Pn) (c1 c2 c3 : Nat) (t : Ts) (i : Int) (s : St) : LT := fun lock tt h K =>
  FitP lock h tt ⟨15, nsL.zip (BL p c1 c2 c3 s.1 s.2 t)⟩ (dsL.zip (VL p c2 i 0)) ∧ (PnOk p ∧ t ∈ p.T ∧ Gd p s.1) ∧
    K .normal (dsL.zip (VL p c2 i p.T.length)) ⟨15, nsL.zip (BL p c1 c2 c3 ((p.T.flatMap (lkI p t)).foldl stepL s).1 ((p.T.flatMap (lkI p t)).foldl stepL s).2 t)⟩

theorem lInn_ok {t : Ts} {i : Int} {s : St} : LSound Try.prog true (.block 2 (.loop (loopB 2 (bodyOf Try.prog 70)))) 147 (lInn p c1 c2 c3 t i s) := by
  by_cases hh : PnOk p ∧ t ∈ p.T
  · obtain ⟨hp, ht⟩ := hh
    refine loop_row hmix (tab_good hmix tLi_ok (unroll := 10) 20) (un := 10) (ds := dsL) (ns := nsL) (nx := 15) (fun s : Nat × St => VL p c2 i s.1) (fun s => BL p c1 c2 c3 s.2.1 s.2.2 t) (fun s => s.1 ≤ p.T.length ∧ Gd p s.2.1) (fun s => p.T.length - s.1)
      (fun s e vs bs => e = .exit 2 ∧ vs = VL p c2 i p.T.length ∧ bs = BL p c1 c2 c3 (((p.T.drop s.1).flatMap (lkI p t)).foldl stepL s.2).1 (((p.T.drop s.1).flatMap (lkI p t)).foldl stepL s.2).2 t) noL_ok ?_ ?_
    · rintro ⟨k, N, d⟩ ⟨hk, hg⟩
      dsimp only at hk hg ⊢
      refine cast (inn_ev p c1 c2 c3 N d t i k _).symm ?_
      obtain ⟨⟨j0, j1⟩, _, ⟨p0, p1⟩, _⟩ := hp.ts t ht
      by_cases h : k < p.T.length
      · obtain ⟨hu, hdrop⟩ := getT h
        obtain ⟨_, _, ⟨q0, q1⟩, _⟩ := hp.ts _ hu
        have hT := hp.t
        refine cond_dk (by omega) (cond_dk ⟨by omega, by omega⟩ ⟨⟨rfl, by omega, by omega⟩, ?_⟩)
        rw [zero_toNat]
        have skip : lkI p t (p.T.getD k t0) = [] → RoundQ (fun s : Nat × St => VL p c2 i s.1) (fun s => BL p c1 c2 c3 s.2.1 s.2.2 t) (fun s => s.1 ≤ p.T.length ∧ Gd p s.2.1) (fun s => p.T.length - s.1)
            (fun s e vs bs => e = .exit 2 ∧ vs = VL p c2 i p.T.length ∧ bs = BL p c1 c2 c3 (((p.T.drop s.1).flatMap (lkI p t)).foldl stepL s.2).1 (((p.T.drop s.1).flatMap (lkI p t)).foldl stepL s.2).2 t) (k, N, d) .normal (VL p c2 i (k + 1)) (BL p c1 c2 c3 N d t) := fun he =>
          ⟨(k + 1, N, d), ⟨by dsimp only; omega, hg⟩, by dsimp only; omega, vst (V := VL p c2 i) k, fitBs_refl _, fun e vs bs ho => by
            dsimp only at ho ⊢
            rw [hdrop, List.flatMap_cons, he, List.nil_append]
            exact ho⟩
        refine cond_nd (fun hj => cond_r (by omega) (skip (by unfold lkI; rw [if_neg (fun e => hj e.1)]))) (fun hj => cond_d (fun hq => cond_r (by omega) (skip (by unfold lkI; rw [if_neg (by omega)]))) (fun hq => ?_))
        rw [Int.zero_add]
        have hlt : t.p < (p.T.getD k t0).p := by omega
        have hdr := dr_in hp ht hu hlt
        unfold dr at hdr
        have g1 := hg.lim (uni_c p ht) (uni_c p hu)
        have g2 := g1.lim (uni_c p hu) (uni_c p ht)
        have he : lkI p t (p.T.getD k t0) = [(cN t.j t.p, cN (p.T.getD k t0).j (p.T.getD k t0).p, dr p t (p.T.getD k t0)), (cN (p.T.getD k t0).j (p.T.getD k t0).p, cN t.j t.p, dr p t (p.T.getD k t0))] := by unfold lkI; rw [if_pos ⟨hj, hlt⟩]
        refine cond_dk ⟨j0, j1⟩ ⟨⟨rfl, j0, j1⟩, cond_r (by omega) (cond_r (by omega) ⟨N, ⟨rfl, g1.le hT⟩, _, ⟨rfl, g2.le hT⟩, cond_r (by omega) ?_⟩)⟩
        refine ⟨(k + 1, stepL (stepL (N, d) (cN t.j t.p, cN (p.T.getD k t0).j (p.T.getD k t0).p, dr p t (p.T.getD k t0))) (cN (p.T.getD k t0).j (p.T.getD k t0).p, cN t.j t.p, dr p t (p.T.getD k t0))), ⟨by dsimp only; omega, g2⟩, by dsimp only; omega, vst (V := VL p c2 i) k, fitBs_refl _, fun e vs bs ho => ?_⟩
        dsimp only at ho ⊢
        rw [hdrop, List.flatMap_cons, he]
        exact ho
      · have : k = p.T.length := by omega
        subst this
        refine cond_d (fun h => by omega) (fun _ => ⟨rfl, rfl, ?_⟩)
        rw [List.drop_length]
        rfl
    · rintro lock tt h K ⟨hf, ⟨_, _, hg⟩, hK⟩
      refine ⟨(0, s), hf, ⟨Nat.zero_le _, hg⟩, ?_⟩
      rintro x vs bs ⟨rfl, rfl, rfl⟩
      exact hK
  · rintro lock tt h K ⟨_, hc, _⟩
    exact (hh ⟨hc.1, hc.2.1⟩).elim
end
end Go.Sx.Nos

/- nose: the links of a panel's tastings, evaluated. -/

namespace Go.Sx.Nos
open Go Go.Sx Go.Proofs
set_option maxRecDepth 1000000

abbrev getI (p : Pn) (i : Int) : Ts := p.T.getD ((0 : Int) + i).toNat t0
theorem out_ev (p : Pn) (c1 c2 c3 : Nat) (N : List Nd) (d : Nat → Int) (s : St) (i : Int) (X : VEx → List VV → List VB → Prop) : codeE Try.prog (callN Try.prog (tabS [limT]) noL 10 20) (tabB [(2, lInn p c1 c2 c3 (getI p i) i s)]) true 10 147 0 (loopB 0 (bodyOf Try.prog 70)) (dsO.zip (VO p c2 i)) ⟨10, nsO.zip (BO p c1 c2 c3 N d)⟩ (obs 10 dsO nsO X) =
  (bif decide (i < (↑p.T.length : Int)) then
 bif decide ((0 : Int) ≤ i ∧ i < (↑p.T.length : Int)) then
 (([] : List Int) = [] ∧ (0 : Int) ≤ (0 : Int) + i ∧ (0 : Int) + i < (↑p.T.length : Int)) ∧ bif inK IntKind.i64 ((getI p i).s + (1 : Int)) then
 bif inK IntKind.i64 ((getI p i).c + (getI p i).o) then
 ∃ N_1, ((VH.mk (14) ((9, VB.gone) :: (13, VB.cells [VV.bool false, I ((getI p i).s + (1 : Int)), I 0, VV.bool true, I (getI p i).j, I (getI p i).p] 117) :: (13, VB.cells [VV.bool false, I 0, I 0, VV.bool false, I 0, I 0] 117) :: (12, VB.cells [VV.bool true, I (getI p i).j, I (getI p i).p] 73) :: (11, VB.cells [VV.bool false, I ((getI p i).s + (1 : Int)), I 0] 73) :: (12, VB.cells [VV.bool false, I 0, I 0] 73) :: (11, VB.cells [VV.bool false, I 0, I 0] 73) :: (10, VB.cells [I (getI p i).j, I (getI p i).s, I (getI p i).p, I (getI p i).c, I (getI p i).o] 32) :: (10, VB.cells [I 0, I 0, I 0, I 0, I 0] 32) :: nsO.zip (BO p c1 c2 c3 N d))).at 4 = maB N_1 ∧ (limN N_1 (ndB false ((getI p i).s + (1 : Int)) (0 : Int)) (ndB true (getI p i).j (getI p i).p)).length ≤ 65) ∧ bif inK IntKind.i64 ((getI p i).o - (getI p i).c) then
 ∃ N_2, ((VH.mk (15) ((9, VB.gone) :: (14, VB.cells [VV.bool true, I (getI p i).j, I (getI p i).p, VV.bool false, I ((getI p i).s + (1 : Int)), I 0] 117) :: (14, VB.cells [VV.bool false, I 0, I 0, VV.bool false, I 0, I 0] 117) :: (9, recT) :: (5, faB 4 (limD N_1 d (ndB false ((getI p i).s + (1 : Int)) (0 : Int)) (ndB true (getI p i).j (getI p i).p) ((getI p i).c + (getI p i).o))) :: (4, maB (limN N_1 (ndB false ((getI p i).s + (1 : Int)) (0 : Int)) (ndB true (getI p i).j (getI p i).p))) :: (9, VB.gone) :: (13, VB.cells [VV.bool false, I ((getI p i).s + (1 : Int)), I 0, VV.bool true, I (getI p i).j, I (getI p i).p] 117) :: (13, VB.cells [VV.bool false, I 0, I 0, VV.bool false, I 0, I 0] 117) :: (12, VB.cells [VV.bool true, I (getI p i).j, I (getI p i).p] 73) :: (11, VB.cells [VV.bool false, I ((getI p i).s + (1 : Int)), I 0] 73) :: (12, VB.cells [VV.bool false, I 0, I 0] 73) :: (11, VB.cells [VV.bool false, I 0, I 0] 73) :: (10, VB.cells [I (getI p i).j, I (getI p i).s, I (getI p i).p, I (getI p i).c, I (getI p i).o] 32) :: (10, VB.cells [I 0, I 0, I 0, I 0, I 0] 32) :: nsO.zip (BO p c1 c2 c3 N d))).at 4 = maB N_2 ∧ (limN N_2 (ndB true (getI p i).j (getI p i).p) (ndB false ((getI p i).s + (1 : Int)) (0 : Int))).length ≤ 65) ∧ FitP 0 (VH.mk (15) ((9, recT) :: (5, faB 4 (limD N_2 (limD N_1 d (ndB false ((getI p i).s + (1 : Int)) (0 : Int)) (ndB true (getI p i).j (getI p i).p) ((getI p i).c + (getI p i).o)) (ndB true (getI p i).j (getI p i).p) (ndB false ((getI p i).s + (1 : Int)) (0 : Int)) ((getI p i).o - (getI p i).c))) :: (4, maB (limN N_2 (ndB true (getI p i).j (getI p i).p) (ndB false ((getI p i).s + (1 : Int)) (0 : Int)))) :: (9, VB.gone) :: (14, VB.cells [VV.bool true, I (getI p i).j, I (getI p i).p, VV.bool false, I ((getI p i).s + (1 : Int)), I 0] 117) :: (14, VB.cells [VV.bool false, I 0, I 0, VV.bool false, I 0, I 0] 117) :: (9, recT) :: (5, faB 4 (limD N_1 d (ndB false ((getI p i).s + (1 : Int)) (0 : Int)) (ndB true (getI p i).j (getI p i).p) ((getI p i).c + (getI p i).o))) :: (4, maB (limN N_1 (ndB false ((getI p i).s + (1 : Int)) (0 : Int)) (ndB true (getI p i).j (getI p i).p))) :: (9, VB.gone) :: (13, VB.cells [VV.bool false, I ((getI p i).s + (1 : Int)), I 0, VV.bool true, I (getI p i).j, I (getI p i).p] 117) :: (13, VB.cells [VV.bool false, I 0, I 0, VV.bool false, I 0, I 0] 117) :: (12, VB.cells [VV.bool true, I (getI p i).j, I (getI p i).p] 73) :: (11, VB.cells [VV.bool false, I ((getI p i).s + (1 : Int)), I 0] 73) :: (12, VB.cells [VV.bool false, I 0, I 0] 73) :: (11, VB.cells [VV.bool false, I 0, I 0] 73) :: (10, VB.cells [I (getI p i).j, I (getI p i).s, I (getI p i).p, I (getI p i).c, I (getI p i).o] 32) :: (10, VB.cells [I 0, I 0, I 0, I 0, I 0] 32) :: nsO.zip (BO p c1 c2 c3 N d))) ((59, I 0) :: (58, I (↑p.T.length : Int)) :: (57, VV.slice (VA.el 1 [] (0 : Int) 0) p.T.length c2) :: (56, VV.ptr (VA.own 3 (1))) :: (55, VV.ptr (VA.own 3 0)) :: (54, VV.ptr (VA.own 3 0)) :: (53, VV.bool false) :: (53, VV.bool !true) :: (52, VV.bool !true) :: (41, VV.bool false) :: (51, VV.bool true) :: (41, VV.bool false) :: (50, I ((getI p i).o - (getI p i).c)) :: (41, VV.bool false) :: (49, I (getI p i).c) :: (41, VV.bool false) :: (48, VV.ptr (VA.own (10) (3))) :: (41, VV.bool false) :: (47, I (getI p i).o) :: (41, VV.bool false) :: (46, VV.ptr (VA.own (10) (4))) :: (41, VV.bool false) :: (45, VV.agg [VV.bool true, I (getI p i).j, I (getI p i).p, VV.bool false, I ((getI p i).s + (1 : Int)), I 0]) :: (41, VV.bool false) :: (44, VV.agg [VV.bool false, I ((getI p i).s + (1 : Int)), I 0]) :: (41, VV.bool false) :: (43, VV.agg [VV.bool true, I (getI p i).j, I (getI p i).p]) :: (41, VV.bool false) :: (42, VV.yld 9) :: (41, VV.bool false) :: (41, VV.bool !true) :: (40, VV.bool !true) :: (39, VV.bool true) :: (38, I ((getI p i).c + (getI p i).o)) :: (37, I (getI p i).o) :: (36, VV.ptr (VA.own (10) (4))) :: (35, I (getI p i).c) :: (34, VV.ptr (VA.own (10) (3))) :: (33, VV.agg [VV.bool false, I ((getI p i).s + (1 : Int)), I 0, VV.bool true, I (getI p i).j, I (getI p i).p]) :: (32, VV.agg [VV.bool true, I (getI p i).j, I (getI p i).p]) :: (31, VV.agg [VV.bool false, I ((getI p i).s + (1 : Int)), I 0]) :: (30, VV.yld 9) :: (6, VV.ptr (VA.own (12) 0)) :: (5, VV.ptr (VA.own (11) 0)) :: (29, VV.agg [VV.bool true, I (getI p i).j, I (getI p i).p]) :: (28, I (getI p i).p) :: (27, VV.ptr (VA.own (10) (2))) :: (26, I (getI p i).j) :: (25, VV.ptr (VA.own (10) 0)) :: (24, VV.agg [VV.bool false, I ((getI p i).s + (1 : Int)), I 0]) :: (23, I (getI p i).s) :: (22, VV.ptr (VA.own (10) (1))) :: (4, VV.ptr (VA.own (10) 0)) :: (21, VV.agg [I (getI p i).j, I (getI p i).s, I (getI p i).p, I (getI p i).c, I (getI p i).o]) :: (20, VV.ptr (VA.el 1 [] ((0 : Int) + i) 0)) :: (19, VV.bool true) :: (19, VV.bool (decide (i < (↑p.T.length : Int)))) :: dsO.zip (VO p c2 i)) (VH.mk 15 (nsL.zip (BL p c1 c2 c3 s.fst s.snd (getI p i)))) (dsL.zip (VL p c2 i (0 : Int))) ∧ (PnOk p ∧ getI p i ∈ p.T ∧ Gd p s.fst) ∧ bif inK IntKind.i64 (i + (1 : Int)) then
 X VEx.normal [VV.yld 9, VV.ptr (VA.own 8 0), VV.slice (VA.el 1 [] (0 : Int) 0) p.T.length c2, I (↑p.T.length : Int), I (i + (1 : Int))] [arD p, arT p, arS p, pnB p c1 c2 c3, VB.map kU (PK.int IntKind.i64) (esOf (List.foldl stepL s (List.flatMap (lkI p (getI p i)) p.T)).fst), VB.fam [VV.mp 4] 4225 (List.foldl stepL s (List.flatMap (lkI p (getI p i)) p.T)).snd (93 : TypeId), p5, VB.cells [VV.ptr (VA.own 3 0)] (104 : TypeId), recT]
 else False
 else False
 else False
 else False
 else False
 else X (VEx.exit 0) [VV.yld 9, VV.ptr (VA.own 8 0), VV.slice (VA.el 1 [] (0 : Int) 0) p.T.length c2, I (↑p.T.length : Int), I i] [arD p, arT p, arS p, pnB p c1 c2 c3, maB N, faB 4 d, p5, VB.cells [VV.ptr (VA.own 3 0)] (104 : TypeId), recT]) := by kernel_rfl


end Go.Sx.Nos

/- nose: the links of a panel, all of them. -/

namespace Go.Sx.Nos
open Go Go.Sx Go.Proofs
set_option maxRecDepth 1000000

def stp (l : List Lk) (s : St) : St := l.foldl stepL s
theorem stp_app (a b : List Lk) (s : St) : stp (a ++ b) s = stp b (stp a s) := List.foldl_append ..

section
variable {p : Pn} {c1 c2 c3 : Nat}

/-- The loop over the tastings. -/
def lOut (p : Pn) (c1 c2 c3 : Nat) (s : St) : LT := fun lock tt h K =>
  FitP lock h tt ⟨10, nsO.zip (BO p c1 c2 c3 s.1 s.2)⟩ (dsO.zip (VO p c2 0)) ∧ (PnOk p ∧ Gd p s.1) ∧
    K .normal (dsO.zip (VO p c2 p.T.length)) ⟨10, nsO.zip (BO p c1 c2 c3 (stp (p.T.flatMap (lkT p)) s).1 (stp (p.T.flatMap (lkT p)) s).2)⟩

def oOut (p : Pn) (c1 c2 c3 : Nat) (s : Nat × St) (e : VEx) (vs : List VV) (bs : List VB) : Prop :=
  e = .exit 0 ∧ vs = VO p c2 p.T.length ∧ bs = BO p c1 c2 c3 (stp ((p.T.drop s.1).flatMap (lkT p)) s.2).1 (stp ((p.T.drop s.1).flatMap (lkT p)) s.2).2

theorem lsp_inn {t : Ts} {i : Int} {s : St} : ∀ id T, tabB [(2, lInn p c1 c2 c3 t i s)] id = some T → ∀ b' ∈ blocksOf id (loopB 0 (bodyOf Try.prog 70)), LSound Try.prog true (.block id b') 147 T := by
  intro id T hT b' hb
  simp only [tabB] at hT
  cases hid : Nat.beq id 2 with
  | false => rw [hid] at hT; cases hT
  | true =>
    rw [hid] at hT
    have := Nat.eq_of_beq_eq_true hid
    subst this
    cases hT
    have h2 : blocksOf 2 (loopB 0 (bodyOf Try.prog 70)) = [.loop (loopB 2 (bodyOf Try.prog 70))] := by kernel_rfl
    rw [h2] at hb
    simp only [List.mem_singleton] at hb
    subst hb
    exact lInn_ok

theorem lOut_ok {s : St} : LSound Try.prog true (.block 0 (.loop (loopB 0 (bodyOf Try.prog 70)))) 147 (lOut p c1 c2 c3 s) := by
  by_cases hp : PnOk p
  · refine loop_rowD hmix (tab_good hmix tLi_ok (unroll := 10) 20) (un := 10) (ds := dsO) (ns := nsO) (nx := 10) (lsp := fun s : Nat × St => tabB [(2, lInn p c1 c2 c3 (getI p s.1) s.1 (stp (lkH (getI p s.1)) s.2))]) (fun s => VO p c2 s.1) (fun s => BO p c1 c2 c3 s.2.1 s.2.2) (fun s => s.1 ≤ p.T.length ∧ Gd p s.2.1) (fun s => p.T.length - s.1)
      (oOut p c1 c2 c3) (fun _ _ => lsp_inn) ?_ ?_
    · rintro ⟨k, N, d⟩ ⟨hk, hg⟩
      dsimp only at hk hg ⊢
      refine cast (out_ev p c1 c2 c3 N d _ k _).symm ?_
      by_cases h : k < p.T.length
      · obtain ⟨ht, hdrop⟩ := getT h
        have hT := hp.t
        have hgi : getI p k = p.T.getD k t0 := by unfold getI; rw [zero_toNat]
        rw [← hgi] at ht hdrop
        obtain ⟨_, ⟨s0, s1⟩, _, ⟨e0, e1⟩, ⟨o0, o1⟩⟩ := hp.ts _ ht
        have g1 := hg.lim (uni_v p ⟨s0, s1⟩) (uni_c p ht)
        have g2 := g1.lim (uni_c p ht) (uni_v p ⟨s0, s1⟩)
        refine cond_dk (by omega) (cond_dk ⟨by omega, by omega⟩ ⟨⟨rfl, by omega, by omega⟩, cond_r (by omega) (cond_r (by omega) ⟨N, ⟨rfl, g1.le hT⟩, cond_r (by omega) ⟨_, ⟨rfl, g2.le hT⟩, ?_⟩⟩)⟩)
        refine ⟨⟨⟨rfl, rfl, VB.fit_refl _, VB.fit_refl _, VB.fit_refl _, VB.fit_refl _, VB.fit_refl _, VB.fit_refl _, VB.fit_refl _, VB.fit_refl _, VB.fit_refl _, VB.fit_refl _, VB.fit_refl _, VB.fit_refl _, trivial⟩, rfl, rfl, rfl, rfl, rfl, rfl, rfl, rfl, rfl, rfl, rfl, trivial⟩, ⟨hp, ht, g2⟩, cond_r (by omega) ?_⟩
        refine ⟨(k + 1, stp (p.T.flatMap (lkI p (getI p k))) (stp (lkH (getI p k)) (N, d))), ⟨by dsimp only; omega, ?_⟩, by dsimp only; omega, vst (V := VO p c2) k, fitBs_refl _, fun e vs bs ho => ?_⟩
        · exact Gd.fold g2 fun x hx => by
            obtain ⟨u, hu, hx⟩ := List.mem_flatMap.1 hx
            exact lkI_uni ht hu x hx
        · unfold oOut at ho ⊢
          dsimp only at ho ⊢
          rw [hdrop, List.flatMap_cons, stp_app]
          show _ ∧ _ ∧ bs = BO p c1 c2 c3 (stp _ (stp (lkH (getI p k) ++ p.T.flatMap (lkI p (getI p k))) (N, d))).1 (stp _ (stp (lkH (getI p k) ++ p.T.flatMap (lkI p (getI p k))) (N, d))).2
          rw [stp_app]
          exact ho
      · have : k = p.T.length := by omega
        subst this
        refine cond_d (fun h => by omega) (fun _ => ⟨rfl, rfl, ?_⟩)
        dsimp only
        rw [List.drop_length]
        rfl
    · rintro lock tt h K ⟨hf, ⟨_, hg⟩, hK⟩
      refine ⟨(0, s), hf, ⟨Nat.zero_le _, hg⟩, ?_⟩
      rintro x vs bs ⟨rfl, rfl, rfl⟩
      exact hK
  · rintro lock tt h K ⟨_, hc, _⟩
    exact (hp hc.1).elim

/-- The loop over the standards. -/
def lStd (p : Pn) (c1 c2 c3 : Nat) (s : St) : LT := fun lock tt h K =>
  FitP lock h tt ⟨10, nsO.zip (BO p c1 c2 c3 s.1 s.2)⟩ (dsS.zip (VS p c3 0)) ∧ (PnOk p ∧ Gd p s.1) ∧
    K .normal (dsS.zip (VS p c3 p.S.length)) ⟨10, nsO.zip (BO p c1 c2 c3 (stp (p.S.flatMap lkS) s).1 (stp (p.S.flatMap lkS) s).2)⟩

def oStd (p : Pn) (c1 c2 c3 : Nat) (s : Nat × St) (e : VEx) (vs : List VV) (bs : List VB) : Prop :=
  e = .exit 4 ∧ vs = VS p c3 p.S.length ∧ bs = BO p c1 c2 c3 (stp ((p.S.drop s.1).flatMap lkS) s.2).1 (stp ((p.S.drop s.1).flatMap lkS) s.2).2

theorem lStd_ok {s : St} : LSound Try.prog true (.block 4 (.loop (loopB 4 (bodyOf Try.prog 70)))) 147 (lStd p c1 c2 c3 s) := by
  by_cases hp : PnOk p
  · refine loop_row hmix (tab_good hmix tLi_ok (unroll := 10) 20) (un := 10) (ds := dsS) (ns := nsO) (nx := 10) (fun s : Nat × St => VS p c3 s.1) (fun s => BO p c1 c2 c3 s.2.1 s.2.2) (fun s => s.1 ≤ p.S.length ∧ Gd p s.2.1) (fun s => p.S.length - s.1)
      (oStd p c1 c2 c3) noL_ok ?_ ?_
    · rintro ⟨k, N, d⟩ ⟨hk, hg⟩
      dsimp only at hk hg ⊢
      refine cast (std_ev p c1 c2 c3 N d k _).symm ?_
      by_cases h : k < p.S.length
      · obtain ⟨hs, hdrop⟩ := getS h
        have hT := hp.t
        have hS := hp.s
        obtain ⟨⟨s0, s1⟩, l0, l1, l2⟩ := hp.sd _ hs
        have g1 := hg.lim (uni_v p ⟨s0, s1⟩) (uni_z p)
        have g2 := g1.lim (uni_z p) (uni_v p ⟨s0, s1⟩)
        refine cond_dk (by omega) (cond_dk ⟨by omega, by omega⟩ ⟨⟨rfl, by omega, by omega⟩, ?_⟩)
        rw [zero_toNat]
        refine cond_r (by omega) ⟨N, ⟨rfl, g1.le hT⟩, cond_r (by omega) (cond_r (by omega) ⟨_, ⟨rfl, g2.le hT⟩, cond_r (by omega) ?_⟩)⟩
        refine ⟨(k + 1, stp (lkS (p.S.getD k Nos.s0)) (N, d)), ⟨by dsimp only; omega, g2⟩, by dsimp only; omega, vst (V := VS p c3) k, fitBs_refl _, fun e vs bs ho => ?_⟩
        unfold oStd at ho ⊢
        dsimp only at ho ⊢
        rw [hdrop, List.flatMap_cons, stp_app]
        exact ho
      · have : k = p.S.length := by omega
        subst this
        refine cond_d (fun h => by omega) (fun _ => ⟨rfl, rfl, ?_⟩)
        dsimp only
        rw [List.drop_length]
        rfl
    · rintro lock tt h K ⟨hf, ⟨_, hg⟩, hK⟩
      refine ⟨(0, s), hf, ⟨Nat.zero_le _, hg⟩, ?_⟩
      rintro x vs bs ⟨rfl, rfl, rfl⟩
      exact hK
  · rintro lock tt h K ⟨_, hc, _⟩
    exact (hp hc.1).elim
end
end Go.Sx.Nos
