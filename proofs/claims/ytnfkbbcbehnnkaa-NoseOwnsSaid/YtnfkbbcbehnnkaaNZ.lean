/- stream: Nt1 Nt2 Nt3 Nt4 Nt5, in one text. -/
import Derived.Test.YtnfkbbcbehnnkaaNX
/- nose: Ints, evaluated. -/

namespace Go.Sx.Nos
open Go Go.Sx Go.Proofs
set_option maxRecDepth 1000000

def iA (xs : List Int) : VB := arrOf 1 xs.length (dG xs)
def dsE : List Nat := [4, 5, 0, 1]
def VE (n c m d : Nat) (i : Int) : List VV := [.bool false, I i, .slice (.el 0 [] 0 0) n c, .slice (.el 1 [] 0 0) m d]
def LE (xs ys : List Int) (c d : Nat) : LT := fun lock t h K =>
  FitP lock h t ⟨2, [0, 1].zip [iA xs, iA ys]⟩ (dsE.zip (VE xs.length c ys.length d 0)) ∧ (xs.length = ys.length ∧ xs.length ≤ 100000) ∧ (xs = ys → K .normal (dsE.zip (VE xs.length c ys.length d xs.length)) ⟨2, [0, 1].zip [iA xs, iA ys]⟩) ∧ (xs ≠ ys → ∀ i, K .ret (dsE.zip (VE xs.length c ys.length d i)) ⟨2, [0, 1].zip [iA xs, iA ys]⟩)
theorem in37_ev (xs ys : List Int) (c d : Nat) (i : Int) (X : VEx → List VV → List VB → Prop) : codeE Try.prog (callN Try.prog noSpec noL 10 20) (fun _ => none) true 10 26 0 (loopB 0 (bodyOf Try.prog 37)) (dsE.zip (VE xs.length c ys.length d i)) ⟨2, [0, 1].zip [iA xs, iA ys]⟩ (obs 2 dsE [0, 1] X) =
  (bif decide (i < (↑xs.length : Int)) then
 bif decide ((0 : Int) ≤ i ∧ i < (↑xs.length : Int)) then
 (([] : List Int) = [] ∧ (0 : Int) ≤ (0 : Int) + i ∧ (0 : Int) + i < (↑xs.length : Int)) ∧ bif decide ((0 : Int) ≤ i ∧ i < (↑ys.length : Int)) then
 (([] : List Int) = [] ∧ (0 : Int) ≤ (0 : Int) + i ∧ (0 : Int) + i < (↑ys.length : Int)) ∧ bif !decide (xs.getD ((0 : Int) + i).toNat (0 : Int) = ys.getD ((0 : Int) + i).toNat (0 : Int)) then
 X VEx.ret [VV.bool false, I i, VV.slice (VA.el 0 [] (0 : Int) 0) xs.length c, VV.slice (VA.el 1 [] (0 : Int) 0) ys.length d] [VB.arr 1 (fun ix i => ix = [] ∧ (0 : Int) ≤ i ∧ i < (↑xs.length : Int)) fun x i => dG xs i.toNat, VB.arr 1 (fun ix i => ix = [] ∧ (0 : Int) ≤ i ∧ i < (↑ys.length : Int)) fun x i => dG ys i.toNat]
 else bif inK IntKind.i64 (i + (1 : Int)) then
 X VEx.normal [VV.bool false, I (i + (1 : Int)), VV.slice (VA.el 0 [] (0 : Int) 0) xs.length c, VV.slice (VA.el 1 [] (0 : Int) 0) ys.length d] [VB.arr 1 (fun ix i => ix = [] ∧ (0 : Int) ≤ i ∧ i < (↑xs.length : Int)) fun x i => dG xs i.toNat, VB.arr 1 (fun ix i => ix = [] ∧ (0 : Int) ≤ i ∧ i < (↑ys.length : Int)) fun x i => dG ys i.toNat]
 else False
 else False
 else False
 else X (VEx.exit 0) [VV.bool false, I i, VV.slice (VA.el 0 [] (0 : Int) 0) xs.length c, VV.slice (VA.el 1 [] (0 : Int) 0) ys.length d] [VB.arr 1 (fun ix i => ix = [] ∧ (0 : Int) ≤ i ∧ i < (↑xs.length : Int)) fun x i => dG xs i.toNat, VB.arr 1 (fun ix i => ix = [] ∧ (0 : Int) ≤ i ∧ i < (↑ys.length : Int)) fun x i => dG ys i.toNat]) := by kernel_rfl

theorem f37_ev (xs ys : List Int) (c d : Nat) (Q : VRes → Prop) : spBL Try.prog 37 noSpec [(0, LE xs ys c d)] 10 20 0 [.slice (.el 0 [] 0 0) xs.length c, .slice (.el 1 [] 0 0) ys.length d] ⟨2, [(0, iA xs), (1, iA ys)]⟩ (fun r _ => Q r) =
  (bif !decide ((↑xs.length : Int) = (↑ys.length : Int)) then
 Q (VRes.ret (VV.bool false))
 else FitP 0 (VH.mk 2 ([0, 1].zip [iA xs, iA ys])) (dsE.zip (VE xs.length c ys.length d (0 : Int))) (VH.mk 2 ([0, 1].zip [iA xs, iA ys])) (dsE.zip (VE xs.length c ys.length d (0 : Int))) ∧ (xs.length = ys.length ∧ xs.length ≤ 100000) ∧ (xs = ys → Q (VRes.ret (VV.bool true))) ∧ (xs ≠ ys → ∀ (i : Int), Q (VRes.ret (VV.bool false)))) := by kernel_rfl


end Go.Sx.Nos

/- nose: Ints, as a row. -/

namespace Go.Sx.Nos
open Go Go.Sx Go.Proofs
set_option maxRecDepth 1000000

section
variable {xs ys : List Int} {c d : Nat}

def OE (xs ys : List Int) (c d : Nat) (_ : Nat) (e : VEx) (vs : List VV) (bs : List VB) : Prop :=
  bs = [iA xs, iA ys] ∧ ((xs = ys ∧ e = .exit 0 ∧ vs = VE xs.length c ys.length d xs.length) ∨ (xs ≠ ys ∧ e = .ret ∧ ∃ i, vs = VE xs.length c ys.length d i))

theorem LE_ok : LSound Try.prog true (.block 0 (.loop (loopB 0 (bodyOf Try.prog 37)))) 26 (LE xs ys c d) := by
  by_cases hn : xs.length = ys.length ∧ xs.length ≤ 100000
  · obtain ⟨hl, hn⟩ := hn
    refine loop_row hmix good0 (un := 10) (ds := dsE) (ns := [0, 1]) (nx := 2) (fun i : Nat => VE xs.length c ys.length d i) (fun _ => [iA xs, iA ys]) (fun i => i ≤ xs.length ∧ ∀ j, j < i → xs.getD j 0 = ys.getD j 0) (fun i => xs.length - i) (OE xs ys c d) noL_ok ?_ ?_
    · rintro i ⟨h0, h1⟩
      refine cast (in37_ev xs ys c d i _).symm ?_
      by_cases hlt : i < xs.length
      · refine cond_dk (by omega) (cond_dk ⟨by omega, by omega⟩ ⟨⟨rfl, by omega, by omega⟩, cond_dk ⟨by omega, by omega⟩ ⟨⟨rfl, by omega, by omega⟩, ?_⟩⟩)
        rw [show ((0 : Int) + (i : Int)).toNat = i by omega]
        refine cond_nd (fun h => ?_) (fun h => cond_r (by omega) ⟨i + 1, ⟨by omega, fun j hj => ?_⟩, by dsimp only; omega, rfl, fitBs_refl _, fun _ _ _ h => h⟩)
        · exact ⟨rfl, .inr ⟨fun e => h (by rw [e]), rfl, _, rfl⟩⟩
        · by_cases e : j = i
          · rw [e]; exact h
          · exact h1 j (by omega)
      · obtain rfl : i = xs.length := by omega
        refine cond_d (fun h => by omega) (fun _ => ⟨rfl, .inl ⟨?_, rfl, rfl⟩⟩)
        refine List.ext_getElem hl fun j h2 h3 => ?_
        have := h1 j h2
        rwa [List.getD_eq_getElem?_getD, List.getElem?_eq_getElem h2, List.getD_eq_getElem?_getD, List.getElem?_eq_getElem h3] at this
    · rintro lock t h K ⟨hf, _, k1, k2⟩
      refine ⟨0, hf, ⟨Nat.zero_le _, fun j hj => by omega⟩, ?_⟩
      rintro e vs bs ⟨rfl, ⟨g, rfl, rfl⟩ | ⟨g, rfl, i, rfl⟩⟩
      · exact k1 g
      · exact k2 g i
  · rintro lock t h K ⟨hf, hc, _⟩
    exact (hn hc).elim

theorem ints_v (hn : xs.length ≤ 100000) : ∃ h', CallsV Try.prog 37 [.slice (.el 0 [] 0 0) xs.length c, .slice (.el 1 [] 0 0) ys.length d] ⟨2, [(0, iA xs), (1, iA ys)]⟩ (.ret (.bool (decide (xs = ys)))) h' := by
  have hsp := spBL_ok hmix (sp := noSpec) (fun _ _ h => absurd h (by simp [noSpec])) (f := 37) (l := [(0, LE xs ys c d)]) (fun x hx => by
    simp only [List.mem_singleton] at hx
    subst hx
    exact ⟨by kernel_rfl, LE_ok⟩) (un := 10) (fu := 20)
  obtain ⟨r, h', hQ, hc⟩ := of_sp hsp (args := [.slice (.el 0 [] 0 0) xs.length c, .slice (.el 1 [] 0 0) ys.length d]) (h := ⟨2, [(0, iA xs), (1, iA ys)]⟩) (K := fun r _ => r = .ret (.bool (decide (xs = ys))))
    (by
      refine cast (f37_ev xs ys c d _).symm ?_
      refine cond_nd (fun h => ?_) (fun h => ⟨fitP_self rfl, ⟨by omega, hn⟩, fun h => by rw [decide_eq_true h], fun h _ => by rw [decide_eq_false h]⟩)
      rw [decide_eq_false (fun e => h (by rw [e]))])
  subst hQ
  exact ⟨h', hc⟩
end

/-- Are two lists the same, as a row. -/
def intsT : FuncId × Spec1 := (37, fun _ args h K => match args with
  | [a, b] => ∃ xs ys : List Int, isList h a xs.length 1 (dG xs) ∧ isList h b ys.length 1 (dG ys) ∧ xs.length ≤ 100000 ∧ K (.ret (.bool (decide (xs = ys)))) h
  | _ => False)

theorem intsT_ok : SpOk Try.prog intsT.1 intsT.2 := by
  intro lock args h K hK
  simp only [intsT] at hK
  split at hK
  · obtain ⟨xs, ys, h1, h2, hn, hK⟩ := hK
    refine ⟨_, h, hK, lockP_refl _ _, calls_listsP (ags := [.l xs.length 1 (dG xs), .l ys.length 1 (dG ys)]) (fun cs => ?_) rfl ⟨_, _, rfl, h1, fun _ _ => rfl, _, _, rfl, h2, fun _ _ => rfl, rfl⟩⟩
    match cs with
    | [] => exact ints_v hn
    | [_] => exact ints_v hn
    | _ :: _ :: _ => exact ints_v hn
  · exact hK.elim
end Go.Sx.Nos

/- nose: NoseOwns, evaluated. -/

namespace Go.Sx.Nos
open Go Go.Sx Go.Proofs
set_option maxRecDepth 1000000

noncomputable def grpM1 (p : Pn) : FuncId × Spec1 := (31, fun _ args h K => match args with
  | [.agg [d, t, s]] => pnIs h p d t s ∧ ¬ PnOk p ∧ K (.ret (.tup [.nils, I 1])) h
  | _ => False)
noncomputable def grpM2 (p : Pn) : FuncId × Spec1 := (31, fun _ args h K => match args with
  | [.agg [d, t, s]] => pnIs h p d t s ∧ (PnOk p ∧ ¬ fitF p) ∧ K (.ret (.tup [.nils, I 6])) h
  | _ => False)
noncomputable def grpM3 (p : Pn) (l : List Int) : FuncId × Spec1 := (31, fun _ args h K => match args with
  | [.agg [d, t, s]] => pnIs h p d t s ∧ (PnOk p ∧ fitF p ∧ l = grp p 16) ∧ (match h with
      | ⟨nx, bs⟩ => K (.ret (.tup [.sl nx 16, I 0])) ⟨nx + 1, (nx, .vec 16 (dG l) 1 3) :: bs⟩)
  | _ => False)
noncomputable def douM1 (p : Pn) : FuncId × Spec1 := (32, fun _ args h K => match args with
  | [.agg [d, t, s]] => pnIs h p d t s ∧ ¬ PnOk p ∧ K (.ret (.tup [.nils, I 1])) h
  | _ => False)
noncomputable def douM2 (p : Pn) (l : List Int) : FuncId × Spec1 := (32, fun _ args h K => match args with
  | [.agg [d, t, s]] => pnIs h p d t s ∧ (PnOk p ∧ ¬ fitF p ∧ l = douL p p.T.length) ∧ (match h with
      | ⟨nx, bs⟩ => K (.ret (.tup [.sl nx l.length, I 0])) ⟨nx + 1, (nx, .vec l.length (dG l) 1 3) :: bs⟩)
  | _ => False)
noncomputable def douM3 (p : Pn) : FuncId × Spec1 := (32, fun _ args h K => match args with
  | [.agg [d, t, s]] => pnIs h p d t s ∧ (PnOk p ∧ fitF p) ∧ K (.ret (.tup [.nils, I 6])) h
  | _ => False)
def dsO0 : List Nat := [39, 38, 37, 6, 1, 3, 4, 5, 7, 8]
def VO0 (p : Pn) (i : Int) : List VV := [I i, I 16, .sl 7 16, .sl 7 16, .ptr (.own 3 0), .sl 4 (0 + p.D.length), .sl 5 (0 + p.T.length), .sl 6 (0 + p.S.length), I 0, .sl 8 (0 + 16)]
def BOa (p : Pn) (c1 c2 c3 : Nat) : List VB := [arD p, arT p, arS p, pnB p c1 c2 c3, .vec (0 + p.D.length) (dG p.D) 1 3, .vec (0 + p.T.length) (tG p.T) 5 32, .vec (0 + p.S.length) (sG p.S) 3 36]
def BO0 (p : Pn) (c1 c2 c3 : Nat) (l : List Int) (G : Nat → List VV) : List VB := BOa p c1 c2 c3 ++ [.vec 16 G 1 3, .vec (0 + 16) (dG l) 1 3]
def nsO8 : List Nat := [0, 1, 2, 3, 4, 5, 6, 7]
def nsO9 : List Nat := [0, 1, 2, 3, 4, 5, 6, 7, 8]
def nsO10 : List Nat := [0, 1, 2, 3, 4, 5, 6, 7, 8, 9]
/-- Elements that are set, one by one. -/
def sevG (l : List Int) (k : Nat) : Nat → List VV := fun j => bif Nat.blt j k then [I (-7)] else dG l j
def lO0 (p : Pn) (c1 c2 c3 : Nat) (l : List Int) : LT := fun lock tt h K =>
  FitP lock h tt ⟨9, nsO9.zip (BO0 p c1 c2 c3 l (dG l))⟩ (dsO0.zip (VO0 p 0)) ∧ K .normal (dsO0.zip (VO0 p 16)) ⟨9, nsO9.zip (BO0 p c1 c2 c3 l (sevG l 16))⟩
theorem o0_ev (p : Pn) (c1 c2 c3 : Nat) (l : List Int) (G : Nat → List VV) (i : Int) (X : VEx → List VV → List VB → Prop) : codeE Try.prog (callN Try.prog noSpec noL 10 20) (fun _ => none) true 10 104 0 (loopB 0 (bodyOf Try.prog 12)) (dsO0.zip (VO0 p i)) ⟨9, nsO9.zip (BO0 p c1 c2 c3 l G)⟩ (obs 9 dsO0 nsO9 X) =
  (bif decide (i < (16 : Int)) then
 bif decide ((0 : Int) ≤ i ∧ i < (↑16 : Int)) then
 bif inK IntKind.i64 (i + (1 : Int)) then
 X VEx.normal [I (i + (1 : Int)), I 16, VV.sl 7 16, VV.sl 7 16, VV.ptr (VA.own 3 0), VV.sl 4 (0 + p.D.length), VV.sl 5 (0 + p.T.length), VV.sl 6 (0 + p.S.length), I 0, VV.sl 8 (0 + 16)] [arD p, arT p, arS p, pnB p c1 c2 c3, VB.vec (0 + p.D.length) (dG p.D) 1 (3 : TypeId), VB.vec (0 + p.T.length) (tG p.T) 5 (32 : TypeId), VB.vec (0 + p.S.length) (sG p.S) 3 (36 : TypeId), VB.vec 16 (atG i.toNat G [evO ((44, VV.ptr (VA.ve 7 16 Try.prog.types[3].size i.toNat 0)) :: (43, I i) :: (42, VV.sl 7 16) :: (9, I i) :: (41, I i) :: (40, VV.bool true) :: (40, VV.bool (decide (i < (16 : Int)))) :: dsO0.zip (VO0 p i)) (Operand.const (Value.int IntKind.i64 (-7 : Int)))]) Try.prog.types[3].size (3 : TypeId), VB.vec (0 + 16) (dG l) 1 (3 : TypeId)]
 else False
 else False
 else X (VEx.exit 0) [I i, I 16, VV.sl 7 16, VV.sl 7 16, VV.ptr (VA.own 3 0), VV.sl 4 (0 + p.D.length), VV.sl 5 (0 + p.T.length), VV.sl 6 (0 + p.S.length), I 0, VV.sl 8 (0 + 16)] [arD p, arT p, arS p, pnB p c1 c2 c3, VB.vec (0 + p.D.length) (dG p.D) 1 (3 : TypeId), VB.vec (0 + p.T.length) (tG p.T) 5 (32 : TypeId), VB.vec (0 + p.S.length) (sG p.S) 3 (36 : TypeId), VB.vec 16 G 1 (3 : TypeId), VB.vec (0 + 16) (dG l) 1 (3 : TypeId)]) := by kernel_rfl

def dsO2 : List Nat := [57, 56, 1, 3, 4, 5, 7, 8, 10, 11]
def dsO4 : List Nat := [73, 72, 1, 3, 5, 7, 8, 10, 11]
def VO2 (p : Pn) (i : Int) (e cc hh : VV) : List VV := [I i, I (0 + p.T.length : Nat), .ptr (.own 3 0), .sl 4 (0 + p.D.length), .sl 5 (0 + p.T.length), .sl 6 (0 + p.S.length), e, cc, hh, e]
def VO4 (p : Pn) (i : Int) (e cc hh : VV) : List VV := [I i, I (0 + p.S.length : Nat), .ptr (.own 3 0), .sl 4 (0 + p.D.length), .sl 6 (0 + p.S.length), e, cc, hh, e]
def BO1 (p : Pn) (c1 c2 c3 : Nat) (_ : List Int) : List VB := BOa p c1 c2 c3 ++ [.vec (0 + 0) (dG []) 1 3]
def BO2 (p : Pn) (c1 c2 c3 : Nat) (l : List Int) : List VB := BOa p c1 c2 c3 ++ [.vec (0 + 0) (dG []) 1 3, .vec l.length (dG l) 1 3]
def BO3 (p : Pn) (c1 c2 c3 : Nat) (l : List Int) : List VB := BOa p c1 c2 c3 ++ [.vec 16 (sevG l 16) 1 3, .vec (0 + 16) (dG l) 1 3, .vec 16 (dG l) 1 3]
def lO21 (p : Pn) (c1 c2 c3 : Nat) (l : List Int) : LT := fun lock tt h K =>
  FitP lock h tt ⟨8, nsO8.zip (BO1 p c1 c2 c3 l)⟩ (dsO2.zip (VO2 p 0 (I 1) (.sl 7 (0 + 0)) .nils)) ∧ p.T.length ≤ 100 ∧ K .normal (dsO2.zip (VO2 p ((0 + p.T.length : Nat) : Int) (I 1) (.sl 7 (0 + 0)) .nils)) ⟨8, nsO8.zip (BO1 p c1 c2 c3 l)⟩
def lO41 (p : Pn) (c1 c2 c3 : Nat) (l : List Int) : LT := fun lock tt h K =>
  FitP lock h tt ⟨8, nsO8.zip (BO1 p c1 c2 c3 l)⟩ (dsO4.zip (VO4 p 0 (I 1) (.sl 7 (0 + 0)) .nils)) ∧ p.S.length ≤ 100 ∧ K .normal (dsO4.zip (VO4 p ((0 + p.S.length : Nat) : Int) (I 1) (.sl 7 (0 + 0)) .nils)) ⟨8, nsO8.zip (BO1 p c1 c2 c3 l)⟩
def lO22 (p : Pn) (c1 c2 c3 : Nat) (l : List Int) : LT := fun lock tt h K =>
  FitP lock h tt ⟨9, nsO9.zip (BO2 p c1 c2 c3 l)⟩ (dsO2.zip (VO2 p 0 (I 6) (.sl 7 (0 + 0)) .nils)) ∧ p.T.length ≤ 100 ∧ K .normal (dsO2.zip (VO2 p ((0 + p.T.length : Nat) : Int) (I 6) (.sl 7 (0 + 0)) .nils)) ⟨9, nsO9.zip (BO2 p c1 c2 c3 l)⟩
def lO42 (p : Pn) (c1 c2 c3 : Nat) (l : List Int) : LT := fun lock tt h K =>
  FitP lock h tt ⟨9, nsO9.zip (BO2 p c1 c2 c3 l)⟩ (dsO4.zip (VO4 p 0 (I 6) (.sl 7 (0 + 0)) .nils)) ∧ p.S.length ≤ 100 ∧ K .normal (dsO4.zip (VO4 p ((0 + p.S.length : Nat) : Int) (I 6) (.sl 7 (0 + 0)) .nils)) ⟨9, nsO9.zip (BO2 p c1 c2 c3 l)⟩
def lO23 (p : Pn) (c1 c2 c3 : Nat) (l : List Int) : LT := fun lock tt h K =>
  FitP lock h tt ⟨10, nsO10.zip (BO3 p c1 c2 c3 l)⟩ (dsO2.zip (VO2 p 0 (I 0) (.sl 8 (0 + 16)) (.sl 9 16))) ∧ p.T.length ≤ 100 ∧ K .normal (dsO2.zip (VO2 p ((0 + p.T.length : Nat) : Int) (I 0) (.sl 8 (0 + 16)) (.sl 9 16))) ⟨10, nsO10.zip (BO3 p c1 c2 c3 l)⟩
def lO43 (p : Pn) (c1 c2 c3 : Nat) (l : List Int) : LT := fun lock tt h K =>
  FitP lock h tt ⟨10, nsO10.zip (BO3 p c1 c2 c3 l)⟩ (dsO4.zip (VO4 p 0 (I 0) (.sl 8 (0 + 16)) (.sl 9 16))) ∧ p.S.length ≤ 100 ∧ K .normal (dsO4.zip (VO4 p ((0 + p.S.length : Nat) : Int) (I 0) (.sl 8 (0 + 16)) (.sl 9 16))) ⟨10, nsO10.zip (BO3 p c1 c2 c3 l)⟩
theorem o21_ev (p : Pn) (c1 c2 c3 : Nat) (l : List Int) (i : Int) (X : VEx → List VV → List VB → Prop) : codeE Try.prog (callN Try.prog noSpec noL 10 20) (fun _ => none) true 10 104 0 (loopB 2 (bodyOf Try.prog 12)) (dsO2.zip (VO2 p i (I 1) (.sl 7 (0 + 0)) .nils)) ⟨8, nsO8.zip (BO1 p c1 c2 c3 l)⟩ (obs 8 dsO2 nsO8 X) =
  (bif decide (i < (↑(0 + p.T.length) : Int)) then
 bif decide ((0 : Int) ≤ i ∧ i < (↑p.T.length : Int)) then
 (([] : List Int) = [] ∧ (0 : Int) ≤ (0 : Int) + i ∧ (0 : Int) + i < (↑p.T.length : Int)) ∧ bif decide ((0 : Int) ≤ i ∧ i < (↑(0 + p.T.length) : Int)) then
 bif (0 + p.T.length).beq (0 + p.T.length) && Nat.ble 1 Try.prog.types[32].size then
 bif (0 + p.T.length).beq (0 + p.T.length) then
 bif !(decide ((getI p i).j = (p.T.getD i.toNat t0).j) && (decide ((getI p i).s = (p.T.getD i.toNat t0).s) && (decide ((getI p i).p = (p.T.getD i.toNat t0).p) && (decide ((getI p i).c = (p.T.getD i.toNat t0).c) && (decide ((getI p i).o = (p.T.getD i.toNat t0).o) && true))))) then
 X VEx.ret [I i, I (↑(0 + p.T.length) : Int), VV.ptr (VA.own 3 0), VV.sl 4 (0 + p.D.length), VV.sl 5 (0 + p.T.length), VV.sl 6 (0 + p.S.length), I 1, VV.sl 7 (0 + 0), VV.nils, I 1] [arD p, arT p, arS p, pnB p c1 c2 c3, VB.vec (0 + p.D.length) (dG p.D) 1 (3 : TypeId), VB.vec (0 + p.T.length) (tG p.T) 5 (32 : TypeId), VB.vec (0 + p.S.length) (sG p.S) 3 (36 : TypeId), VB.vec (0 + 0) (dG []) 1 (3 : TypeId)]
 else bif inK IntKind.i64 (i + (1 : Int)) then
 X VEx.normal [I (i + (1 : Int)), I (↑(0 + p.T.length) : Int), VV.ptr (VA.own 3 0), VV.sl 4 (0 + p.D.length), VV.sl 5 (0 + p.T.length), VV.sl 6 (0 + p.S.length), I 1, VV.sl 7 (0 + 0), VV.nils, I 1] [arD p, arT p, arS p, pnB p c1 c2 c3, VB.vec (0 + p.D.length) (dG p.D) 1 (3 : TypeId), VB.vec (0 + p.T.length) (tG p.T) 5 (32 : TypeId), VB.vec (0 + p.S.length) (sG p.S) 3 (36 : TypeId), VB.vec (0 + 0) (dG []) 1 (3 : TypeId)]
 else False
 else False
 else False
 else False
 else False
 else X (VEx.exit 2) [I i, I (↑(0 + p.T.length) : Int), VV.ptr (VA.own 3 0), VV.sl 4 (0 + p.D.length), VV.sl 5 (0 + p.T.length), VV.sl 6 (0 + p.S.length), I 1, VV.sl 7 (0 + 0), VV.nils, I 1] [arD p, arT p, arS p, pnB p c1 c2 c3, VB.vec (0 + p.D.length) (dG p.D) 1 (3 : TypeId), VB.vec (0 + p.T.length) (tG p.T) 5 (32 : TypeId), VB.vec (0 + p.S.length) (sG p.S) 3 (36 : TypeId), VB.vec (0 + 0) (dG []) 1 (3 : TypeId)]) := by kernel_rfl

theorem o41_ev (p : Pn) (c1 c2 c3 : Nat) (l : List Int) (i : Int) (X : VEx → List VV → List VB → Prop) : codeE Try.prog (callN Try.prog noSpec noL 10 20) (fun _ => none) true 10 104 0 (loopB 4 (bodyOf Try.prog 12)) (dsO4.zip (VO4 p i (I 1) (.sl 7 (0 + 0)) .nils)) ⟨8, nsO8.zip (BO1 p c1 c2 c3 l)⟩ (obs 8 dsO4 nsO8 X) =
  (bif decide (i < (↑(0 + p.S.length) : Int)) then
 bif decide ((0 : Int) ≤ i ∧ i < (↑p.S.length : Int)) then
 (([] : List Int) = [] ∧ (0 : Int) ≤ (0 : Int) + i ∧ (0 : Int) + i < (↑p.S.length : Int)) ∧ bif decide ((0 : Int) ≤ i ∧ i < (↑(0 + p.S.length) : Int)) then
 bif (0 + p.S.length).beq (0 + p.S.length) && Nat.ble 1 Try.prog.types[36].size then
 bif (0 + p.S.length).beq (0 + p.S.length) then
 bif !(decide ((p.S.getD ((0 : Int) + i).toNat s0).s = (p.S.getD i.toNat s0).s) && (decide ((p.S.getD ((0 : Int) + i).toNat s0).lo = (p.S.getD i.toNat s0).lo) && (decide ((p.S.getD ((0 : Int) + i).toNat s0).hi = (p.S.getD i.toNat s0).hi) && true) && true)) then
 X VEx.ret [I i, I (↑(0 + p.S.length) : Int), VV.ptr (VA.own 3 0), VV.sl 4 (0 + p.D.length), VV.sl 6 (0 + p.S.length), I 1, VV.sl 7 (0 + 0), VV.nils, I 1] [arD p, arT p, arS p, pnB p c1 c2 c3, VB.vec (0 + p.D.length) (dG p.D) 1 (3 : TypeId), VB.vec (0 + p.T.length) (tG p.T) 5 (32 : TypeId), VB.vec (0 + p.S.length) (sG p.S) 3 (36 : TypeId), VB.vec (0 + 0) (dG []) 1 (3 : TypeId)]
 else bif inK IntKind.i64 (i + (1 : Int)) then
 X VEx.normal [I (i + (1 : Int)), I (↑(0 + p.S.length) : Int), VV.ptr (VA.own 3 0), VV.sl 4 (0 + p.D.length), VV.sl 6 (0 + p.S.length), I 1, VV.sl 7 (0 + 0), VV.nils, I 1] [arD p, arT p, arS p, pnB p c1 c2 c3, VB.vec (0 + p.D.length) (dG p.D) 1 (3 : TypeId), VB.vec (0 + p.T.length) (tG p.T) 5 (32 : TypeId), VB.vec (0 + p.S.length) (sG p.S) 3 (36 : TypeId), VB.vec (0 + 0) (dG []) 1 (3 : TypeId)]
 else False
 else False
 else False
 else False
 else False
 else X (VEx.exit 4) [I i, I (↑(0 + p.S.length) : Int), VV.ptr (VA.own 3 0), VV.sl 4 (0 + p.D.length), VV.sl 6 (0 + p.S.length), I 1, VV.sl 7 (0 + 0), VV.nils, I 1] [arD p, arT p, arS p, pnB p c1 c2 c3, VB.vec (0 + p.D.length) (dG p.D) 1 (3 : TypeId), VB.vec (0 + p.T.length) (tG p.T) 5 (32 : TypeId), VB.vec (0 + p.S.length) (sG p.S) 3 (36 : TypeId), VB.vec (0 + 0) (dG []) 1 (3 : TypeId)]) := by kernel_rfl

theorem o22_ev (p : Pn) (c1 c2 c3 : Nat) (l : List Int) (i : Int) (X : VEx → List VV → List VB → Prop) : codeE Try.prog (callN Try.prog noSpec noL 10 20) (fun _ => none) true 10 104 0 (loopB 2 (bodyOf Try.prog 12)) (dsO2.zip (VO2 p i (I 6) (.sl 7 (0 + 0)) .nils)) ⟨9, nsO9.zip (BO2 p c1 c2 c3 l)⟩ (obs 9 dsO2 nsO9 X) =
  (bif decide (i < (↑(0 + p.T.length) : Int)) then
 bif decide ((0 : Int) ≤ i ∧ i < (↑p.T.length : Int)) then
 (([] : List Int) = [] ∧ (0 : Int) ≤ (0 : Int) + i ∧ (0 : Int) + i < (↑p.T.length : Int)) ∧ bif decide ((0 : Int) ≤ i ∧ i < (↑(0 + p.T.length) : Int)) then
 bif (0 + p.T.length).beq (0 + p.T.length) && Nat.ble 1 Try.prog.types[32].size then
 bif (0 + p.T.length).beq (0 + p.T.length) then
 bif !(decide ((getI p i).j = (p.T.getD i.toNat t0).j) && (decide ((getI p i).s = (p.T.getD i.toNat t0).s) && (decide ((getI p i).p = (p.T.getD i.toNat t0).p) && (decide ((getI p i).c = (p.T.getD i.toNat t0).c) && (decide ((getI p i).o = (p.T.getD i.toNat t0).o) && true))))) then
 X VEx.ret [I i, I (↑(0 + p.T.length) : Int), VV.ptr (VA.own 3 0), VV.sl 4 (0 + p.D.length), VV.sl 5 (0 + p.T.length), VV.sl 6 (0 + p.S.length), I 6, VV.sl 7 (0 + 0), VV.nils, I 6] [arD p, arT p, arS p, pnB p c1 c2 c3, VB.vec (0 + p.D.length) (dG p.D) 1 (3 : TypeId), VB.vec (0 + p.T.length) (tG p.T) 5 (32 : TypeId), VB.vec (0 + p.S.length) (sG p.S) 3 (36 : TypeId), VB.vec (0 + 0) (dG []) 1 (3 : TypeId), VB.vec l.length (dG l) 1 (3 : TypeId)]
 else bif inK IntKind.i64 (i + (1 : Int)) then
 X VEx.normal [I (i + (1 : Int)), I (↑(0 + p.T.length) : Int), VV.ptr (VA.own 3 0), VV.sl 4 (0 + p.D.length), VV.sl 5 (0 + p.T.length), VV.sl 6 (0 + p.S.length), I 6, VV.sl 7 (0 + 0), VV.nils, I 6] [arD p, arT p, arS p, pnB p c1 c2 c3, VB.vec (0 + p.D.length) (dG p.D) 1 (3 : TypeId), VB.vec (0 + p.T.length) (tG p.T) 5 (32 : TypeId), VB.vec (0 + p.S.length) (sG p.S) 3 (36 : TypeId), VB.vec (0 + 0) (dG []) 1 (3 : TypeId), VB.vec l.length (dG l) 1 (3 : TypeId)]
 else False
 else False
 else False
 else False
 else False
 else X (VEx.exit 2) [I i, I (↑(0 + p.T.length) : Int), VV.ptr (VA.own 3 0), VV.sl 4 (0 + p.D.length), VV.sl 5 (0 + p.T.length), VV.sl 6 (0 + p.S.length), I 6, VV.sl 7 (0 + 0), VV.nils, I 6] [arD p, arT p, arS p, pnB p c1 c2 c3, VB.vec (0 + p.D.length) (dG p.D) 1 (3 : TypeId), VB.vec (0 + p.T.length) (tG p.T) 5 (32 : TypeId), VB.vec (0 + p.S.length) (sG p.S) 3 (36 : TypeId), VB.vec (0 + 0) (dG []) 1 (3 : TypeId), VB.vec l.length (dG l) 1 (3 : TypeId)]) := by kernel_rfl

theorem o42_ev (p : Pn) (c1 c2 c3 : Nat) (l : List Int) (i : Int) (X : VEx → List VV → List VB → Prop) : codeE Try.prog (callN Try.prog noSpec noL 10 20) (fun _ => none) true 10 104 0 (loopB 4 (bodyOf Try.prog 12)) (dsO4.zip (VO4 p i (I 6) (.sl 7 (0 + 0)) .nils)) ⟨9, nsO9.zip (BO2 p c1 c2 c3 l)⟩ (obs 9 dsO4 nsO9 X) =
  (bif decide (i < (↑(0 + p.S.length) : Int)) then
 bif decide ((0 : Int) ≤ i ∧ i < (↑p.S.length : Int)) then
 (([] : List Int) = [] ∧ (0 : Int) ≤ (0 : Int) + i ∧ (0 : Int) + i < (↑p.S.length : Int)) ∧ bif decide ((0 : Int) ≤ i ∧ i < (↑(0 + p.S.length) : Int)) then
 bif (0 + p.S.length).beq (0 + p.S.length) && Nat.ble 1 Try.prog.types[36].size then
 bif (0 + p.S.length).beq (0 + p.S.length) then
 bif !(decide ((p.S.getD ((0 : Int) + i).toNat s0).s = (p.S.getD i.toNat s0).s) && (decide ((p.S.getD ((0 : Int) + i).toNat s0).lo = (p.S.getD i.toNat s0).lo) && (decide ((p.S.getD ((0 : Int) + i).toNat s0).hi = (p.S.getD i.toNat s0).hi) && true) && true)) then
 X VEx.ret [I i, I (↑(0 + p.S.length) : Int), VV.ptr (VA.own 3 0), VV.sl 4 (0 + p.D.length), VV.sl 6 (0 + p.S.length), I 6, VV.sl 7 (0 + 0), VV.nils, I 6] [arD p, arT p, arS p, pnB p c1 c2 c3, VB.vec (0 + p.D.length) (dG p.D) 1 (3 : TypeId), VB.vec (0 + p.T.length) (tG p.T) 5 (32 : TypeId), VB.vec (0 + p.S.length) (sG p.S) 3 (36 : TypeId), VB.vec (0 + 0) (dG []) 1 (3 : TypeId), VB.vec l.length (dG l) 1 (3 : TypeId)]
 else bif inK IntKind.i64 (i + (1 : Int)) then
 X VEx.normal [I (i + (1 : Int)), I (↑(0 + p.S.length) : Int), VV.ptr (VA.own 3 0), VV.sl 4 (0 + p.D.length), VV.sl 6 (0 + p.S.length), I 6, VV.sl 7 (0 + 0), VV.nils, I 6] [arD p, arT p, arS p, pnB p c1 c2 c3, VB.vec (0 + p.D.length) (dG p.D) 1 (3 : TypeId), VB.vec (0 + p.T.length) (tG p.T) 5 (32 : TypeId), VB.vec (0 + p.S.length) (sG p.S) 3 (36 : TypeId), VB.vec (0 + 0) (dG []) 1 (3 : TypeId), VB.vec l.length (dG l) 1 (3 : TypeId)]
 else False
 else False
 else False
 else False
 else False
 else X (VEx.exit 4) [I i, I (↑(0 + p.S.length) : Int), VV.ptr (VA.own 3 0), VV.sl 4 (0 + p.D.length), VV.sl 6 (0 + p.S.length), I 6, VV.sl 7 (0 + 0), VV.nils, I 6] [arD p, arT p, arS p, pnB p c1 c2 c3, VB.vec (0 + p.D.length) (dG p.D) 1 (3 : TypeId), VB.vec (0 + p.T.length) (tG p.T) 5 (32 : TypeId), VB.vec (0 + p.S.length) (sG p.S) 3 (36 : TypeId), VB.vec (0 + 0) (dG []) 1 (3 : TypeId), VB.vec l.length (dG l) 1 (3 : TypeId)]) := by kernel_rfl

theorem o23_ev (p : Pn) (c1 c2 c3 : Nat) (l : List Int) (i : Int) (X : VEx → List VV → List VB → Prop) : codeE Try.prog (callN Try.prog noSpec noL 10 20) (fun _ => none) true 10 104 0 (loopB 2 (bodyOf Try.prog 12)) (dsO2.zip (VO2 p i (I 0) (.sl 8 (0 + 16)) (.sl 9 16))) ⟨10, nsO10.zip (BO3 p c1 c2 c3 l)⟩ (obs 10 dsO2 nsO10 X) =
  (bif decide (i < (↑(0 + p.T.length) : Int)) then
 bif decide ((0 : Int) ≤ i ∧ i < (↑p.T.length : Int)) then
 (([] : List Int) = [] ∧ (0 : Int) ≤ (0 : Int) + i ∧ (0 : Int) + i < (↑p.T.length : Int)) ∧ bif decide ((0 : Int) ≤ i ∧ i < (↑(0 + p.T.length) : Int)) then
 bif (0 + p.T.length).beq (0 + p.T.length) && Nat.ble 1 Try.prog.types[32].size then
 bif (0 + p.T.length).beq (0 + p.T.length) then
 bif !(decide ((getI p i).j = (p.T.getD i.toNat t0).j) && (decide ((getI p i).s = (p.T.getD i.toNat t0).s) && (decide ((getI p i).p = (p.T.getD i.toNat t0).p) && (decide ((getI p i).c = (p.T.getD i.toNat t0).c) && (decide ((getI p i).o = (p.T.getD i.toNat t0).o) && true))))) then
 X VEx.ret [I i, I (↑(0 + p.T.length) : Int), VV.ptr (VA.own 3 0), VV.sl 4 (0 + p.D.length), VV.sl 5 (0 + p.T.length), VV.sl 6 (0 + p.S.length), I 0, VV.sl 8 (0 + 16), VV.sl 9 16, I 0] [arD p, arT p, arS p, pnB p c1 c2 c3, VB.vec (0 + p.D.length) (dG p.D) 1 (3 : TypeId), VB.vec (0 + p.T.length) (tG p.T) 5 (32 : TypeId), VB.vec (0 + p.S.length) (sG p.S) 3 (36 : TypeId), VB.vec 16 (sevG l 16) 1 (3 : TypeId), VB.vec (0 + 16) (dG l) 1 (3 : TypeId), VB.vec 16 (dG l) 1 (3 : TypeId)]
 else bif inK IntKind.i64 (i + (1 : Int)) then
 X VEx.normal [I (i + (1 : Int)), I (↑(0 + p.T.length) : Int), VV.ptr (VA.own 3 0), VV.sl 4 (0 + p.D.length), VV.sl 5 (0 + p.T.length), VV.sl 6 (0 + p.S.length), I 0, VV.sl 8 (0 + 16), VV.sl 9 16, I 0] [arD p, arT p, arS p, pnB p c1 c2 c3, VB.vec (0 + p.D.length) (dG p.D) 1 (3 : TypeId), VB.vec (0 + p.T.length) (tG p.T) 5 (32 : TypeId), VB.vec (0 + p.S.length) (sG p.S) 3 (36 : TypeId), VB.vec 16 (sevG l 16) 1 (3 : TypeId), VB.vec (0 + 16) (dG l) 1 (3 : TypeId), VB.vec 16 (dG l) 1 (3 : TypeId)]
 else False
 else False
 else False
 else False
 else False
 else X (VEx.exit 2) [I i, I (↑(0 + p.T.length) : Int), VV.ptr (VA.own 3 0), VV.sl 4 (0 + p.D.length), VV.sl 5 (0 + p.T.length), VV.sl 6 (0 + p.S.length), I 0, VV.sl 8 (0 + 16), VV.sl 9 16, I 0] [arD p, arT p, arS p, pnB p c1 c2 c3, VB.vec (0 + p.D.length) (dG p.D) 1 (3 : TypeId), VB.vec (0 + p.T.length) (tG p.T) 5 (32 : TypeId), VB.vec (0 + p.S.length) (sG p.S) 3 (36 : TypeId), VB.vec 16 (sevG l 16) 1 (3 : TypeId), VB.vec (0 + 16) (dG l) 1 (3 : TypeId), VB.vec 16 (dG l) 1 (3 : TypeId)]) := by kernel_rfl

theorem o43_ev (p : Pn) (c1 c2 c3 : Nat) (l : List Int) (i : Int) (X : VEx → List VV → List VB → Prop) : codeE Try.prog (callN Try.prog noSpec noL 10 20) (fun _ => none) true 10 104 0 (loopB 4 (bodyOf Try.prog 12)) (dsO4.zip (VO4 p i (I 0) (.sl 8 (0 + 16)) (.sl 9 16))) ⟨10, nsO10.zip (BO3 p c1 c2 c3 l)⟩ (obs 10 dsO4 nsO10 X) =
  (bif decide (i < (↑(0 + p.S.length) : Int)) then
 bif decide ((0 : Int) ≤ i ∧ i < (↑p.S.length : Int)) then
 (([] : List Int) = [] ∧ (0 : Int) ≤ (0 : Int) + i ∧ (0 : Int) + i < (↑p.S.length : Int)) ∧ bif decide ((0 : Int) ≤ i ∧ i < (↑(0 + p.S.length) : Int)) then
 bif (0 + p.S.length).beq (0 + p.S.length) && Nat.ble 1 Try.prog.types[36].size then
 bif (0 + p.S.length).beq (0 + p.S.length) then
 bif !(decide ((p.S.getD ((0 : Int) + i).toNat s0).s = (p.S.getD i.toNat s0).s) && (decide ((p.S.getD ((0 : Int) + i).toNat s0).lo = (p.S.getD i.toNat s0).lo) && (decide ((p.S.getD ((0 : Int) + i).toNat s0).hi = (p.S.getD i.toNat s0).hi) && true) && true)) then
 X VEx.ret [I i, I (↑(0 + p.S.length) : Int), VV.ptr (VA.own 3 0), VV.sl 4 (0 + p.D.length), VV.sl 6 (0 + p.S.length), I 0, VV.sl 8 (0 + 16), VV.sl 9 16, I 0] [arD p, arT p, arS p, pnB p c1 c2 c3, VB.vec (0 + p.D.length) (dG p.D) 1 (3 : TypeId), VB.vec (0 + p.T.length) (tG p.T) 5 (32 : TypeId), VB.vec (0 + p.S.length) (sG p.S) 3 (36 : TypeId), VB.vec 16 (sevG l 16) 1 (3 : TypeId), VB.vec (0 + 16) (dG l) 1 (3 : TypeId), VB.vec 16 (dG l) 1 (3 : TypeId)]
 else bif inK IntKind.i64 (i + (1 : Int)) then
 X VEx.normal [I (i + (1 : Int)), I (↑(0 + p.S.length) : Int), VV.ptr (VA.own 3 0), VV.sl 4 (0 + p.D.length), VV.sl 6 (0 + p.S.length), I 0, VV.sl 8 (0 + 16), VV.sl 9 16, I 0] [arD p, arT p, arS p, pnB p c1 c2 c3, VB.vec (0 + p.D.length) (dG p.D) 1 (3 : TypeId), VB.vec (0 + p.T.length) (tG p.T) 5 (32 : TypeId), VB.vec (0 + p.S.length) (sG p.S) 3 (36 : TypeId), VB.vec 16 (sevG l 16) 1 (3 : TypeId), VB.vec (0 + 16) (dG l) 1 (3 : TypeId), VB.vec 16 (dG l) 1 (3 : TypeId)]
 else False
 else False
 else False
 else False
 else False
 else X (VEx.exit 4) [I i, I (↑(0 + p.S.length) : Int), VV.ptr (VA.own 3 0), VV.sl 4 (0 + p.D.length), VV.sl 6 (0 + p.S.length), I 0, VV.sl 8 (0 + 16), VV.sl 9 16, I 0] [arD p, arT p, arS p, pnB p c1 c2 c3, VB.vec (0 + p.D.length) (dG p.D) 1 (3 : TypeId), VB.vec (0 + p.T.length) (tG p.T) 5 (32 : TypeId), VB.vec (0 + p.S.length) (sG p.S) 3 (36 : TypeId), VB.vec 16 (sevG l 16) 1 (3 : TypeId), VB.vec (0 + 16) (dG l) 1 (3 : TypeId), VB.vec 16 (dG l) 1 (3 : TypeId)]) := by kernel_rfl

theorem own1_ev (p : Pn) (c1 c2 c3 : Nat) (l : List Int) (Q : VRes → Prop) : callN Try.prog (tabS [greatT, alvT, grpM1 p, douM1 p, valT, intsT]) (atF 12 [(2, lO21 p c1 c2 c3 l), (4, lO41 p c1 c2 c3 l)]) 10 20 0 (.fn 12) [.agg (pnV p c1 c2 c3)] (pnH p) (fun r _ => Q r) =
  (∃ p_1, pnIs (VH.mk (4) [(3, VB.cells [VV.slice (VA.el 0 [] (0 : Int) 0) p.D.length c1, VV.slice (VA.el 1 [] (0 : Int) 0) p.T.length c2, VV.slice (VA.el 2 [] (0 : Int) 0) p.S.length c3] 26), (0, arD p), (1, arT p), (2, arS p)]) p_1 (VV.slice (VA.el 0 [] (0 : Int) 0) p.D.length c1) (VV.slice (VA.el 1 [] (0 : Int) 0) p.T.length c2) (VV.slice (VA.el 2 [] (0 : Int) 0) p.S.length c3) ∧ True ∧ bif greatB p_1 ((14 : Int)) then
 Q (VRes.ret (VV.bool true))
 else (∀ (j : Nat), j < p.D.length → (([] : List Int) = [] ∧ (0 : Int) ≤ (0 : Int) + (↑j : Int) ∧ (0 : Int) + (↑j : Int) < (↑p.D.length : Int)) ∧ ((fun (_ : List Int) (i : Int) ↦ dG p.D i.toNat) [] ((0 : Int) + (↑j : Int))).all VV.one = true) ∧ bif roomB (0 + p.D.length) (8) then
 (∀ (j : Nat), j < p.T.length → (([] : List Int) = [] ∧ (0 : Int) ≤ (0 : Int) + (↑j : Int) ∧ (0 : Int) + (↑j : Int) < (↑p.T.length : Int)) ∧ ((fun (_ : List Int) (i : Int) ↦ tG p.T i.toNat) [] ((0 : Int) + (↑j : Int))).all VV.one = true) ∧ bif roomB (0 + p.T.length) (40) then
 (∀ (j : Nat), j < p.S.length → (([] : List Int) = [] ∧ (0 : Int) ≤ (0 : Int) + (↑j : Int) ∧ (0 : Int) + (↑j : Int) < (↑p.S.length : Int)) ∧ ((fun (_ : List Int) (i : Int) ↦ sG p.S i.toNat) [] ((0 : Int) + (↑j : Int))).all VV.one = true) ∧ bif roomB (0 + p.S.length) (24) then
 pnIs (VH.mk (7) [(6, VB.vec (0 + p.S.length) (catG 0 (fun j => List.take (3) (List.drop (j * (3)) [])) fun j => (fun (_ : List Int) (i : Int) ↦ sG p.S i.toNat) [] ((0 : Int) + (↑j : Int))) (3) 36), (6, VB.vec 0 (fun j => List.take (3) (List.drop (j * (3)) [])) (3) 36), (5, VB.vec (0 + p.T.length) (catG 0 (fun j => List.take (5) (List.drop (j * (5)) [])) fun j => (fun (_ : List Int) (i : Int) ↦ tG p.T i.toNat) [] ((0 : Int) + (↑j : Int))) (5) 32), (5, VB.vec 0 (fun j => List.take (5) (List.drop (j * (5)) [])) (5) 32), (4, VB.vec (0 + p.D.length) (catG 0 (fun j => List.take (1) (List.drop (j * (1)) [])) fun j => (fun (_ : List Int) (i : Int) ↦ dG p.D i.toNat) [] ((0 : Int) + (↑j : Int))) (1) 3), (4, VB.vec 0 (fun j => List.take (1) (List.drop (j * (1)) [])) (1) 3), (3, VB.cells [VV.slice (VA.el 0 [] (0 : Int) 0) p.D.length c1, VV.slice (VA.el 1 [] (0 : Int) 0) p.T.length c2, VV.slice (VA.el 2 [] (0 : Int) 0) p.S.length c3] 26), (0, arD p), (1, arT p), (2, arS p)]) p (VV.slice (VA.el 0 [] (0 : Int) 0) p.D.length c1) (VV.slice (VA.el 1 [] (0 : Int) 0) p.T.length c2) (VV.slice (VA.el 2 [] (0 : Int) 0) p.S.length c3) ∧ ¬PnOk p ∧ pnIs (VH.mk (8) [(7, VB.vec (0 + 0) (catG 0 (fun j => List.take (1) (List.drop (j * (1)) [])) fun x => []) (1) 3), (7, VB.vec 0 (fun j => List.take (1) (List.drop (j * (1)) [])) (1) 3), (6, VB.vec (0 + p.S.length) (catG 0 (fun j => List.take (3) (List.drop (j * (3)) [])) fun j => (fun (_ : List Int) (i : Int) ↦ sG p.S i.toNat) [] ((0 : Int) + (↑j : Int))) (3) 36), (6, VB.vec 0 (fun j => List.take (3) (List.drop (j * (3)) [])) (3) 36), (5, VB.vec (0 + p.T.length) (catG 0 (fun j => List.take (5) (List.drop (j * (5)) [])) fun j => (fun (_ : List Int) (i : Int) ↦ tG p.T i.toNat) [] ((0 : Int) + (↑j : Int))) (5) 32), (5, VB.vec 0 (fun j => List.take (5) (List.drop (j * (5)) [])) (5) 32), (4, VB.vec (0 + p.D.length) (catG 0 (fun j => List.take (1) (List.drop (j * (1)) [])) fun j => (fun (_ : List Int) (i : Int) ↦ dG p.D i.toNat) [] ((0 : Int) + (↑j : Int))) (1) 3), (4, VB.vec 0 (fun j => List.take (1) (List.drop (j * (1)) [])) (1) 3), (3, VB.cells [VV.slice (VA.el 0 [] (0 : Int) 0) p.D.length c1, VV.slice (VA.el 1 [] (0 : Int) 0) p.T.length c2, VV.slice (VA.el 2 [] (0 : Int) 0) p.S.length c3] 26), (0, arD p), (1, arT p), (2, arS p)]) p (VV.slice (VA.el 0 [] (0 : Int) 0) p.D.length c1) (VV.slice (VA.el 1 [] (0 : Int) 0) p.T.length c2) (VV.slice (VA.el 2 [] (0 : Int) 0) p.S.length c3) ∧ ¬PnOk p ∧ ∃ p_2, pnIs (VH.mk (8) [(7, VB.vec (0 + 0) (catG 0 (fun j => List.take (1) (List.drop (j * (1)) [])) fun x => []) (1) 3), (7, VB.vec 0 (fun j => List.take (1) (List.drop (j * (1)) [])) (1) 3), (6, VB.vec (0 + p.S.length) (catG 0 (fun j => List.take (3) (List.drop (j * (3)) [])) fun j => (fun (_ : List Int) (i : Int) ↦ sG p.S i.toNat) [] ((0 : Int) + (↑j : Int))) (3) 36), (6, VB.vec 0 (fun j => List.take (3) (List.drop (j * (3)) [])) (3) 36), (5, VB.vec (0 + p.T.length) (catG 0 (fun j => List.take (5) (List.drop (j * (5)) [])) fun j => (fun (_ : List Int) (i : Int) ↦ tG p.T i.toNat) [] ((0 : Int) + (↑j : Int))) (5) 32), (5, VB.vec 0 (fun j => List.take (5) (List.drop (j * (5)) [])) (5) 32), (4, VB.vec (0 + p.D.length) (catG 0 (fun j => List.take (1) (List.drop (j * (1)) [])) fun j => (fun (_ : List Int) (i : Int) ↦ dG p.D i.toNat) [] ((0 : Int) + (↑j : Int))) (1) 3), (4, VB.vec 0 (fun j => List.take (1) (List.drop (j * (1)) [])) (1) 3), (3, VB.cells [VV.slice (VA.el 0 [] (0 : Int) 0) p.D.length c1, VV.slice (VA.el 1 [] (0 : Int) 0) p.T.length c2, VV.slice (VA.el 2 [] (0 : Int) 0) p.S.length c3] 26), (0, arD p), (1, arT p), (2, arS p)]) p_2 (VV.slice (VA.el 0 [] (0 : Int) 0) p.D.length c1) (VV.slice (VA.el 1 [] (0 : Int) 0) p.T.length c2) (VV.slice (VA.el 2 [] (0 : Int) 0) p.S.length c3) ∧ n64 (g0 [(0 : Int)] 0) ∧ pnIs (VH.mk (8) [(7, VB.vec (0 + 0) (catG 0 (fun j => List.take (1) (List.drop (j * (1)) [])) fun x => []) (1) 3), (7, VB.vec 0 (fun j => List.take (1) (List.drop (j * (1)) [])) (1) 3), (6, VB.vec (0 + p.S.length) (catG 0 (fun j => List.take (3) (List.drop (j * (3)) [])) fun j => (fun (_ : List Int) (i : Int) ↦ sG p.S i.toNat) [] ((0 : Int) + (↑j : Int))) (3) 36), (6, VB.vec 0 (fun j => List.take (3) (List.drop (j * (3)) [])) (3) 36), (5, VB.vec (0 + p.T.length) (catG 0 (fun j => List.take (5) (List.drop (j * (5)) [])) fun j => (fun (_ : List Int) (i : Int) ↦ tG p.T i.toNat) [] ((0 : Int) + (↑j : Int))) (5) 32), (5, VB.vec 0 (fun j => List.take (5) (List.drop (j * (5)) [])) (5) 32), (4, VB.vec (0 + p.D.length) (catG 0 (fun j => List.take (1) (List.drop (j * (1)) [])) fun j => (fun (_ : List Int) (i : Int) ↦ dG p.D i.toNat) [] ((0 : Int) + (↑j : Int))) (1) 3), (4, VB.vec 0 (fun j => List.take (1) (List.drop (j * (1)) [])) (1) 3), (3, VB.cells [VV.slice (VA.el 0 [] (0 : Int) 0) p.D.length c1, VV.slice (VA.el 1 [] (0 : Int) 0) p.T.length c2, VV.slice (VA.el 2 [] (0 : Int) 0) p.S.length c3] 26), (0, arD p), (1, arT p), (2, arS p)]) p (VV.slice (VA.el 0 [] (0 : Int) 0) p.D.length c1) (VV.slice (VA.el 1 [] (0 : Int) 0) p.T.length c2) (VV.slice (VA.el 2 [] (0 : Int) 0) p.S.length c3) ∧ ¬PnOk p ∧ FitP 0 (VH.mk (8) [(7, VB.vec (0 + 0) (catG 0 (fun j => List.take (1) (List.drop (j * (1)) [])) fun x => []) (1) 3), (7, VB.vec 0 (fun j => List.take (1) (List.drop (j * (1)) [])) (1) 3), (6, VB.vec (0 + p.S.length) (catG 0 (fun j => List.take (3) (List.drop (j * (3)) [])) fun j => (fun (_ : List Int) (i : Int) ↦ sG p.S i.toNat) [] ((0 : Int) + (↑j : Int))) (3) 36), (6, VB.vec 0 (fun j => List.take (3) (List.drop (j * (3)) [])) (3) 36), (5, VB.vec (0 + p.T.length) (catG 0 (fun j => List.take (5) (List.drop (j * (5)) [])) fun j => (fun (_ : List Int) (i : Int) ↦ tG p.T i.toNat) [] ((0 : Int) + (↑j : Int))) (5) 32), (5, VB.vec 0 (fun j => List.take (5) (List.drop (j * (5)) [])) (5) 32), (4, VB.vec (0 + p.D.length) (catG 0 (fun j => List.take (1) (List.drop (j * (1)) [])) fun j => (fun (_ : List Int) (i : Int) ↦ dG p.D i.toNat) [] ((0 : Int) + (↑j : Int))) (1) 3), (4, VB.vec 0 (fun j => List.take (1) (List.drop (j * (1)) [])) (1) 3), (3, VB.cells [VV.slice (VA.el 0 [] (0 : Int) 0) p.D.length c1, VV.slice (VA.el 1 [] (0 : Int) 0) p.T.length c2, VV.slice (VA.el 2 [] (0 : Int) 0) p.S.length c3] 26), (0, arD p), (1, arT p), (2, arS p)]) [(57, I 0), (56, I (↑(0 + p.T.length) : Int)), (55, VV.sl (5) (0 + p.T.length)), (11, I 1), (10, VV.nils), (54, I 1), (53, VV.nils), (50, VV.tup [VV.nils, I 1]), (52, VV.tup [VV.nils, I 1]), (51, VV.agg [VV.slice (VA.el 0 [] (0 : Int) 0) p.D.length c1, VV.slice (VA.el 1 [] (0 : Int) 0) p.T.length c2, VV.slice (VA.el 2 [] (0 : Int) 0) p.S.length c3]), (49, spV (valF p_2 ((0 : Int)))), (48, VV.agg [VV.slice (VA.el 0 [] (0 : Int) 0) p.D.length c1, VV.slice (VA.el 1 [] (0 : Int) 0) p.T.length c2, VV.slice (VA.el 2 [] (0 : Int) 0) p.S.length c3]), (47, VV.tup [VV.nils, I 1]), (46, VV.agg [VV.slice (VA.el 0 [] (0 : Int) 0) p.D.length c1, VV.slice (VA.el 1 [] (0 : Int) 0) p.T.length c2, VV.slice (VA.el 2 [] (0 : Int) 0) p.S.length c3]), (40, VV.bool false), (40, VV.bool (decide ((0 : Int) < (0 : Int)))), (39, I 0), (38, I 0), (37, VV.nils), (8, VV.sl (7) (0 + 0)), (36, VV.sl (7) (0 + 0)), (35, VV.nils), (34, VV.sl (7) 0), (7, I 1), (6, VV.nils), (33, I 1), (32, VV.nils), (29, VV.tup [VV.nils, I 1]), (31, VV.tup [VV.nils, I 1]), (30, VV.agg [VV.slice (VA.el 0 [] (0 : Int) 0) p.D.length c1, VV.slice (VA.el 1 [] (0 : Int) 0) p.T.length c2, VV.slice (VA.el 2 [] (0 : Int) 0) p.S.length c3]), (5, VV.sl (6) (0 + p.S.length)), (4, VV.sl (5) (0 + p.T.length)), (3, VV.sl (4) (0 + p.D.length)), (28, VV.sl (6) (0 + p.S.length)), (27, VV.slice (VA.el 2 [] (0 : Int) 0) p.S.length c3), (26, VV.ptr (VA.own (3) (2))), (25, VV.sl (6) 0), (24, VV.sl (5) (0 + p.T.length)), (23, VV.slice (VA.el 1 [] (0 : Int) 0) p.T.length c2), (22, VV.ptr (VA.own (3) (1))), (21, VV.sl (5) 0), (20, VV.sl (4) (0 + p.D.length)), (19, VV.slice (VA.el 0 [] (0 : Int) 0) p.D.length c1), (18, VV.ptr (VA.own (3) 0)), (17, VV.sl (4) 0), (15, VV.bool false), (15, boV (greatB p_1 ((14 : Int)))), (14, VV.agg [VV.slice (VA.el 0 [] (0 : Int) 0) p.D.length c1, VV.slice (VA.el 1 [] (0 : Int) 0) p.T.length c2, VV.slice (VA.el 2 [] (0 : Int) 0) p.S.length c3]), (2, VV.bool false), (1, VV.ptr (VA.own (3) 0)), (0, VV.agg (pnV p c1 c2 c3))] (VH.mk 8 (nsO8.zip (BO1 p c1 c2 c3 l))) (dsO2.zip (VO2 p (0 : Int) (I 1) (VV.sl 7 (0 + 0)) VV.nils)) ∧ p.T.length ≤ 100 ∧ FitP 0 (VH.mk 8 (nsO8.zip (BO1 p c1 c2 c3 l))) (dsO4.zip (VO4 p (0 : Int) (I 1) (VV.sl 7 (0 + 0)) VV.nils)) (VH.mk 8 (nsO8.zip (BO1 p c1 c2 c3 l))) (dsO4.zip (VO4 p (0 : Int) (I 1) (VV.sl 7 (0 + 0)) VV.nils)) ∧ p.S.length ≤ 100 ∧ ∃ xs ys, isList (VH.mk 8 (nsO8.zip (BO1 p c1 c2 c3 l))) (VV.slice (VA.el 0 [] (0 : Int) 0) p.D.length c1) xs.length 1 (dG xs) ∧ isList (VH.mk 8 (nsO8.zip (BO1 p c1 c2 c3 l))) (VV.sl 4 (0 + p.D.length)) ys.length 1 (dG ys) ∧ xs.length ≤ 100000 ∧ bif decide (xs = ys) then
 ∃ xs ys, isList (VH.mk 8 (nsO8.zip (BO1 p c1 c2 c3 l))) VV.nils xs.length 1 (dG xs) ∧ isList (VH.mk 8 (nsO8.zip (BO1 p c1 c2 c3 l))) (VV.sl 7 (0 + 0)) ys.length 1 (dG ys) ∧ xs.length ≤ 100000 ∧ bif decide (xs = ys) then
 Q (VRes.ret (VV.bool true))
 else Q (VRes.ret (VV.bool false))
 else Q (VRes.ret (VV.bool false))
 else False
 else False
 else False) := by kernel_rfl

theorem own2_ev (p : Pn) (c1 c2 c3 : Nat) (l : List Int) (Q : VRes → Prop) : callN Try.prog (tabS [greatT, alvT, grpM2 p, douM2 p l, valT, intsT]) (atF 12 [(2, lO22 p c1 c2 c3 l), (4, lO42 p c1 c2 c3 l)]) 10 20 0 (.fn 12) [.agg (pnV p c1 c2 c3)] (pnH p) (fun r _ => Q r) =
  (∃ p_1, pnIs (VH.mk (4) [(3, VB.cells [VV.slice (VA.el 0 [] (0 : Int) 0) p.D.length c1, VV.slice (VA.el 1 [] (0 : Int) 0) p.T.length c2, VV.slice (VA.el 2 [] (0 : Int) 0) p.S.length c3] 26), (0, arD p), (1, arT p), (2, arS p)]) p_1 (VV.slice (VA.el 0 [] (0 : Int) 0) p.D.length c1) (VV.slice (VA.el 1 [] (0 : Int) 0) p.T.length c2) (VV.slice (VA.el 2 [] (0 : Int) 0) p.S.length c3) ∧ True ∧ bif greatB p_1 ((14 : Int)) then
 Q (VRes.ret (VV.bool true))
 else (∀ (j : Nat), j < p.D.length → (([] : List Int) = [] ∧ (0 : Int) ≤ (0 : Int) + (↑j : Int) ∧ (0 : Int) + (↑j : Int) < (↑p.D.length : Int)) ∧ ((fun (_ : List Int) (i : Int) ↦ dG p.D i.toNat) [] ((0 : Int) + (↑j : Int))).all VV.one = true) ∧ bif roomB (0 + p.D.length) (8) then
 (∀ (j : Nat), j < p.T.length → (([] : List Int) = [] ∧ (0 : Int) ≤ (0 : Int) + (↑j : Int) ∧ (0 : Int) + (↑j : Int) < (↑p.T.length : Int)) ∧ ((fun (_ : List Int) (i : Int) ↦ tG p.T i.toNat) [] ((0 : Int) + (↑j : Int))).all VV.one = true) ∧ bif roomB (0 + p.T.length) (40) then
 (∀ (j : Nat), j < p.S.length → (([] : List Int) = [] ∧ (0 : Int) ≤ (0 : Int) + (↑j : Int) ∧ (0 : Int) + (↑j : Int) < (↑p.S.length : Int)) ∧ ((fun (_ : List Int) (i : Int) ↦ sG p.S i.toNat) [] ((0 : Int) + (↑j : Int))).all VV.one = true) ∧ bif roomB (0 + p.S.length) (24) then
 pnIs (VH.mk (7) [(6, VB.vec (0 + p.S.length) (catG 0 (fun j => List.take (3) (List.drop (j * (3)) [])) fun j => (fun (_ : List Int) (i : Int) ↦ sG p.S i.toNat) [] ((0 : Int) + (↑j : Int))) (3) 36), (6, VB.vec 0 (fun j => List.take (3) (List.drop (j * (3)) [])) (3) 36), (5, VB.vec (0 + p.T.length) (catG 0 (fun j => List.take (5) (List.drop (j * (5)) [])) fun j => (fun (_ : List Int) (i : Int) ↦ tG p.T i.toNat) [] ((0 : Int) + (↑j : Int))) (5) 32), (5, VB.vec 0 (fun j => List.take (5) (List.drop (j * (5)) [])) (5) 32), (4, VB.vec (0 + p.D.length) (catG 0 (fun j => List.take (1) (List.drop (j * (1)) [])) fun j => (fun (_ : List Int) (i : Int) ↦ dG p.D i.toNat) [] ((0 : Int) + (↑j : Int))) (1) 3), (4, VB.vec 0 (fun j => List.take (1) (List.drop (j * (1)) [])) (1) 3), (3, VB.cells [VV.slice (VA.el 0 [] (0 : Int) 0) p.D.length c1, VV.slice (VA.el 1 [] (0 : Int) 0) p.T.length c2, VV.slice (VA.el 2 [] (0 : Int) 0) p.S.length c3] 26), (0, arD p), (1, arT p), (2, arS p)]) p (VV.slice (VA.el 0 [] (0 : Int) 0) p.D.length c1) (VV.slice (VA.el 1 [] (0 : Int) 0) p.T.length c2) (VV.slice (VA.el 2 [] (0 : Int) 0) p.S.length c3) ∧ (PnOk p ∧ ¬fitF p) ∧ pnIs (VH.mk (8) [(7, VB.vec (0 + 0) (catG 0 (fun j => List.take (1) (List.drop (j * (1)) [])) fun x => []) (1) 3), (7, VB.vec 0 (fun j => List.take (1) (List.drop (j * (1)) [])) (1) 3), (6, VB.vec (0 + p.S.length) (catG 0 (fun j => List.take (3) (List.drop (j * (3)) [])) fun j => (fun (_ : List Int) (i : Int) ↦ sG p.S i.toNat) [] ((0 : Int) + (↑j : Int))) (3) 36), (6, VB.vec 0 (fun j => List.take (3) (List.drop (j * (3)) [])) (3) 36), (5, VB.vec (0 + p.T.length) (catG 0 (fun j => List.take (5) (List.drop (j * (5)) [])) fun j => (fun (_ : List Int) (i : Int) ↦ tG p.T i.toNat) [] ((0 : Int) + (↑j : Int))) (5) 32), (5, VB.vec 0 (fun j => List.take (5) (List.drop (j * (5)) [])) (5) 32), (4, VB.vec (0 + p.D.length) (catG 0 (fun j => List.take (1) (List.drop (j * (1)) [])) fun j => (fun (_ : List Int) (i : Int) ↦ dG p.D i.toNat) [] ((0 : Int) + (↑j : Int))) (1) 3), (4, VB.vec 0 (fun j => List.take (1) (List.drop (j * (1)) [])) (1) 3), (3, VB.cells [VV.slice (VA.el 0 [] (0 : Int) 0) p.D.length c1, VV.slice (VA.el 1 [] (0 : Int) 0) p.T.length c2, VV.slice (VA.el 2 [] (0 : Int) 0) p.S.length c3] 26), (0, arD p), (1, arT p), (2, arS p)]) p (VV.slice (VA.el 0 [] (0 : Int) 0) p.D.length c1) (VV.slice (VA.el 1 [] (0 : Int) 0) p.T.length c2) (VV.slice (VA.el 2 [] (0 : Int) 0) p.S.length c3) ∧ (PnOk p ∧ ¬fitF p ∧ l = douL p p.T.length) ∧ ∃ p_2, pnIs (VH.mk (8 + 1) [(8, VB.vec l.length (dG l) 1 (3 : TypeId)), (7, VB.vec (0 + 0) (catG 0 (fun j => List.take (1) (List.drop (j * (1)) [])) fun x => []) (1) 3), (7, VB.vec 0 (fun j => List.take (1) (List.drop (j * (1)) [])) (1) 3), (6, VB.vec (0 + p.S.length) (catG 0 (fun j => List.take (3) (List.drop (j * (3)) [])) fun j => (fun (_ : List Int) (i : Int) ↦ sG p.S i.toNat) [] ((0 : Int) + (↑j : Int))) (3) 36), (6, VB.vec 0 (fun j => List.take (3) (List.drop (j * (3)) [])) (3) 36), (5, VB.vec (0 + p.T.length) (catG 0 (fun j => List.take (5) (List.drop (j * (5)) [])) fun j => (fun (_ : List Int) (i : Int) ↦ tG p.T i.toNat) [] ((0 : Int) + (↑j : Int))) (5) 32), (5, VB.vec 0 (fun j => List.take (5) (List.drop (j * (5)) [])) (5) 32), (4, VB.vec (0 + p.D.length) (catG 0 (fun j => List.take (1) (List.drop (j * (1)) [])) fun j => (fun (_ : List Int) (i : Int) ↦ dG p.D i.toNat) [] ((0 : Int) + (↑j : Int))) (1) 3), (4, VB.vec 0 (fun j => List.take (1) (List.drop (j * (1)) [])) (1) 3), (3, VB.cells [VV.slice (VA.el 0 [] (0 : Int) 0) p.D.length c1, VV.slice (VA.el 1 [] (0 : Int) 0) p.T.length c2, VV.slice (VA.el 2 [] (0 : Int) 0) p.S.length c3] 26), (0, arD p), (1, arT p), (2, arS p)]) p_2 (VV.slice (VA.el 0 [] (0 : Int) 0) p.D.length c1) (VV.slice (VA.el 1 [] (0 : Int) 0) p.T.length c2) (VV.slice (VA.el 2 [] (0 : Int) 0) p.S.length c3) ∧ n64 (g0 [(0 : Int)] 0) ∧ pnIs (VH.mk (8 + 1) [(8, VB.vec l.length (dG l) 1 (3 : TypeId)), (7, VB.vec (0 + 0) (catG 0 (fun j => List.take (1) (List.drop (j * (1)) [])) fun x => []) (1) 3), (7, VB.vec 0 (fun j => List.take (1) (List.drop (j * (1)) [])) (1) 3), (6, VB.vec (0 + p.S.length) (catG 0 (fun j => List.take (3) (List.drop (j * (3)) [])) fun j => (fun (_ : List Int) (i : Int) ↦ sG p.S i.toNat) [] ((0 : Int) + (↑j : Int))) (3) 36), (6, VB.vec 0 (fun j => List.take (3) (List.drop (j * (3)) [])) (3) 36), (5, VB.vec (0 + p.T.length) (catG 0 (fun j => List.take (5) (List.drop (j * (5)) [])) fun j => (fun (_ : List Int) (i : Int) ↦ tG p.T i.toNat) [] ((0 : Int) + (↑j : Int))) (5) 32), (5, VB.vec 0 (fun j => List.take (5) (List.drop (j * (5)) [])) (5) 32), (4, VB.vec (0 + p.D.length) (catG 0 (fun j => List.take (1) (List.drop (j * (1)) [])) fun j => (fun (_ : List Int) (i : Int) ↦ dG p.D i.toNat) [] ((0 : Int) + (↑j : Int))) (1) 3), (4, VB.vec 0 (fun j => List.take (1) (List.drop (j * (1)) [])) (1) 3), (3, VB.cells [VV.slice (VA.el 0 [] (0 : Int) 0) p.D.length c1, VV.slice (VA.el 1 [] (0 : Int) 0) p.T.length c2, VV.slice (VA.el 2 [] (0 : Int) 0) p.S.length c3] 26), (0, arD p), (1, arT p), (2, arS p)]) p (VV.slice (VA.el 0 [] (0 : Int) 0) p.D.length c1) (VV.slice (VA.el 1 [] (0 : Int) 0) p.T.length c2) (VV.slice (VA.el 2 [] (0 : Int) 0) p.S.length c3) ∧ (PnOk p ∧ ¬fitF p) ∧ FitP 0 (VH.mk (8 + 1) [(8, VB.vec l.length (dG l) 1 (3 : TypeId)), (7, VB.vec (0 + 0) (catG 0 (fun j => List.take (1) (List.drop (j * (1)) [])) fun x => []) (1) 3), (7, VB.vec 0 (fun j => List.take (1) (List.drop (j * (1)) [])) (1) 3), (6, VB.vec (0 + p.S.length) (catG 0 (fun j => List.take (3) (List.drop (j * (3)) [])) fun j => (fun (_ : List Int) (i : Int) ↦ sG p.S i.toNat) [] ((0 : Int) + (↑j : Int))) (3) 36), (6, VB.vec 0 (fun j => List.take (3) (List.drop (j * (3)) [])) (3) 36), (5, VB.vec (0 + p.T.length) (catG 0 (fun j => List.take (5) (List.drop (j * (5)) [])) fun j => (fun (_ : List Int) (i : Int) ↦ tG p.T i.toNat) [] ((0 : Int) + (↑j : Int))) (5) 32), (5, VB.vec 0 (fun j => List.take (5) (List.drop (j * (5)) [])) (5) 32), (4, VB.vec (0 + p.D.length) (catG 0 (fun j => List.take (1) (List.drop (j * (1)) [])) fun j => (fun (_ : List Int) (i : Int) ↦ dG p.D i.toNat) [] ((0 : Int) + (↑j : Int))) (1) 3), (4, VB.vec 0 (fun j => List.take (1) (List.drop (j * (1)) [])) (1) 3), (3, VB.cells [VV.slice (VA.el 0 [] (0 : Int) 0) p.D.length c1, VV.slice (VA.el 1 [] (0 : Int) 0) p.T.length c2, VV.slice (VA.el 2 [] (0 : Int) 0) p.S.length c3] 26), (0, arD p), (1, arT p), (2, arS p)]) [(57, I 0), (56, I (↑(0 + p.T.length) : Int)), (55, VV.sl (5) (0 + p.T.length)), (11, I 6), (10, VV.nils), (54, I 6), (53, VV.nils), (50, VV.tup [VV.nils, I 6]), (52, VV.tup [VV.nils, I 6]), (51, VV.agg [VV.slice (VA.el 0 [] (0 : Int) 0) p.D.length c1, VV.slice (VA.el 1 [] (0 : Int) 0) p.T.length c2, VV.slice (VA.el 2 [] (0 : Int) 0) p.S.length c3]), (49, spV (valF p_2 ((0 : Int)))), (48, VV.agg [VV.slice (VA.el 0 [] (0 : Int) 0) p.D.length c1, VV.slice (VA.el 1 [] (0 : Int) 0) p.T.length c2, VV.slice (VA.el 2 [] (0 : Int) 0) p.S.length c3]), (47, VV.tup [VV.sl (8) l.length, I 0]), (46, VV.agg [VV.slice (VA.el 0 [] (0 : Int) 0) p.D.length c1, VV.slice (VA.el 1 [] (0 : Int) 0) p.T.length c2, VV.slice (VA.el 2 [] (0 : Int) 0) p.S.length c3]), (40, VV.bool false), (40, VV.bool (decide ((0 : Int) < (0 : Int)))), (39, I 0), (38, I 0), (37, VV.nils), (8, VV.sl (7) (0 + 0)), (36, VV.sl (7) (0 + 0)), (35, VV.nils), (34, VV.sl (7) 0), (7, I 6), (6, VV.nils), (33, I 6), (32, VV.nils), (29, VV.tup [VV.nils, I 6]), (31, VV.tup [VV.nils, I 6]), (30, VV.agg [VV.slice (VA.el 0 [] (0 : Int) 0) p.D.length c1, VV.slice (VA.el 1 [] (0 : Int) 0) p.T.length c2, VV.slice (VA.el 2 [] (0 : Int) 0) p.S.length c3]), (5, VV.sl (6) (0 + p.S.length)), (4, VV.sl (5) (0 + p.T.length)), (3, VV.sl (4) (0 + p.D.length)), (28, VV.sl (6) (0 + p.S.length)), (27, VV.slice (VA.el 2 [] (0 : Int) 0) p.S.length c3), (26, VV.ptr (VA.own (3) (2))), (25, VV.sl (6) 0), (24, VV.sl (5) (0 + p.T.length)), (23, VV.slice (VA.el 1 [] (0 : Int) 0) p.T.length c2), (22, VV.ptr (VA.own (3) (1))), (21, VV.sl (5) 0), (20, VV.sl (4) (0 + p.D.length)), (19, VV.slice (VA.el 0 [] (0 : Int) 0) p.D.length c1), (18, VV.ptr (VA.own (3) 0)), (17, VV.sl (4) 0), (15, VV.bool false), (15, boV (greatB p_1 ((14 : Int)))), (14, VV.agg [VV.slice (VA.el 0 [] (0 : Int) 0) p.D.length c1, VV.slice (VA.el 1 [] (0 : Int) 0) p.T.length c2, VV.slice (VA.el 2 [] (0 : Int) 0) p.S.length c3]), (2, VV.bool false), (1, VV.ptr (VA.own (3) 0)), (0, VV.agg (pnV p c1 c2 c3))] (VH.mk 9 (nsO9.zip (BO2 p c1 c2 c3 l))) (dsO2.zip (VO2 p (0 : Int) (I 6) (VV.sl 7 (0 + 0)) VV.nils)) ∧ p.T.length ≤ 100 ∧ FitP 0 (VH.mk 9 (nsO9.zip (BO2 p c1 c2 c3 l))) (dsO4.zip (VO4 p (0 : Int) (I 6) (VV.sl 7 (0 + 0)) VV.nils)) (VH.mk 9 (nsO9.zip (BO2 p c1 c2 c3 l))) (dsO4.zip (VO4 p (0 : Int) (I 6) (VV.sl 7 (0 + 0)) VV.nils)) ∧ p.S.length ≤ 100 ∧ ∃ xs ys, isList (VH.mk 9 (nsO9.zip (BO2 p c1 c2 c3 l))) (VV.slice (VA.el 0 [] (0 : Int) 0) p.D.length c1) xs.length 1 (dG xs) ∧ isList (VH.mk 9 (nsO9.zip (BO2 p c1 c2 c3 l))) (VV.sl 4 (0 + p.D.length)) ys.length 1 (dG ys) ∧ xs.length ≤ 100000 ∧ bif decide (xs = ys) then
 ∃ xs ys, isList (VH.mk 9 (nsO9.zip (BO2 p c1 c2 c3 l))) VV.nils xs.length 1 (dG xs) ∧ isList (VH.mk 9 (nsO9.zip (BO2 p c1 c2 c3 l))) (VV.sl 7 (0 + 0)) ys.length 1 (dG ys) ∧ xs.length ≤ 100000 ∧ bif decide (xs = ys) then
 Q (VRes.ret (VV.bool true))
 else Q (VRes.ret (VV.bool false))
 else Q (VRes.ret (VV.bool false))
 else False
 else False
 else False) := by kernel_rfl

theorem own3_ev (p : Pn) (c1 c2 c3 : Nat) (l : List Int) (Q : VRes → Prop) : callN Try.prog (tabS [greatT, alvT, grpM3 p l, douM3 p, valT, intsT]) (atF 12 [(0, lO0 p c1 c2 c3 l), (2, lO23 p c1 c2 c3 l), (4, lO43 p c1 c2 c3 l)]) 10 20 0 (.fn 12) [.agg (pnV p c1 c2 c3)] (pnH p) (fun r _ => Q r) =
  (∃ p_1, pnIs (VH.mk (4) [(3, VB.cells [VV.slice (VA.el 0 [] (0 : Int) 0) p.D.length c1, VV.slice (VA.el 1 [] (0 : Int) 0) p.T.length c2, VV.slice (VA.el 2 [] (0 : Int) 0) p.S.length c3] 26), (0, arD p), (1, arT p), (2, arS p)]) p_1 (VV.slice (VA.el 0 [] (0 : Int) 0) p.D.length c1) (VV.slice (VA.el 1 [] (0 : Int) 0) p.T.length c2) (VV.slice (VA.el 2 [] (0 : Int) 0) p.S.length c3) ∧ True ∧ bif greatB p_1 ((14 : Int)) then
 Q (VRes.ret (VV.bool true))
 else (∀ (j : Nat), j < p.D.length → (([] : List Int) = [] ∧ (0 : Int) ≤ (0 : Int) + (↑j : Int) ∧ (0 : Int) + (↑j : Int) < (↑p.D.length : Int)) ∧ ((fun (_ : List Int) (i : Int) ↦ dG p.D i.toNat) [] ((0 : Int) + (↑j : Int))).all VV.one = true) ∧ bif roomB (0 + p.D.length) (8) then
 (∀ (j : Nat), j < p.T.length → (([] : List Int) = [] ∧ (0 : Int) ≤ (0 : Int) + (↑j : Int) ∧ (0 : Int) + (↑j : Int) < (↑p.T.length : Int)) ∧ ((fun (_ : List Int) (i : Int) ↦ tG p.T i.toNat) [] ((0 : Int) + (↑j : Int))).all VV.one = true) ∧ bif roomB (0 + p.T.length) (40) then
 (∀ (j : Nat), j < p.S.length → (([] : List Int) = [] ∧ (0 : Int) ≤ (0 : Int) + (↑j : Int) ∧ (0 : Int) + (↑j : Int) < (↑p.S.length : Int)) ∧ ((fun (_ : List Int) (i : Int) ↦ sG p.S i.toNat) [] ((0 : Int) + (↑j : Int))).all VV.one = true) ∧ bif roomB (0 + p.S.length) (24) then
 pnIs (VH.mk (7) [(6, VB.vec (0 + p.S.length) (catG 0 (fun j => List.take (3) (List.drop (j * (3)) [])) fun j => (fun (_ : List Int) (i : Int) ↦ sG p.S i.toNat) [] ((0 : Int) + (↑j : Int))) (3) 36), (6, VB.vec 0 (fun j => List.take (3) (List.drop (j * (3)) [])) (3) 36), (5, VB.vec (0 + p.T.length) (catG 0 (fun j => List.take (5) (List.drop (j * (5)) [])) fun j => (fun (_ : List Int) (i : Int) ↦ tG p.T i.toNat) [] ((0 : Int) + (↑j : Int))) (5) 32), (5, VB.vec 0 (fun j => List.take (5) (List.drop (j * (5)) [])) (5) 32), (4, VB.vec (0 + p.D.length) (catG 0 (fun j => List.take (1) (List.drop (j * (1)) [])) fun j => (fun (_ : List Int) (i : Int) ↦ dG p.D i.toNat) [] ((0 : Int) + (↑j : Int))) (1) 3), (4, VB.vec 0 (fun j => List.take (1) (List.drop (j * (1)) [])) (1) 3), (3, VB.cells [VV.slice (VA.el 0 [] (0 : Int) 0) p.D.length c1, VV.slice (VA.el 1 [] (0 : Int) 0) p.T.length c2, VV.slice (VA.el 2 [] (0 : Int) 0) p.S.length c3] 26), (0, arD p), (1, arT p), (2, arS p)]) p (VV.slice (VA.el 0 [] (0 : Int) 0) p.D.length c1) (VV.slice (VA.el 1 [] (0 : Int) 0) p.T.length c2) (VV.slice (VA.el 2 [] (0 : Int) 0) p.S.length c3) ∧ (PnOk p ∧ fitF p ∧ l = grp p 16) ∧ FitP 0 (VH.mk (9) [(8, VB.vec (0 + 16) (catG 0 (fun j => List.take (1) (List.drop (j * (1)) [])) (dG l)) (1) 3), (8, VB.vec 0 (fun j => List.take (1) (List.drop (j * (1)) [])) (1) 3), (7, VB.vec 16 (dG l) 1 (3 : TypeId)), (6, VB.vec (0 + p.S.length) (catG 0 (fun j => List.take (3) (List.drop (j * (3)) [])) fun j => (fun (_ : List Int) (i : Int) ↦ sG p.S i.toNat) [] ((0 : Int) + (↑j : Int))) (3) 36), (6, VB.vec 0 (fun j => List.take (3) (List.drop (j * (3)) [])) (3) 36), (5, VB.vec (0 + p.T.length) (catG 0 (fun j => List.take (5) (List.drop (j * (5)) [])) fun j => (fun (_ : List Int) (i : Int) ↦ tG p.T i.toNat) [] ((0 : Int) + (↑j : Int))) (5) 32), (5, VB.vec 0 (fun j => List.take (5) (List.drop (j * (5)) [])) (5) 32), (4, VB.vec (0 + p.D.length) (catG 0 (fun j => List.take (1) (List.drop (j * (1)) [])) fun j => (fun (_ : List Int) (i : Int) ↦ dG p.D i.toNat) [] ((0 : Int) + (↑j : Int))) (1) 3), (4, VB.vec 0 (fun j => List.take (1) (List.drop (j * (1)) [])) (1) 3), (3, VB.cells [VV.slice (VA.el 0 [] (0 : Int) 0) p.D.length c1, VV.slice (VA.el 1 [] (0 : Int) 0) p.T.length c2, VV.slice (VA.el 2 [] (0 : Int) 0) p.S.length c3] 26), (0, arD p), (1, arT p), (2, arS p)]) [(39, I 0), (38, I (↑16 : Int)), (37, VV.sl (7) 16), (8, VV.sl (8) (0 + 16)), (36, VV.sl (8) (0 + 16)), (35, VV.sl (7) 16), (34, VV.sl (8) 0), (7, I 0), (6, VV.sl (7) 16), (33, I 0), (32, VV.sl (7) 16), (29, VV.tup [VV.sl (7) 16, I 0]), (31, VV.tup [VV.sl (7) 16, I 0]), (30, VV.agg [VV.slice (VA.el 0 [] (0 : Int) 0) p.D.length c1, VV.slice (VA.el 1 [] (0 : Int) 0) p.T.length c2, VV.slice (VA.el 2 [] (0 : Int) 0) p.S.length c3]), (5, VV.sl (6) (0 + p.S.length)), (4, VV.sl (5) (0 + p.T.length)), (3, VV.sl (4) (0 + p.D.length)), (28, VV.sl (6) (0 + p.S.length)), (27, VV.slice (VA.el 2 [] (0 : Int) 0) p.S.length c3), (26, VV.ptr (VA.own (3) (2))), (25, VV.sl (6) 0), (24, VV.sl (5) (0 + p.T.length)), (23, VV.slice (VA.el 1 [] (0 : Int) 0) p.T.length c2), (22, VV.ptr (VA.own (3) (1))), (21, VV.sl (5) 0), (20, VV.sl (4) (0 + p.D.length)), (19, VV.slice (VA.el 0 [] (0 : Int) 0) p.D.length c1), (18, VV.ptr (VA.own (3) 0)), (17, VV.sl (4) 0), (15, VV.bool false), (15, boV (greatB p_1 ((14 : Int)))), (14, VV.agg [VV.slice (VA.el 0 [] (0 : Int) 0) p.D.length c1, VV.slice (VA.el 1 [] (0 : Int) 0) p.T.length c2, VV.slice (VA.el 2 [] (0 : Int) 0) p.S.length c3]), (2, VV.bool false), (1, VV.ptr (VA.own (3) 0)), (0, VV.agg (pnV p c1 c2 c3))] (VH.mk 9 (nsO9.zip (BO0 p c1 c2 c3 l (dG l)))) (dsO0.zip (VO0 p (0 : Int))) ∧ pnIs (VH.mk 9 (nsO9.zip (BO0 p c1 c2 c3 l (sevG l 16)))) p (VV.slice (VA.el 0 [] (0 : Int) 0) p.D.length c1) (VV.slice (VA.el 1 [] (0 : Int) 0) p.T.length c2) (VV.slice (VA.el 2 [] (0 : Int) 0) p.S.length c3) ∧ (PnOk p ∧ fitF p) ∧ ∃ p_2, pnIs (VH.mk 9 (nsO9.zip (BO0 p c1 c2 c3 l (sevG l 16)))) p_2 (VV.slice (VA.el 0 [] (0 : Int) 0) p.D.length c1) (VV.slice (VA.el 1 [] (0 : Int) 0) p.T.length c2) (VV.slice (VA.el 2 [] (0 : Int) 0) p.S.length c3) ∧ n64 (g0 [(0 : Int)] 0) ∧ pnIs (VH.mk 9 (nsO9.zip (BO0 p c1 c2 c3 l (sevG l 16)))) p (VV.slice (VA.el 0 [] (0 : Int) 0) p.D.length c1) (VV.slice (VA.el 1 [] (0 : Int) 0) p.T.length c2) (VV.slice (VA.el 2 [] (0 : Int) 0) p.S.length c3) ∧ (PnOk p ∧ fitF p ∧ l = grp p 16) ∧ FitP 0 (VH.mk 10 (nsO10.zip (BO3 p c1 c2 c3 l))) (dsO2.zip (VO2 p (0 : Int) (I 0) (VV.sl 8 (0 + 16)) (VV.sl 9 16))) (VH.mk 10 (nsO10.zip (BO3 p c1 c2 c3 l))) (dsO2.zip (VO2 p (0 : Int) (I 0) (VV.sl 8 (0 + 16)) (VV.sl 9 16))) ∧ p.T.length ≤ 100 ∧ FitP 0 (VH.mk 10 (nsO10.zip (BO3 p c1 c2 c3 l))) (dsO4.zip (VO4 p (0 : Int) (I 0) (VV.sl 8 (0 + 16)) (VV.sl 9 16))) (VH.mk 10 (nsO10.zip (BO3 p c1 c2 c3 l))) (dsO4.zip (VO4 p (0 : Int) (I 0) (VV.sl 8 (0 + 16)) (VV.sl 9 16))) ∧ p.S.length ≤ 100 ∧ ∃ xs ys, isList (VH.mk 10 (nsO10.zip (BO3 p c1 c2 c3 l))) (VV.slice (VA.el 0 [] (0 : Int) 0) p.D.length c1) xs.length 1 (dG xs) ∧ isList (VH.mk 10 (nsO10.zip (BO3 p c1 c2 c3 l))) (VV.sl 4 (0 + p.D.length)) ys.length 1 (dG ys) ∧ xs.length ≤ 100000 ∧ bif decide (xs = ys) then
 ∃ xs ys, isList (VH.mk 10 (nsO10.zip (BO3 p c1 c2 c3 l))) (VV.sl 9 16) xs.length 1 (dG xs) ∧ isList (VH.mk 10 (nsO10.zip (BO3 p c1 c2 c3 l))) (VV.sl 8 (0 + 16)) ys.length 1 (dG ys) ∧ xs.length ≤ 100000 ∧ bif decide (xs = ys) then
 Q (VRes.ret (VV.bool true))
 else Q (VRes.ret (VV.bool false))
 else Q (VRes.ret (VV.bool false))
 else False
 else False
 else False) := by kernel_rfl


end Go.Sx.Nos

/- nose: NoseOwns. -/

namespace Go.Sx.Nos
open Go Go.Sx Go.Proofs
set_option maxRecDepth 1000000

section
variable {p : Pn} {c1 c2 c3 : Nat} {l : List Int}

theorem grpM1_ok : SpOk Try.prog (grpM1 p).1 (grpM1 p).2 := by
  intro lock args h K hK
  simp only [grpM1] at hK
  split at hK
  · obtain ⟨hp, hc, hK⟩ := hK
    obtain ⟨nx, bs⟩ := h
    exact grpT_ok lock _ ⟨nx, bs⟩ K ⟨p, hp, fun _ => hK, fun h => absurd h hc, fun h => absurd h hc⟩
  · exact hK.elim
theorem grpM2_ok : SpOk Try.prog (grpM2 p).1 (grpM2 p).2 := by
  intro lock args h K hK
  simp only [grpM2] at hK
  split at hK
  · obtain ⟨hp, hc, hK⟩ := hK
    obtain ⟨nx, bs⟩ := h
    exact grpT_ok lock _ ⟨nx, bs⟩ K ⟨p, hp, fun h => absurd hc.1 h, fun _ _ => hK, fun _ h => absurd h hc.2⟩
  · exact hK.elim
theorem grpM3_ok : SpOk Try.prog (grpM3 p l).1 (grpM3 p l).2 := by
  intro lock args h K hK
  simp only [grpM3] at hK
  split at hK
  · obtain ⟨hp, hc, hK⟩ := hK
    obtain ⟨nx, bs⟩ := h
    exact grpT_ok lock _ ⟨nx, bs⟩ K ⟨p, hp, fun h => absurd hc.1 h, fun _ h => absurd hc.2.1 h, fun _ _ => by rw [← hc.2.2]; exact hK⟩
  · exact hK.elim
theorem douM1_ok : SpOk Try.prog (douM1 p).1 (douM1 p).2 := by
  intro lock args h K hK
  simp only [douM1] at hK
  split at hK
  · obtain ⟨hp, hc, hK⟩ := hK
    obtain ⟨nx, bs⟩ := h
    exact douT_ok lock _ ⟨nx, bs⟩ K ⟨p, hp, fun _ => hK, fun h => absurd h hc, fun h => absurd h hc⟩
  · exact hK.elim
theorem douM2_ok : SpOk Try.prog (douM2 p l).1 (douM2 p l).2 := by
  intro lock args h K hK
  simp only [douM2] at hK
  split at hK
  · obtain ⟨hp, hc, hK⟩ := hK
    obtain ⟨nx, bs⟩ := h
    exact douT_ok lock _ ⟨nx, bs⟩ K ⟨p, hp, fun h => absurd hc.1 h, fun _ h => absurd h hc.2.1, fun _ _ => by rw [← hc.2.2]; exact hK⟩
  · exact hK.elim
theorem douM3_ok : SpOk Try.prog (douM3 p).1 (douM3 p).2 := by
  intro lock args h K hK
  simp only [douM3] at hK
  split at hK
  · obtain ⟨hp, hc, hK⟩ := hK
    obtain ⟨nx, bs⟩ := h
    exact douT_ok lock _ ⟨nx, bs⟩ K ⟨p, hp, fun h => absurd hc.1 h, fun _ _ => hK, fun _ h => absurd hc.2 h⟩
  · exact hK.elim

theorem cond_eq {b : Bool} {X Y : Prop} (h : b = true) (hY : Y) : bif !b then X else Y := by rw [h]; exact hY
theorem teq {a b : Ts} (h : a = b) : (decide (a.j = b.j) && (decide (a.s = b.s) && (decide (a.p = b.p) && (decide (a.c = b.c) && (decide (a.o = b.o) && true))))) = true := by
  subst h
  simp
theorem seq3 {a b : Sd} (h : a = b) : (decide (a.s = b.s) && (decide (a.lo = b.lo) && (decide (a.hi = b.hi) && true) && true)) = true := by
  subst h
  simp

theorem lO0_ok : LSound Try.prog true (.block 0 (.loop (loopB 0 (bodyOf Try.prog 12)))) 104 (lO0 p c1 c2 c3 l) := by
  refine loop_row hmix good0 (un := 10) (ds := dsO0) (ns := nsO9) (nx := 9) (fun k : Nat => VO0 p k) (fun k => BO0 p c1 c2 c3 l (sevG l k)) (fun k => k ≤ 16) (fun k => 16 - k)
    (fun _ e vs bs => e = .exit 0 ∧ vs = VO0 p 16 ∧ bs = BO0 p c1 c2 c3 l (sevG l 16)) noL_ok ?_ ?_
  · intro k hk
    refine cast (o0_ev p c1 c2 c3 l (sevG l k) k _).symm ?_
    by_cases h : k < 16
    · refine cond_dk (by omega) (cond_dk ⟨by omega, by omega⟩ (cond_r (by omega) ⟨k + 1, by omega, by dsimp only; omega, rfl, ⟨VB.fit_refl _, VB.fit_refl _, VB.fit_refl _, VB.fit_refl _, VB.fit_refl _, VB.fit_refl _, VB.fit_refl _, ⟨rfl, rfl, rfl, fun j hj => ?_⟩, VB.fit_refl _, trivial⟩, fun _ _ _ ho => ho⟩))
      show atG (k : Int).toNat (sevG l k) [I (-7)] j = sevG l (k + 1) j
      unfold atG sevG
      rw [Int.toNat_natCast]
      by_cases e : j = k
      · rw [e, beq_t rfl, blt_t (Nat.lt_succ_self k)]
        rfl
      · rw [beq_f e, cond_false]
        by_cases g : j < k
        · rw [blt_t g, blt_t (by omega)]
        · rw [blt_f g, blt_f (by omega)]
    · obtain rfl : k = 16 := by omega
      exact cond_d (fun h => by omega) (fun _ => ⟨rfl, rfl, rfl⟩)
  · rintro lock tt h K ⟨hf, hK⟩
    refine ⟨0, ⟨⟨hf.1.1, hf.1.2.1, ?_⟩, hf.2⟩, Nat.zero_le _, ?_⟩
    · have : sevG l 0 = dG l := by
        funext j
        unfold sevG
        rw [blt_f (by omega)]
        rfl
      show Go.Sx.fitB (nsO9.zip (BO0 p c1 c2 c3 l (sevG l 0))) h
      rw [this]
      exact hf.1.2.2
    · rintro e vs bs ⟨rfl, rfl, rfl⟩
      exact hK
theorem lO21_ok : LSound Try.prog true (.block 2 (.loop (loopB 2 (bodyOf Try.prog 12)))) 104 (lO21 p c1 c2 c3 l) := by
  by_cases hn : p.T.length ≤ 100
  · refine loop_row hmix good0 (un := 10) (ds := dsO2) (ns := nsO8) (nx := 8) (fun k : Nat => VO2 p k (I 1) (.sl 7 (0 + 0)) .nils) (fun _ => BO1 p c1 c2 c3 l) (fun k => k ≤ p.T.length) (fun k => p.T.length - k)
      (fun _ e vs bs => e = .exit 2 ∧ vs = VO2 p ((0 + p.T.length : Nat) : Int) (I 1) (.sl 7 (0 + 0)) .nils ∧ bs = BO1 p c1 c2 c3 l) noL_ok ?_ ?_
    · intro k hk
      refine cast (o21_ev p c1 c2 c3 l k _).symm ?_
      by_cases h : k < p.T.length
      · refine cond_dk (by omega) (cond_dk ⟨by omega, by omega⟩ ⟨⟨rfl, by omega, by omega⟩, cond_dk ⟨by omega, by omega⟩ (cond_k (by rw [beq_t rfl, Bool.true_and]; kernel_rfl) (cond_k (beq_t rfl) (cond_eq (teq (by first | (unfold getI; rw [zero_toNat, Int.toNat_natCast]) | (rw [zero_toNat, Int.toNat_natCast]))) (cond_r (by omega) ⟨k + 1, by omega, by dsimp only; omega, rfl, fitBs_refl _, fun _ _ _ ho => ho⟩))))⟩)
      · obtain rfl : k = p.T.length := by omega
        exact cond_d (fun h => by omega) (fun _ => ⟨rfl, congrArg (fun x => VO2 p x (I 1) (.sl 7 (0 + 0)) .nils) (by omega : ((p.T.length : Nat) : Int) = ((0 + p.T.length : Nat) : Int)), rfl⟩)
    · rintro lock tt h K ⟨hf, _, hK⟩
      refine ⟨0, hf, Nat.zero_le _, ?_⟩
      rintro e vs bs ⟨rfl, rfl, rfl⟩
      exact hK
  · rintro lock tt h K ⟨_, hc, _⟩
    exact (hn hc).elim
theorem lO41_ok : LSound Try.prog true (.block 4 (.loop (loopB 4 (bodyOf Try.prog 12)))) 104 (lO41 p c1 c2 c3 l) := by
  by_cases hn : p.S.length ≤ 100
  · refine loop_row hmix good0 (un := 10) (ds := dsO4) (ns := nsO8) (nx := 8) (fun k : Nat => VO4 p k (I 1) (.sl 7 (0 + 0)) .nils) (fun _ => BO1 p c1 c2 c3 l) (fun k => k ≤ p.S.length) (fun k => p.S.length - k)
      (fun _ e vs bs => e = .exit 4 ∧ vs = VO4 p ((0 + p.S.length : Nat) : Int) (I 1) (.sl 7 (0 + 0)) .nils ∧ bs = BO1 p c1 c2 c3 l) noL_ok ?_ ?_
    · intro k hk
      refine cast (o41_ev p c1 c2 c3 l k _).symm ?_
      by_cases h : k < p.S.length
      · refine cond_dk (by omega) (cond_dk ⟨by omega, by omega⟩ ⟨⟨rfl, by omega, by omega⟩, cond_dk ⟨by omega, by omega⟩ (cond_k (by rw [beq_t rfl, Bool.true_and]; kernel_rfl) (cond_k (beq_t rfl) (cond_eq (seq3 (by first | (unfold getI; rw [zero_toNat, Int.toNat_natCast]) | (rw [zero_toNat, Int.toNat_natCast]))) (cond_r (by omega) ⟨k + 1, by omega, by dsimp only; omega, rfl, fitBs_refl _, fun _ _ _ ho => ho⟩))))⟩)
      · obtain rfl : k = p.S.length := by omega
        exact cond_d (fun h => by omega) (fun _ => ⟨rfl, congrArg (fun x => VO4 p x (I 1) (.sl 7 (0 + 0)) .nils) (by omega : ((p.S.length : Nat) : Int) = ((0 + p.S.length : Nat) : Int)), rfl⟩)
    · rintro lock tt h K ⟨hf, _, hK⟩
      refine ⟨0, hf, Nat.zero_le _, ?_⟩
      rintro e vs bs ⟨rfl, rfl, rfl⟩
      exact hK
  · rintro lock tt h K ⟨_, hc, _⟩
    exact (hn hc).elim
theorem lO22_ok : LSound Try.prog true (.block 2 (.loop (loopB 2 (bodyOf Try.prog 12)))) 104 (lO22 p c1 c2 c3 l) := by
  by_cases hn : p.T.length ≤ 100
  · refine loop_row hmix good0 (un := 10) (ds := dsO2) (ns := nsO9) (nx := 9) (fun k : Nat => VO2 p k (I 6) (.sl 7 (0 + 0)) .nils) (fun _ => BO2 p c1 c2 c3 l) (fun k => k ≤ p.T.length) (fun k => p.T.length - k)
      (fun _ e vs bs => e = .exit 2 ∧ vs = VO2 p ((0 + p.T.length : Nat) : Int) (I 6) (.sl 7 (0 + 0)) .nils ∧ bs = BO2 p c1 c2 c3 l) noL_ok ?_ ?_
    · intro k hk
      refine cast (o22_ev p c1 c2 c3 l k _).symm ?_
      by_cases h : k < p.T.length
      · refine cond_dk (by omega) (cond_dk ⟨by omega, by omega⟩ ⟨⟨rfl, by omega, by omega⟩, cond_dk ⟨by omega, by omega⟩ (cond_k (by rw [beq_t rfl, Bool.true_and]; kernel_rfl) (cond_k (beq_t rfl) (cond_eq (teq (by first | (unfold getI; rw [zero_toNat, Int.toNat_natCast]) | (rw [zero_toNat, Int.toNat_natCast]))) (cond_r (by omega) ⟨k + 1, by omega, by dsimp only; omega, rfl, fitBs_refl _, fun _ _ _ ho => ho⟩))))⟩)
      · obtain rfl : k = p.T.length := by omega
        exact cond_d (fun h => by omega) (fun _ => ⟨rfl, congrArg (fun x => VO2 p x (I 6) (.sl 7 (0 + 0)) .nils) (by omega : ((p.T.length : Nat) : Int) = ((0 + p.T.length : Nat) : Int)), rfl⟩)
    · rintro lock tt h K ⟨hf, _, hK⟩
      refine ⟨0, hf, Nat.zero_le _, ?_⟩
      rintro e vs bs ⟨rfl, rfl, rfl⟩
      exact hK
  · rintro lock tt h K ⟨_, hc, _⟩
    exact (hn hc).elim
theorem lO42_ok : LSound Try.prog true (.block 4 (.loop (loopB 4 (bodyOf Try.prog 12)))) 104 (lO42 p c1 c2 c3 l) := by
  by_cases hn : p.S.length ≤ 100
  · refine loop_row hmix good0 (un := 10) (ds := dsO4) (ns := nsO9) (nx := 9) (fun k : Nat => VO4 p k (I 6) (.sl 7 (0 + 0)) .nils) (fun _ => BO2 p c1 c2 c3 l) (fun k => k ≤ p.S.length) (fun k => p.S.length - k)
      (fun _ e vs bs => e = .exit 4 ∧ vs = VO4 p ((0 + p.S.length : Nat) : Int) (I 6) (.sl 7 (0 + 0)) .nils ∧ bs = BO2 p c1 c2 c3 l) noL_ok ?_ ?_
    · intro k hk
      refine cast (o42_ev p c1 c2 c3 l k _).symm ?_
      by_cases h : k < p.S.length
      · refine cond_dk (by omega) (cond_dk ⟨by omega, by omega⟩ ⟨⟨rfl, by omega, by omega⟩, cond_dk ⟨by omega, by omega⟩ (cond_k (by rw [beq_t rfl, Bool.true_and]; kernel_rfl) (cond_k (beq_t rfl) (cond_eq (seq3 (by first | (unfold getI; rw [zero_toNat, Int.toNat_natCast]) | (rw [zero_toNat, Int.toNat_natCast]))) (cond_r (by omega) ⟨k + 1, by omega, by dsimp only; omega, rfl, fitBs_refl _, fun _ _ _ ho => ho⟩))))⟩)
      · obtain rfl : k = p.S.length := by omega
        exact cond_d (fun h => by omega) (fun _ => ⟨rfl, congrArg (fun x => VO4 p x (I 6) (.sl 7 (0 + 0)) .nils) (by omega : ((p.S.length : Nat) : Int) = ((0 + p.S.length : Nat) : Int)), rfl⟩)
    · rintro lock tt h K ⟨hf, _, hK⟩
      refine ⟨0, hf, Nat.zero_le _, ?_⟩
      rintro e vs bs ⟨rfl, rfl, rfl⟩
      exact hK
  · rintro lock tt h K ⟨_, hc, _⟩
    exact (hn hc).elim
theorem lO23_ok : LSound Try.prog true (.block 2 (.loop (loopB 2 (bodyOf Try.prog 12)))) 104 (lO23 p c1 c2 c3 l) := by
  by_cases hn : p.T.length ≤ 100
  · refine loop_row hmix good0 (un := 10) (ds := dsO2) (ns := nsO10) (nx := 10) (fun k : Nat => VO2 p k (I 0) (.sl 8 (0 + 16)) (.sl 9 16)) (fun _ => BO3 p c1 c2 c3 l) (fun k => k ≤ p.T.length) (fun k => p.T.length - k)
      (fun _ e vs bs => e = .exit 2 ∧ vs = VO2 p ((0 + p.T.length : Nat) : Int) (I 0) (.sl 8 (0 + 16)) (.sl 9 16) ∧ bs = BO3 p c1 c2 c3 l) noL_ok ?_ ?_
    · intro k hk
      refine cast (o23_ev p c1 c2 c3 l k _).symm ?_
      by_cases h : k < p.T.length
      · refine cond_dk (by omega) (cond_dk ⟨by omega, by omega⟩ ⟨⟨rfl, by omega, by omega⟩, cond_dk ⟨by omega, by omega⟩ (cond_k (by rw [beq_t rfl, Bool.true_and]; kernel_rfl) (cond_k (beq_t rfl) (cond_eq (teq (by first | (unfold getI; rw [zero_toNat, Int.toNat_natCast]) | (rw [zero_toNat, Int.toNat_natCast]))) (cond_r (by omega) ⟨k + 1, by omega, by dsimp only; omega, rfl, fitBs_refl _, fun _ _ _ ho => ho⟩))))⟩)
      · obtain rfl : k = p.T.length := by omega
        exact cond_d (fun h => by omega) (fun _ => ⟨rfl, congrArg (fun x => VO2 p x (I 0) (.sl 8 (0 + 16)) (.sl 9 16)) (by omega : ((p.T.length : Nat) : Int) = ((0 + p.T.length : Nat) : Int)), rfl⟩)
    · rintro lock tt h K ⟨hf, _, hK⟩
      refine ⟨0, hf, Nat.zero_le _, ?_⟩
      rintro e vs bs ⟨rfl, rfl, rfl⟩
      exact hK
  · rintro lock tt h K ⟨_, hc, _⟩
    exact (hn hc).elim
theorem lO43_ok : LSound Try.prog true (.block 4 (.loop (loopB 4 (bodyOf Try.prog 12)))) 104 (lO43 p c1 c2 c3 l) := by
  by_cases hn : p.S.length ≤ 100
  · refine loop_row hmix good0 (un := 10) (ds := dsO4) (ns := nsO10) (nx := 10) (fun k : Nat => VO4 p k (I 0) (.sl 8 (0 + 16)) (.sl 9 16)) (fun _ => BO3 p c1 c2 c3 l) (fun k => k ≤ p.S.length) (fun k => p.S.length - k)
      (fun _ e vs bs => e = .exit 4 ∧ vs = VO4 p ((0 + p.S.length : Nat) : Int) (I 0) (.sl 8 (0 + 16)) (.sl 9 16) ∧ bs = BO3 p c1 c2 c3 l) noL_ok ?_ ?_
    · intro k hk
      refine cast (o43_ev p c1 c2 c3 l k _).symm ?_
      by_cases h : k < p.S.length
      · refine cond_dk (by omega) (cond_dk ⟨by omega, by omega⟩ ⟨⟨rfl, by omega, by omega⟩, cond_dk ⟨by omega, by omega⟩ (cond_k (by rw [beq_t rfl, Bool.true_and]; kernel_rfl) (cond_k (beq_t rfl) (cond_eq (seq3 (by first | (unfold getI; rw [zero_toNat, Int.toNat_natCast]) | (rw [zero_toNat, Int.toNat_natCast]))) (cond_r (by omega) ⟨k + 1, by omega, by dsimp only; omega, rfl, fitBs_refl _, fun _ _ _ ho => ho⟩))))⟩)
      · obtain rfl : k = p.S.length := by omega
        exact cond_d (fun h => by omega) (fun _ => ⟨rfl, congrArg (fun x => VO4 p x (I 0) (.sl 8 (0 + 16)) (.sl 9 16)) (by omega : ((p.S.length : Nat) : Int) = ((0 + p.S.length : Nat) : Int)), rfl⟩)
    · rintro lock tt h K ⟨hf, _, hK⟩
      refine ⟨0, hf, Nat.zero_le _, ?_⟩
      rintro e vs bs ⟨rfl, rfl, rfl⟩
      exact hK
  · rintro lock tt h K ⟨_, hc, _⟩
    exact (hn hc).elim

theorem catz {z f : Nat → List VV} (i : Nat) : catG 0 z f i = f i := by
  unfold catG
  rw [blt_f (by omega)]
  rfl
theorem fit_c {L s : Nat} {t : TypeId} {g z f : Nat → List VV} (h : ∀ i, f i = g i) : (VB.vec L g s t).fit (.vec L (catG 0 z f) s t) := ⟨rfl, rfl, rfl, fun i _ => (catz i).trans (h i)⟩
theorem fit_D {z : Nat → List VV} : (VB.vec (0 + p.D.length) (dG p.D) 1 3).fit (.vec (0 + p.D.length) (catG 0 z fun j => (fun (_ : List Int) (i : Int) => dG p.D i.toNat) [] ((0 : Int) + (j : Int))) 1 3) := fit_c fun i => by
  show dG p.D ((0 : Int) + (i : Int)).toNat = _
  rw [zero_toNat]
theorem fit_T {z : Nat → List VV} : (VB.vec (0 + p.T.length) (tG p.T) 5 32).fit (.vec (0 + p.T.length) (catG 0 z fun j => (fun (_ : List Int) (i : Int) => tG p.T i.toNat) [] ((0 : Int) + (j : Int))) 5 32) := fit_c fun i => by
  show tG p.T ((0 : Int) + (i : Int)).toNat = _
  rw [zero_toNat]
theorem fit_S {z : Nat → List VV} : (VB.vec (0 + p.S.length) (sG p.S) 3 36).fit (.vec (0 + p.S.length) (catG 0 z fun j => (fun (_ : List Int) (i : Int) => sG p.S i.toNat) [] ((0 : Int) + (j : Int))) 3 36) := fit_c fun i => by
  show sG p.S ((0 : Int) + (i : Int)).toNat = _
  rw [zero_toNat]
theorem fit_0 {z f : Nat → List VV} : (VB.vec (0 + 0) (dG []) 1 3).fit (.vec (0 + 0) (catG 0 z f) 1 3) := ⟨rfl, rfl, rfl, fun i hi => by omega⟩
theorem sev_0 : sevG l 0 = dG l := by
  funext j
  unfold sevG
  rw [blt_f (by omega)]
  rfl
theorem rowsM1_ok : ∀ x ∈ [greatT, alvT, grpM1 p, douM1 p, valT, intsT], SpOk Try.prog x.1 x.2 := fun x hx => by
  simp only [List.mem_cons, List.not_mem_nil, or_false] at hx
  rcases hx with rfl | rfl | rfl | rfl | rfl | rfl
  · exact greatT_ok
  · exact alvT_ok
  · exact grpM1_ok
  · exact douM1_ok
  · exact valT_ok
  · exact intsT_ok
theorem owL1_ok : LoopsOk Try.prog 12 [(2, lO21 p c1 c2 c3 l), (4, lO41 p c1 c2 c3 l)] := by
  intro x hx
  simp only [List.mem_cons, List.not_mem_nil, or_false] at hx
  rcases hx with rfl | rfl
  · exact ⟨by kernel_rfl, lO21_ok⟩
  · exact ⟨by kernel_rfl, lO41_ok⟩
theorem rowsM2_ok : ∀ x ∈ [greatT, alvT, grpM2 p, douM2 p l, valT, intsT], SpOk Try.prog x.1 x.2 := fun x hx => by
  simp only [List.mem_cons, List.not_mem_nil, or_false] at hx
  rcases hx with rfl | rfl | rfl | rfl | rfl | rfl
  · exact greatT_ok
  · exact alvT_ok
  · exact grpM2_ok
  · exact douM2_ok
  · exact valT_ok
  · exact intsT_ok
theorem owL2_ok : LoopsOk Try.prog 12 [(2, lO22 p c1 c2 c3 l), (4, lO42 p c1 c2 c3 l)] := by
  intro x hx
  simp only [List.mem_cons, List.not_mem_nil, or_false] at hx
  rcases hx with rfl | rfl
  · exact ⟨by kernel_rfl, lO22_ok⟩
  · exact ⟨by kernel_rfl, lO42_ok⟩
theorem rowsM3_ok : ∀ x ∈ [greatT, alvT, grpM3 p l, douM3 p, valT, intsT], SpOk Try.prog x.1 x.2 := fun x hx => by
  simp only [List.mem_cons, List.not_mem_nil, or_false] at hx
  rcases hx with rfl | rfl | rfl | rfl | rfl | rfl
  · exact greatT_ok
  · exact alvT_ok
  · exact grpM3_ok
  · exact douM3_ok
  · exact valT_ok
  · exact intsT_ok
theorem owL3_ok : LoopsOk Try.prog 12 [(0, lO0 p c1 c2 c3 l), (2, lO23 p c1 c2 c3 l), (4, lO43 p c1 c2 c3 l)] := by
  intro x hx
  simp only [List.mem_cons, List.not_mem_nil, or_false] at hx
  rcases hx with rfl | rfl | rfl
  · exact ⟨by kernel_rfl, lO0_ok⟩
  · exact ⟨by kernel_rfl, lO23_ok⟩
  · exact ⟨by kernel_rfl, lO43_ok⟩
end
end Go.Sx.Nos

/- nose: NoseOwns, joined. -/

namespace Go.Sx.Nos
open Go Go.Sx Go.Proofs
set_option maxRecDepth 1000000

section
variable {p : Pn} {c1 c2 c3 : Nat}

theorem own1_v (hp : ¬ PnOk p) : ∃ h', CallsV Try.prog 12 [.agg (pnV p c1 c2 c3)] (pnH p) (.ret (.bool true)) h' := by
  obtain ⟨r, h', rfl, hc⟩ := of_callN (callL_good hmix (tabs_ok rowsM1_ok) (owL1_ok (p := p) (c1 := c1) (c2 := c2) (c3 := c3) (l := [])) (un := 10) 20) (f := 12) (args := [.agg (pnV p c1 c2 c3)]) (h := pnH p) (K := fun r _ => r = .ret (.bool true))
    (by
      refine cast (own1_ev p c1 c2 c3 [] _).symm ?_
      refine ⟨p, pnIs_own rfl rfl rfl, trivial, cond_b (fun _ => rfl) (fun hg => ?_)⟩
      obtain ⟨gt, gs, gd⟩ := great_le hg
      refine ⟨tk_D, cond_k (room8 (by omega)) ⟨tk_T, cond_k (room40 (by omega)) ⟨tk_S, cond_k (room24 (by omega)) ?_⟩⟩⟩
      refine ⟨pnIs_own rfl rfl rfl, hp, pnIs_own rfl rfl rfl, hp, p, pnIs_own rfl rfl rfl, by unfold n64; decide, pnIs_own rfl rfl rfl, hp, ?_, by omega, ?_, by omega, p.D, p.D, isD_own rfl, ⟨Nat.zero_add _, _, _, rfl, fun _ _ => rfl⟩, by omega, cond_dk rfl ⟨[], [], rfl, ⟨rfl, _, _, rfl, fun _ _ => rfl⟩, by decide, rfl⟩⟩
      · exact ⟨⟨rfl, rfl, VB.fit_refl _, VB.fit_refl _, VB.fit_refl _, VB.fit_refl _, fit_D, fit_T, fit_S, fit_0, trivial⟩, rfl, rfl, rfl, rfl, rfl, rfl, rfl, rfl, rfl, rfl, trivial⟩
      · exact ⟨⟨rfl, rfl, VB.fit_refl _, VB.fit_refl _, VB.fit_refl _, VB.fit_refl _, VB.fit_refl _, VB.fit_refl _, VB.fit_refl _, VB.fit_refl _, trivial⟩, rfl, rfl, rfl, rfl, rfl, rfl, rfl, rfl, rfl, trivial⟩)
  exact ⟨h', hc⟩

theorem own2_v (hp : PnOk p) (hf : ¬ fitF p) : ∃ h', CallsV Try.prog 12 [.agg (pnV p c1 c2 c3)] (pnH p) (.ret (.bool true)) h' := by
  obtain ⟨l, hl⟩ : ∃ l, l = douL p p.T.length := ⟨_, rfl⟩
  obtain ⟨r, h', rfl, hc⟩ := of_callN (callL_good hmix (tabs_ok rowsM2_ok) (owL2_ok (p := p) (c1 := c1) (c2 := c2) (c3 := c3) (l := l)) (un := 10) 20) (f := 12) (args := [.agg (pnV p c1 c2 c3)]) (h := pnH p) (K := fun r _ => r = .ret (.bool true))
    (by
      refine cast (own2_ev p c1 c2 c3 l _).symm ?_
      refine ⟨p, pnIs_own rfl rfl rfl, trivial, cond_b (fun _ => rfl) (fun hg => ?_)⟩
      obtain ⟨gt, gs, gd⟩ := great_le hg
      refine ⟨tk_D, cond_k (room8 (by omega)) ⟨tk_T, cond_k (room40 (by omega)) ⟨tk_S, cond_k (room24 (by omega)) ?_⟩⟩⟩
      refine ⟨pnIs_own rfl rfl rfl, ⟨hp, hf⟩, pnIs_own rfl rfl rfl, ⟨hp, hf, hl⟩, p, pnIs_own rfl rfl rfl, by unfold n64; decide, pnIs_own rfl rfl rfl, ⟨hp, hf⟩, ?_, by omega, ?_, by omega, p.D, p.D, isD_own rfl, ⟨Nat.zero_add _, _, _, rfl, fun _ _ => rfl⟩, by omega, cond_dk rfl ⟨[], [], rfl, ⟨rfl, _, _, rfl, fun _ _ => rfl⟩, by decide, rfl⟩⟩
      · exact ⟨⟨rfl, rfl, VB.fit_refl _, VB.fit_refl _, VB.fit_refl _, VB.fit_refl _, fit_D, fit_T, fit_S, fit_0, VB.fit_refl _, trivial⟩, rfl, rfl, rfl, rfl, rfl, rfl, rfl, rfl, rfl, rfl, trivial⟩
      · exact ⟨⟨rfl, rfl, VB.fit_refl _, VB.fit_refl _, VB.fit_refl _, VB.fit_refl _, VB.fit_refl _, VB.fit_refl _, VB.fit_refl _, VB.fit_refl _, VB.fit_refl _, trivial⟩, rfl, rfl, rfl, rfl, rfl, rfl, rfl, rfl, rfl, trivial⟩)
  exact ⟨h', hc⟩

theorem own3_v (hp : PnOk p) (hf : fitF p) : ∃ h', CallsV Try.prog 12 [.agg (pnV p c1 c2 c3)] (pnH p) (.ret (.bool true)) h' := by
  obtain ⟨l, hl⟩ : ∃ l, l = grp p 16 := ⟨_, rfl⟩
  have hll : l.length = 16 := by rw [hl]; exact grp_len 16
  obtain ⟨r, h', rfl, hc⟩ := of_callN (callL_good hmix (tabs_ok rowsM3_ok) (owL3_ok (p := p) (c1 := c1) (c2 := c2) (c3 := c3) (l := l)) (un := 10) 20) (f := 12) (args := [.agg (pnV p c1 c2 c3)]) (h := pnH p) (K := fun r _ => r = .ret (.bool true))
    (by
      refine cast (own3_ev p c1 c2 c3 l _).symm ?_
      refine ⟨p, pnIs_own rfl rfl rfl, trivial, cond_b (fun _ => rfl) (fun hg => ?_)⟩
      obtain ⟨gt, gs, gd⟩ := great_le hg
      refine ⟨tk_D, cond_k (room8 (by omega)) ⟨tk_T, cond_k (room40 (by omega)) ⟨tk_S, cond_k (room24 (by omega)) ?_⟩⟩⟩
      refine ⟨pnIs_own rfl rfl rfl, ⟨hp, hf, hl⟩, ?_, pnIs_own rfl rfl rfl, ⟨hp, hf⟩, p, pnIs_own rfl rfl rfl, by unfold n64; decide, pnIs_own rfl rfl rfl, ⟨hp, hf, hl⟩, ?_, by omega, ?_, by omega, p.D, p.D, isD_own rfl, ⟨Nat.zero_add _, _, _, rfl, fun _ _ => rfl⟩, by omega, cond_dk rfl ⟨l, l, ⟨hll.symm, _, _, rfl, fun _ _ => rfl⟩, ⟨hll.symm, _, _, rfl, fun _ _ => rfl⟩, by omega, cond_dk rfl rfl⟩⟩
      · exact ⟨⟨rfl, rfl, VB.fit_refl _, VB.fit_refl _, VB.fit_refl _, VB.fit_refl _, fit_D, fit_T, fit_S, VB.fit_refl _, fit_c (fun _ => rfl), trivial⟩, rfl, rfl, rfl, rfl, rfl, rfl, rfl, rfl, rfl, rfl, trivial⟩
      · exact ⟨⟨rfl, rfl, VB.fit_refl _, VB.fit_refl _, VB.fit_refl _, VB.fit_refl _, VB.fit_refl _, VB.fit_refl _, VB.fit_refl _, VB.fit_refl _, VB.fit_refl _, VB.fit_refl _, trivial⟩, rfl, rfl, rfl, rfl, rfl, rfl, rfl, rfl, rfl, rfl, trivial⟩
      · exact ⟨⟨rfl, rfl, VB.fit_refl _, VB.fit_refl _, VB.fit_refl _, VB.fit_refl _, VB.fit_refl _, VB.fit_refl _, VB.fit_refl _, VB.fit_refl _, VB.fit_refl _, VB.fit_refl _, trivial⟩, rfl, rfl, rfl, rfl, rfl, rfl, rfl, rfl, rfl, trivial⟩)
  exact ⟨h', hc⟩

theorem owns_v : ∃ h', CallsV Try.prog 12 [.agg (pnV p c1 c2 c3)] (pnH p) (.ret (.bool true)) h' := by
  by_cases hp : PnOk p
  · by_cases hf : fitF p
    · exact own3_v hp hf
    · exact own2_v hp hf
  · exact own1_v hp
end
end Go.Sx.Nos
