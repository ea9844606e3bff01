/- stream: Nm4 Nm5 Nm6 Nm7, in one text. -/
import Derived.Test.YtnfkbbcbehnnkaaNM
/- nose: the first loop of NoseMore, evaluated. -/

namespace Go.Sx.Nos
open Go Go.Sx Go.Proofs
set_option maxRecDepth 1000000

def dsM0 : List Nat := [75, 76, 5, 6, 7, 8, 12, 13, 14, 15, 16, 17, 18, 19, 20, 21, 22]
def VM0 (n : Nat) (tu a b e f g : Int) (i : Int) : List VV := [I n, I i, .int .u8 tu, .ptr (.own 3 0), .ptr (.own 4 0), .ptr (.own 5 0), .bool false, I a, I b, .func 25 [] [], .ptr (.own 6 0), I e, .ptr (.own 7 0), I f, .ptr (.own 8 0), I g, .ptr (.own 9 0)]
abbrev spB (v : Int × Int × Int) : VB := .cells [I v.1, I v.2.1] 34
def BM (p : Pn) (c1 c2 c3 : Nat) (t : Ts) (s : Sd) (v d c : Int × Int × Int) : List VB := [arD p, arT p, arS p, pnB p c1 c2 c3, .cells (tsL t) 32, .cells (sdL s) 36, spB v, spB d, spB c]
def BM0 (p : Pn) (c1 c2 c3 : Nat) (t : Ts) (s : Sd) (v d c : Int × Int × Int) (k : Nat) (G : Nat → List VV) : List VB := BM p c1 c2 c3 t s v d c ++ [.cells [.slice (.el 0 [] 0 0) p.D.length c1, .sl 10 k, .slice (.el 2 [] 0 0) p.S.length c3] 26, .vec k G 5 32]
def nsM0 : List Nat := [0, 1, 2, 3, 4, 5, 6, 7, 8, 9, 10]
theorem m0_ev (p : Pn) (c1 c2 c3 : Nat) (t : Ts) (s : Sd) (v d c : Int × Int × Int) (tu a b e f g : Int) (i : Int) (k : Nat) (G : Nat → List VV) (X : VEx → List VV → List VB → Prop) : codeE Try.prog (callN Try.prog noSpec noL 10 20) (fun _ => none) true 10 232 0 (loopB 0 (bodyOf Try.prog 6)) (dsM0.zip (VM0 p.T.length tu a b e f g i)) ⟨11, nsM0.zip (BM0 p c1 c2 c3 t s v d c k G)⟩ (obs 11 dsM0 nsM0 X) =
  (bif decide (i < (↑p.T.length : Int)) then
 bif inK IntKind.i64 tu then
 bif inK IntKind.i64 (i + tu) then
 bif decide ((↑p.T.length : Int) = (0 : Int)) then
 False
 else bif decide ((0 : Int) ≤ remZ (i + tu) (↑p.T.length : Int) ∧ remZ (i + tu) (↑p.T.length : Int) < (↑p.T.length : Int)) then
 (([] : List Int) = [] ∧ (0 : Int) ≤ (0 : Int) + remZ (i + tu) (↑p.T.length : Int) ∧ (0 : Int) + remZ (i + tu) (↑p.T.length : Int) < (↑p.T.length : Int)) ∧ bif k.beq k then
 bif roomB (k + 1) (40) then
 bif inK IntKind.i64 (i + (1 : Int)) then
 X VEx.normal [I (↑p.T.length : Int), I (i + (1 : Int)), VV.int IntKind.u8 tu, VV.ptr (VA.own 3 0), VV.ptr (VA.own 4 0), VV.ptr (VA.own 5 0), VV.bool false, I a, I b, VV.func (25 : FuncId) [] [], VV.ptr (VA.own 6 0), I e, VV.ptr (VA.own 7 0), I f, VV.ptr (VA.own 8 0), I g, VV.ptr (VA.own 9 0)] [arD p, arT p, arS p, pnB p c1 c2 c3, VB.cells [I t.j, I t.s, I t.p, I t.c, I t.o] (32 : TypeId), VB.cells [I s.s, I s.lo, I s.hi] (36 : TypeId), VB.cells [I v.fst, I v.snd.fst] (34 : TypeId), VB.cells [I d.fst, I d.snd.fst] (34 : TypeId), VB.cells [I c.fst, I c.snd.fst] (34 : TypeId), VB.cells [VV.slice (VA.el 0 [] (0 : Int) 0) p.D.length c1, VV.sl 10 (k + 1), VV.slice (VA.el 2 [] (0 : Int) 0) p.S.length c3] (26 : TypeId), VB.vec (k + 1) (catG k G fun j => List.take (5) (List.drop (j * (5)) [I (p.T.getD ((0 : Int) + remZ (i + tu) (↑p.T.length : Int)).toNat t0).j, I (p.T.getD ((0 : Int) + remZ (i + tu) (↑p.T.length : Int)).toNat t0).s, I (p.T.getD ((0 : Int) + remZ (i + tu) (↑p.T.length : Int)).toNat t0).p, I (p.T.getD ((0 : Int) + remZ (i + tu) (↑p.T.length : Int)).toNat t0).c, I (p.T.getD ((0 : Int) + remZ (i + tu) (↑p.T.length : Int)).toNat t0).o])) (5) 32]
 else False
 else False
 else False
 else False
 else False
 else False
 else X (VEx.exit 0) [I (↑p.T.length : Int), I i, VV.int IntKind.u8 tu, VV.ptr (VA.own 3 0), VV.ptr (VA.own 4 0), VV.ptr (VA.own 5 0), VV.bool false, I a, I b, VV.func (25 : FuncId) [] [], VV.ptr (VA.own 6 0), I e, VV.ptr (VA.own 7 0), I f, VV.ptr (VA.own 8 0), I g, VV.ptr (VA.own 9 0)] [arD p, arT p, arS p, pnB p c1 c2 c3, VB.cells [I t.j, I t.s, I t.p, I t.c, I t.o] (32 : TypeId), VB.cells [I s.s, I s.lo, I s.hi] (36 : TypeId), VB.cells [I v.fst, I v.snd.fst] (34 : TypeId), VB.cells [I d.fst, I d.snd.fst] (34 : TypeId), VB.cells [I c.fst, I c.snd.fst] (34 : TypeId), VB.cells [VV.slice (VA.el 0 [] (0 : Int) 0) p.D.length c1, VV.sl 10 k, VV.slice (VA.el 2 [] (0 : Int) 0) p.S.length c3] (26 : TypeId), VB.vec k G 5 (32 : TypeId)]) := by kernel_rfl

def nsM1 : List Nat := [0, 1, 2, 3, 4, 5, 6, 7, 8, 9]
def BM1 (p : Pn) (c1 c2 c3 : Nat) (t : Ts) (s : Sd) (v d c : Int × Int × Int) : List VB := BM p c1 c2 c3 t s v d c ++ [.cells [.slice (.el 0 [] 0 0) p.D.length c1, .nils, .slice (.el 2 [] 0 0) p.S.length c3] 26]
def lM0s (p : Pn) (c1 c2 c3 : Nat) (t : Ts) (s : Sd) (v d c : Int × Int × Int) (tu a b e f g : Int) : LT := fun lock tt h K =>
  FitP lock h tt ⟨11, nsM0.zip (BM0 p c1 c2 c3 t s v d c 0 (tG (tuT p.T tu.toNat)))⟩ (dsM0.zip (VM0 p.T.length tu a b e f g 0)) ∧ ((0 ≤ tu ∧ tu ≤ 255) ∧ p.T.length ≤ 100) ∧
    K .normal (dsM0.zip (VM0 p.T.length tu a b e f g p.T.length)) ⟨11, nsM0.zip (BM0 p c1 c2 c3 t s v d c p.T.length (tG (tuT p.T tu.toNat)))⟩
def lM0 (p : Pn) (c1 c2 c3 : Nat) (t : Ts) (s : Sd) (v d c : Int × Int × Int) (tu a b e f g : Int) : LT := fun lock tt h K =>
  FitP lock h tt ⟨10, nsM1.zip (BM1 p c1 c2 c3 t s v d c)⟩ (dsM0.zip (VM0 p.T.length tu a b e f g 0)) ∧ ((0 ≤ tu ∧ tu ≤ 255) ∧ p.T.length ≤ 100) ∧
    K .normal (dsM0.zip (VM0 p.T.length tu a b e f g p.T.length)) ⟨11, nsM0.zip (BM0 p c1 c2 c3 t s v d c p.T.length (tG (tuT p.T tu.toNat)))⟩
theorem in_ev (a b c d : Int) (Q : Bool → Prop) : callN Try.prog noSpec noL 10 20 0 (.fn 25) [.agg [I a, I b], .agg [I c, I d]] ⟨0, []⟩ (boQ Q) =
  (bif decide (c ≤ a) then
 bif decide (a ≤ b) then
 Q (decide (b ≤ d))
 else Q false
 else Q false) := by kernel_rfl


end Go.Sx.Nos

/- nose: the first loop of NoseMore. -/

namespace Go.Sx.Nos
open Go Go.Sx Go.Proofs
set_option maxRecDepth 1000000

section
variable {p : Pn} {c1 c2 c3 : Nat} {t : Ts} {s : Sd} {v d c : Int × Int × Int} {tu a b e f g : Int}

theorem lM0s_ok : LSound Try.prog true (.block 0 (.loop (loopB 0 (bodyOf Try.prog 6)))) 232 (lM0s p c1 c2 c3 t s v d c tu a b e f g) := by
  by_cases hh : (0 ≤ tu ∧ tu ≤ 255) ∧ p.T.length ≤ 100
  · obtain ⟨ht, hT⟩ := hh
    refine loop_row hmix good0 (un := 10) (ds := dsM0) (ns := nsM0) (nx := 11) (fun k : Nat => VM0 p.T.length tu a b e f g k) (fun k => BM0 p c1 c2 c3 t s v d c k (tG (tuT p.T tu.toNat))) (fun k => k ≤ p.T.length) (fun k => p.T.length - k)
      (fun _ ex vs bs => ex = .exit 0 ∧ vs = VM0 p.T.length tu a b e f g p.T.length ∧ bs = BM0 p c1 c2 c3 t s v d c p.T.length (tG (tuT p.T tu.toNat))) noL_ok ?_ ?_
    · intro k hk
      refine cast (m0_ev p c1 c2 c3 t s v d c tu a b e f g k k _ _).symm ?_
      by_cases h : k < p.T.length
      · have er : remZ ((k : Int) + tu) (p.T.length : Int) = ((k : Int) + tu) % (p.T.length : Int) := remZ_nn (by omega)
        have e0 : 0 ≤ ((k : Int) + tu) % (p.T.length : Int) := Int.emod_nonneg _ (by omega)
        have e1 : ((k : Int) + tu) % (p.T.length : Int) < (p.T.length : Int) := Int.emod_lt_of_pos _ (by omega)
        have e2 : (((k : Int) + tu) % (p.T.length : Int)).toNat = (k + tu.toNat) % p.T.length := by
          obtain ⟨m, rfl⟩ := Int.eq_ofNat_of_zero_le ht.1
          rw [← Int.natCast_add, ← Int.natCast_emod, Int.toNat_natCast, Int.toNat_natCast]
        rw [er]
        refine cond_dk (by omega) (cond_r (by omega) (cond_r (by omega) (cond_d (fun hz => by omega) (fun _ => cond_dk ⟨by omega, by omega⟩ ⟨⟨rfl, by omega, by omega⟩, cond_k (beq_t rfl) (cond_k (room40 (by omega)) (cond_r (by omega) ?_))⟩))))
        rw [Int.zero_add, e2]
        exact ⟨k + 1, by omega, by dsimp only; omega, vst (V := VM0 p.T.length tu a b e f g) k, ⟨VB.fit_refl _, VB.fit_refl _, VB.fit_refl _, VB.fit_refl _, VB.fit_refl _, VB.fit_refl _, VB.fit_refl _, VB.fit_refl _, VB.fit_refl _, VB.fit_refl _, fit_grow (e := tsL (p.T.getD ((k + tu.toNat) % p.T.length) t0)) rfl (tuT_get h), trivial⟩, fun _ _ _ ho => ho⟩
      · obtain rfl : k = p.T.length := by omega
        exact cond_d (fun h => by omega) (fun _ => ⟨rfl, rfl, rfl⟩)
    · rintro lock tt h K ⟨hf, _, hK⟩
      refine ⟨0, hf, Nat.zero_le _, ?_⟩
      rintro ex vs bs ⟨rfl, rfl, rfl⟩
      exact hK
  · rintro lock tt h K ⟨_, hc, _⟩
    exact (hh hc).elim

theorem lM0_ok : LSound Try.prog true (.block 0 (.loop (loopB 0 (bodyOf Try.prog 6)))) 232 (lM0 p c1 c2 c3 t s v d c tu a b e f g) :=
  ghost_cells_row (m := 9) (nx := 10) (cs := [.slice (.el 0 [] 0 0) p.D.length c1, .nils, .slice (.el 2 [] 0 0) p.S.length c3]) (cs' := [.slice (.el 0 [] 0 0) p.D.length c1, .sl 10 0, .slice (.el 2 [] 0 0) p.S.length c3]) (ty := 26)
    (bs := nsM1.zip (BM1 p c1 c2 c3 t s v d c)) (t0 := dsM0.zip (VM0 p.T.length tu a b e f g 0))
    (tG (tuT p.T tu.toNat)) 5 32 lM0s_ok rfl (fun R xs hv hx => by
      obtain ⟨a0, _, k0, ⟨a1, _, k1, ⟨a2, _, k2, k3, rfl⟩, rfl⟩, rfl⟩ := hx
      exact ⟨_, _, k0, ⟨_, _, nil_ghost hv k1, ⟨_, _, k2, k3, rfl⟩, rfl⟩, rfl⟩) (by
      rintro lock t h K ⟨hf, hi, hK⟩
      exact ⟨hf, ⟨⟨rfl, rfl, VB.fit_refl _, VB.fit_refl _, VB.fit_refl _, VB.fit_refl _, VB.fit_refl _, VB.fit_refl _, VB.fit_refl _, VB.fit_refl _, VB.fit_refl _, VB.fit_refl _, VB.fit_refl _, trivial⟩, rfl, rfl, rfl, rfl, rfl, rfl, rfl, rfl, rfl, rfl, rfl, rfl, rfl, rfl, rfl, rfl, rfl, trivial⟩, hi, hK⟩)
end

/-- Is a span in another one? -/
def inSp (a b c d : Int) : Bool := decide (c ≤ a ∧ a ≤ b ∧ b ≤ d)
def inT : FuncId × Spec1 := (25, fun _ args h K => match args with
  | [.agg [.int .i64 a, .int .i64 b], .agg [.int .i64 c, .int .i64 d]] => K (.ret (.bool (inSp a b c d))) h
  | _ => False)

theorem inT_ok : SpOk Try.prog inT.1 inT.2 := by
  intro lock args h K hK
  simp only [inT] at hK
  split at hK
  · rename_i a b c d
    refine ⟨_, h, hK, lockP_refl _ _, ?_⟩
    refine by_bo good0 (f := 25) (b := inSp a b c d) ?_ rfl h
    refine cast (in_ev a b c d _).symm ?_
    have k : ∀ {x : Bool}, (x = true ↔ c ≤ a ∧ a ≤ b ∧ b ≤ d) → x = inSp a b c d := fun h => by unfold inSp; rw [Bool.eq_iff_iff, h, decide_eq_true_eq]
    refine cond_d (fun h1 => cond_d (fun h2 => k ?_) (fun h2 => k ?_)) (fun h1 => k ?_)
    · rw [decide_eq_true_eq]; omega
    · simp only [Bool.false_eq_true, false_iff]; omega
    · simp only [Bool.false_eq_true, false_iff]; omega
  · exact hK.elim
end Go.Sx.Nos

/- nose: NoseMore, evaluated. -/

namespace Go.Sx.Nos
open Go Go.Sx Go.Proofs
set_option maxRecDepth 1000000

def dsM2 : List Nat := [148, 149, 150, 7, 12, 13, 14, 15, 16, 17, 18, 19, 20, 21]
def VM2 (a b e f g : Int) (i : Int) : List VV := [.slice (.own 19 0) 2 2, I 2, I i, .ptr (.own 4 0), .bool false, I a, I b, .func 25 [] [], .ptr (.own 6 0), I e, .ptr (.own 7 0), I f, .ptr (.own 8 0), I g]
def nsM2 : List Nat := [0, 1, 2, 4, 6, 7, 8, 14, 17, 19]
def BM2 (p : Pn) (c1 c2 c3 : Nat) (t : Ts) (s : Sd) (v d c : Int × Int × Int) : List VB := [arD p, arT p, arS p, .cells (tsL t) 32, spB v, spB d, spB c, .vec (0 + p.T.length + 1) (tG (p.T ++ [t])) 5 32, .vec (0 + p.S.length + 1) (sG (p.S ++ [s])) 3 36,
  .cells [.slice (.el 0 [] 0 0) p.D.length c1, .sl 14 (0 + p.T.length + 1), .slice (.el 2 [] 0 0) p.S.length c3, .slice (.el 0 [] 0 0) p.D.length c1, .slice (.el 1 [] 0 0) p.T.length c2, .sl 17 (0 + p.S.length + 1)] 26]
theorem m20_ev (p : Pn) (c1 c2 c3 : Nat) (t : Ts) (s : Sd) (v d c : Int × Int × Int) (a b e f g : Int) (X : VEx → List VV → List VB → Prop) : codeE Try.prog (callN Try.prog (tabS [fisT, valT, difT, biaT, inT]) noL 10 20) (fun _ => none) true 10 232 0 (loopB 2 (bodyOf Try.prog 6)) (dsM2.zip (VM2 a b e f g 0)) ⟨20, nsM2.zip (BM2 p c1 c2 c3 t s v d c)⟩ (obs 20 dsM2 nsM2 X) =
  (∃ p_1, pnIs (VH.mk (21) ((20, VB.cells [VV.slice (VA.el 0 [] (0 : Int) 0) p.D.length c1, VV.sl 14 (0 + p.T.length + 1), VV.slice (VA.el 2 [] (0 : Int) 0) p.S.length c3] 26) :: (20, VB.cells [VV.nils, VV.nils, VV.nils] 26) :: nsM2.zip (BM2 p c1 c2 c3 t s v d c))) p_1 (sD p c1) (VV.sl 14 (0 + p.T.length + 1)) (sS p c3) ∧ True ∧ bif !decide ((fisF p_1).snd = (0 : Int)) then
 X VEx.normal (VM2 a b e f g 1) (BM2 p c1 c2 c3 t s v d c)
 else bif !(fisF p_1).fst then
 X VEx.normal (VM2 a b e f g 1) (BM2 p c1 c2 c3 t s v d c)
 else ∃ p_2, pnIs (VH.mk (21) ((20, VB.cells [VV.slice (VA.el 0 [] (0 : Int) 0) p.D.length c1, VV.sl 14 (0 + p.T.length + 1), VV.slice (VA.el 2 [] (0 : Int) 0) p.S.length c3] 26) :: (20, VB.cells [VV.nils, VV.nils, VV.nils] 26) :: nsM2.zip (BM2 p c1 c2 c3 t s v d c))) p_2 (sD p c1) (VV.sl 14 (0 + p.T.length + 1)) (sS p c3) ∧ n64 (g0 [a] 0) ∧ ∃ p_3, pnIs (VH.mk (22) ((21, VB.cells [I (valF p_2 (a)).fst, I (valF p_2 (a)).snd.fst] 34) :: (21, VB.cells [I 0, I 0] 34) :: (20, VB.cells [VV.slice (VA.el 0 [] (0 : Int) 0) p.D.length c1, VV.sl 14 (0 + p.T.length + 1), VV.slice (VA.el 2 [] (0 : Int) 0) p.S.length c3] 26) :: (20, VB.cells [VV.nils, VV.nils, VV.nils] 26) :: nsM2.zip (BM2 p c1 c2 c3 t s v d c))) p_3 (sD p c1) (VV.sl 14 (0 + p.T.length + 1)) (sS p c3) ∧ (n64 (g0 [a, b] 0) ∧ n64 (g0 [a, b] 1)) ∧ ∃ p_4, pnIs (VH.mk (23) ((22, VB.cells [I (difF p_3 (a) (b)).fst, I (difF p_3 (a) (b)).snd.fst] 34) :: (22, VB.cells [I 0, I 0] 34) :: (21, VB.cells [I (valF p_2 (a)).fst, I (valF p_2 (a)).snd.fst] 34) :: (21, VB.cells [I 0, I 0] 34) :: (20, VB.cells [VV.slice (VA.el 0 [] (0 : Int) 0) p.D.length c1, VV.sl 14 (0 + p.T.length + 1), VV.slice (VA.el 2 [] (0 : Int) 0) p.S.length c3] 26) :: (20, VB.cells [VV.nils, VV.nils, VV.nils] 26) :: nsM2.zip (BM2 p c1 c2 c3 t s v d c))) p_4 (sD p c1) (VV.sl 14 (0 + p.T.length + 1)) (sS p c3) ∧ True ∧ bif decide (e = (0 : Int)) then
 bif !decide ((valF p_2 (a)).snd.snd = (0 : Int)) then
 X VEx.ret (VM2 a b e f g 0) (BM2 p c1 c2 c3 t s v d c)
 else bif !inSp (valF p_2 (a)).fst (valF p_2 (a)).snd.fst v.fst v.snd.fst then
 X VEx.ret (VM2 a b e f g 0) (BM2 p c1 c2 c3 t s v d c)
 else bif decide (f = (0 : Int)) then
 bif !decide ((difF p_3 (a) (b)).snd.snd = (0 : Int)) then
 X VEx.ret (VM2 a b e f g 0) (BM2 p c1 c2 c3 t s v d c)
 else bif !inSp (difF p_3 (a) (b)).fst (difF p_3 (a) (b)).snd.fst d.fst d.snd.fst then
 X VEx.ret (VM2 a b e f g 0) (BM2 p c1 c2 c3 t s v d c)
 else bif decide (g = (0 : Int)) then
 bif !decide ((biaF p_4 (t.j) (t.p)).snd.snd = (0 : Int)) then
 X VEx.ret (VM2 a b e f g 0) (BM2 p c1 c2 c3 t s v d c)
 else bif !inSp (biaF p_4 (t.j) (t.p)).fst (biaF p_4 (t.j) (t.p)).snd.fst c.fst c.snd.fst then
 X VEx.ret (VM2 a b e f g 0) (BM2 p c1 c2 c3 t s v d c)
 else X VEx.normal (VM2 a b e f g 1) (BM2 p c1 c2 c3 t s v d c)
 else X VEx.normal (VM2 a b e f g 1) (BM2 p c1 c2 c3 t s v d c)
 else bif decide (g = (0 : Int)) then
 bif !decide ((biaF p_4 (t.j) (t.p)).snd.snd = (0 : Int)) then
 X VEx.ret (VM2 a b e f g 0) (BM2 p c1 c2 c3 t s v d c)
 else bif !inSp (biaF p_4 (t.j) (t.p)).fst (biaF p_4 (t.j) (t.p)).snd.fst c.fst c.snd.fst then
 X VEx.ret (VM2 a b e f g 0) (BM2 p c1 c2 c3 t s v d c)
 else X VEx.normal (VM2 a b e f g 1) (BM2 p c1 c2 c3 t s v d c)
 else X VEx.normal (VM2 a b e f g 1) (BM2 p c1 c2 c3 t s v d c)
 else bif decide (f = (0 : Int)) then
 bif !decide ((difF p_3 (a) (b)).snd.snd = (0 : Int)) then
 X VEx.ret (VM2 a b e f g 0) (BM2 p c1 c2 c3 t s v d c)
 else bif !inSp (difF p_3 (a) (b)).fst (difF p_3 (a) (b)).snd.fst d.fst d.snd.fst then
 X VEx.ret (VM2 a b e f g 0) (BM2 p c1 c2 c3 t s v d c)
 else bif decide (g = (0 : Int)) then
 bif !decide ((biaF p_4 (t.j) (t.p)).snd.snd = (0 : Int)) then
 X VEx.ret (VM2 a b e f g 0) (BM2 p c1 c2 c3 t s v d c)
 else bif !inSp (biaF p_4 (t.j) (t.p)).fst (biaF p_4 (t.j) (t.p)).snd.fst c.fst c.snd.fst then
 X VEx.ret (VM2 a b e f g 0) (BM2 p c1 c2 c3 t s v d c)
 else X VEx.normal (VM2 a b e f g 1) (BM2 p c1 c2 c3 t s v d c)
 else X VEx.normal (VM2 a b e f g 1) (BM2 p c1 c2 c3 t s v d c)
 else bif decide (g = (0 : Int)) then
 bif !decide ((biaF p_4 (t.j) (t.p)).snd.snd = (0 : Int)) then
 X VEx.ret (VM2 a b e f g 0) (BM2 p c1 c2 c3 t s v d c)
 else bif !inSp (biaF p_4 (t.j) (t.p)).fst (biaF p_4 (t.j) (t.p)).snd.fst c.fst c.snd.fst then
 X VEx.ret (VM2 a b e f g 0) (BM2 p c1 c2 c3 t s v d c)
 else X VEx.normal (VM2 a b e f g 1) (BM2 p c1 c2 c3 t s v d c)
 else X VEx.normal (VM2 a b e f g 1) (BM2 p c1 c2 c3 t s v d c)) := by kernel_rfl

theorem m21_ev (p : Pn) (c1 c2 c3 : Nat) (t : Ts) (s : Sd) (v d c : Int × Int × Int) (a b e f g : Int) (X : VEx → List VV → List VB → Prop) : codeE Try.prog (callN Try.prog (tabS [fisT, valT, difT, biaT, inT]) noL 10 20) (fun _ => none) true 10 232 0 (loopB 2 (bodyOf Try.prog 6)) (dsM2.zip (VM2 a b e f g 1)) ⟨20, nsM2.zip (BM2 p c1 c2 c3 t s v d c)⟩ (obs 20 dsM2 nsM2 X) =
  (∃ p_1, pnIs (VH.mk (21) ((20, VB.cells [VV.slice (VA.el 0 [] (0 : Int) 0) p.D.length c1, VV.slice (VA.el 1 [] (0 : Int) 0) p.T.length c2, VV.sl 17 (0 + p.S.length + 1)] 26) :: (20, VB.cells [VV.nils, VV.nils, VV.nils] 26) :: nsM2.zip (BM2 p c1 c2 c3 t s v d c))) p_1 (sD p c1) (sT1 p c2) (VV.sl 17 (0 + p.S.length + 1)) ∧ True ∧ bif !decide ((fisF p_1).snd = (0 : Int)) then
 X VEx.normal (VM2 a b e f g 2) (BM2 p c1 c2 c3 t s v d c)
 else bif !(fisF p_1).fst then
 X VEx.normal (VM2 a b e f g 2) (BM2 p c1 c2 c3 t s v d c)
 else ∃ p_2, pnIs (VH.mk (21) ((20, VB.cells [VV.slice (VA.el 0 [] (0 : Int) 0) p.D.length c1, VV.slice (VA.el 1 [] (0 : Int) 0) p.T.length c2, VV.sl 17 (0 + p.S.length + 1)] 26) :: (20, VB.cells [VV.nils, VV.nils, VV.nils] 26) :: nsM2.zip (BM2 p c1 c2 c3 t s v d c))) p_2 (sD p c1) (sT1 p c2) (VV.sl 17 (0 + p.S.length + 1)) ∧ n64 (g0 [a] 0) ∧ ∃ p_3, pnIs (VH.mk (22) ((21, VB.cells [I (valF p_2 (a)).fst, I (valF p_2 (a)).snd.fst] 34) :: (21, VB.cells [I 0, I 0] 34) :: (20, VB.cells [VV.slice (VA.el 0 [] (0 : Int) 0) p.D.length c1, VV.slice (VA.el 1 [] (0 : Int) 0) p.T.length c2, VV.sl 17 (0 + p.S.length + 1)] 26) :: (20, VB.cells [VV.nils, VV.nils, VV.nils] 26) :: nsM2.zip (BM2 p c1 c2 c3 t s v d c))) p_3 (sD p c1) (sT1 p c2) (VV.sl 17 (0 + p.S.length + 1)) ∧ (n64 (g0 [a, b] 0) ∧ n64 (g0 [a, b] 1)) ∧ ∃ p_4, pnIs (VH.mk (23) ((22, VB.cells [I (difF p_3 (a) (b)).fst, I (difF p_3 (a) (b)).snd.fst] 34) :: (22, VB.cells [I 0, I 0] 34) :: (21, VB.cells [I (valF p_2 (a)).fst, I (valF p_2 (a)).snd.fst] 34) :: (21, VB.cells [I 0, I 0] 34) :: (20, VB.cells [VV.slice (VA.el 0 [] (0 : Int) 0) p.D.length c1, VV.slice (VA.el 1 [] (0 : Int) 0) p.T.length c2, VV.sl 17 (0 + p.S.length + 1)] 26) :: (20, VB.cells [VV.nils, VV.nils, VV.nils] 26) :: nsM2.zip (BM2 p c1 c2 c3 t s v d c))) p_4 (sD p c1) (sT1 p c2) (VV.sl 17 (0 + p.S.length + 1)) ∧ True ∧ bif decide (e = (0 : Int)) then
 bif !decide ((valF p_2 (a)).snd.snd = (0 : Int)) then
 X VEx.ret (VM2 a b e f g 1) (BM2 p c1 c2 c3 t s v d c)
 else bif !inSp (valF p_2 (a)).fst (valF p_2 (a)).snd.fst v.fst v.snd.fst then
 X VEx.ret (VM2 a b e f g 1) (BM2 p c1 c2 c3 t s v d c)
 else bif decide (f = (0 : Int)) then
 bif !decide ((difF p_3 (a) (b)).snd.snd = (0 : Int)) then
 X VEx.ret (VM2 a b e f g 1) (BM2 p c1 c2 c3 t s v d c)
 else bif !inSp (difF p_3 (a) (b)).fst (difF p_3 (a) (b)).snd.fst d.fst d.snd.fst then
 X VEx.ret (VM2 a b e f g 1) (BM2 p c1 c2 c3 t s v d c)
 else bif decide (g = (0 : Int)) then
 bif !decide ((biaF p_4 (t.j) (t.p)).snd.snd = (0 : Int)) then
 X VEx.ret (VM2 a b e f g 1) (BM2 p c1 c2 c3 t s v d c)
 else bif !inSp (biaF p_4 (t.j) (t.p)).fst (biaF p_4 (t.j) (t.p)).snd.fst c.fst c.snd.fst then
 X VEx.ret (VM2 a b e f g 1) (BM2 p c1 c2 c3 t s v d c)
 else X VEx.normal (VM2 a b e f g 2) (BM2 p c1 c2 c3 t s v d c)
 else X VEx.normal (VM2 a b e f g 2) (BM2 p c1 c2 c3 t s v d c)
 else bif decide (g = (0 : Int)) then
 bif !decide ((biaF p_4 (t.j) (t.p)).snd.snd = (0 : Int)) then
 X VEx.ret (VM2 a b e f g 1) (BM2 p c1 c2 c3 t s v d c)
 else bif !inSp (biaF p_4 (t.j) (t.p)).fst (biaF p_4 (t.j) (t.p)).snd.fst c.fst c.snd.fst then
 X VEx.ret (VM2 a b e f g 1) (BM2 p c1 c2 c3 t s v d c)
 else X VEx.normal (VM2 a b e f g 2) (BM2 p c1 c2 c3 t s v d c)
 else X VEx.normal (VM2 a b e f g 2) (BM2 p c1 c2 c3 t s v d c)
 else bif decide (f = (0 : Int)) then
 bif !decide ((difF p_3 (a) (b)).snd.snd = (0 : Int)) then
 X VEx.ret (VM2 a b e f g 1) (BM2 p c1 c2 c3 t s v d c)
 else bif !inSp (difF p_3 (a) (b)).fst (difF p_3 (a) (b)).snd.fst d.fst d.snd.fst then
 X VEx.ret (VM2 a b e f g 1) (BM2 p c1 c2 c3 t s v d c)
 else bif decide (g = (0 : Int)) then
 bif !decide ((biaF p_4 (t.j) (t.p)).snd.snd = (0 : Int)) then
 X VEx.ret (VM2 a b e f g 1) (BM2 p c1 c2 c3 t s v d c)
 else bif !inSp (biaF p_4 (t.j) (t.p)).fst (biaF p_4 (t.j) (t.p)).snd.fst c.fst c.snd.fst then
 X VEx.ret (VM2 a b e f g 1) (BM2 p c1 c2 c3 t s v d c)
 else X VEx.normal (VM2 a b e f g 2) (BM2 p c1 c2 c3 t s v d c)
 else X VEx.normal (VM2 a b e f g 2) (BM2 p c1 c2 c3 t s v d c)
 else bif decide (g = (0 : Int)) then
 bif !decide ((biaF p_4 (t.j) (t.p)).snd.snd = (0 : Int)) then
 X VEx.ret (VM2 a b e f g 1) (BM2 p c1 c2 c3 t s v d c)
 else bif !inSp (biaF p_4 (t.j) (t.p)).fst (biaF p_4 (t.j) (t.p)).snd.fst c.fst c.snd.fst then
 X VEx.ret (VM2 a b e f g 1) (BM2 p c1 c2 c3 t s v d c)
 else X VEx.normal (VM2 a b e f g 2) (BM2 p c1 c2 c3 t s v d c)
 else X VEx.normal (VM2 a b e f g 2) (BM2 p c1 c2 c3 t s v d c)) := by kernel_rfl

theorem m22_ev (p : Pn) (c1 c2 c3 : Nat) (t : Ts) (s : Sd) (v d c : Int × Int × Int) (a b e f g : Int) (X : VEx → List VV → List VB → Prop) : codeE Try.prog (callN Try.prog (tabS [fisT, valT, difT, biaT, inT]) noL 10 20) (fun _ => none) true 10 232 0 (loopB 2 (bodyOf Try.prog 6)) (dsM2.zip (VM2 a b e f g 2)) ⟨20, nsM2.zip (BM2 p c1 c2 c3 t s v d c)⟩ (obs 20 dsM2 nsM2 X) =
  (X (VEx.exit 2) (VM2 a b e f g 2) (BM2 p c1 c2 c3 t s v d c)) := by kernel_rfl

noncomputable def lM2 (p : Pn) (c1 c2 c3 : Nat) (t : Ts) (s : Sd) (a b : Int) (v d c : Int × Int × Int) : LT := fun lock tt h K =>
  FitP lock h tt ⟨20, nsM2.zip (BM2 p c1 c2 c3 t s v d c)⟩ (dsM2.zip (VM2 a b v.2.2 d.2.2 c.2.2 0)) ∧ ((sOk16 a ∧ sOk16 b) ∧ v = valF p a ∧ d = difF p a b ∧ c = biaF p t.j t.p) ∧
    K .normal (dsM2.zip (VM2 a b v.2.2 d.2.2 c.2.2 2)) ⟨20, nsM2.zip (BM2 p c1 c2 c3 t s v d c)⟩
theorem more_ev (p : Pn) (c1 c2 c3 : Nat) (t : Ts) (s : Sd) (a b tu : Int) (a' b' : Int) (v d c : Int × Int × Int) (Q : VRes → Prop) : callN Try.prog (tabS [greatT, alvT, valT, difT, biaT]) (atF 6 [(0, lM0 p c1 c2 c3 t s v d c tu a' b' v.2.2 d.2.2 c.2.2), (2, lM2 p c1 c2 c3 t s a' b' v d c)]) 10 20 0 (.fn 6) [.agg (pnV p c1 c2 c3), .agg (tsL t), .agg (sdL s), .int .u8 a, .int .u8 b, .int .u8 tu] (pnH p) (fun r _ => Q r) =
  (∃ p_1, pnIs (VH.mk (6) [(5, VB.cells [I s.s, I s.lo, I s.hi] 36), (4, VB.cells [I t.j, I t.s, I t.p, I t.c, I t.o] 32), (3, VB.cells [VV.slice (VA.el 0 [] (0 : Int) 0) p.D.length c1, VV.slice (VA.el 1 [] (0 : Int) 0) p.T.length c2, VV.slice (VA.el 2 [] (0 : Int) 0) p.S.length c3] 26), (0, arD p), (1, arT p), (2, arS p)]) p_1 (sD p c1) (sT1 p c2) (sS p c3) ∧ True ∧ bif greatB p_1 ((14 : Int)) then
 Q (VRes.ret (VV.bool true))
 else bif inK IntKind.i64 a then
 bif inK IntKind.i64 b then
 ∃ p_2, pnIs (VH.mk (6) [(5, VB.cells [I s.s, I s.lo, I s.hi] 36), (4, VB.cells [I t.j, I t.s, I t.p, I t.c, I t.o] 32), (3, VB.cells [VV.slice (VA.el 0 [] (0 : Int) 0) p.D.length c1, VV.slice (VA.el 1 [] (0 : Int) 0) p.T.length c2, VV.slice (VA.el 2 [] (0 : Int) 0) p.S.length c3] 26), (0, arD p), (1, arT p), (2, arS p)]) p_2 (sD p c1) (sT1 p c2) (sS p c3) ∧ n64 (g0 [remZ a (16 : Int)] 0) ∧ ∃ p_3, pnIs (VH.mk (7) [(6, VB.cells [I (valF p_2 (remZ a (16 : Int))).fst, I (valF p_2 (remZ a (16 : Int))).snd.fst] 34), (6, VB.cells [I 0, I 0] 34), (5, VB.cells [I s.s, I s.lo, I s.hi] 36), (4, VB.cells [I t.j, I t.s, I t.p, I t.c, I t.o] 32), (3, VB.cells [VV.slice (VA.el 0 [] (0 : Int) 0) p.D.length c1, VV.slice (VA.el 1 [] (0 : Int) 0) p.T.length c2, VV.slice (VA.el 2 [] (0 : Int) 0) p.S.length c3] 26), (0, arD p), (1, arT p), (2, arS p)]) p_3 (sD p c1) (sT1 p c2) (sS p c3) ∧ (n64 (g0 [remZ a (16 : Int), remZ b (16 : Int)] 0) ∧ n64 (g0 [remZ a (16 : Int), remZ b (16 : Int)] 1)) ∧ ∃ p_4, pnIs (VH.mk (8) [(7, VB.cells [I (difF p_3 (remZ a (16 : Int)) (remZ b (16 : Int))).fst, I (difF p_3 (remZ a (16 : Int)) (remZ b (16 : Int))).snd.fst] 34), (7, VB.cells [I 0, I 0] 34), (6, VB.cells [I (valF p_2 (remZ a (16 : Int))).fst, I (valF p_2 (remZ a (16 : Int))).snd.fst] 34), (6, VB.cells [I 0, I 0] 34), (5, VB.cells [I s.s, I s.lo, I s.hi] 36), (4, VB.cells [I t.j, I t.s, I t.p, I t.c, I t.o] 32), (3, VB.cells [VV.slice (VA.el 0 [] (0 : Int) 0) p.D.length c1, VV.slice (VA.el 1 [] (0 : Int) 0) p.T.length c2, VV.slice (VA.el 2 [] (0 : Int) 0) p.S.length c3] 26), (0, arD p), (1, arT p), (2, arS p)]) p_4 (sD p c1) (sT1 p c2) (sS p c3) ∧ True ∧ FitP 0 (VH.mk (10) [(9, VB.cells [VV.slice (VA.el 0 [] (0 : Int) 0) p.D.length c1, VV.nils, VV.slice (VA.el 2 [] (0 : Int) 0) p.S.length c3] 26), (9, VB.cells [VV.slice (VA.el 0 [] (0 : Int) 0) p.D.length c1, VV.slice (VA.el 1 [] (0 : Int) 0) p.T.length c2, VV.slice (VA.el 2 [] (0 : Int) 0) p.S.length c3] 26), (9, VB.cells [VV.nils, VV.nils, VV.nils] 26), (8, VB.cells [I (biaF p_4 (t.j) (t.p)).fst, I (biaF p_4 (t.j) (t.p)).snd.fst] 34), (8, VB.cells [I 0, I 0] 34), (7, VB.cells [I (difF p_3 (remZ a (16 : Int)) (remZ b (16 : Int))).fst, I (difF p_3 (remZ a (16 : Int)) (remZ b (16 : Int))).snd.fst] 34), (7, VB.cells [I 0, I 0] 34), (6, VB.cells [I (valF p_2 (remZ a (16 : Int))).fst, I (valF p_2 (remZ a (16 : Int))).snd.fst] 34), (6, VB.cells [I 0, I 0] 34), (5, VB.cells [I s.s, I s.lo, I s.hi] 36), (4, VB.cells [I t.j, I t.s, I t.p, I t.c, I t.o] 32), (3, VB.cells [VV.slice (VA.el 0 [] (0 : Int) 0) p.D.length c1, VV.slice (VA.el 1 [] (0 : Int) 0) p.T.length c2, VV.slice (VA.el 2 [] (0 : Int) 0) p.S.length c3] 26), (0, arD p), (1, arT p), (2, arS p)]) [(76, I 0), (75, I (↑p.T.length : Int)), (74, VV.slice (VA.el 1 [] (0 : Int) 0) p.T.length c2), (73, VV.ptr (VA.own (3) (1))), (72, VV.ptr (VA.own (9) (1))), (22, VV.ptr (VA.own (9) 0)), (71, VV.agg [VV.slice (VA.el 0 [] (0 : Int) 0) p.D.length c1, VV.slice (VA.el 1 [] (0 : Int) 0) p.T.length c2, VV.slice (VA.el 2 [] (0 : Int) 0) p.S.length c3]), (21, I (biaF p_4 (t.j) (t.p)).snd.snd), (20, VV.ptr (VA.own (8) 0)), (70, I (biaF p_4 (t.j) (t.p)).snd.snd), (69, VV.agg [I (biaF p_4 (t.j) (t.p)).fst, I (biaF p_4 (t.j) (t.p)).snd.fst]), (62, VV.tup [VV.agg [I (biaF p_4 (t.j) (t.p)).fst, I (biaF p_4 (t.j) (t.p)).snd.fst], I (biaF p_4 (t.j) (t.p)).snd.snd]), (68, spV (biaF p_4 (t.j) (t.p))), (67, I t.p), (66, VV.ptr (VA.own (4) (2))), (65, I t.j), (64, VV.ptr (VA.own (4) 0)), (63, VV.agg [VV.slice (VA.el 0 [] (0 : Int) 0) p.D.length c1, VV.slice (VA.el 1 [] (0 : Int) 0) p.T.length c2, VV.slice (VA.el 2 [] (0 : Int) 0) p.S.length c3]), (19, I (difF p_3 (remZ a (16 : Int)) (remZ b (16 : Int))).snd.snd), (18, VV.ptr (VA.own (7) 0)), (61, I (difF p_3 (remZ a (16 : Int)) (remZ b (16 : Int))).snd.snd), (60, VV.agg [I (difF p_3 (remZ a (16 : Int)) (remZ b (16 : Int))).fst, I (difF p_3 (remZ a (16 : Int)) (remZ b (16 : Int))).snd.fst]), (55, VV.tup [VV.agg [I (difF p_3 (remZ a (16 : Int)) (remZ b (16 : Int))).fst, I (difF p_3 (remZ a (16 : Int)) (remZ b (16 : Int))).snd.fst], I (difF p_3 (remZ a (16 : Int)) (remZ b (16 : Int))).snd.snd]), (59, spV (difF p_3 (remZ a (16 : Int)) (remZ b (16 : Int)))), (58, I (remZ b (16 : Int))), (57, I (remZ a (16 : Int))), (56, VV.agg [VV.slice (VA.el 0 [] (0 : Int) 0) p.D.length c1, VV.slice (VA.el 1 [] (0 : Int) 0) p.T.length c2, VV.slice (VA.el 2 [] (0 : Int) 0) p.S.length c3]), (17, I (valF p_2 (remZ a (16 : Int))).snd.snd), (16, VV.ptr (VA.own (6) 0)), (54, I (valF p_2 (remZ a (16 : Int))).snd.snd), (53, VV.agg [I (valF p_2 (remZ a (16 : Int))).fst, I (valF p_2 (remZ a (16 : Int))).snd.fst]), (49, VV.tup [VV.agg [I (valF p_2 (remZ a (16 : Int))).fst, I (valF p_2 (remZ a (16 : Int))).snd.fst], I (valF p_2 (remZ a (16 : Int))).snd.snd]), (52, spV (valF p_2 (remZ a (16 : Int)))), (51, I (remZ a (16 : Int))), (50, VV.agg [VV.slice (VA.el 0 [] (0 : Int) 0) p.D.length c1, VV.slice (VA.el 1 [] (0 : Int) 0) p.T.length c2, VV.slice (VA.el 2 [] (0 : Int) 0) p.S.length c3]), (15, VV.func 25 [] []), (14, I (remZ b (16 : Int))), (13, I (remZ a (16 : Int))), (48, I (remZ b (16 : Int))), (47, I b), (46, VV.int IntKind.u8 b), (45, I (remZ a (16 : Int))), (44, I a), (43, VV.int IntKind.u8 a), (41, VV.bool false), (41, boV (greatB p_1 ((14 : Int)))), (40, VV.agg [VV.slice (VA.el 0 [] (0 : Int) 0) p.D.length c1, VV.slice (VA.el 1 [] (0 : Int) 0) p.T.length c2, VV.slice (VA.el 2 [] (0 : Int) 0) p.S.length c3]), (12, VV.bool false), (8, VV.ptr (VA.own (5) 0)), (7, VV.ptr (VA.own (4) 0)), (6, VV.ptr (VA.own (3) 0)), (0, VV.agg (pnV p c1 c2 c3)), (1, VV.agg (tsL t)), (2, VV.agg (sdL s)), (3, VV.int IntKind.u8 a), (4, VV.int IntKind.u8 b), (5, VV.int IntKind.u8 tu)] (VH.mk 10 (nsM1.zip (BM1 p c1 c2 c3 t s v d c))) (dsM0.zip (VM0 p.T.length tu a' b' v.snd.snd d.snd.snd c.snd.snd (0 : Int))) ∧ (((0 : Int) ≤ tu ∧ tu ≤ (255 : Int)) ∧ p.T.length ≤ 100) ∧ ∃ p_5, pnIs (VH.mk 11 (nsM0.zip (BM0 p c1 c2 c3 t s v d c p.T.length (tG (tuT p.T tu.toNat))))) p_5 (sD p c1) (VV.sl 10 p.T.length) (sS p c3) ∧ n64 (g0 [a'] 0) ∧ ∃ p_6, pnIs (VH.mk (12) ((11, VB.cells [I (valF p_5 (a')).fst, I (valF p_5 (a')).snd.fst] 34) :: (11, VB.cells [I 0, I 0] 34) :: nsM0.zip (BM0 p c1 c2 c3 t s v d c p.T.length (tG (tuT p.T tu.toNat))))) p_6 (sD p c1) (VV.sl 10 p.T.length) (sS p c3) ∧ (n64 (g0 [a', b'] 0) ∧ n64 (g0 [a', b'] 1)) ∧ bif !(decide ((valF p_5 (a')).fst = v.fst) && (decide ((valF p_5 (a')).snd.fst = v.snd.fst) && true)) then
 Q (VRes.ret (VV.bool false))
 else bif !decide ((valF p_5 (a')).snd.snd = v.snd.snd) then
 Q (VRes.ret (VV.bool false))
 else bif !(decide ((difF p_6 (a') (b')).fst = d.fst) && (decide ((difF p_6 (a') (b')).snd.fst = d.snd.fst) && true)) then
 Q (VRes.ret (VV.bool false))
 else bif !decide ((difF p_6 (a') (b')).snd.snd = d.snd.snd) then
 Q (VRes.ret (VV.bool false))
 else (∀ (j : Nat), j < p.T.length → (([] : List Int) = [] ∧ (0 : Int) ≤ (0 : Int) + (↑j : Int) ∧ (0 : Int) + (↑j : Int) < (↑p.T.length : Int)) ∧ ((fun (_ : List Int) (i : Int) ↦ tG p.T i.toNat) [] ((0 : Int) + (↑j : Int))).all VV.one = true) ∧ bif roomB (0 + p.T.length) (40) then
 bif (0 + p.T.length).beq (0 + p.T.length) then
 bif roomB (0 + p.T.length + 1) (40) then
 (∀ (j : Nat), j < p.S.length → (([] : List Int) = [] ∧ (0 : Int) ≤ (0 : Int) + (↑j : Int) ∧ (0 : Int) + (↑j : Int) < (↑p.S.length : Int)) ∧ ((fun (_ : List Int) (i : Int) ↦ sG p.S i.toNat) [] ((0 : Int) + (↑j : Int))).all VV.one = true) ∧ bif roomB (0 + p.S.length) (24) then
 bif (0 + p.S.length).beq (0 + p.S.length) then
 bif roomB (0 + p.S.length + 1) (24) then
 FitP 0 (VH.mk (20) ((19, VB.cells [VV.slice (VA.el 0 [] (0 : Int) 0) p.D.length c1, VV.sl (14) (0 + p.T.length + 1), VV.slice (VA.el 2 [] (0 : Int) 0) p.S.length c3, VV.slice (VA.el 0 [] (0 : Int) 0) p.D.length c1, VV.slice (VA.el 1 [] (0 : Int) 0) p.T.length c2, VV.sl (17) (0 + p.S.length + 1)] 26) :: (16, VB.cells [VV.slice (VA.el 0 [] (0 : Int) 0) p.D.length c1, VV.slice (VA.el 1 [] (0 : Int) 0) p.T.length c2, VV.sl (17) (0 + p.S.length + 1)] 26) :: (17, VB.vec (0 + p.S.length + 1) (catG (0 + p.S.length) (catG 0 (fun j => List.take (3) (List.drop (j * (3)) [])) fun j => (fun (_ : List Int) (i : Int) ↦ sG p.S i.toNat) [] ((0 : Int) + (↑j : Int))) fun j => List.take (3) (List.drop (j * (3)) [I s.s, I s.lo, I s.hi])) (3) 36) :: (18, VB.vec 1 (fun j => List.take (3) (List.drop (j * (3)) [I s.s, I s.lo, I s.hi])) (3) 36) :: (17, VB.vec (0 + p.S.length) (catG 0 (fun j => List.take (3) (List.drop (j * (3)) [])) fun j => (fun (_ : List Int) (i : Int) ↦ sG p.S i.toNat) [] ((0 : Int) + (↑j : Int))) (3) 36) :: (17, VB.vec 0 (fun j => List.take (3) (List.drop (j * (3)) [])) (3) 36) :: (16, VB.cells [VV.slice (VA.el 0 [] (0 : Int) 0) p.D.length c1, VV.slice (VA.el 1 [] (0 : Int) 0) p.T.length c2, VV.slice (VA.el 2 [] (0 : Int) 0) p.S.length c3] 26) :: (16, VB.cells [VV.nils, VV.nils, VV.nils] 26) :: (13, VB.cells [VV.slice (VA.el 0 [] (0 : Int) 0) p.D.length c1, VV.sl (14) (0 + p.T.length + 1), VV.slice (VA.el 2 [] (0 : Int) 0) p.S.length c3] 26) :: (14, VB.vec (0 + p.T.length + 1) (catG (0 + p.T.length) (catG 0 (fun j => List.take (5) (List.drop (j * (5)) [])) fun j => (fun (_ : List Int) (i : Int) ↦ tG p.T i.toNat) [] ((0 : Int) + (↑j : Int))) fun j => List.take (5) (List.drop (j * (5)) [I t.j, I t.s, I t.p, I t.c, I t.o])) (5) 32) :: (15, VB.vec 1 (fun j => List.take (5) (List.drop (j * (5)) [I t.j, I t.s, I t.p, I t.c, I t.o])) (5) 32) :: (14, VB.vec (0 + p.T.length) (catG 0 (fun j => List.take (5) (List.drop (j * (5)) [])) fun j => (fun (_ : List Int) (i : Int) ↦ tG p.T i.toNat) [] ((0 : Int) + (↑j : Int))) (5) 32) :: (14, VB.vec 0 (fun j => List.take (5) (List.drop (j * (5)) [])) (5) 32) :: (13, VB.cells [VV.slice (VA.el 0 [] (0 : Int) 0) p.D.length c1, VV.slice (VA.el 1 [] (0 : Int) 0) p.T.length c2, VV.slice (VA.el 2 [] (0 : Int) 0) p.S.length c3] 26) :: (13, VB.cells [VV.nils, VV.nils, VV.nils] 26) :: (12, VB.cells [I (difF p_6 (a') (b')).fst, I (difF p_6 (a') (b')).snd.fst] 34) :: (12, VB.cells [I 0, I 0] 34) :: (11, VB.cells [I (valF p_5 (a')).fst, I (valF p_5 (a')).snd.fst] 34) :: (11, VB.cells [I 0, I 0] 34) :: nsM0.zip (BM0 p c1 c2 c3 t s v d c p.T.length (tG (tuT p.T tu.toNat))))) ((150, I 0) :: (149, I (↑2 : Int)) :: (148, VV.slice (VA.own (19) 0) 2 2) :: (147, VV.agg [VV.slice (VA.el 0 [] (0 : Int) 0) p.D.length c1, VV.slice (VA.el 1 [] (0 : Int) 0) p.T.length c2, VV.sl (17) (0 + p.S.length + 1)]) :: (146, VV.agg [VV.slice (VA.el 0 [] (0 : Int) 0) p.D.length c1, VV.sl (14) (0 + p.T.length + 1), VV.slice (VA.el 2 [] (0 : Int) 0) p.S.length c3]) :: (145, VV.ptr (VA.own (16) (2))) :: (144, VV.sl (17) (0 + p.S.length + 1)) :: (143, VV.sl (18) 1) :: (142, VV.agg [I s.s, I s.lo, I s.hi]) :: (141, VV.sl (17) (0 + p.S.length)) :: (140, VV.slice (VA.el 2 [] (0 : Int) 0) p.S.length c3) :: (139, VV.ptr (VA.own 3 (2))) :: (138, VV.sl (17) 0) :: (29, VV.ptr (VA.own (16) 0)) :: (137, VV.agg [VV.slice (VA.el 0 [] (0 : Int) 0) p.D.length c1, VV.slice (VA.el 1 [] (0 : Int) 0) p.T.length c2, VV.slice (VA.el 2 [] (0 : Int) 0) p.S.length c3]) :: (136, VV.ptr (VA.own (13) (1))) :: (135, VV.sl (14) (0 + p.T.length + 1)) :: (134, VV.sl (15) 1) :: (133, VV.agg [I t.j, I t.s, I t.p, I t.c, I t.o]) :: (132, VV.sl (14) (0 + p.T.length)) :: (131, VV.slice (VA.el 1 [] (0 : Int) 0) p.T.length c2) :: (130, VV.ptr (VA.own 3 (1))) :: (129, VV.sl (14) 0) :: (28, VV.ptr (VA.own (13) 0)) :: (128, VV.agg [VV.slice (VA.el 0 [] (0 : Int) 0) p.D.length c1, VV.slice (VA.el 1 [] (0 : Int) 0) p.T.length c2, VV.slice (VA.el 2 [] (0 : Int) 0) p.S.length c3]) :: (127, VV.bool false) :: (127, VV.bool !decide ((difF p_6 (a') (b')).snd.snd = d.snd.snd)) :: (126, VV.bool !decide ((difF p_6 (a') (b')).snd.snd = d.snd.snd)) :: (123, VV.bool false) :: (125, I d.snd.snd) :: (123, VV.bool false) :: (124, I (difF p_6 (a') (b')).snd.snd) :: (123, VV.bool false) :: (123, VV.bool !(decide ((difF p_6 (a') (b')).fst = d.fst) && (decide ((difF p_6 (a') (b')).snd.fst = d.snd.fst) && true))) :: (122, VV.bool !(decide ((difF p_6 (a') (b')).fst = d.fst) && (decide ((difF p_6 (a') (b')).snd.fst = d.snd.fst) && true))) :: (121, VV.bool !(decide ((difF p_6 (a') (b')).fst = d.fst) && (decide ((difF p_6 (a') (b')).snd.fst = d.snd.fst) && true))) :: (118, VV.bool false) :: (120, VV.agg [I d.fst, I d.snd.fst]) :: (118, VV.bool false) :: (119, VV.agg [I (difF p_6 (a') (b')).fst, I (difF p_6 (a') (b')).snd.fst]) :: (118, VV.bool false) :: (118, VV.bool !decide ((valF p_5 (a')).snd.snd = v.snd.snd)) :: (117, VV.bool !decide ((valF p_5 (a')).snd.snd = v.snd.snd)) :: (116, VV.bool !decide ((valF p_5 (a')).snd.snd = v.snd.snd)) :: (113, VV.bool false) :: (115, I v.snd.snd) :: (113, VV.bool false) :: (114, I (valF p_5 (a')).snd.snd) :: (113, VV.bool false) :: (113, VV.bool !(decide ((valF p_5 (a')).fst = v.fst) && (decide ((valF p_5 (a')).snd.fst = v.snd.fst) && true))) :: (112, VV.bool !(decide ((valF p_5 (a')).fst = v.fst) && (decide ((valF p_5 (a')).snd.fst = v.snd.fst) && true))) :: (111, VV.agg [I v.fst, I v.snd.fst]) :: (110, VV.agg [I (valF p_5 (a')).fst, I (valF p_5 (a')).snd.fst]) :: (27, I (difF p_6 (a') (b')).snd.snd) :: (26, VV.ptr (VA.own (12) 0)) :: (109, I (difF p_6 (a') (b')).snd.snd) :: (108, VV.agg [I (difF p_6 (a') (b')).fst, I (difF p_6 (a') (b')).snd.fst]) :: (103, VV.tup [VV.agg [I (difF p_6 (a') (b')).fst, I (difF p_6 (a') (b')).snd.fst], I (difF p_6 (a') (b')).snd.snd]) :: (107, spV (difF p_6 (a') (b'))) :: (106, I b') :: (105, I a') :: (104, VV.agg [VV.slice (VA.el 0 [] (0 : Int) 0) p.D.length c1, VV.sl 10 p.T.length, VV.slice (VA.el 2 [] (0 : Int) 0) p.S.length c3]) :: (25, I (valF p_5 (a')).snd.snd) :: (24, VV.ptr (VA.own (11) 0)) :: (102, I (valF p_5 (a')).snd.snd) :: (101, VV.agg [I (valF p_5 (a')).fst, I (valF p_5 (a')).snd.fst]) :: (97, VV.tup [VV.agg [I (valF p_5 (a')).fst, I (valF p_5 (a')).snd.fst], I (valF p_5 (a')).snd.snd]) :: (100, spV (valF p_5 (a'))) :: (99, I a') :: (98, VV.agg [VV.slice (VA.el 0 [] (0 : Int) 0) p.D.length c1, VV.sl 10 p.T.length, VV.slice (VA.el 2 [] (0 : Int) 0) p.S.length c3]) :: dsM0.zip (VM0 p.T.length tu a' b' v.snd.snd d.snd.snd c.snd.snd (↑p.T.length : Int))) (VH.mk 20 (nsM2.zip (BM2 p c1 c2 c3 t s v d c))) (dsM2.zip (VM2 a' b' v.snd.snd d.snd.snd c.snd.snd (0 : Int))) ∧ ((sOk16 a' ∧ sOk16 b') ∧ v = valF p a' ∧ d = difF p a' b' ∧ c = biaF p t.j t.p) ∧ Q (VRes.ret (VV.bool true))
 else False
 else False
 else False
 else False
 else False
 else False
 else False
 else False) := by kernel_rfl


end Go.Sx.Nos

/- nose: NoseMore. -/

namespace Go.Sx.Nos
open Go Go.Sx Go.Proofs
set_option maxRecDepth 1000000

/-- One part of a round's test. -/
theorem cond_e {e e1 : Int} {i : Bool} {R A : Prop} (h : e = 0 → e1 = 0 ∧ i = true) (hA : A) : bif decide (e = 0) then (bif !decide (e1 = 0) then R else bif !i then R else A) else A := by
  by_cases h0 : e = 0
  · obtain ⟨h1, h2⟩ := h h0
    rw [decide_eq_true h0, decide_eq_true h1, h2]
    exact hA
  · rw [decide_eq_false h0]
    exact hA

theorem inSp_of {a b c d : Int} (h : c ≤ a ∧ a ≤ b ∧ b ≤ d) : inSp a b c d = true := decide_eq_true h

section
variable {p : Pn} {c1 c2 c3 : Nat} {t : Ts} {s : Sd} {v d c : Int × Int × Int} {a b tu : Int}

/-- What a panel that says more leaves of the spans. -/
theorem more_q {q : Pn} (hi : sOk16 a) (hk : sOk16 b) (hq : PnOk q) (hf : fitF q) (hsub : ∀ x, Sol q x → Sol p x) (hth : ∀ n, thP p n → thP q n) :
    ((valF p a).2.2 = 0 → (valF q a).2.2 = 0 ∧ inSp (valF q a).1 (valF q a).2.1 (valF p a).1 (valF p a).2.1 = true) ∧
    ((difF p a b).2.2 = 0 → (difF q a b).2.2 = 0 ∧ inSp (difF q a b).1 (difF q a b).2.1 (difF p a b).1 (difF p a b).2.1 = true) ∧
    (∀ y z, (biaF p y z).2.2 = 0 → (biaF q y z).2.2 = 0 ∧ inSp (biaF q y z).1 (biaF q y z).2.1 (biaF p y z).1 (biaF p y z).2.1 = true) := by
  rw [val_in hi, val_in hi, dif_in hi hk, dif_in hi hk]
  refine ⟨fun h => ?_, fun h => ?_, fun y z h => ?_⟩
  · obtain ⟨h1, h2⟩ := bt_more hq hf hsub hth h
    exact ⟨h1, inSp_of h2⟩
  · obtain ⟨h1, h2⟩ := bt_more hq hf hsub hth h
    exact ⟨h1, inSp_of h2⟩
  · obtain ⟨h1, h2⟩ := bt_more hq hf hsub hth h
    exact ⟨h1, inSp_of h2⟩

theorem fvd_ok : ∀ x ∈ [fisT, valT, difT, biaT, inT], SpOk Try.prog x.1 x.2 := fun x hx => by
  simp only [List.mem_cons, List.not_mem_nil, or_false] at hx
  rcases hx with rfl | rfl | rfl | rfl | rfl
  · exact fisT_ok
  · exact valT_ok
  · exact difT_ok
  · exact biaT_ok
  · exact inT_ok

theorem isT_14 {h : VH} {m : Nat} {T : List Ts} {x : Ts} (g : h.at m = .vec (0 + T.length + 1) (tG (T ++ [x])) 5 32) : isList h (.sl m (0 + T.length + 1)) (T ++ [x]).length 5 (tG (T ++ [x])) :=
  ⟨by rw [List.length_append]; show 0 + T.length + 1 = T.length + 1; omega, _, _, g, fun _ _ => rfl⟩
theorem isS_17 {h : VH} {m : Nat} {T : List Sd} {x : Sd} (g : h.at m = .vec (0 + T.length + 1) (sG (T ++ [x])) 3 36) : isList h (.sl m (0 + T.length + 1)) (T ++ [x]).length 3 (sG (T ++ [x])) :=
  ⟨by rw [List.length_append]; show 0 + T.length + 1 = T.length + 1; omega, _, _, g, fun _ _ => rfl⟩

/-- A round ends where the panel does not fit. -/
theorem cond_q {q : Pn} {A W : Prop} (hA : A) (hW : PnOk q → fitF q → W) : bif !decide ((fisF q).2 = 0) then A else bif !(fisF q).1 then A else W := by
  by_cases hq : PnOk q
  · by_cases hf : fitF q
    · have e : fisF q = (true, 0) := by unfold fisF; rw [if_pos hq, fitB_t hf]
      rw [e]
      exact hW hq hf
    · have e : fisF q = (false, 0) := by unfold fisF; rw [if_pos hq, fitB_f hf]
      rw [e]
      exact hA
  · have e : fisF q = (false, 1) := by unfold fisF; rw [if_neg hq]
    rw [e]
    exact hA

theorem m20_r {X : VEx → List VV → List VB → Prop} (hi : sOk16 a) (hk : sOk16 b) (hX : X .normal (VM2 a b (valF p a).2.2 (difF p a b).2.2 (biaF p t.j t.p).2.2 1) (BM2 p c1 c2 c3 t s (valF p a) (difF p a b) (biaF p t.j t.p))) :
    codeE Try.prog (callN Try.prog (tabS [fisT, valT, difT, biaT, inT]) noL 10 20) (fun _ => none) true 10 232 0 (loopB 2 (bodyOf Try.prog 6)) (dsM2.zip (VM2 a b (valF p a).2.2 (difF p a b).2.2 (biaF p t.j t.p).2.2 0)) ⟨20, nsM2.zip (BM2 p c1 c2 c3 t s (valF p a) (difF p a b) (biaF p t.j t.p))⟩ (obs 20 dsM2 nsM2 X) := by
  refine cast (m20_ev p c1 c2 c3 t s _ _ _ a b _ _ _ _).symm ?_
  have q1 : ∀ {h : VH}, h.at 0 = arD p → h.at 14 = .vec (0 + p.T.length + 1) (tG (p.T ++ [t])) 5 32 → h.at 2 = arS p → pnIs h (moP p t) (sD p c1) (.sl 14 (0 + p.T.length + 1)) (sS p c3) := fun g1 g2 g3 => ⟨isD_own g1, isT_14 g2, isS_own g3⟩
  refine ⟨moP p t, q1 rfl rfl rfl, trivial, cond_q hX fun hq hf => ?_⟩
  obtain ⟨g1, g2, g3⟩ := more_q (p := p) hi hk hq hf (fun x => mo_sol) (fun n => mo_th)
  exact ⟨moP p t, q1 rfl rfl rfl, n64_16 hi, moP p t, q1 rfl rfl rfl, ⟨n64_16 hi, n64_16 hk⟩, moP p t, q1 rfl rfl rfl, trivial, cond_e g1 (cond_e g2 (cond_e (g3 _ _) hX))⟩

theorem m21_r {X : VEx → List VV → List VB → Prop} (hi : sOk16 a) (hk : sOk16 b) (hX : X .normal (VM2 a b (valF p a).2.2 (difF p a b).2.2 (biaF p t.j t.p).2.2 2) (BM2 p c1 c2 c3 t s (valF p a) (difF p a b) (biaF p t.j t.p))) :
    codeE Try.prog (callN Try.prog (tabS [fisT, valT, difT, biaT, inT]) noL 10 20) (fun _ => none) true 10 232 0 (loopB 2 (bodyOf Try.prog 6)) (dsM2.zip (VM2 a b (valF p a).2.2 (difF p a b).2.2 (biaF p t.j t.p).2.2 1)) ⟨20, nsM2.zip (BM2 p c1 c2 c3 t s (valF p a) (difF p a b) (biaF p t.j t.p))⟩ (obs 20 dsM2 nsM2 X) := by
  refine cast (m21_ev p c1 c2 c3 t s _ _ _ a b _ _ _ _).symm ?_
  have q1 : ∀ {h : VH}, h.at 0 = arD p → h.at 1 = arT p → h.at 17 = .vec (0 + p.S.length + 1) (sG (p.S ++ [s])) 3 36 → pnIs h (stP p s) (sD p c1) (sT1 p c2) (.sl 17 (0 + p.S.length + 1)) := fun g1 g2 g3 => ⟨isD_own g1, isT_own g2, isS_17 g3⟩
  refine ⟨stP p s, q1 rfl rfl rfl, trivial, cond_q hX fun hq hf => ?_⟩
  obtain ⟨g1, g2, g3⟩ := more_q (p := p) hi hk hq hf (fun x h => (st_sol.1 h).1) (fun n => st_th)
  exact ⟨stP p s, q1 rfl rfl rfl, n64_16 hi, stP p s, q1 rfl rfl rfl, ⟨n64_16 hi, n64_16 hk⟩, stP p s, q1 rfl rfl rfl, trivial, cond_e g1 (cond_e g2 (cond_e (g3 _ _) hX))⟩

theorem m22_r {X : VEx → List VV → List VB → Prop} {e f g : Int} (hX : X (.exit 2) (VM2 a b e f g 2) (BM2 p c1 c2 c3 t s v d c)) :
    codeE Try.prog (callN Try.prog (tabS [fisT, valT, difT, biaT, inT]) noL 10 20) (fun _ => none) true 10 232 0 (loopB 2 (bodyOf Try.prog 6)) (dsM2.zip (VM2 a b e f g 2)) ⟨20, nsM2.zip (BM2 p c1 c2 c3 t s v d c)⟩ (obs 20 dsM2 nsM2 X) :=
  cast (m22_ev p c1 c2 c3 t s v d c a b e f g X).symm hX

theorem lM2_ok : LSound Try.prog true (.block 2 (.loop (loopB 2 (bodyOf Try.prog 6)))) 232 (lM2 p c1 c2 c3 t s a b v d c) := by
  by_cases hh : (sOk16 a ∧ sOk16 b) ∧ v = valF p a ∧ d = difF p a b ∧ c = biaF p t.j t.p
  · obtain ⟨⟨hi, hk⟩, rfl, rfl, rfl⟩ := hh
    refine loop_row hmix (tab_good hmix fvd_ok (unroll := 10) 20) (un := 10) (ds := dsM2) (ns := nsM2) (nx := 20) (fun k : Nat => VM2 a b (valF p a).2.2 (difF p a b).2.2 (biaF p t.j t.p).2.2 k) (fun _ => BM2 p c1 c2 c3 t s (valF p a) (difF p a b) (biaF p t.j t.p)) (fun k => k ≤ 2) (fun k => 2 - k)
      (fun _ ex vs bs => ex = .exit 2 ∧ vs = VM2 a b (valF p a).2.2 (difF p a b).2.2 (biaF p t.j t.p).2.2 2 ∧ bs = BM2 p c1 c2 c3 t s (valF p a) (difF p a b) (biaF p t.j t.p)) noL_ok ?_ ?_
    · intro k hk2
      match k, hk2 with
      | 0, _ => exact m20_r hi hk ⟨1, by decide, by decide, rfl, fitBs_refl _, fun _ _ _ ho => ho⟩
      | 1, _ => exact m21_r hi hk ⟨2, by decide, by decide, rfl, fitBs_refl _, fun _ _ _ ho => ho⟩
      | 2, _ => exact m22_r ⟨rfl, rfl, rfl⟩
    · rintro lock tt h K ⟨hf, _, hK⟩
      refine ⟨0, hf, Nat.zero_le _, ?_⟩
      rintro ex vs bs ⟨rfl, rfl, rfl⟩
      exact hK
  · rintro lock tt h K ⟨_, hc, _⟩
    exact (hh hc).elim

theorem great_le {p : Pn} {m : Int} (h : greatB p m = false) : p.T.length ≤ 52 ∧ p.S.length ≤ 20 ∧ p.D.length ≤ 20 := by
  unfold greatB at h
  have := of_decide_eq_false h
  omega

theorem mrL_ok : LoopsOk Try.prog 6 [(0, lM0 p c1 c2 c3 t s v d c tu a b v.2.2 d.2.2 c.2.2), (2, lM2 p c1 c2 c3 t s a b v d c)] := by
  intro x hx
  simp only [List.mem_cons, List.not_mem_nil, or_false] at hx
  rcases hx with rfl | rfl
  · exact ⟨by kernel_rfl, lM0_ok⟩
  · exact ⟨by kernel_rfl, lM2_ok⟩

theorem gavdb_ok : ∀ x ∈ [greatT, alvT, valT, difT, biaT], SpOk Try.prog x.1 x.2 := fun x hx => by
  simp only [List.mem_cons, List.not_mem_nil, or_false] at hx
  rcases hx with rfl | rfl | rfl | rfl | rfl
  · exact greatT_ok
  · exact alvT_ok
  · exact valT_ok
  · exact difT_ok
  · exact biaT_ok

theorem fit_app5 {T R : List Ts} {G0 f2 : Nat → List VV} (h2 : ∀ j, j < R.length → f2 j = tG R j) : ∀ k, k < 0 + T.length + R.length → catG (0 + T.length) (catG 0 G0 fun j => (fun (_ : List Int) (i : Int) => tG T i.toNat) [] ((0 : Int) + (j : Int))) f2 k = tG (T ++ R) k := fun k hk => by
  refine cat_app (n := T.length) (m := R.length) (gg := tG (T ++ R)) (fun j hj => ?_) (fun j hj => ?_) k (by omega)
  · show tG T ((0 : Int) + (j : Int)).toNat = _
    rw [zero_toNat]; exact tG_l hj
  · rw [h2 j hj]; exact tG_r.symm
theorem fit_app3 {T R : List Sd} {G0 f2 : Nat → List VV} (h2 : ∀ j, j < R.length → f2 j = sG R j) : ∀ k, k < 0 + T.length + R.length → catG (0 + T.length) (catG 0 G0 fun j => (fun (_ : List Int) (i : Int) => sG T i.toNat) [] ((0 : Int) + (j : Int))) f2 k = sG (T ++ R) k := fun k hk => by
  refine cat_app (n := T.length) (m := R.length) (gg := sG (T ++ R)) (fun j hj => ?_) (fun j hj => ?_) k (by omega)
  · show sG T ((0 : Int) + (j : Int)).toNat = _
    rw [zero_toNat]; exact sG_l hj
  · rw [h2 j hj]; exact sG_r.symm

theorem more_v (ha : 0 ≤ a ∧ a ≤ 255) (hb : 0 ≤ b ∧ b ≤ 255) (htu : 0 ≤ tu ∧ tu ≤ 255) : ∃ h', CallsV Try.prog 6 [.agg (pnV p c1 c2 c3), .agg (tsL t), .agg (sdL s), .int .u8 a, .int .u8 b, .int .u8 tu] (pnH p) (.ret (.bool true)) h' := by
  have hi := rem16 ha.1
  have hk := rem16 hb.1
  have ni := n64_16 hi
  have nk := n64_16 hk
  obtain ⟨v, hv⟩ : ∃ v, v = valF p (remZ a 16) := ⟨_, rfl⟩
  obtain ⟨d, hd⟩ : ∃ d, d = difF p (remZ a 16) (remZ b 16) := ⟨_, rfl⟩
  obtain ⟨c, hc⟩ : ∃ c, c = biaF p t.j t.p := ⟨_, rfl⟩
  obtain ⟨r, h', rfl, hc⟩ := of_callN (callL_good hmix (tabs_ok gavdb_ok) (mrL_ok (p := p) (c1 := c1) (c2 := c2) (c3 := c3) (v := v) (d := d) (c := c) (t := t) (s := s) (a := remZ a 16) (b := remZ b 16) (tu := tu)) (un := 10) 20) (f := 6)
    (args := [.agg (pnV p c1 c2 c3), .agg (tsL t), .agg (sdL s), .int .u8 a, .int .u8 b, .int .u8 tu]) (h := pnH p) (K := fun r _ => r = .ret (.bool true))
    (by
      refine cast (more_ev p c1 c2 c3 t s a b tu (remZ a 16) (remZ b 16) v d c _).symm ?_
      refine ⟨p, pnIs_own rfl rfl rfl, trivial, cond_b (fun _ => rfl) (fun hg => cond_r (by omega) (cond_r (by omega) ⟨p, pnIs_own rfl rfl rfl, ni, p, pnIs_own rfl rfl rfl, ⟨ni, nk⟩, p, pnIs_own rfl rfl rfl, trivial, ?_⟩))⟩
      obtain ⟨g1, g2, g3⟩ := great_le (by simpa using hg)
      rw [← hv, ← hd, ← hc]
      have e1 : valF (tuP p tu.toNat) (remZ a 16) = v := by rw [hv, val_in hi, val_in hi]; exact tu_bt _ _ _ _
      have e2 : difF (tuP p tu.toNat) (remZ a 16) (remZ b 16) = d := by rw [hd, dif_in hi hk, dif_in hi hk]; exact tu_bt _ _ _ _
      have q1 : ∀ {h : VH}, h.at 0 = arD p → h.at 10 = .vec p.T.length (tG (tuT p.T tu.toNat)) 5 32 → h.at 2 = arS p → pnIs h (tuP p tu.toNat) (sD p c1) (.sl 10 p.T.length) (sS p c3) := fun g1 g2 g3 => ⟨isD_own g1, ⟨(tuT_len _ _).symm, _, _, g2, fun _ _ => rfl⟩, isS_own g3⟩
      refine ⟨⟨⟨rfl, rfl, VB.fit_refl _, VB.fit_refl _, VB.fit_refl _, VB.fit_refl _, VB.fit_refl _, VB.fit_refl _, VB.fit_refl _, VB.fit_refl _, VB.fit_refl _, VB.fit_refl _, trivial⟩, rfl, rfl, rfl, rfl, rfl, rfl, rfl, rfl, rfl, rfl, rfl, rfl, rfl, rfl, rfl, rfl, rfl, trivial⟩, ⟨htu, by omega⟩, tuP p tu.toNat, q1 rfl rfl rfl, ni, tuP p tu.toNat, q1 rfl rfl rfl, ⟨ni, nk⟩, ?_⟩
      rw [e1, e2]
      refine cond_sp ⟨rfl, rfl⟩ (cond_ne rfl (cond_sp ⟨rfl, rfl⟩ (cond_ne rfl ⟨tk_T, cond_k (room40 (by omega)) (cond_k (beq_t rfl) (cond_k (room40 (by omega)) ⟨tk_S, cond_k (room24 (by omega)) (cond_k (beq_t rfl) (cond_k (room24 (by omega)) ⟨?_, ⟨⟨hi, hk⟩, by first | rfl | exact hv, by first | rfl | exact hd, by first | rfl | exact hc⟩, rfl⟩))⟩))⟩)))
      refine ⟨⟨rfl, rfl, VB.fit_refl _, VB.fit_refl _, VB.fit_refl _, VB.fit_refl _, VB.fit_refl _, VB.fit_refl _, VB.fit_refl _, ⟨rfl, rfl, rfl, fit_app5 (R := [t]) fun j hj => ?_⟩, ⟨rfl, rfl, rfl, fit_app3 (R := [s]) fun j hj => ?_⟩, VB.fit_refl _, trivial⟩, rfl, rfl, rfl, rfl, rfl, rfl, rfl, rfl, rfl, rfl, rfl, rfl, rfl, rfl, trivial⟩
      · match j, hj with
        | 0, _ => rfl
      · match j, hj with
        | 0, _ => rfl)
  exact ⟨h', hc⟩
end
end Go.Sx.Nos
