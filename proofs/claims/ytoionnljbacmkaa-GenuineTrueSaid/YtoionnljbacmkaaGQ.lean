/- genuine: Gp7 Gp8 Gp9 Gq1 Gq2 Gq3, in one text. -/
import Derived.Test.YtoionnljbacmkaaGP
import Derived.Test.YtoionnljbacmkaaGc3
import Derived.Test.YtoionnljbacmkaaGN
import Derived.Test.YtoionnljbacmkaaGM
/- genuine: GenuineTrue, the search, evaluated. -/

namespace Go.Sx.Gen
open Go Go.Sx Go.Proofs
set_option maxRecDepth 100000

def dsU2 : List Nat := [30, 24, 25, 11, 12, 10]
def VU2 (S : List Int) (P : List (Int × Int)) (a c k : Int) (w : Bool) : List VV := [I k, .sl 11 S.length, .sl 12 P.length, I a, I c, .bool w]
def dsU4 : List Nat := [31, 25, 11, 12, 10]
def VU4 (P : List (Int × Int)) (a c k : Int) (w : Bool) : List VV := [I k, .sl 12 P.length, I a, I c, .bool w]

theorem u2_ev (S : List Int) (P : List (Int × Int)) (a c : Int) (k : Nat) (X : VEx → List VV → List VB → Prop) : codeE Try.prog (callN Try.prog (tabS [awT]) noL 10 20) (fun _ => none) true 10 277 0 (loopB 2 (bodyOf Try.prog 5)) (dsU2.zip (VU2 S P a c k false)) ⟨15, [11, 12].zip [vecI S, vecP P]⟩ (obs 15 dsU2 [11, 12] X) =
  (bif decide ((↑k : Int) < (↑S.length : Int)) then
 bif decide ((0 : Int) ≤ (↑k : Int) ∧ (↑k : Int) < (↑S.length : Int)) then
 bif S.length.beq S.length && true then
 bif S.length.beq S.length then
 bif decide (S.getD (↑k : Int).toNat (0 : Int) = a) then
 X VEx.ret [I (↑k : Int), VV.sl 11 S.length, VV.sl 12 P.length, I a, I c, VV.bool true] [vecI S, vecP P]
 else bif decide ((0 : Int) ≤ (↑k : Int) ∧ (↑k : Int) < (↑S.length : Int)) then
 bif S.length.beq S.length && true then
 bif S.length.beq S.length then
 bif decide (S.getD (↑k : Int).toNat (0 : Int) = c) then
 X VEx.ret [I (↑k : Int), VV.sl 11 S.length, VV.sl 12 P.length, I a, I c, VV.bool true] [vecI S, vecP P]
 else bif inK IntKind.i64 ((↑k : Int) + (1 : Int)) then
 X VEx.normal [I ((↑k : Int) + (1 : Int)), VV.sl 11 S.length, VV.sl 12 P.length, I a, I c, VV.bool false] [vecI S, vecP P]
 else False
 else False
 else False
 else False
 else False
 else False
 else False
 else X (VEx.exit 2) [I (↑k : Int), VV.sl 11 S.length, VV.sl 12 P.length, I a, I c, VV.bool false] [vecI S, vecP P]) := by kernel_rfl

theorem u4_ev (P : List (Int × Int)) (a c : Int) (k : Nat) (X : VEx → List VV → List VB → Prop) : codeE Try.prog (callN Try.prog (tabS [awT]) noL 10 20) (fun _ => none) true 10 277 0 (loopB 4 (bodyOf Try.prog 5)) (dsU4.zip (VU4 P a c k false)) ⟨15, [12].zip [vecP P]⟩ (obs 15 dsU4 [12] X) =
  (bif decide ((↑k : Int) < (↑P.length : Int)) then
 bif decide ((0 : Int) ≤ (↑k : Int) ∧ (↑k : Int) < (↑P.length : Int)) then
 bif P.length.beq P.length && true then
 bif P.length.beq P.length then
 bif decide ((P.getD (↑k : Int).toNat ((0 : Int), (0 : Int))).fst = min a c) && (decide ((P.getD (↑k : Int).toNat ((0 : Int), (0 : Int))).snd = max a c) && true) then
 X VEx.ret [I (↑k : Int), VV.sl 12 P.length, I a, I c, VV.bool true] [vecP P]
 else bif inK IntKind.i64 ((↑k : Int) + (1 : Int)) then
 X VEx.normal [I ((↑k : Int) + (1 : Int)), VV.sl 12 P.length, I a, I c, VV.bool false] [vecP P]
 else False
 else False
 else False
 else False
 else X (VEx.exit 4) [I (↑k : Int), VV.sl 12 P.length, I a, I c, VV.bool false] [vecP P]) := by kernel_rfl


end Go.Sx.Gen

/- genuine: GenuineTrue, the search. -/

namespace Go.Sx.Gen
open Go Go.Sx Go.Proofs
set_option maxRecDepth 100000

section
variable {S : List Int} {P : List (Int × Int)} {a c : Int}

/-- Is one of two among the singles, or both a pair? -/
def hasS (S : List Int) (a c : Int) : Bool := S.any fun x => decide (x = a) || decide (x = c)
def hasP (P : List (Int × Int)) (a c : Int) : Bool := P.any fun x => decide (x.1 = min a c) && decide (x.2 = max a c)

theorem aw_good : Good Try.prog (callN Try.prog (tabS [awT]) noL 10 20) := tab_good hmix (by
  intro x hx
  simp only [List.mem_singleton] at hx
  subst hx
  exact awT_ok) 20

def OU2 (S : List Int) (P : List (Int × Int)) (a c : Int) (k : Nat) (e : VEx) (vs : List VV) (bs : List VB) : Prop :=
  bs = [vecI S, vecP P] ∧ ((e = .exit 2 ∧ hasS (S.drop k) a c = false ∧ vs = VU2 S P a c S.length false) ∨ (e = .ret ∧ hasS (S.drop k) a c = true ∧ ∃ j : Nat, vs = VU2 S P a c j true))

def LU2 (S : List Int) (P : List (Int × Int)) (a c : Int) : LT := fun lock t h K =>
  (FitP lock h t ⟨15, [11, 12].zip [vecI S, vecP P]⟩ (dsU2.zip (VU2 S P a c 0 false)) ∧ S.length ≤ maxI) ∧
    (hasS S a c = false → K .normal (dsU2.zip (VU2 S P a c S.length false)) ⟨15, [11, 12].zip [vecI S, vecP P]⟩) ∧
    (hasS S a c = true → ∀ j : Nat, K .ret (dsU2.zip (VU2 S P a c j true)) ⟨15, [11, 12].zip [vecI S, vecP P]⟩)

theorem has_step {k : Nat} (h : k < S.length) : hasS (S.drop k) a c = (decide (S.getD k 0 = a) || decide (S.getD k 0 = c) || hasS (S.drop (k + 1)) a c) := by
  unfold hasS
  rw [List.drop_eq_getElem_cons h, List.any_cons]
  simp [List.getD_eq_getElem?_getD, List.getElem?_eq_getElem h]

theorem LU2_ok : LSound Try.prog true (.block 2 (.loop (loopB 2 (bodyOf Try.prog 5)))) 277 (LU2 S P a c) := by
  by_cases hS : S.length ≤ maxI
  · unfold maxI at hS
    refine loop_row hmix aw_good (un := 10) (ds := dsU2) (ns := [11, 12]) (nx := 15) (fun k : Nat => VU2 S P a c k false) (fun _ => [vecI S, vecP P]) (fun k => k ≤ S.length) (fun k => S.length - k) (OU2 S P a c) noL_ok ?_ ?_
    · intro k h1
      rw [u2_ev]
      by_cases hlt : k < S.length
      · have hst := has_step (a := a) (c := c) hlt
        refine cond_dk (by omega) (idxK hlt ?_)
        rw [show (k : Int).toNat = k from Int.toNat_natCast k]
        refine cond_d (fun q => ⟨rfl, .inr ⟨rfl, ?_, k, rfl⟩⟩) (fun q => idxK hlt (cond_d (fun q2 => ⟨rfl, .inr ⟨rfl, ?_, k, rfl⟩⟩) (fun q2 => cond_r (by omega) ⟨k + 1, by omega, by dsimp only; omega, rfl, fitBs_refl _, fun e vs bs ho => ?_⟩)))
        · rw [hst, decide_eq_true q]; rfl
        · rw [hst, decide_eq_true q2]; simp
        · rw [OU2, hst, decide_eq_false q, decide_eq_false q2]; exact ho
      · refine cond_d (fun h => by omega) (fun _ => ?_)
        have : k = S.length := by omega
        subst this
        exact ⟨rfl, .inl ⟨rfl, by simp [hasS], rfl⟩⟩
    · rintro lock t h K ⟨⟨hf, _⟩, h1, h2⟩
      refine ⟨0, hf, Nat.zero_le _, ?_⟩
      rintro e vs bs ⟨rfl, ⟨rfl, ha, rfl⟩ | ⟨rfl, ha, j, rfl⟩⟩
      · exact h1 (by simpa using ha)
      · exact h2 (by simpa using ha) j
  · rintro lock t h K ⟨⟨hf, hc⟩, hK⟩
    exact (hS hc).elim

def OU4 (P : List (Int × Int)) (a c : Int) (k : Nat) (e : VEx) (vs : List VV) (bs : List VB) : Prop :=
  bs = [vecP P] ∧ ((e = .exit 4 ∧ hasP (P.drop k) a c = false ∧ vs = VU4 P a c P.length false) ∨ (e = .ret ∧ hasP (P.drop k) a c = true ∧ ∃ j : Nat, vs = VU4 P a c j true))

def LU4 (P : List (Int × Int)) (a c : Int) : LT := fun lock t h K =>
  (FitP lock h t ⟨15, [12].zip [vecP P]⟩ (dsU4.zip (VU4 P a c 0 false)) ∧ P.length ≤ maxI) ∧
    (hasP P a c = false → K .normal (dsU4.zip (VU4 P a c P.length false)) ⟨15, [12].zip [vecP P]⟩) ∧
    (hasP P a c = true → ∀ j : Nat, K .ret (dsU4.zip (VU4 P a c j true)) ⟨15, [12].zip [vecP P]⟩)

theorem hasP_step {k : Nat} (h : k < P.length) : hasP (P.drop k) a c = (decide ((P.getD k (0, 0)).1 = min a c) && decide ((P.getD k (0, 0)).2 = max a c) || hasP (P.drop (k + 1)) a c) := by
  unfold hasP
  rw [List.drop_eq_getElem_cons h, List.any_cons]
  simp [List.getD_eq_getElem?_getD, List.getElem?_eq_getElem h]

theorem LU4_ok : LSound Try.prog true (.block 4 (.loop (loopB 4 (bodyOf Try.prog 5)))) 277 (LU4 P a c) := by
  by_cases hS : P.length ≤ maxI
  · unfold maxI at hS
    refine loop_row hmix aw_good (un := 10) (ds := dsU4) (ns := [12]) (nx := 15) (fun k : Nat => VU4 P a c k false) (fun _ => [vecP P]) (fun k => k ≤ P.length) (fun k => P.length - k) (OU4 P a c) noL_ok ?_ ?_
    · intro k h1
      rw [u4_ev]
      by_cases hlt : k < P.length
      · have hst := hasP_step (a := a) (c := c) hlt
        refine cond_dk (by omega) (idxK hlt ?_)
        rw [show (k : Int).toNat = k from Int.toNat_natCast k]
        refine cond_b (fun q => ⟨rfl, .inr ⟨rfl, ?_, k, rfl⟩⟩) (fun q => cond_r (by omega) ⟨k + 1, by omega, by dsimp only; omega, rfl, fitBs_refl _, fun e vs bs ho => ?_⟩)
        · rw [hst]; simp only [Bool.and_true] at q; rw [q]; rfl
        · rw [OU4, hst]; simp only [Bool.and_true] at q; rw [q]; exact ho
      · refine cond_d (fun h => by omega) (fun _ => ?_)
        have : k = P.length := by omega
        subst this
        exact ⟨rfl, .inl ⟨rfl, by simp [hasP], rfl⟩⟩
    · rintro lock t h K ⟨⟨hf, _⟩, h1, h2⟩
      refine ⟨0, hf, Nat.zero_le _, ?_⟩
      rintro e vs bs ⟨rfl, ⟨rfl, ha, rfl⟩ | ⟨rfl, ha, j, rfl⟩⟩
      · exact h1 (by simpa using ha)
      · exact h2 (by simpa using ha) j
  · rintro lock t h K ⟨⟨hf, hc⟩, hK⟩
    exact (hS hc).elim
end
end Go.Sx.Gen

/- genuine: GenuineTrue, evaluated. -/

namespace Go.Sx.Gen
open Go Go.Sx Go.Proofs
set_option maxRecDepth 100000

def nz1 (m : Nat) (f : Int → Int) : Int := f (0 + remZ (0 + 1) m)
def nz2 (m : Nat) (f : Int → Int) : Int := f (0 + remZ (0 + 1 + 1) m)
def nz3 (m : Nat) (f : Int → Int) : Int := f (0 + remZ (0 + 1 + 1 + 1) m)
def nz4 (m : Nat) (f : Int → Int) : Int := f (0 + remZ (0 + 1 + 1 + 1 + 1) m)
def nz5 (m : Nat) (f : Int → Int) : Int := f (0 + remZ (0 + 1 + 1 + 1 + 1 + 1) m)
def nz6 (m : Nat) (f : Int → Int) : Int := f (0 + remZ (0 + 1 + 1 + 1 + 1 + 1 + 1) m)
def strT (m : Nat) (f : Int → Int) (p : Int) (x y : Src) : Int := p * pickF x.slo x.shi (nz3 m f) + (1000 - p) * pickF y.slo y.shi (nz4 m f)
def sloT (m : Nat) (f : Int → Int) (p : Int) (x y : Src) : Int := quoZ (quoZ (strT m f p x y) 1000 * remZ (nz5 m f) 11) 10
/-- The bottle that is made. -/
def botT (m : Nat) (f : Int → Int) (p : Int) (x y : Src) : Sus :=
  ⟨remZ (nz1 m f) (min x.drawn y.drawn + 1), remZ (nz2 m f) (min x.drawn y.drawn + 1), sloT m f p x y, sloT m f p x y + remZ (nz6 m f) (10000 - sloT m f p x y + 1), x.vl, 0, mLo m f p x y, mHi m f p x y⟩
/-- Loop 0, told by the state. -/
def LMt (n cap m cm : Nat) (l : Int → Src) (f : Int → Int) : LT := fun lock t h K => match look t 11, look t 12, look t 13, h.at 8 with
  | .int .i64 a, .int .i64 c, .int .i64 p, .cells [.int .i64 g, .int .i64 pp, .int .i64 lo, .int .i64 hi, .nils] _ => LM0 n cap m cm l f a c (0 + a) (0 + c) p g pp lo hi lock t h K
  | _, _, _, _ => False
def bF (n m : Nat) (l : Int → Src) (f : Int → Int) (u v s : Int) : Sus := botT m f (remZ s 1001) (l (0 + remZ u n)) (l (0 + remZ v n))

theorem f5_ev (n cap m cm : Nat) (l : Int → Src) (f : Int → Int) (u v s : Int) (Q : VRes → Prop) : spBL Try.prog 5 (tabS [awT, srcT 21 n l bT0, pick23T, or15ST n l (bF n m l f u v s), sh13ST n l (bF n m l f u v s)]) [(0, LMt n cap m cm l f), (2, LU2 (orS n (bF n m l f u v s) l) (orP n (bF n m l f u v s) l) (remZ u n) (remZ v n)), (4, LU4 (orP n (bF n m l f u v s) l) (remZ u n) (remZ v n))] 10 20 0 [lV n cap, .int .u8 u, .int .u8 v, .int .u16 s, .slice (.el 3 [] 0 0) m cm] (hT n l m f) (fun r _ => Q r) =
  (bif decide ((↑n : Int) = (0 : Int)) then
 Q (VRes.ret (VV.bool true))
 else bif decide ((↑n : Int) > (10 : Int)) then
 Q (VRes.ret (VV.bool true))
 else bif decide ((↑m : Int) = (0 : Int)) then
 Q (VRes.ret (VV.bool true))
 else ((srcA n l = srcA n l ∧ valA n l = valA n l ∧ seenA bT0 = seenA bT0) ∧ n = n) ∧ bif !srcsB n l then
 Q (VRes.ret (VV.bool true))
 else bif inK IntKind.i64 u then
 bif decide ((↑n : Int) = (0 : Int)) then
 False
 else bif inK IntKind.i64 v then
 bif decide ((↑n : Int) = (0 : Int)) then
 False
 else bif inK IntKind.i64 s then
 bif decide ((0 : Int) ≤ remZ u (↑n : Int) ∧ remZ u (↑n : Int) < (↑n : Int)) then
 (([] : List Int) = [] ∧ (0 : Int) ≤ (0 : Int) + remZ u (↑n : Int) ∧ (0 : Int) + remZ u (↑n : Int) < (↑n : Int)) ∧ bif decide ((0 : Int) ≤ remZ v (↑n : Int) ∧ remZ v (↑n : Int) < (↑n : Int)) then
 (([] : List Int) = [] ∧ (0 : Int) ≤ (0 : Int) + remZ v (↑n : Int) ∧ (0 : Int) + remZ v (↑n : Int) < (↑n : Int)) ∧ bif decide ((↑m : Int) = (0 : Int)) then
 False
 else bif decide ((0 : Int) ≤ remZ ((0 : Int) + (1 : Int)) (↑m : Int) ∧ remZ ((0 : Int) + (1 : Int)) (↑m : Int) < (↑m : Int)) then
 (([] : List Int) = [] ∧ (0 : Int) ≤ (0 : Int) + remZ ((0 : Int) + (1 : Int)) (↑m : Int) ∧ (0 : Int) + remZ ((0 : Int) + (1 : Int)) (↑m : Int) < (↑m : Int)) ∧ bif inK IntKind.i64 (f ((0 : Int) + remZ ((0 : Int) + (1 : Int)) (↑m : Int))) then
 bif inK IntKind.i64 (min (l ((0 : Int) + remZ u (↑n : Int))).drawn (l ((0 : Int) + remZ v (↑n : Int))).drawn + (1 : Int)) then
 bif decide (min (l ((0 : Int) + remZ u (↑n : Int))).drawn (l ((0 : Int) + remZ v (↑n : Int))).drawn + (1 : Int) = (0 : Int)) then
 False
 else bif decide ((↑m : Int) = (0 : Int)) then
 False
 else bif decide ((0 : Int) ≤ remZ ((0 : Int) + (1 : Int) + (1 : Int)) (↑m : Int) ∧ remZ ((0 : Int) + (1 : Int) + (1 : Int)) (↑m : Int) < (↑m : Int)) then
 (([] : List Int) = [] ∧ (0 : Int) ≤ (0 : Int) + remZ ((0 : Int) + (1 : Int) + (1 : Int)) (↑m : Int) ∧ (0 : Int) + remZ ((0 : Int) + (1 : Int) + (1 : Int)) (↑m : Int) < (↑m : Int)) ∧ bif inK IntKind.i64 (f ((0 : Int) + remZ ((0 : Int) + (1 : Int) + (1 : Int)) (↑m : Int))) then
 bif inK IntKind.i64 (min (l ((0 : Int) + remZ u (↑n : Int))).drawn (l ((0 : Int) + remZ v (↑n : Int))).drawn + (1 : Int)) then
 bif decide (min (l ((0 : Int) + remZ u (↑n : Int))).drawn (l ((0 : Int) + remZ v (↑n : Int))).drawn + (1 : Int) = (0 : Int)) then
 False
 else bif decide ((↑m : Int) = (0 : Int)) then
 False
 else bif decide ((0 : Int) ≤ remZ ((0 : Int) + (1 : Int) + (1 : Int) + (1 : Int)) (↑m : Int) ∧ remZ ((0 : Int) + (1 : Int) + (1 : Int) + (1 : Int)) (↑m : Int) < (↑m : Int)) then
 (([] : List Int) = [] ∧ (0 : Int) ≤ (0 : Int) + remZ ((0 : Int) + (1 : Int) + (1 : Int) + (1 : Int)) (↑m : Int) ∧ (0 : Int) + remZ ((0 : Int) + (1 : Int) + (1 : Int) + (1 : Int)) (↑m : Int) < (↑m : Int)) ∧ ((0 : Int) ≤ (l ((0 : Int) + remZ u (↑n : Int))).slo ∧ (l ((0 : Int) + remZ u (↑n : Int))).slo ≤ (l ((0 : Int) + remZ u (↑n : Int))).shi ∧ (l ((0 : Int) + remZ u (↑n : Int))).shi ≤ (1048576 : Int) ∧ (0 : Int) ≤ f ((0 : Int) + remZ ((0 : Int) + (1 : Int) + (1 : Int) + (1 : Int)) (↑m : Int)) ∧ f ((0 : Int) + remZ ((0 : Int) + (1 : Int) + (1 : Int) + (1 : Int)) (↑m : Int)) ≤ (4294967295 : Int)) ∧ bif inK IntKind.i64 (remZ s (1001 : Int) * pickF (l ((0 : Int) + remZ u (↑n : Int))).slo (l ((0 : Int) + remZ u (↑n : Int))).shi (f ((0 : Int) + remZ ((0 : Int) + (1 : Int) + (1 : Int) + (1 : Int)) (↑m : Int)))) then
 bif inK IntKind.i64 ((1000 : Int) - remZ s (1001 : Int)) then
 bif decide ((↑m : Int) = (0 : Int)) then
 False
 else bif decide ((0 : Int) ≤ remZ ((0 : Int) + (1 : Int) + (1 : Int) + (1 : Int) + (1 : Int)) (↑m : Int) ∧ remZ ((0 : Int) + (1 : Int) + (1 : Int) + (1 : Int) + (1 : Int)) (↑m : Int) < (↑m : Int)) then
 (([] : List Int) = [] ∧ (0 : Int) ≤ (0 : Int) + remZ ((0 : Int) + (1 : Int) + (1 : Int) + (1 : Int) + (1 : Int)) (↑m : Int) ∧ (0 : Int) + remZ ((0 : Int) + (1 : Int) + (1 : Int) + (1 : Int) + (1 : Int)) (↑m : Int) < (↑m : Int)) ∧ ((0 : Int) ≤ (l ((0 : Int) + remZ v (↑n : Int))).slo ∧ (l ((0 : Int) + remZ v (↑n : Int))).slo ≤ (l ((0 : Int) + remZ v (↑n : Int))).shi ∧ (l ((0 : Int) + remZ v (↑n : Int))).shi ≤ (1048576 : Int) ∧ (0 : Int) ≤ f ((0 : Int) + remZ ((0 : Int) + (1 : Int) + (1 : Int) + (1 : Int) + (1 : Int)) (↑m : Int)) ∧ f ((0 : Int) + remZ ((0 : Int) + (1 : Int) + (1 : Int) + (1 : Int) + (1 : Int)) (↑m : Int)) ≤ (4294967295 : Int)) ∧ bif inK IntKind.i64 (((1000 : Int) - remZ s (1001 : Int)) * pickF (l ((0 : Int) + remZ v (↑n : Int))).slo (l ((0 : Int) + remZ v (↑n : Int))).shi (f ((0 : Int) + remZ ((0 : Int) + (1 : Int) + (1 : Int) + (1 : Int) + (1 : Int)) (↑m : Int)))) then
 bif inK IntKind.i64 (remZ s (1001 : Int) * pickF (l ((0 : Int) + remZ u (↑n : Int))).slo (l ((0 : Int) + remZ u (↑n : Int))).shi (f ((0 : Int) + remZ ((0 : Int) + (1 : Int) + (1 : Int) + (1 : Int)) (↑m : Int))) + ((1000 : Int) - remZ s (1001 : Int)) * pickF (l ((0 : Int) + remZ v (↑n : Int))).slo (l ((0 : Int) + remZ v (↑n : Int))).shi (f ((0 : Int) + remZ ((0 : Int) + (1 : Int) + (1 : Int) + (1 : Int) + (1 : Int)) (↑m : Int)))) then
 bif inK IntKind.i64 (quoZ (remZ s (1001 : Int) * pickF (l ((0 : Int) + remZ u (↑n : Int))).slo (l ((0 : Int) + remZ u (↑n : Int))).shi (f ((0 : Int) + remZ ((0 : Int) + (1 : Int) + (1 : Int) + (1 : Int)) (↑m : Int))) + ((1000 : Int) - remZ s (1001 : Int)) * pickF (l ((0 : Int) + remZ v (↑n : Int))).slo (l ((0 : Int) + remZ v (↑n : Int))).shi (f ((0 : Int) + remZ ((0 : Int) + (1 : Int) + (1 : Int) + (1 : Int) + (1 : Int)) (↑m : Int)))) (1000 : Int)) then
 bif decide ((↑m : Int) = (0 : Int)) then
 False
 else bif decide ((0 : Int) ≤ remZ ((0 : Int) + (1 : Int) + (1 : Int) + (1 : Int) + (1 : Int) + (1 : Int)) (↑m : Int) ∧ remZ ((0 : Int) + (1 : Int) + (1 : Int) + (1 : Int) + (1 : Int) + (1 : Int)) (↑m : Int) < (↑m : Int)) then
 (([] : List Int) = [] ∧ (0 : Int) ≤ (0 : Int) + remZ ((0 : Int) + (1 : Int) + (1 : Int) + (1 : Int) + (1 : Int) + (1 : Int)) (↑m : Int) ∧ (0 : Int) + remZ ((0 : Int) + (1 : Int) + (1 : Int) + (1 : Int) + (1 : Int) + (1 : Int)) (↑m : Int) < (↑m : Int)) ∧ bif inK IntKind.i64 (f ((0 : Int) + remZ ((0 : Int) + (1 : Int) + (1 : Int) + (1 : Int) + (1 : Int) + (1 : Int)) (↑m : Int))) then
 bif inK IntKind.i64 (quoZ (remZ s (1001 : Int) * pickF (l ((0 : Int) + remZ u (↑n : Int))).slo (l ((0 : Int) + remZ u (↑n : Int))).shi (f ((0 : Int) + remZ ((0 : Int) + (1 : Int) + (1 : Int) + (1 : Int)) (↑m : Int))) + ((1000 : Int) - remZ s (1001 : Int)) * pickF (l ((0 : Int) + remZ v (↑n : Int))).slo (l ((0 : Int) + remZ v (↑n : Int))).shi (f ((0 : Int) + remZ ((0 : Int) + (1 : Int) + (1 : Int) + (1 : Int) + (1 : Int)) (↑m : Int)))) (1000 : Int) * remZ (f ((0 : Int) + remZ ((0 : Int) + (1 : Int) + (1 : Int) + (1 : Int) + (1 : Int) + (1 : Int)) (↑m : Int))) (11 : Int)) then
 bif inK IntKind.i64 (quoZ (quoZ (remZ s (1001 : Int) * pickF (l ((0 : Int) + remZ u (↑n : Int))).slo (l ((0 : Int) + remZ u (↑n : Int))).shi (f ((0 : Int) + remZ ((0 : Int) + (1 : Int) + (1 : Int) + (1 : Int)) (↑m : Int))) + ((1000 : Int) - remZ s (1001 : Int)) * pickF (l ((0 : Int) + remZ v (↑n : Int))).slo (l ((0 : Int) + remZ v (↑n : Int))).shi (f ((0 : Int) + remZ ((0 : Int) + (1 : Int) + (1 : Int) + (1 : Int) + (1 : Int)) (↑m : Int)))) (1000 : Int) * remZ (f ((0 : Int) + remZ ((0 : Int) + (1 : Int) + (1 : Int) + (1 : Int) + (1 : Int) + (1 : Int)) (↑m : Int))) (11 : Int)) (10 : Int)) then
 bif decide ((↑m : Int) = (0 : Int)) then
 False
 else bif decide ((0 : Int) ≤ remZ ((0 : Int) + (1 : Int) + (1 : Int) + (1 : Int) + (1 : Int) + (1 : Int) + (1 : Int)) (↑m : Int) ∧ remZ ((0 : Int) + (1 : Int) + (1 : Int) + (1 : Int) + (1 : Int) + (1 : Int) + (1 : Int)) (↑m : Int) < (↑m : Int)) then
 (([] : List Int) = [] ∧ (0 : Int) ≤ (0 : Int) + remZ ((0 : Int) + (1 : Int) + (1 : Int) + (1 : Int) + (1 : Int) + (1 : Int) + (1 : Int)) (↑m : Int) ∧ (0 : Int) + remZ ((0 : Int) + (1 : Int) + (1 : Int) + (1 : Int) + (1 : Int) + (1 : Int) + (1 : Int)) (↑m : Int) < (↑m : Int)) ∧ bif inK IntKind.i64 (f ((0 : Int) + remZ ((0 : Int) + (1 : Int) + (1 : Int) + (1 : Int) + (1 : Int) + (1 : Int) + (1 : Int)) (↑m : Int))) then
 bif inK IntKind.i64 ((10000 : Int) - quoZ (quoZ (remZ s (1001 : Int) * pickF (l ((0 : Int) + remZ u (↑n : Int))).slo (l ((0 : Int) + remZ u (↑n : Int))).shi (f ((0 : Int) + remZ ((0 : Int) + (1 : Int) + (1 : Int) + (1 : Int)) (↑m : Int))) + ((1000 : Int) - remZ s (1001 : Int)) * pickF (l ((0 : Int) + remZ v (↑n : Int))).slo (l ((0 : Int) + remZ v (↑n : Int))).shi (f ((0 : Int) + remZ ((0 : Int) + (1 : Int) + (1 : Int) + (1 : Int) + (1 : Int)) (↑m : Int)))) (1000 : Int) * remZ (f ((0 : Int) + remZ ((0 : Int) + (1 : Int) + (1 : Int) + (1 : Int) + (1 : Int) + (1 : Int)) (↑m : Int))) (11 : Int)) (10 : Int)) then
 bif inK IntKind.i64 ((10000 : Int) - quoZ (quoZ (remZ s (1001 : Int) * pickF (l ((0 : Int) + remZ u (↑n : Int))).slo (l ((0 : Int) + remZ u (↑n : Int))).shi (f ((0 : Int) + remZ ((0 : Int) + (1 : Int) + (1 : Int) + (1 : Int)) (↑m : Int))) + ((1000 : Int) - remZ s (1001 : Int)) * pickF (l ((0 : Int) + remZ v (↑n : Int))).slo (l ((0 : Int) + remZ v (↑n : Int))).shi (f ((0 : Int) + remZ ((0 : Int) + (1 : Int) + (1 : Int) + (1 : Int) + (1 : Int)) (↑m : Int)))) (1000 : Int) * remZ (f ((0 : Int) + remZ ((0 : Int) + (1 : Int) + (1 : Int) + (1 : Int) + (1 : Int) + (1 : Int)) (↑m : Int))) (11 : Int)) (10 : Int) + (1 : Int)) then
 bif decide ((10000 : Int) - quoZ (quoZ (remZ s (1001 : Int) * pickF (l ((0 : Int) + remZ u (↑n : Int))).slo (l ((0 : Int) + remZ u (↑n : Int))).shi (f ((0 : Int) + remZ ((0 : Int) + (1 : Int) + (1 : Int) + (1 : Int)) (↑m : Int))) + ((1000 : Int) - remZ s (1001 : Int)) * pickF (l ((0 : Int) + remZ v (↑n : Int))).slo (l ((0 : Int) + remZ v (↑n : Int))).shi (f ((0 : Int) + remZ ((0 : Int) + (1 : Int) + (1 : Int) + (1 : Int) + (1 : Int)) (↑m : Int)))) (1000 : Int) * remZ (f ((0 : Int) + remZ ((0 : Int) + (1 : Int) + (1 : Int) + (1 : Int) + (1 : Int) + (1 : Int)) (↑m : Int))) (11 : Int)) (10 : Int) + (1 : Int) = (0 : Int)) then
 False
 else bif inK IntKind.i64 (quoZ (quoZ (remZ s (1001 : Int) * pickF (l ((0 : Int) + remZ u (↑n : Int))).slo (l ((0 : Int) + remZ u (↑n : Int))).shi (f ((0 : Int) + remZ ((0 : Int) + (1 : Int) + (1 : Int) + (1 : Int)) (↑m : Int))) + ((1000 : Int) - remZ s (1001 : Int)) * pickF (l ((0 : Int) + remZ v (↑n : Int))).slo (l ((0 : Int) + remZ v (↑n : Int))).shi (f ((0 : Int) + remZ ((0 : Int) + (1 : Int) + (1 : Int) + (1 : Int) + (1 : Int)) (↑m : Int)))) (1000 : Int) * remZ (f ((0 : Int) + remZ ((0 : Int) + (1 : Int) + (1 : Int) + (1 : Int) + (1 : Int) + (1 : Int)) (↑m : Int))) (11 : Int)) (10 : Int) + remZ (f ((0 : Int) + remZ ((0 : Int) + (1 : Int) + (1 : Int) + (1 : Int) + (1 : Int) + (1 : Int) + (1 : Int)) (↑m : Int))) ((10000 : Int) - quoZ (quoZ (remZ s (1001 : Int) * pickF (l ((0 : Int) + remZ u (↑n : Int))).slo (l ((0 : Int) + remZ u (↑n : Int))).shi (f ((0 : Int) + remZ ((0 : Int) + (1 : Int) + (1 : Int) + (1 : Int)) (↑m : Int))) + ((1000 : Int) - remZ s (1001 : Int)) * pickF (l ((0 : Int) + remZ v (↑n : Int))).slo (l ((0 : Int) + remZ v (↑n : Int))).shi (f ((0 : Int) + remZ ((0 : Int) + (1 : Int) + (1 : Int) + (1 : Int) + (1 : Int)) (↑m : Int)))) (1000 : Int) * remZ (f ((0 : Int) + remZ ((0 : Int) + (1 : Int) + (1 : Int) + (1 : Int) + (1 : Int) + (1 : Int)) (↑m : Int))) (11 : Int)) (10 : Int) + (1 : Int))) then
 (FitP 0 (VH.mk (9) ([0, 1, 2, 3, 4, 5, 6, 7, 8].zip (BM0 n m cm l f ((0 : Int) + remZ u (↑n : Int)) ((0 : Int) + remZ v (↑n : Int)) (remZ (f ((0 : Int) + remZ ((0 : Int) + (1 : Int)) (↑m : Int))) (min (l ((0 : Int) + remZ u (↑n : Int))).drawn (l ((0 : Int) + remZ v (↑n : Int))).drawn + (1 : Int))) (remZ (f ((0 : Int) + remZ ((0 : Int) + (1 : Int) + (1 : Int)) (↑m : Int))) (min (l ((0 : Int) + remZ u (↑n : Int))).drawn (l ((0 : Int) + remZ v (↑n : Int))).drawn + (1 : Int))) (quoZ (quoZ (remZ s (1001 : Int) * pickF (l ((0 : Int) + remZ u (↑n : Int))).slo (l ((0 : Int) + remZ u (↑n : Int))).shi (f ((0 : Int) + remZ ((0 : Int) + (1 : Int) + (1 : Int) + (1 : Int)) (↑m : Int))) + ((1000 : Int) - remZ s (1001 : Int)) * pickF (l ((0 : Int) + remZ v (↑n : Int))).slo (l ((0 : Int) + remZ v (↑n : Int))).shi (f ((0 : Int) + remZ ((0 : Int) + (1 : Int) + (1 : Int) + (1 : Int) + (1 : Int)) (↑m : Int)))) (1000 : Int) * remZ (f ((0 : Int) + remZ ((0 : Int) + (1 : Int) + (1 : Int) + (1 : Int) + (1 : Int) + (1 : Int)) (↑m : Int))) (11 : Int)) (10 : Int)) (quoZ (quoZ (remZ s (1001 : Int) * pickF (l ((0 : Int) + remZ u (↑n : Int))).slo (l ((0 : Int) + remZ u (↑n : Int))).shi (f ((0 : Int) + remZ ((0 : Int) + (1 : Int) + (1 : Int) + (1 : Int)) (↑m : Int))) + ((1000 : Int) - remZ s (1001 : Int)) * pickF (l ((0 : Int) + remZ v (↑n : Int))).slo (l ((0 : Int) + remZ v (↑n : Int))).shi (f ((0 : Int) + remZ ((0 : Int) + (1 : Int) + (1 : Int) + (1 : Int) + (1 : Int)) (↑m : Int)))) (1000 : Int) * remZ (f ((0 : Int) + remZ ((0 : Int) + (1 : Int) + (1 : Int) + (1 : Int) + (1 : Int) + (1 : Int)) (↑m : Int))) (11 : Int)) (10 : Int) + remZ (f ((0 : Int) + remZ ((0 : Int) + (1 : Int) + (1 : Int) + (1 : Int) + (1 : Int) + (1 : Int) + (1 : Int)) (↑m : Int))) ((10000 : Int) - quoZ (quoZ (remZ s (1001 : Int) * pickF (l ((0 : Int) + remZ u (↑n : Int))).slo (l ((0 : Int) + remZ u (↑n : Int))).shi (f ((0 : Int) + remZ ((0 : Int) + (1 : Int) + (1 : Int) + (1 : Int)) (↑m : Int))) + ((1000 : Int) - remZ s (1001 : Int)) * pickF (l ((0 : Int) + remZ v (↑n : Int))).slo (l ((0 : Int) + remZ v (↑n : Int))).shi (f ((0 : Int) + remZ ((0 : Int) + (1 : Int) + (1 : Int) + (1 : Int) + (1 : Int)) (↑m : Int)))) (1000 : Int) * remZ (f ((0 : Int) + remZ ((0 : Int) + (1 : Int) + (1 : Int) + (1 : Int) + (1 : Int) + (1 : Int)) (↑m : Int))) (11 : Int)) (10 : Int) + (1 : Int)))))) (dsT.zip (VT n cap (remZ u (↑n : Int)) (remZ v (↑n : Int)) (remZ s (1001 : Int)) (0 : Int))) (VH.mk (9) ([0, 1, 2, 3, 4, 5, 6, 7, 8].zip (BM0 n m cm l f ((0 : Int) + remZ u (↑n : Int)) ((0 : Int) + remZ v (↑n : Int)) (remZ (f ((0 : Int) + remZ ((0 : Int) + (1 : Int)) (↑m : Int))) (min (l ((0 : Int) + remZ u (↑n : Int))).drawn (l ((0 : Int) + remZ v (↑n : Int))).drawn + (1 : Int))) (remZ (f ((0 : Int) + remZ ((0 : Int) + (1 : Int) + (1 : Int)) (↑m : Int))) (min (l ((0 : Int) + remZ u (↑n : Int))).drawn (l ((0 : Int) + remZ v (↑n : Int))).drawn + (1 : Int))) (quoZ (quoZ (remZ s (1001 : Int) * pickF (l ((0 : Int) + remZ u (↑n : Int))).slo (l ((0 : Int) + remZ u (↑n : Int))).shi (f ((0 : Int) + remZ ((0 : Int) + (1 : Int) + (1 : Int) + (1 : Int)) (↑m : Int))) + ((1000 : Int) - remZ s (1001 : Int)) * pickF (l ((0 : Int) + remZ v (↑n : Int))).slo (l ((0 : Int) + remZ v (↑n : Int))).shi (f ((0 : Int) + remZ ((0 : Int) + (1 : Int) + (1 : Int) + (1 : Int) + (1 : Int)) (↑m : Int)))) (1000 : Int) * remZ (f ((0 : Int) + remZ ((0 : Int) + (1 : Int) + (1 : Int) + (1 : Int) + (1 : Int) + (1 : Int)) (↑m : Int))) (11 : Int)) (10 : Int)) (quoZ (quoZ (remZ s (1001 : Int) * pickF (l ((0 : Int) + remZ u (↑n : Int))).slo (l ((0 : Int) + remZ u (↑n : Int))).shi (f ((0 : Int) + remZ ((0 : Int) + (1 : Int) + (1 : Int) + (1 : Int)) (↑m : Int))) + ((1000 : Int) - remZ s (1001 : Int)) * pickF (l ((0 : Int) + remZ v (↑n : Int))).slo (l ((0 : Int) + remZ v (↑n : Int))).shi (f ((0 : Int) + remZ ((0 : Int) + (1 : Int) + (1 : Int) + (1 : Int) + (1 : Int)) (↑m : Int)))) (1000 : Int) * remZ (f ((0 : Int) + remZ ((0 : Int) + (1 : Int) + (1 : Int) + (1 : Int) + (1 : Int) + (1 : Int)) (↑m : Int))) (11 : Int)) (10 : Int) + remZ (f ((0 : Int) + remZ ((0 : Int) + (1 : Int) + (1 : Int) + (1 : Int) + (1 : Int) + (1 : Int) + (1 : Int)) (↑m : Int))) ((10000 : Int) - quoZ (quoZ (remZ s (1001 : Int) * pickF (l ((0 : Int) + remZ u (↑n : Int))).slo (l ((0 : Int) + remZ u (↑n : Int))).shi (f ((0 : Int) + remZ ((0 : Int) + (1 : Int) + (1 : Int) + (1 : Int)) (↑m : Int))) + ((1000 : Int) - remZ s (1001 : Int)) * pickF (l ((0 : Int) + remZ v (↑n : Int))).slo (l ((0 : Int) + remZ v (↑n : Int))).shi (f ((0 : Int) + remZ ((0 : Int) + (1 : Int) + (1 : Int) + (1 : Int) + (1 : Int)) (↑m : Int)))) (1000 : Int) * remZ (f ((0 : Int) + remZ ((0 : Int) + (1 : Int) + (1 : Int) + (1 : Int) + (1 : Int) + (1 : Int)) (↑m : Int))) (11 : Int)) (10 : Int) + (1 : Int)))))) (dsT.zip (VT n cap (remZ u (↑n : Int)) (remZ v (↑n : Int)) (remZ s (1001 : Int)) (0 : Int))) ∧ OkT n m l f ((0 : Int) + remZ u (↑n : Int)) ((0 : Int) + remZ v (↑n : Int)) (remZ s (1001 : Int))) ∧ ((srcA n l = srcA n l ∧ valA n l = valA n l ∧ vecS (bF n m l f u v s) = vecS (bF n m l f u v s)) ∧ [VV.agg [I (remZ (f ((0 : Int) + remZ ((0 : Int) + (1 : Int)) (↑m : Int))) (min (l ((0 : Int) + remZ u (↑n : Int))).drawn (l ((0 : Int) + remZ v (↑n : Int))).drawn + (1 : Int))), I (remZ (f ((0 : Int) + remZ ((0 : Int) + (1 : Int) + (1 : Int)) (↑m : Int))) (min (l ((0 : Int) + remZ u (↑n : Int))).drawn (l ((0 : Int) + remZ v (↑n : Int))).drawn + (1 : Int))), I (quoZ (quoZ (remZ s (1001 : Int) * pickF (l ((0 : Int) + remZ u (↑n : Int))).slo (l ((0 : Int) + remZ u (↑n : Int))).shi (f ((0 : Int) + remZ ((0 : Int) + (1 : Int) + (1 : Int) + (1 : Int)) (↑m : Int))) + ((1000 : Int) - remZ s (1001 : Int)) * pickF (l ((0 : Int) + remZ v (↑n : Int))).slo (l ((0 : Int) + remZ v (↑n : Int))).shi (f ((0 : Int) + remZ ((0 : Int) + (1 : Int) + (1 : Int) + (1 : Int) + (1 : Int)) (↑m : Int)))) (1000 : Int) * remZ (f ((0 : Int) + remZ ((0 : Int) + (1 : Int) + (1 : Int) + (1 : Int) + (1 : Int) + (1 : Int)) (↑m : Int))) (11 : Int)) (10 : Int)), I (quoZ (quoZ (remZ s (1001 : Int) * pickF (l ((0 : Int) + remZ u (↑n : Int))).slo (l ((0 : Int) + remZ u (↑n : Int))).shi (f ((0 : Int) + remZ ((0 : Int) + (1 : Int) + (1 : Int) + (1 : Int)) (↑m : Int))) + ((1000 : Int) - remZ s (1001 : Int)) * pickF (l ((0 : Int) + remZ v (↑n : Int))).slo (l ((0 : Int) + remZ v (↑n : Int))).shi (f ((0 : Int) + remZ ((0 : Int) + (1 : Int) + (1 : Int) + (1 : Int) + (1 : Int)) (↑m : Int)))) (1000 : Int) * remZ (f ((0 : Int) + remZ ((0 : Int) + (1 : Int) + (1 : Int) + (1 : Int) + (1 : Int) + (1 : Int)) (↑m : Int))) (11 : Int)) (10 : Int) + remZ (f ((0 : Int) + remZ ((0 : Int) + (1 : Int) + (1 : Int) + (1 : Int) + (1 : Int) + (1 : Int) + (1 : Int)) (↑m : Int))) ((10000 : Int) - quoZ (quoZ (remZ s (1001 : Int) * pickF (l ((0 : Int) + remZ u (↑n : Int))).slo (l ((0 : Int) + remZ u (↑n : Int))).shi (f ((0 : Int) + remZ ((0 : Int) + (1 : Int) + (1 : Int) + (1 : Int)) (↑m : Int))) + ((1000 : Int) - remZ s (1001 : Int)) * pickF (l ((0 : Int) + remZ v (↑n : Int))).slo (l ((0 : Int) + remZ v (↑n : Int))).shi (f ((0 : Int) + remZ ((0 : Int) + (1 : Int) + (1 : Int) + (1 : Int) + (1 : Int)) (↑m : Int)))) (1000 : Int) * remZ (f ((0 : Int) + remZ ((0 : Int) + (1 : Int) + (1 : Int) + (1 : Int) + (1 : Int) + (1 : Int)) (↑m : Int))) (11 : Int)) (10 : Int) + (1 : Int))), VV.sl 9 (l ((0 : Int) + remZ u (↑n : Int))).vl], lV n cap] = [VV.agg [I (remZ (f ((0 : Int) + remZ ((0 : Int) + (1 : Int)) (↑m : Int))) (min (l ((0 : Int) + remZ u (↑n : Int))).drawn (l ((0 : Int) + remZ v (↑n : Int))).drawn + (1 : Int))), I (remZ (f ((0 : Int) + remZ ((0 : Int) + (1 : Int) + (1 : Int)) (↑m : Int))) (min (l ((0 : Int) + remZ u (↑n : Int))).drawn (l ((0 : Int) + remZ v (↑n : Int))).drawn + (1 : Int))), I (quoZ (quoZ (remZ s (1001 : Int) * pickF (l ((0 : Int) + remZ u (↑n : Int))).slo (l ((0 : Int) + remZ u (↑n : Int))).shi (f ((0 : Int) + remZ ((0 : Int) + (1 : Int) + (1 : Int) + (1 : Int)) (↑m : Int))) + ((1000 : Int) - remZ s (1001 : Int)) * pickF (l ((0 : Int) + remZ v (↑n : Int))).slo (l ((0 : Int) + remZ v (↑n : Int))).shi (f ((0 : Int) + remZ ((0 : Int) + (1 : Int) + (1 : Int) + (1 : Int) + (1 : Int)) (↑m : Int)))) (1000 : Int) * remZ (f ((0 : Int) + remZ ((0 : Int) + (1 : Int) + (1 : Int) + (1 : Int) + (1 : Int) + (1 : Int)) (↑m : Int))) (11 : Int)) (10 : Int)), I (quoZ (quoZ (remZ s (1001 : Int) * pickF (l ((0 : Int) + remZ u (↑n : Int))).slo (l ((0 : Int) + remZ u (↑n : Int))).shi (f ((0 : Int) + remZ ((0 : Int) + (1 : Int) + (1 : Int) + (1 : Int)) (↑m : Int))) + ((1000 : Int) - remZ s (1001 : Int)) * pickF (l ((0 : Int) + remZ v (↑n : Int))).slo (l ((0 : Int) + remZ v (↑n : Int))).shi (f ((0 : Int) + remZ ((0 : Int) + (1 : Int) + (1 : Int) + (1 : Int) + (1 : Int)) (↑m : Int)))) (1000 : Int) * remZ (f ((0 : Int) + remZ ((0 : Int) + (1 : Int) + (1 : Int) + (1 : Int) + (1 : Int) + (1 : Int)) (↑m : Int))) (11 : Int)) (10 : Int) + remZ (f ((0 : Int) + remZ ((0 : Int) + (1 : Int) + (1 : Int) + (1 : Int) + (1 : Int) + (1 : Int) + (1 : Int)) (↑m : Int))) ((10000 : Int) - quoZ (quoZ (remZ s (1001 : Int) * pickF (l ((0 : Int) + remZ u (↑n : Int))).slo (l ((0 : Int) + remZ u (↑n : Int))).shi (f ((0 : Int) + remZ ((0 : Int) + (1 : Int) + (1 : Int) + (1 : Int)) (↑m : Int))) + ((1000 : Int) - remZ s (1001 : Int)) * pickF (l ((0 : Int) + remZ v (↑n : Int))).slo (l ((0 : Int) + remZ v (↑n : Int))).shi (f ((0 : Int) + remZ ((0 : Int) + (1 : Int) + (1 : Int) + (1 : Int) + (1 : Int)) (↑m : Int)))) (1000 : Int) * remZ (f ((0 : Int) + remZ ((0 : Int) + (1 : Int) + (1 : Int) + (1 : Int) + (1 : Int) + (1 : Int)) (↑m : Int))) (11 : Int)) (10 : Int) + (1 : Int))), VV.sl 9 (l ((0 : Int) + remZ u (↑n : Int))).vl], lV n cap]) ∧ ((srcA n l = srcA n l ∧ valA n l = valA n l ∧ vecS (bF n m l f u v s) = vecS (bF n m l f u v s)) ∧ [VV.agg [I (remZ (f ((0 : Int) + remZ ((0 : Int) + (1 : Int)) (↑m : Int))) (min (l ((0 : Int) + remZ u (↑n : Int))).drawn (l ((0 : Int) + remZ v (↑n : Int))).drawn + (1 : Int))), I (remZ (f ((0 : Int) + remZ ((0 : Int) + (1 : Int) + (1 : Int)) (↑m : Int))) (min (l ((0 : Int) + remZ u (↑n : Int))).drawn (l ((0 : Int) + remZ v (↑n : Int))).drawn + (1 : Int))), I (quoZ (quoZ (remZ s (1001 : Int) * pickF (l ((0 : Int) + remZ u (↑n : Int))).slo (l ((0 : Int) + remZ u (↑n : Int))).shi (f ((0 : Int) + remZ ((0 : Int) + (1 : Int) + (1 : Int) + (1 : Int)) (↑m : Int))) + ((1000 : Int) - remZ s (1001 : Int)) * pickF (l ((0 : Int) + remZ v (↑n : Int))).slo (l ((0 : Int) + remZ v (↑n : Int))).shi (f ((0 : Int) + remZ ((0 : Int) + (1 : Int) + (1 : Int) + (1 : Int) + (1 : Int)) (↑m : Int)))) (1000 : Int) * remZ (f ((0 : Int) + remZ ((0 : Int) + (1 : Int) + (1 : Int) + (1 : Int) + (1 : Int) + (1 : Int)) (↑m : Int))) (11 : Int)) (10 : Int)), I (quoZ (quoZ (remZ s (1001 : Int) * pickF (l ((0 : Int) + remZ u (↑n : Int))).slo (l ((0 : Int) + remZ u (↑n : Int))).shi (f ((0 : Int) + remZ ((0 : Int) + (1 : Int) + (1 : Int) + (1 : Int)) (↑m : Int))) + ((1000 : Int) - remZ s (1001 : Int)) * pickF (l ((0 : Int) + remZ v (↑n : Int))).slo (l ((0 : Int) + remZ v (↑n : Int))).shi (f ((0 : Int) + remZ ((0 : Int) + (1 : Int) + (1 : Int) + (1 : Int) + (1 : Int)) (↑m : Int)))) (1000 : Int) * remZ (f ((0 : Int) + remZ ((0 : Int) + (1 : Int) + (1 : Int) + (1 : Int) + (1 : Int) + (1 : Int)) (↑m : Int))) (11 : Int)) (10 : Int) + remZ (f ((0 : Int) + remZ ((0 : Int) + (1 : Int) + (1 : Int) + (1 : Int) + (1 : Int) + (1 : Int) + (1 : Int)) (↑m : Int))) ((10000 : Int) - quoZ (quoZ (remZ s (1001 : Int) * pickF (l ((0 : Int) + remZ u (↑n : Int))).slo (l ((0 : Int) + remZ u (↑n : Int))).shi (f ((0 : Int) + remZ ((0 : Int) + (1 : Int) + (1 : Int) + (1 : Int)) (↑m : Int))) + ((1000 : Int) - remZ s (1001 : Int)) * pickF (l ((0 : Int) + remZ v (↑n : Int))).slo (l ((0 : Int) + remZ v (↑n : Int))).shi (f ((0 : Int) + remZ ((0 : Int) + (1 : Int) + (1 : Int) + (1 : Int) + (1 : Int)) (↑m : Int)))) (1000 : Int) * remZ (f ((0 : Int) + remZ ((0 : Int) + (1 : Int) + (1 : Int) + (1 : Int) + (1 : Int) + (1 : Int)) (↑m : Int))) (11 : Int)) (10 : Int) + (1 : Int))), VV.sl 9 (l ((0 : Int) + remZ u (↑n : Int))).vl], lV n cap] = [VV.agg [I (remZ (f ((0 : Int) + remZ ((0 : Int) + (1 : Int)) (↑m : Int))) (min (l ((0 : Int) + remZ u (↑n : Int))).drawn (l ((0 : Int) + remZ v (↑n : Int))).drawn + (1 : Int))), I (remZ (f ((0 : Int) + remZ ((0 : Int) + (1 : Int) + (1 : Int)) (↑m : Int))) (min (l ((0 : Int) + remZ u (↑n : Int))).drawn (l ((0 : Int) + remZ v (↑n : Int))).drawn + (1 : Int))), I (quoZ (quoZ (remZ s (1001 : Int) * pickF (l ((0 : Int) + remZ u (↑n : Int))).slo (l ((0 : Int) + remZ u (↑n : Int))).shi (f ((0 : Int) + remZ ((0 : Int) + (1 : Int) + (1 : Int) + (1 : Int)) (↑m : Int))) + ((1000 : Int) - remZ s (1001 : Int)) * pickF (l ((0 : Int) + remZ v (↑n : Int))).slo (l ((0 : Int) + remZ v (↑n : Int))).shi (f ((0 : Int) + remZ ((0 : Int) + (1 : Int) + (1 : Int) + (1 : Int) + (1 : Int)) (↑m : Int)))) (1000 : Int) * remZ (f ((0 : Int) + remZ ((0 : Int) + (1 : Int) + (1 : Int) + (1 : Int) + (1 : Int) + (1 : Int)) (↑m : Int))) (11 : Int)) (10 : Int)), I (quoZ (quoZ (remZ s (1001 : Int) * pickF (l ((0 : Int) + remZ u (↑n : Int))).slo (l ((0 : Int) + remZ u (↑n : Int))).shi (f ((0 : Int) + remZ ((0 : Int) + (1 : Int) + (1 : Int) + (1 : Int)) (↑m : Int))) + ((1000 : Int) - remZ s (1001 : Int)) * pickF (l ((0 : Int) + remZ v (↑n : Int))).slo (l ((0 : Int) + remZ v (↑n : Int))).shi (f ((0 : Int) + remZ ((0 : Int) + (1 : Int) + (1 : Int) + (1 : Int) + (1 : Int)) (↑m : Int)))) (1000 : Int) * remZ (f ((0 : Int) + remZ ((0 : Int) + (1 : Int) + (1 : Int) + (1 : Int) + (1 : Int) + (1 : Int)) (↑m : Int))) (11 : Int)) (10 : Int) + remZ (f ((0 : Int) + remZ ((0 : Int) + (1 : Int) + (1 : Int) + (1 : Int) + (1 : Int) + (1 : Int) + (1 : Int)) (↑m : Int))) ((10000 : Int) - quoZ (quoZ (remZ s (1001 : Int) * pickF (l ((0 : Int) + remZ u (↑n : Int))).slo (l ((0 : Int) + remZ u (↑n : Int))).shi (f ((0 : Int) + remZ ((0 : Int) + (1 : Int) + (1 : Int) + (1 : Int)) (↑m : Int))) + ((1000 : Int) - remZ s (1001 : Int)) * pickF (l ((0 : Int) + remZ v (↑n : Int))).slo (l ((0 : Int) + remZ v (↑n : Int))).shi (f ((0 : Int) + remZ ((0 : Int) + (1 : Int) + (1 : Int) + (1 : Int) + (1 : Int)) (↑m : Int)))) (1000 : Int) * remZ (f ((0 : Int) + remZ ((0 : Int) + (1 : Int) + (1 : Int) + (1 : Int) + (1 : Int) + (1 : Int)) (↑m : Int))) (11 : Int)) (10 : Int) + (1 : Int))), VV.sl 9 (l ((0 : Int) + remZ u (↑n : Int))).vl], lV n cap]) ∧ bif !decide (orE n (bF n m l f u v s) l = (0 : Int)) then
 Q (VRes.ret (VV.bool false))
 else bif !decide (shE n l (bF n m l f u v s) (remZ u (↑n : Int)) (remZ v (↑n : Int)) = (0 : Int)) then
 Q (VRes.ret (VV.bool false))
 else bif decide ((shR n l (bF n m l f u v s) (remZ u (↑n : Int)) (remZ v (↑n : Int))).lb < (1 : Int)) then
 Q (VRes.ret (VV.bool false))
 else bif decide ((shR n l (bF n m l f u v s) (remZ u (↑n : Int)) (remZ v (↑n : Int))).mb < (1 : Int)) then
 Q (VRes.ret (VV.bool false))
 else bif inK IntKind.i64 ((shR n l (bF n m l f u v s) (remZ u (↑n : Int)) (remZ v (↑n : Int))).la * (1000 : Int)) then
 bif inK IntKind.i64 (remZ s (1001 : Int) * (shR n l (bF n m l f u v s) (remZ u (↑n : Int)) (remZ v (↑n : Int))).lb) then
 bif decide ((shR n l (bF n m l f u v s) (remZ u (↑n : Int)) (remZ v (↑n : Int))).la * (1000 : Int) > remZ s (1001 : Int) * (shR n l (bF n m l f u v s) (remZ u (↑n : Int)) (remZ v (↑n : Int))).lb) then
 Q (VRes.ret (VV.bool false))
 else bif inK IntKind.i64 ((shR n l (bF n m l f u v s) (remZ u (↑n : Int)) (remZ v (↑n : Int))).ma * (1000 : Int)) then
 bif inK IntKind.i64 (remZ s (1001 : Int) * (shR n l (bF n m l f u v s) (remZ u (↑n : Int)) (remZ v (↑n : Int))).mb) then
 bif decide ((shR n l (bF n m l f u v s) (remZ u (↑n : Int)) (remZ v (↑n : Int))).ma * (1000 : Int) < remZ s (1001 : Int) * (shR n l (bF n m l f u v s) (remZ u (↑n : Int)) (remZ v (↑n : Int))).mb) then
 Q (VRes.ret (VV.bool false))
 else (FitP 0 (VH.mk (15) ([11, 12].zip [vecI (orS n (bF n m l f u v s) l), vecP (orP n (bF n m l f u v s) l)])) (dsU2.zip (VU2 (orS n (bF n m l f u v s) l) (orP n (bF n m l f u v s) l) (remZ u (↑n : Int)) (remZ v (↑n : Int)) (0 : Int) false)) (VH.mk (15) ([11, 12].zip [vecI (orS n (bF n m l f u v s) l), vecP (orP n (bF n m l f u v s) l)])) (dsU2.zip (VU2 (orS n (bF n m l f u v s) l) (orP n (bF n m l f u v s) l) (remZ u (↑n : Int)) (remZ v (↑n : Int)) (0 : Int) false)) ∧ (orS n (bF n m l f u v s) l).length ≤ maxI) ∧ (hasS (orS n (bF n m l f u v s) l) (remZ u (↑n : Int)) (remZ v (↑n : Int)) = false → (FitP 0 (VH.mk (15) ([12].zip [vecP (orP n (bF n m l f u v s) l)])) (dsU4.zip (VU4 (orP n (bF n m l f u v s) l) (remZ u (↑n : Int)) (remZ v (↑n : Int)) (0 : Int) false)) (VH.mk (15) ([12].zip [vecP (orP n (bF n m l f u v s) l)])) (dsU4.zip (VU4 (orP n (bF n m l f u v s) l) (remZ u (↑n : Int)) (remZ v (↑n : Int)) (0 : Int) false)) ∧ (orP n (bF n m l f u v s) l).length ≤ maxI) ∧ (hasP (orP n (bF n m l f u v s) l) (remZ u (↑n : Int)) (remZ v (↑n : Int)) = false → Q (VRes.ret (VV.bool false))) ∧ (hasP (orP n (bF n m l f u v s) l) (remZ u (↑n : Int)) (remZ v (↑n : Int)) = true → ∀ (j : Nat), Q (VRes.ret (VV.bool true)))) ∧ (hasS (orS n (bF n m l f u v s) l) (remZ u (↑n : Int)) (remZ v (↑n : Int)) = true → ∀ (j : Nat), Q (VRes.ret (VV.bool true)))
 else False
 else False
 else False
 else False
 else False
 else False
 else False
 else False
 else False
 else False
 else False
 else False
 else False
 else False
 else False
 else False
 else False
 else False
 else False
 else False
 else False
 else False
 else False
 else False
 else False
 else False
 else False
 else False
 else False
 else False
 else False) := by kernel_rfl


end Go.Sx.Gen

/- genuine: GenuineTrue (plain), what was made can come from what it was made of. -/

namespace Go.Sx.Gen
open Go Go.Sx Go.Proofs
set_option maxRecDepth 100000

theorem mem_filt {p : Int → Bool} {x : Int} : ∀ {k : Nat} {i : Int}, x ∈ filt p k i ↔ (i ≤ x ∧ x < i + k) ∧ p x = true
  | 0, i => by
    simp only [filt, List.not_mem_nil, false_iff]
    rintro ⟨⟨h1, h2⟩, _⟩
    omega
  | k + 1, i => by
    simp only [filt]
    by_cases hp : p i = true
    · rw [hp]
      simp only [cond_true, List.mem_cons, mem_filt (k := k) (i := i + 1)]
      constructor
      · rintro (rfl | ⟨⟨h1, h2⟩, h3⟩)
        · exact ⟨⟨by omega, by omega⟩, hp⟩
        · exact ⟨⟨by omega, by omega⟩, h3⟩
      · rintro ⟨⟨h1, h2⟩, h3⟩
        rcases Int.lt_or_eq_of_le h1 with h | h
        · exact .inr ⟨⟨by omega, by omega⟩, h3⟩
        · exact .inl h.symm
    · have hp : p i = false := by simpa using hp
      rw [hp]
      simp only [cond_false, mem_filt (k := k) (i := i + 1)]
      constructor
      · rintro ⟨⟨h1, h2⟩, h3⟩
        exact ⟨⟨by omega, by omega⟩, h3⟩
      · rintro ⟨⟨h1, h2⟩, h3⟩
        rcases Int.lt_or_eq_of_le h1 with h | h
        · exact ⟨⟨by omega, by omega⟩, h3⟩
        · subst h; rw [hp] at h3; cases h3

section
variable {n m : Nat} {l : Int → Src} {f : Int → Int} {b : Sus} {i j p : Int}

theorem fitB1_iff {i : Int} : fitB1 b l i = true ↔ ∀ k : Int, 0 ≤ k → k < 3 + (l i).vl → rP b (l i) k = false := by
  unfold fitB1 eN
  rw [List.isEmpty_iff]
  unfold reasonsF
  constructor
  · intro h k h1 h2
    cases hk : rP b (l i) k with
    | false => rfl
    | true =>
      have : k ∈ filt (rP b (l i)) (3 + (l i).vl) 0 := mem_filt.2 ⟨⟨h1, by omega⟩, hk⟩
      rw [h] at this
      cases this
  · intro h
    refine List.eq_nil_iff_forall_not_mem.2 fun x hx => ?_
    obtain ⟨⟨h1, h2⟩, h3⟩ := mem_filt.1 hx
    rw [h x h1 (by omega)] at h3
    cases h3

theorem mem_pairsF {a c : Int} : ∀ {m : Nat} {i : Int}, i ≤ a → a < i + m → fitB1 b l a = false → a < c → c < n → prB b l a c = true → (a, c) ∈ pairsF n b l m i
  | 0, _, h1, h2, _, _, _, _ => by omega
  | m + 1, i, h1, h2, h3, h4, h5, h6 => by
    simp only [pairsF]
    rw [List.mem_append]
    rcases Int.lt_or_eq_of_le h1 with h | rfl
    · exact .inr (mem_pairsF (by omega) (by omega) h3 h4 h5 h6)
    · left
      rw [h3]
      simp only [cond_false, pairs1, List.mem_map]
      exact ⟨c, mem_filt.2 ⟨⟨by omega, by omega⟩, h6⟩, rfl⟩

/-- What was made. -/
structure BotOk (b : Sus) (x y : Src) (p : Int) : Prop where
  glass : 0 ≤ b.glass ∧ b.glass ≤ min x.drawn y.drawn
  paper : 0 ≤ b.paper ∧ b.paper ≤ min x.drawn y.drawn
  slo : 0 ≤ b.slo ∧ b.slo * 1000 ≤ p * x.shi + (1000 - p) * y.shi
  shi : b.slo ≤ b.shi ∧ b.shi ≤ 10000
  sl : b.sl = x.vl
  val : ∀ k : Int, 0 ≤ k → k < x.vl → (0 ≤ b.lo k ∧ b.lo k ≤ b.hi k ∧ b.hi k ≤ 1048576) ∧ b.lo k * 1000 ≤ p * x.hi k + (1000 - p) * y.hi k ∧ p * x.lo k + (1000 - p) * y.lo k ≤ b.hi k * 1000

theorem nz_in (ok : OkT n m l f i j p) {z : Int} (hz : 0 ≤ z) : 0 ≤ f (0 + remZ z m) ∧ f (0 + remZ z m) ≤ 4294967295 := by
  have hm := ok.hm
  rw [remZ_nn hz, Int.zero_add]
  exact ok.hf _ (Int.emod_nonneg _ (by omega)) (Int.emod_lt_of_pos _ (by omega))

theorem rem_in {u k : Int} (hu : 0 ≤ u) (hk : 0 < k) : 0 ≤ remZ u k ∧ remZ u k < k := by
  rw [remZ_nn hu]
  exact ⟨Int.emod_nonneg _ (by omega), Int.emod_lt_of_pos _ hk⟩

/-- What is mixed is between what is mixed of the least and of the most. -/
theorem mix_in {a c A C u w : Int} (hp : 0 ≤ p ∧ p ≤ 1000) (h1 : a ≤ u ∧ u ≤ A) (h2 : c ≤ w ∧ w ≤ C) : p * a + (1000 - p) * c ≤ p * u + (1000 - p) * w ∧ p * u + (1000 - p) * w ≤ p * A + (1000 - p) * C := by
  have k1 := Int.mul_le_mul_of_nonneg_left h1.1 hp.1
  have k2 := Int.mul_le_mul_of_nonneg_left h1.2 hp.1
  have k3 := Int.mul_le_mul_of_nonneg_left h2.1 (show 0 ≤ 1000 - p by omega)
  have k4 := Int.mul_le_mul_of_nonneg_left h2.2 (show 0 ≤ 1000 - p by omega)
  omega

theorem str_in (ok : OkT n m l f i j p) : 0 ≤ strT m f p (l i) (l j) ∧ strT m f p (l i) (l j) ≤ 10000000 ∧ strT m f p (l i) (l j) ≤ p * (l i).shi + (1000 - p) * (l j).shi := by
  have a1 := pickF_in (a := (l i).slo) (c := (l i).shi) (u := nz3 m f) ok.sx.str.2.1 (nz_in ok (by omega)).1
  have a2 := pickF_in (a := (l j).slo) (c := (l j).shi) (u := nz4 m f) ok.sy.str.2.1 (nz_in ok (by omega)).1
  have h1 := ok.sx.str
  have h2 := ok.sy.str
  have k1 := mix_in ok.hp (a := 0) (c := 0) (A := (l i).shi) (C := (l j).shi) (u := pickF (l i).slo (l i).shi (nz3 m f)) (w := pickF (l j).slo (l j).shi (nz4 m f)) (by omega) (by omega)
  have k2 := mix_in ok.hp (a := 0) (c := 0) (A := 10000) (C := 10000) (u := (l i).shi) (w := (l j).shi) (by omega) (by omega)
  unfold strT
  refine ⟨by omega, by omega, k1.2⟩

theorem slo_in (ok : OkT n m l f i j p) : (0 ≤ sloT m f p (l i) (l j) ∧ sloT m f p (l i) (l j) * 1000 ≤ strT m f p (l i) (l j)) ∧ (0 ≤ quoZ (strT m f p (l i) (l j)) 1000 ∧ quoZ (strT m f p (l i) (l j)) 1000 ≤ 10000) ∧ 0 ≤ quoZ (strT m f p (l i) (l j)) 1000 * remZ (nz5 m f) 11 ∧ quoZ (strT m f p (l i) (l j)) 1000 * remZ (nz5 m f) 11 ≤ 100000 := by
  obtain ⟨s0, s1, _⟩ := str_in ok
  have r := rem_in (u := nz5 m f) (k := 11) (nz_in ok (by omega)).1 (by omega)
  unfold sloT
  generalize strT m f p (l i) (l j) = S at *
  generalize remZ (nz5 m f) 11 = R at *
  rw [quoZ_nn s0]
  have q0 : 0 ≤ S / 1000 := by omega
  have k1 : S / 1000 * R ≤ S / 1000 * 10 := Int.mul_le_mul_of_nonneg_left (by omega) q0
  have k2 : 0 ≤ S / 1000 * R := Int.mul_nonneg q0 r.1
  rw [quoZ_nn k2]
  generalize S / 1000 * R = T at *
  omega

theorem m_in (ok : OkT n m l f i j p) {k : Int} (h0 : 0 ≤ k) (h1 : k < (l i).vl) : (0 ≤ mLo m f p (l i) (l j) k ∧ mLo m f p (l i) (l j) k ≤ mHi m f p (l i) (l j) k ∧ mHi m f p (l i) (l j) k ≤ 1048576) ∧ mLo m f p (l i) (l j) k * 1000 ≤ p * (l i).hi k + (1000 - p) * (l j).hi k ∧ p * (l i).lo k + (1000 - p) * (l j).lo k ≤ mHi m f p (l i) (l j) k * 1000 := by
  have v1 := ok.sx.val k h0 h1
  have v2 := ok.sy.val k h0 (by have := ok.vl; omega)
  have a1 := pickF_in (a := (l i).lo k) (c := (l i).hi k) (u := nxF m f (6 + 4 * k + 1)) v1.2.1 (nz_in ok (by omega)).1
  have a2 := pickF_in (a := (l j).lo k) (c := (l j).hi k) (u := nxF m f (6 + 4 * k + 1 + 1)) v2.2.1 (nz_in ok (by omega)).1
  have k1 := mix_in ok.hp a1 a2
  have k2 := mix_in ok.hp (a := 0) (c := 0) (A := 1048576) (C := 1048576) (u := pickF ((l i).lo k) ((l i).hi k) (nxF m f (6 + 4 * k + 1))) (w := pickF ((l j).lo k) ((l j).hi k) (nxF m f (6 + 4 * k + 1 + 1))) (by omega) (by omega)
  have r1 := rem_in (u := nxF m f (6 + 4 * k + 1 + 1 + 1)) (k := 5) (nz_in ok (by omega)).1 (by omega)
  have r2 := rem_in (u := nxF m f (6 + 4 * k + 1 + 1 + 1 + 1)) (k := 5) (nz_in ok (by omega)).1 (by omega)
  unfold mLo mHi tLo tHi tN
  rw [Int.zero_add]
  generalize p * pickF ((l i).lo k) ((l i).hi k) (nxF m f (6 + 4 * k + 1)) + (1000 - p) * pickF ((l j).lo k) ((l j).hi k) (nxF m f (6 + 4 * k + 1 + 1)) = N at *
  generalize remZ (nxF m f (6 + 4 * k + 1 + 1 + 1)) 5 = R1 at *
  generalize remZ (nxF m f (6 + 4 * k + 1 + 1 + 1 + 1)) 5 = R2 at *
  generalize p * (l i).hi k + (1000 - p) * (l j).hi k = H at *
  generalize p * (l i).lo k + (1000 - p) * (l j).lo k = L at *
  rw [quoZ_nn (show 0 ≤ N by omega), quoZ_nn (show 0 ≤ N + 999 by omega)]
  omega

theorem botT_ok (ok : OkT n m l f i j p) : BotOk (botT m f p (l i) (l j)) (l i) (l j) p := by
  have d1 := ok.sx.drawn
  have d2 := ok.sy.drawn
  have g1 := rem_in (u := nz1 m f) (k := min (l i).drawn (l j).drawn + 1) (nz_in ok (by omega)).1 (by omega)
  have g2 := rem_in (u := nz2 m f) (k := min (l i).drawn (l j).drawn + 1) (nz_in ok (by omega)).1 (by omega)
  have s1 := str_in ok
  have s2 := slo_in ok
  have g3 := rem_in (u := nz6 m f) (k := 10000 - sloT m f p (l i) (l j) + 1) (nz_in ok (by omega)).1 (by omega)
  exact ⟨⟨g1.1, by show remZ _ _ ≤ _; omega⟩, ⟨g2.1, by show remZ _ _ ≤ _; omega⟩, ⟨s2.1.1, by show sloT m f p (l i) (l j) * 1000 ≤ _; omega⟩, ⟨by show sloT m f p (l i) (l j) ≤ sloT m f p (l i) (l j) + _; omega, by show sloT m f p (l i) (l j) + _ ≤ _; omega⟩, rfl, fun k h0 h1 => m_in ok h0 h1⟩

theorem bot_kp {x y : Src} (h : BotOk b x y p) (hp : 0 ≤ p ∧ p ≤ 1000) : kpA b x y p 1000 := by
  obtain ⟨_, _, ⟨_, h1⟩, _, hs, hv⟩ := h
  intro q hq
  rw [hs] at hq
  unfold bdF
  by_cases q0 : q = 0
  · rw [if_pos q0]; dsimp only; omega
  · rw [if_neg q0]
    by_cases q1 : q = 1
    · rw [if_pos q1]; dsimp only; omega
    · rw [if_neg q1]
      by_cases q2 : q = 2
      · rw [if_pos q2]
        dsimp only
        rw [Int.sub_mul, Int.sub_mul]
        rw [Int.sub_mul, Int.mul_comm p, Int.mul_comm p] at h1
        rw [Int.mul_comm 1000] at h1
        omega
      · rw [if_neg q2]
        obtain ⟨_, k1, k2⟩ := hv ((q - 3) / 2 : Nat) (by omega) (by omega)
        rw [Int.sub_mul, Int.mul_comm p, Int.mul_comm p, Int.mul_comm 1000] at k1 k2
        by_cases q3 : (q - 3) % 2 = 0
        · rw [if_pos q3]
          dsimp only
          rw [Int.sub_mul, Int.sub_mul]
          omega
        · rw [if_neg q3]
          dsimp only
          rw [Int.sub_mul, Int.sub_mul]
          omega

/-- A share that keeps all is told. -/
theorem share_of_kp {x y : Src} (h : kpA b x y p 1000) (hg : b.glass ≤ min x.drawn y.drawn) (hq : b.paper ≤ min x.drawn y.drawn) : shareB b x y = true := by
  obtain ⟨g1, g2, g3⟩ := (kpA_iff (by decide)).1 h
  obtain ⟨hlb, hmb, _⟩ := rfInv_all b x y
  have g4 := frac_le (a := (rfF b x y).la) (b := (rfF b x y).lb) (c := p) (d := 1000) (e := (rfF b x y).ma) (f := (rfF b x y).mb) (Int.le_of_lt hlb) (by decide) (Int.le_of_lt hmb) g2 g3
  rw [shareB_rf, g1]
  have g5 : ¬ (rfF b x y).ma * (rfF b x y).lb < (rfF b x y).la * (rfF b x y).mb := by omega
  rw [decide_eq_false g5, decide_eq_true (show min x.drawn y.drawn ≥ b.glass by omega), decide_eq_true (show min x.drawn y.drawn ≥ b.paper by omega)]
  rfl

/-- Two of the same. -/
theorem fit_of_kp (h : kpA b (l i) (l i) p 1000) (hsl : b.sl = (l i).vl) (hg : b.glass ≤ (l i).drawn) (hq : b.paper ≤ (l i).drawn) : fitB1 b l i = true := by
  refine fitB1_iff.2 fun k h0 h1 => ?_
  unfold rP
  by_cases k3 : k < 3
  · rw [decide_eq_true k3]
    by_cases k0 : k = 0
    · rw [decide_eq_true k0]; simp; omega
    · rw [decide_eq_false k0]
      by_cases k1 : k = 1
      · rw [decide_eq_true k1]; simp; omega
      · rw [decide_eq_false k1]
        have := h 2 (by omega)
        simp only [bdF, if_true, Int.sub_self, Int.zero_mul] at this
        simp at this
        simp; omega
  · rw [decide_eq_false k3]
    have a1 := h (3 + 2 * (k - 3).toNat) (by omega)
    have a2 := h (3 + 2 * (k - 3).toNat + 1) (by omega)
    unfold bdF at a1 a2
    rw [if_neg (by omega), if_neg (by omega), if_neg (by omega), if_pos (by omega)] at a1
    rw [if_neg (by omega), if_neg (by omega), if_neg (by omega), if_neg (by omega)] at a2
    rw [show (((3 + 2 * (k - 3).toNat - 3) / 2 : Nat) : Int) = k - 3 by omega] at a1
    rw [show (((3 + 2 * (k - 3).toNat + 1 - 3) / 2 : Nat) : Int) = k - 3 by omega] at a2
    simp only [Int.sub_self, Int.zero_mul] at a1 a2
    simp
    omega

theorem okB_of (hs : srcsB n l = true) (hi : 0 ≤ i ∧ i < n) (hx : SrcIn (l i)) {y : Src} (h : BotOk b (l i) y p) : okB n l b = true := by
  have hv : ((l i).vl : Int) = (l 0).vl := by
    simp only [srcsB, Bool.and_eq_true] at hs
    have h4 := allB_iff.1 hs.2 i hi.1 (by omega)
    simp only [srcB, Bool.and_eq_true, decide_eq_true_eq] at h4
    exact h4.2
  have hd := hx.drawn
  obtain ⟨h1, h2, h3, h4, h5, h6⟩ := h
  have hvl := hx.vl
  unfold okB bothB susB spansB
  rw [hs]
  simp only [Bool.true_and, Bool.and_eq_true, Bool.or_eq_true, inB_iff, spanB_iff, decide_eq_true_eq]
  refine ⟨⟨⟨⟨by omega, by omega⟩, by omega⟩, by omega, allB_iff.2 fun k k0 k1 => spanB_iff.2 (h6 k k0 (by omega)).1⟩, .inr (by omega)⟩

theorem srcIn_of (hs : srcsB n l = true) (h0 : 0 ≤ i) (h1 : i < n) : SrcIn (l i) ∧ ((l i).vl : Int) = (l 0).vl := by
  simp only [srcsB, Bool.and_eq_true] at hs
  have h4 := allB_iff.1 hs.2 i h0 (by omega)
  simp only [srcB, spansB, Bool.and_eq_true, inB_iff, spanB_iff, decide_eq_true_eq] at h4
  refine ⟨⟨by omega, h4.1.1.1.2, h4.1.1.2, fun k k0 k1 => ?_⟩, h4.2⟩
  exact spanB_iff.1 (allB_iff.1 h4.1.2.2 k k0 (by omega))

/-- Both are told, alone or as a pair. -/
theorem has_both (hok : okB n l b = true) (hi : 0 ≤ i ∧ i < n) (hj : 0 ≤ j ∧ j < n) (hsl : b.sl = (l i).vl) (hg : b.glass ≤ min (l i).drawn (l j).drawn) (hq : b.paper ≤ min (l i).drawn (l j).drawn) (h : kpA b (l i) (l j) p 1000) (hno : hasS (orS n b l) i j = false) : hasP (orP n b l) i j = true := by
  have hS : orS n b l = filt (fitB1 b l) n 0 := by unfold orS; rw [hok]; rfl
  have hP : orP n b l = pairsF n b l n 0 := by unfold orP; rw [hok]; rfl
  rw [hS] at hno
  rw [hP]
  have no1 : ∀ k : Int, 0 ≤ k → k < n → (k = i ∨ k = j) → fitB1 b l k = false := by
    intro k k0 k1 k2
    cases hk : fitB1 b l k with
    | false => rfl
    | true =>
      have : hasS (filt (fitB1 b l) n 0) i j = true := by
        unfold hasS
        rw [List.any_eq_true]
        exact ⟨k, mem_filt.2 ⟨⟨k0, by omega⟩, hk⟩, by simpa using k2⟩
      rw [this] at hno; cases hno
  have n1 := no1 i hi.1 hi.2 (.inl rfl)
  have n2 := no1 j hj.1 hj.2 (.inr rfl)
  have hij : i ≠ j := by
    rintro rfl
    rw [fit_of_kp h hsl (by omega) (by omega)] at n1
    cases n1
  have hsh := share_of_kp h hg hq
  unfold hasP
  rw [List.any_eq_true]
  rcases Int.lt_or_gt_of_ne hij with hlt | hlt
  · refine ⟨(i, j), mem_pairsF (by omega) (by omega) n1 hlt hj.2 ?_, ?_⟩
    · unfold prB; rw [n2, hsh]; rfl
    · simp; omega
  · refine ⟨(j, i), mem_pairsF (by omega) (by omega) n2 hlt hi.2 ?_, ?_⟩
    · unfold prB; rw [n1, share_mir, hsh]; rfl
    · simp; omega
end
end Go.Sx.Gen

/- genuine: GenuineTrue. -/

namespace Go.Sx.Gen
open Go Go.Sx Go.Proofs
set_option maxRecDepth 100000

section
variable {n cap m cm : Nat} {l : Int → Src} {f : Int → Int} {u v s : Int}

theorem LMt_ok : LSound Try.prog true (.block 0 (.loop (loopB 0 (bodyOf Try.prog 5)))) 277 (LMt n cap m cm l f) := by
  intro lock t h K hK
  unfold LMt at hK
  split at hK
  · exact LM0_ok _ _ _ _ hK
  · exact hK.elim

theorem lo5 {S : List Int} {P : List (Int × Int)} {a c : Int} : LoopsOk Try.prog 5 [(0, LMt n cap m cm l f), (2, LU2 S P a c), (4, LU4 P a c)] := by
  intro x hx
  simp only [List.mem_cons, List.not_mem_nil, or_false] at hx
  rcases hx with rfl | rfl | rfl
  · exact ⟨by kernel_rfl, LMt_ok⟩
  · exact ⟨by kernel_rfl, LU2_ok⟩
  · exact ⟨by kernel_rfl, LU4_ok⟩

def t5r (n m : Nat) (l : Int → Src) (f : Int → Int) (u v s : Int) : List (FuncId × Spec1) := [awT, srcT 21 n l bT0, pick23T, or15ST n l (bF n m l f u v s), sh13ST n l (bF n m l f u v s)]

/-- The end of the law: what is made is told. -/
theorem law5_end {b : Sus} {p : Int} (hs : srcsB n l = true) (hu : 0 ≤ u ∧ u < n) (hv : 0 ≤ v ∧ v < n) (hp : 0 ≤ p ∧ p ≤ 1000) (h : BotOk b (l u) (l v) p) : okB n l b = true ∧ EndsOk n l b u v (shR n l b u v) (shR n l b v u) ∧ shE n l b u v = 0 ∧ ((shR n l b u v).la * 1000 ≤ p * (shR n l b u v).lb ∧ p * (shR n l b u v).mb ≤ (shR n l b u v).ma * 1000) ∧ (hasS (orS n b l) u v = false → hasP (orP n b l) u v = true) := by
  have hok := okB_of hs hu (srcIn_of hs hu.1 hu.2).1 h
  have hk := bot_kp h hp
  have hsh := share_of_kp hk h.glass.2 h.paper.2
  have hE : shE n l b u v = 0 := by unfold shE; rw [hok, inR_iff.2 hu, inR_iff.2 hv, hsh]; rfl
  have he := ends_ok hE
  refine ⟨hok, he, hE, ?_, has_both hok hu hv h.sl h.glass.2 h.paper.2 hk⟩
  rw [he.es]
  exact ((kpA_iff (by decide)).1 hk).2

theorem law5_v (hw : Wf n l bT0) (hl : (l (0 + remZ u n)).vl ≤ maxI) (hm : m ≤ maxI) (hf : ∀ q : Int, 0 ≤ q → q < m → 0 ≤ f q ∧ f q ≤ 4294967295) (hu : 0 ≤ u ∧ u ≤ 255) (hv : 0 ≤ v ∧ v ≤ 255) (hs : 0 ≤ s ∧ s ≤ 65535) :
    ∃ h', CallsV Try.prog 5 [lV n cap, .int .u8 u, .int .u8 v, .int .u16 s, .slice (.el 3 [] 0 0) m cm] (hT n l m f) (.ret (.bool true)) h' := by
  have hwb : Wf n l (bF n m l f u v s) := ⟨hw.hn, hw.hl, hl⟩
  have hsp := spBL_ok hmix (tabs_ok (l := t5r n m l f u v s) (by
      intro x hx
      simp only [t5r, List.mem_cons, List.not_mem_nil, or_false] at hx
      rcases hx with rfl | rfl | rfl | rfl | rfl
      · exact awT_ok
      · exact srcT_ok (fun _ => src21_v hw)
      · exact pick23T_ok
      · exact or15ST_ok hwb
      · exact sh13ST_ok hwb)) (f := 5) (lo5 (n := n) (cap := cap) (m := m) (cm := cm) (l := l) (f := f) (S := orS n (bF n m l f u v s) l) (P := orP n (bF n m l f u v s) l) (a := remZ u n) (c := remZ v n)) (un := 10) (fu := 20)
  obtain ⟨r, h', hQ, hcc⟩ := of_sp hsp (args := [lV n cap, .int .u8 u, .int .u8 v, .int .u16 s, .slice (.el 3 [] 0 0) m cm]) (h := hT n l m f) (K := fun r _ => r = .ret (.bool true))
    (by
      show spBL Try.prog 5 (tabS [awT, srcT 21 n l bT0, pick23T, or15ST n l (bF n m l f u v s), sh13ST n l (bF n m l f u v s)]) _ 10 20 0 _ _ _
      rw [f5_ev]
      refine cond_d (fun _ => rfl) (fun h1 => cond_d (fun _ => rfl) (fun h2 => cond_d (fun _ => rfl) (fun h3 => ⟨⟨⟨rfl, rfl, rfl⟩, rfl⟩, cond_i (fun _ => rfl) (fun h4 => ?_)⟩)))
      have hsr : srcsB n l = true := by simpa using h4
      have u1 := rem_in (u := u) (k := n) hu.1 (by omega)
      have v1 := rem_in (u := v) (k := n) hv.1 (by omega)
      have s1 := rem_in (u := s) (k := 1001) hs.1 (by omega)
      obtain ⟨sx, vx⟩ := srcIn_of hsr (i := 0 + remZ u n) (by omega) (by omega)
      obtain ⟨sy, vy⟩ := srcIn_of hsr (i := 0 + remZ v n) (by omega) (by omega)
      have ok : OkT n m l f (0 + remZ u n) (0 + remZ v n) (remZ s 1001) := ⟨by omega, by omega, sx, sy, by omega, ⟨by omega, hm⟩, hf, by omega⟩
      have hb : BotOk (bF n m l f u v s) (l (0 + remZ u n)) (l (0 + remZ v n)) (remZ s 1001) := botT_ok ok
      have hE := law5_end (u := 0 + remZ u n) (v := 0 + remZ v n) hsr (by omega) (by omega) (by omega) hb
      have b1 := str_in ok
      have b2 := slo_in ok
      have d1 := sx.drawn
      have d2 := sy.drawn
      have d3 := sx.str
      have d4 := sy.str
      have g1 := nz_in ok (z := 0 + 1) (by omega)
      have g2 := nz_in ok (z := 0 + 1 + 1) (by omega)
      have g3 := nz_in ok (z := 0 + 1 + 1 + 1) (by omega)
      have g4 := nz_in ok (z := 0 + 1 + 1 + 1 + 1) (by omega)
      have g5 := nz_in ok (z := 0 + 1 + 1 + 1 + 1 + 1) (by omega)
      have g6 := nz_in ok (z := 0 + 1 + 1 + 1 + 1 + 1 + 1) (by omega)
      have r1 := rem_in (u := 0 + 1) (k := m) (by omega) (by omega)
      have r2 := rem_in (u := 0 + 1 + 1) (k := m) (by omega) (by omega)
      have r3 := rem_in (u := 0 + 1 + 1 + 1) (k := m) (by omega) (by omega)
      have r4 := rem_in (u := 0 + 1 + 1 + 1 + 1) (k := m) (by omega) (by omega)
      have r5 := rem_in (u := 0 + 1 + 1 + 1 + 1 + 1) (k := m) (by omega) (by omega)
      have r6 := rem_in (u := 0 + 1 + 1 + 1 + 1 + 1 + 1) (k := m) (by omega) (by omega)
      have k1 := pickF_in (a := (l (0 + remZ u n)).slo) (c := (l (0 + remZ u n)).shi) (u := nz3 m f) d3.2.1 g3.1
      have k2 := pickF_in (a := (l (0 + remZ v n)).slo) (c := (l (0 + remZ v n)).shi) (u := nz4 m f) d4.2.1 g4.1
      have p1 := mulP (p := remZ s 1001) (a := pickF (l (0 + remZ u n)).slo (l (0 + remZ u n)).shi (nz3 m f)) (by omega) (by omega)
      have p2 := mulP (p := 1000 - remZ s 1001) (a := pickF (l (0 + remZ v n)).slo (l (0 + remZ v n)).shi (nz4 m f)) (by omega) (by omega)
      have w6 := rem_in (u := nz6 m f) (k := 10000 - sloT m f (remZ s 1001) (l (0 + remZ u n)) (l (0 + remZ v n)) + 1) g6.1 (by omega)
      simp only [sloT, strT, nz3, nz4, nz5, nz6] at b1 b2 k1 k2 p1 p2 w6
      repeat' first
        | (refine cond_r (by omega) ?_)
        | (refine cond_d (fun h => by omega) (fun _ => ?_))
        | (refine cond_dk ⟨by omega, by omega⟩ ?_)
        | (refine ⟨⟨rfl, by omega, by omega⟩, ?_⟩)
        | (refine ⟨⟨by omega, by omega, by omega, by omega, by omega⟩, ?_⟩)
        | fail
      refine ⟨⟨fitP_self rfl, ok⟩, ⟨⟨rfl, rfl, rfl⟩, rfl⟩, ⟨⟨rfl, rfl, rfl⟩, rfl⟩, ?_⟩
      rw [show (0 : Int) + remZ u n = remZ u n from Int.zero_add _, show (0 : Int) + remZ v n = remZ v n from Int.zero_add _] at hE
      clear b1 b2 k1 k2 p1 p2 w6 g1 g2 g3 g4 g5 g6 r1 r2 r3 r4 r5 r6 hb ok
      generalize bF n m l f u v s = b at *
      generalize remZ s 1001 = p at *
      generalize remZ u n = i at *
      generalize remZ v n = j at *
      obtain ⟨hok, he, h0, ⟨c1, c2⟩, hps⟩ := hE
      obtain ⟨e1, e2, e3, e4⟩ := he.bd
      have hlb := he.lb
      have hmb := he.mb
      have h2 : (orS n b l).length ≤ maxI := Nat.le_trans orS_len (by unfold maxI; omega)
      have h3 : (orP n b l).length ≤ maxI := Nat.le_trans orP_len (by unfold maxI; omega)
      have hOr : orE n b l = 0 := by unfold orE; rw [hok]; rfl
      generalize shR n l b i j = S at *
      have m1 : -9223372036854775808 ≤ p * S.lb ∧ p * S.lb ≤ 9223372036854775807 := by
        rw [Int.mul_comm]; exact mulK e2 (by unfold bdI; omega)
      have m2 : -9223372036854775808 ≤ p * S.mb ∧ p * S.mb ≤ 9223372036854775807 := by
        rw [Int.mul_comm]; exact mulK e4 (by unfold bdI; omega)
      unfold bdI at e1 e2 e3 e4
      refine cond_nd (fun h => absurd hOr h) (fun _ => cond_nd (fun h => absurd h0 h) (fun _ => cond_d (fun h => by omega) (fun _ => cond_d (fun h => by omega) (fun _ => cond_r (by omega) (cond_r m1 (cond_d (fun h => by omega) (fun _ => cond_r (by omega) (cond_r m2 (cond_d (fun h => by omega) (fun _ => ⟨⟨fitP_self rfl, h2⟩, fun hno => ⟨⟨fitP_self rfl, h3⟩, fun h => ?_, fun _ _ => rfl⟩, fun _ _ => rfl⟩)))))))))) 
      rw [hps hno] at h
      cases h)
  subst hQ
  exact ⟨h', hcc⟩
end
end Go.Sx.Gen

/- genuine: a list of drawn numbers read; five arrays. -/

namespace Go.Sx.Gen
open Go Go.Sx Go.Proofs Go.RowKit
set_option maxRecDepth 100000

theorem leaves52 : leavesT Try.prog 5 52 = some [52] := by kernel_rfl
theorem und48 : Try.prog.underlying 48 = some (.slice 52) := by kernel_rfl
theorem und52 : Try.prog.underlying 52 = some (.int .u32) := by kernel_rfl
theorem und5 : Try.prog.underlying 5 = some (.int .u8) := by kernel_rfl
theorem cells52 : Try.prog.cellsOf 52 = 1 := by kernel_rfl

theorem u32_range {n : Int} (h : (Lit.int .u32 n).wf = true) : 0 ≤ n ∧ n ≤ 4294967295 := by
  simp [Lit.wf, IntKind.min, IntKind.max, IntKind.signed, IntKind.bits] at h
  omega

/-- A list of drawn numbers lies in the world. -/
structure ByIn (W : World) (v : Value) (n cap : Nat) (f : Int → Int) (a : Addr) : Prop where
  val : v = .slice (some a) n cap ∨ (v = .slice none 0 0 ∧ n = 0 ∧ cap = 0)
  le : n ≤ cap
  max : cap ≤ maxLen
  cell : ∀ j : Nat, j < n → a.block < W.heap.size ∧ a.spot = none ∧ W.cell? (a.add j) = some (.int .u32 (f j)) ∧ 0 ≤ f j ∧ f j ≤ 4294967295

section
variable {H : Type} {enc : TypeId × Value → H} {W : World} {base : Nat} {spare : Nat → Bool} {held : Bool}

theorem read_by {m : Nat} {v : Value} {y : DataW H × List MemPlace} (h : DataW.trod enc Try.prog W base spare held m 48 [v] = some y) : ∃ n cap f a, ByIn W v n cap f a := by
  rcases leaf_slice und48 leaves52 cells52 h with rfl | ⟨a, len, cap, rfl, h1, h2, h3⟩
  · exact ⟨0, 0, fun _ => 0, ⟨0, 0, none⟩, .inr ⟨rfl, rfl, rfl⟩, Nat.le_refl _, Nat.zero_le _, fun j hj => by omega⟩
  · refine ⟨len, cap, fun j => rdI W (a.add j.toNat), a, .inl rfl, h1, h2, fun j hj => ?_⟩
    obtain ⟨m0, v0, y0, g1, g2⟩ := h3 j hj 0 52 rfl
    obtain ⟨n0, rfl, hw⟩ := leaf_int und52 g2
    have g1 : W.cell? (a.add (j * 1 + 0)) = _ := g1
    rw [show j * 1 + 0 = j by omega] at g1
    refine ⟨?_, ?_, ?_⟩
    · have := cell_block g1; rwa [add_block] at this
    · obtain ⟨mz, vz, yz, gz, _⟩ := h3 0 (by omega) 0 52 rfl
      have := cell_spot gz
      simpa [Addr.add] using this
    · simp only [Int.toNat_natCast]; rw [rdI_of g1]; exact ⟨g1, u32_range hw⟩
end

/-- Where five arrays lie. -/
def R5 (a : Addr) (av : Nat → Addr) (ab ay am : Addr) : Rn := ⟨fun _ => none, fun m ix => match m with
  | 0 => a
  | 1 => (match ix with | [i] => av i.toNat | _ => a)
  | 2 => ab
  | 3 => ay
  | _ => am, fun m => match m with | 0 => 5 | 3 => 1 | _ => 2, fun _ _ => none⟩

theorem emb5 {W : World} {v vb vy vc : Value} {n cap m cm : Nat} {l : Int → Src} {b c : Sus} {f : Int → Int} {a ab ay am : Addr} {av : Nat → Addr} (h : SrcsIn W v n cap l a av) (hb : SpansIn W vb b.sl b.sc b.lo b.hi ab) (hy : ByIn W vy m cm f ay) (hc : SpansIn W vc c.sl c.sc c.lo c.hi am)
    {η : Nat → VB} (hη : ∀ k, (k = 0 ∧ η k = srcA n l) ∨ (k = 1 ∧ η k = valA n l) ∨ (k = 2 ∧ η k = seenA b) ∨ (k = 3 ∧ η k = byA m f) ∨ (k = 4 ∧ η k = seenA c) ∨ η k = .free) : Emb W.heap.size (R5 a av ab ay am) η W := by
  refine emb_args (fun _ => rfl) (fun _ _ => rfl) (fun k => ?_) (fun k s ok g hm => ?_)
  · rcases hη k with ⟨_, h1⟩ | ⟨_, h1⟩ | ⟨_, h1⟩ | ⟨_, h1⟩ | ⟨_, h1⟩ | h1
    · exact .inl ⟨_, _, _, h1⟩
    · exact .inl ⟨_, _, _, h1⟩
    · exact .inl ⟨_, _, _, h1⟩
    · exact .inl ⟨_, _, _, h1⟩
    · exact .inl ⟨_, _, _, h1⟩
    · exact .inr (.inr h1)
  · rcases hη k with ⟨rfl, h1⟩ | ⟨rfl, h1⟩ | ⟨rfl, h1⟩ | ⟨rfl, h1⟩ | ⟨rfl, h1⟩ | h1
    · rw [h1] at hm
      cases hm
      refine ⟨rfl, fun ix i hi => ?_⟩
      obtain ⟨rfl, i0, i1⟩ := hi
      obtain ⟨g1, g2, c0, c1, c2, c3, sv, c4, hs⟩ := h.cell i.toNat (by omega)
      rw [show ((i.toNat : Nat) : Int) = i by omega] at c0 c1 c2 c3 hs
      refine ⟨i0, g1, g2, [.int .i64 (l i).cask, .int .i64 (l i).drawn, .int .i64 (l i).slo, .int .i64 (l i).shi, sv], ⟨_, _, rfl, ⟨_, _, rfl, ⟨_, _, rfl, ⟨_, _, rfl, ⟨_, _, spans_rel hs rfl, rfl, rfl⟩, rfl⟩, rfl⟩, rfl⟩, rfl⟩, rfl, fun k x hk => ?_⟩
      match k, hk with
      | 0, hk => simp at hk; subst hk; exact c0
      | 1, hk => simp at hk; subst hk; exact c1
      | 2, hk => simp at hk; subst hk; exact c2
      | 3, hk => simp at hk; subst hk; exact c3
      | 4, hk => simp at hk; subst hk; exact c4
      | k + 5, hk => simp at hk
    · rw [h1] at hm
      cases hm
      refine ⟨rfl, fun ix j hj => ?_⟩
      obtain ⟨i, rfl, i0, i1, j0, j1⟩ := hj
      obtain ⟨_, _, _, _, _, _, sv, _, hs⟩ := h.cell i.toNat (by omega)
      rw [show ((i.toNat : Nat) : Int) = i by omega] at hs
      obtain ⟨g1, g2, g3⟩ := spans_arr (R := (R5 a av ab ay am).no) hs j0 j1
      exact ⟨j0, g1, g2, g3⟩
    · rw [h1] at hm
      cases hm
      refine ⟨rfl, fun ix j hj => ?_⟩
      obtain ⟨rfl, j0, j1⟩ := hj
      obtain ⟨g1, g2, g3⟩ := spans_arr (R := (R5 a av ab ay am).no) hb j0 j1
      exact ⟨j0, g1, g2, g3⟩
    · rw [h1] at hm
      cases hm
      refine ⟨rfl, fun ix j hj => ?_⟩
      obtain ⟨rfl, j0, j1⟩ := hj
      obtain ⟨g1, g2, g3, _⟩ := hy.cell j.toNat (by omega)
      rw [show ((j.toNat : Nat) : Int) = j by omega] at g3
      refine ⟨j0, g1, g2, [.int .u32 (f j)], ⟨_, _, rfl, rfl, rfl⟩, rfl, fun k x hk => ?_⟩
      match k, hk with
      | 0, hk => simp at hk; subst hk; show W.cell? (ay.add (j.toNat * 1 + 0)) = _; rw [Nat.mul_one, Nat.add_zero]; exact g3
      | k + 1, hk => simp at hk
    · rw [h1] at hm
      cases hm
      refine ⟨rfl, fun ix j hj => ?_⟩
      obtain ⟨rfl, j0, j1⟩ := hj
      obtain ⟨g1, g2, g3⟩ := spans_arr (R := (R5 a av ab ay am).no) hc j0 j1
      exact ⟨j0, g1, g2, g3⟩
    · rw [h1] at hm; cases hm

theorem srcs_rel5 {W : World} {v : Value} {n cap : Nat} {l : Int → Src} {a ab ay am : Addr} {av : Nat → Addr} (h : SrcsIn W v n cap l a av) : VRel (R5 a av ab ay am) (lV n cap) v := by
  rcases h.val with rfl | ⟨rfl, rfl, rfl⟩
  · refine ⟨h.le, some a, .inr ⟨a, rfl, ?_⟩, rfl⟩
    simp [ARel, R5, Addr.add]
  · exact ⟨Nat.le_refl _, none, .inl rfl, rfl⟩

theorem by_rel5 {W : World} {v : Value} {m cm : Nat} {f : Int → Int} {a ab ay am : Addr} {av : Nat → Addr} (h : ByIn W v m cm f ay) : VRel (R5 a av ab ay am) (.slice (.el 3 [] 0 0) m cm) v := by
  rcases h.val with rfl | ⟨rfl, rfl, rfl⟩
  · refine ⟨h.le, some ay, .inr ⟨ay, rfl, ?_⟩, rfl⟩
    simp [ARel, R5, Addr.add]
  · exact ⟨Nat.le_refl _, none, .inl rfl, rfl⟩
end Go.Sx.Gen
