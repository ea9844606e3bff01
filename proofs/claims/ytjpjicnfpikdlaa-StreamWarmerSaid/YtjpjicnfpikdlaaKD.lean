/- stream: Kc1 Kc2 Kc3 Kc4 Kc5 Kc6, in one text. -/
import Derived.Test.YtjpjicnfpikdlaaKC
/- stream: Warm, evaluated. -/

namespace Go.Sx.Str
open Go Go.Sx Go.Proofs
set_option maxRecDepth 100000

def vecI (xs : List Int) : VB := .vec xs.length (fun i => [I (xs.getD i 0)]) 1 3
def dsW : List Nat := [6, 7, 8, 28, 29, 30, 2]
def VW (L S T : Nat) (e i lim : Int) : List VV := [.sl 3 S, .sl 4 T, I e, .sl 2 L, I L, I i, I lim]
def nsW : List Nat := [2, 3, 4]
def BW (xs : List Wt) (S T : List Int) : List VB := [vecW xs, vecI S, vecI T]
def dsW2 : List Nat := [12, 13, 9, 14, 2]
def VW2 (L S T : Nat) (i lim : Int) : List VV := [.sl 3 S, .sl 4 T, .sl 2 L, I i, I lim]
theorem wm_ev (xs : List Wt) (S T : List Int) (e i lim : Int) (X : VEx → List VV → List VB → Prop) : codeE Try.prog (callN Try.prog noSpec noL 10 20) (fun _ => none) true 10 57 0 (loopB 1 (bodyOf Try.prog 15)) (dsW.zip (VW xs.length S.length T.length e i lim)) ⟨5, nsW.zip (BW xs S T)⟩ (obs 5 dsW nsW X) =
  (bif decide (i < (↑xs.length : Int)) then
 bif decide ((0 : Int) ≤ i ∧ i < (↑xs.length : Int)) then
 bif xs.length.beq xs.length && true then
 bif xs.length.beq xs.length then
 bif decide ((xs.getD i.toNat w0).wlo > lim) then
 bif S.length.beq S.length then
 bif roomB (S.length + 1) (8) then
 bif decide ((xs.getD i.toNat w0).whi > lim) then
 bif T.length.beq T.length then
 bif roomB (T.length + 1) (8) then
 bif inK IntKind.i64 (i + (1 : Int)) then
 X VEx.normal [VV.sl 3 (S.length + 1), VV.sl 4 (T.length + 1), I e, VV.sl 2 xs.length, I (↑xs.length : Int), I (i + (1 : Int)), I lim] [vecW xs, VB.vec (S.length + 1) (catG S.length (fun i => [I (S.getD i (0 : Int))]) fun j => List.take (1) (List.drop (j * (1)) [I i])) (1) 3, VB.vec (T.length + 1) (catG T.length (fun i => [I (T.getD i (0 : Int))]) fun j => List.take (1) (List.drop (j * (1)) [I i])) (1) 3]
 else False
 else False
 else False
 else bif inK IntKind.i64 (i + (1 : Int)) then
 X VEx.normal [VV.sl 3 (S.length + 1), VV.sl 4 T.length, I e, VV.sl 2 xs.length, I (↑xs.length : Int), I (i + (1 : Int)), I lim] [vecW xs, VB.vec (S.length + 1) (catG S.length (fun i => [I (S.getD i (0 : Int))]) fun j => List.take (1) (List.drop (j * (1)) [I i])) (1) 3, vecI T]
 else False
 else False
 else False
 else bif decide ((xs.getD i.toNat w0).whi > lim) then
 bif T.length.beq T.length then
 bif roomB (T.length + 1) (8) then
 bif inK IntKind.i64 (i + (1 : Int)) then
 X VEx.normal [VV.sl 3 S.length, VV.sl 4 (T.length + 1), I e, VV.sl 2 xs.length, I (↑xs.length : Int), I (i + (1 : Int)), I lim] [vecW xs, vecI S, VB.vec (T.length + 1) (catG T.length (fun i => [I (T.getD i (0 : Int))]) fun j => List.take (1) (List.drop (j * (1)) [I i])) (1) 3]
 else False
 else False
 else False
 else bif inK IntKind.i64 (i + (1 : Int)) then
 X VEx.normal [VV.sl 3 S.length, VV.sl 4 T.length, I e, VV.sl 2 xs.length, I (↑xs.length : Int), I (i + (1 : Int)), I lim] [vecW xs, vecI S, vecI T]
 else False
 else False
 else False
 else False
 else X (VEx.exit 1) [VV.sl 3 S.length, VV.sl 4 T.length, I e, VV.sl 2 xs.length, I (↑xs.length : Int), I i, I lim] [vecW xs, vecI S, vecI T]) := by kernel_rfl

theorem wn_ev (xs : List Wt) (S T : List Int) (i lim : Int) (X : VEx → List VV → List VB → Prop) : codeE Try.prog (callN Try.prog noSpec noL 10 20) (fun _ => none) true 10 63 0 (loopB 0 (bodyOf Try.prog 16)) (dsW2.zip (VW2 xs.length S.length T.length i lim)) ⟨5, nsW.zip (BW xs S T)⟩ (obs 5 dsW2 nsW X) =
  (bif decide (i < (↑xs.length : Int)) then
 bif decide ((0 : Int) ≤ i ∧ i < (↑xs.length : Int)) then
 bif xs.length.beq xs.length && true then
 bif xs.length.beq xs.length then
 bif decide ((xs.getD i.toNat w0).wlo > lim) then
 bif S.length.beq S.length then
 bif roomB (S.length + 1) (8) then
 bif decide ((0 : Int) ≤ i ∧ i < (↑xs.length : Int)) then
 bif xs.length.beq xs.length && true then
 bif xs.length.beq xs.length then
 bif decide ((xs.getD i.toNat w0).whi > lim) then
 bif T.length.beq T.length then
 bif roomB (T.length + 1) (8) then
 bif inK IntKind.i64 (i + (1 : Int)) then
 X VEx.normal [VV.sl 3 (S.length + 1), VV.sl 4 (T.length + 1), VV.sl 2 xs.length, I (i + (1 : Int)), I lim] [vecW xs, VB.vec (S.length + 1) (catG S.length (fun i => [I (S.getD i (0 : Int))]) fun j => List.take (1) (List.drop (j * (1)) [I i])) (1) 3, VB.vec (T.length + 1) (catG T.length (fun i => [I (T.getD i (0 : Int))]) fun j => List.take (1) (List.drop (j * (1)) [I i])) (1) 3]
 else False
 else False
 else False
 else bif inK IntKind.i64 (i + (1 : Int)) then
 X VEx.normal [VV.sl 3 (S.length + 1), VV.sl 4 T.length, VV.sl 2 xs.length, I (i + (1 : Int)), I lim] [vecW xs, VB.vec (S.length + 1) (catG S.length (fun i => [I (S.getD i (0 : Int))]) fun j => List.take (1) (List.drop (j * (1)) [I i])) (1) 3, vecI T]
 else False
 else False
 else False
 else False
 else False
 else False
 else bif decide ((0 : Int) ≤ i ∧ i < (↑xs.length : Int)) then
 bif xs.length.beq xs.length && true then
 bif xs.length.beq xs.length then
 bif decide ((xs.getD i.toNat w0).whi > lim) then
 bif T.length.beq T.length then
 bif roomB (T.length + 1) (8) then
 bif inK IntKind.i64 (i + (1 : Int)) then
 X VEx.normal [VV.sl 3 S.length, VV.sl 4 (T.length + 1), VV.sl 2 xs.length, I (i + (1 : Int)), I lim] [vecW xs, vecI S, VB.vec (T.length + 1) (catG T.length (fun i => [I (T.getD i (0 : Int))]) fun j => List.take (1) (List.drop (j * (1)) [I i])) (1) 3]
 else False
 else False
 else False
 else bif inK IntKind.i64 (i + (1 : Int)) then
 X VEx.normal [VV.sl 3 S.length, VV.sl 4 T.length, VV.sl 2 xs.length, I (i + (1 : Int)), I lim] [vecW xs, vecI S, vecI T]
 else False
 else False
 else False
 else False
 else False
 else False
 else False
 else X (VEx.exit 0) [VV.sl 3 S.length, VV.sl 4 T.length, VV.sl 2 xs.length, I i, I lim] [vecW xs, vecI S, vecI T]) := by kernel_rfl


end Go.Sx.Str

/- stream: Warm, as a list. -/

namespace Go.Sx.Str
open Go Go.Sx Go.Proofs
set_option maxRecDepth 100000

/-- Where a condition holds. -/
def ixs (p : Wt → Bool) : Int → List Wt → List Int
  | _, [] => []
  | i, w :: r => bif p w then i :: ixs p (i + 1) r else ixs p (i + 1) r
def loF (lim : Int) : Wt → Bool := fun w => decide (w.wlo > lim)
def hiF (lim : Int) : Wt → Bool := fun w => decide (w.whi > lim)

theorem drop_getD {xs : List Wt} {i : Int} (h0 : 0 ≤ i) (h : i < xs.length) : xs.drop i.toNat = xs.getD i.toNat w0 :: xs.drop (i + 1).toNat := by
  have hi : i.toNat < xs.length := by omega
  rw [List.drop_eq_getElem_cons hi, show (i + 1).toNat = i.toNat + 1 by omega]
  simp [List.getD_eq_getElem?_getD, hi]

theorem ixs_yes {p : Wt → Bool} {xs : List Wt} {i : Int} (h0 : 0 ≤ i) (h : i < xs.length) (hp : p (xs.getD i.toNat w0) = true) : ixs p i (xs.drop i.toNat) = i :: ixs p (i + 1) (xs.drop (i + 1).toNat) := by
  rw [drop_getD h0 h]
  simp only [ixs, hp, cond_true]
theorem ixs_no {p : Wt → Bool} {xs : List Wt} {i : Int} (h0 : 0 ≤ i) (h : i < xs.length) (hp : p (xs.getD i.toNat w0) = false) : ixs p i (xs.drop i.toNat) = ixs p (i + 1) (xs.drop (i + 1).toNat) := by
  rw [drop_getD h0 h]
  simp only [ixs, hp, cond_false]
theorem ixs_end {p : Wt → Bool} {xs : List Wt} {i : Int} (h : (xs.length : Int) ≤ i) : ixs p i (xs.drop i.toNat) = [] := by
  rw [List.drop_eq_nil_of_le (by omega)]; rfl

theorem room8 {n : Nat} (h : n ≤ 1048576) : roomB n 8 = true := by
  simp only [roomB, Bool.and_eq_true]
  exact ⟨Nat.ble_eq_true_of_le (by omega), Nat.ble_eq_true_of_le (by omega)⟩

theorem fit_snocI (xs : List Int) (v : Int) : (vecI (xs ++ [v])).fit (.vec (xs.length + 1) (catG xs.length (fun j => [I (xs.getD j 0)]) fun j => List.take 1 (List.drop (j * 1) [I v])) 1 3) := by
  refine ⟨by simp, rfl, rfl, fun j hj => ?_⟩
  simp only [List.length_append, List.length_singleton] at hj
  simp only [catG]
  by_cases h : j < xs.length
  · rw [blt_t h]
    simp [List.getD_eq_getElem?_getD, List.getElem?_append_left h]
  · rw [blt_f (by omega)]
    have : j = xs.length := by omega
    subst this
    simp

structure SW where
  i : Int
  S : List Int
  T : List Int

structure IW (xs : List Wt) (s : SW) : Prop where
  i : 0 ≤ s.i ∧ s.i ≤ xs.length
  S : (s.S.length : Int) ≤ s.i
  T : (s.T.length : Int) ≤ s.i
  n : xs.length ≤ 100000

theorem cond_kk {b : Bool} {p q : Prop} (h : b = true) (h2 : p) : (bif b then p else q) := by rw [h]; exact h2

section
variable {xs : List Wt} {e lim : Int}

def OW (xs : List Wt) (e lim : Int) (s : SW) (x : VEx) (vs : List VV) (bs : List VB) : Prop :=
  x = .exit 1 ∧ vs = VW xs.length (s.S ++ ixs (loF lim) s.i (xs.drop s.i.toNat)).length (s.T ++ ixs (hiF lim) s.i (xs.drop s.i.toNat)).length e xs.length lim ∧ bs = BW xs (s.S ++ ixs (loF lim) s.i (xs.drop s.i.toNat)) (s.T ++ ixs (hiF lim) s.i (xs.drop s.i.toNat))
def OW2 (xs : List Wt) (lim : Int) (s : SW) (x : VEx) (vs : List VV) (bs : List VB) : Prop :=
  x = .exit 0 ∧ vs = VW2 xs.length (s.S ++ ixs (loF lim) s.i (xs.drop s.i.toNat)).length (s.T ++ ixs (hiF lim) s.i (xs.drop s.i.toNat)).length xs.length lim ∧ bs = BW xs (s.S ++ ixs (loF lim) s.i (xs.drop s.i.toNat)) (s.T ++ ixs (hiF lim) s.i (xs.drop s.i.toNat))

/-- One more round of a loop that looks for what is too warm. -/
theorem ow_step {i : Int} {S T : List Int} (h0 : 0 ≤ i) (h : i < xs.length) {a b : List Int} (ha : a = bif loF lim (xs.getD i.toNat w0) then [i] else []) (hb : b = bif hiF lim (xs.getD i.toNat w0) then [i] else []) :
    (S ++ a) ++ ixs (loF lim) (i + 1) (xs.drop (i + 1).toNat) = S ++ ixs (loF lim) i (xs.drop i.toNat) ∧ (T ++ b) ++ ixs (hiF lim) (i + 1) (xs.drop (i + 1).toNat) = T ++ ixs (hiF lim) i (xs.drop i.toNat) := by
  subst ha hb
  constructor
  · cases hp : loF lim (xs.getD i.toNat w0)
    · rw [ixs_no h0 h hp]; simp
    · rw [ixs_yes h0 h hp]; simp
  · cases hp : hiF lim (xs.getD i.toNat w0)
    · rw [ixs_no h0 h hp]; simp
    · rw [ixs_yes h0 h hp]; simp

theorem wm_round (i : Int) (S T : List Int) (hi : IW xs ⟨i, S, T⟩) : codeE Try.prog (callN Try.prog noSpec noL 10 20) (fun _ => none) true 10 57 0 (loopB 1 (bodyOf Try.prog 15)) (dsW.zip (VW xs.length S.length T.length e i lim)) ⟨5, nsW.zip (BW xs S T)⟩
    (obs 5 dsW nsW (RoundQ (fun s : SW => VW xs.length s.S.length s.T.length e s.i lim) (fun s => BW xs s.S s.T) (IW xs) (fun s => (xs.length - s.i).toNat) (OW xs e lim) ⟨i, S, T⟩)) := by
  obtain ⟨h1, h2, h3, h4⟩ := hi
  dsimp only at h1 h2 h3
  rw [wm_ev]
  by_cases hlt : i < (xs.length : Int)
  · have next : ∀ (a b : List Int) (ba bb : VB), (a = bif loF lim (xs.getD i.toNat w0) then [i] else []) → (b = bif hiF lim (xs.getD i.toNat w0) then [i] else []) → (vecI (S ++ a)).fit ba → (vecI (T ++ b)).fit bb →
        RoundQ (fun s : SW => VW xs.length s.S.length s.T.length e s.i lim) (fun s => BW xs s.S s.T) (IW xs) (fun s => (xs.length - s.i).toNat) (OW xs e lim) ⟨i, S, T⟩ .normal (VW xs.length (S ++ a).length (T ++ b).length e (i + 1) lim) [vecW xs, ba, bb] := fun a b ba bb ha hb fa fb => by
      have la : a.length ≤ 1 := by rw [ha]; cases loF lim (xs.getD i.toNat w0) <;> simp
      have lb : b.length ≤ 1 := by rw [hb]; cases hiF lim (xs.getD i.toNat w0) <;> simp
      refine ⟨⟨i + 1, S ++ a, T ++ b⟩, ⟨by dsimp only; omega, by simp; omega, by simp; omega, h4⟩, by dsimp only; omega, rfl, ⟨VB.fit_refl _, fa, fb, trivial⟩, ?_⟩
      intro x vs bs
      obtain ⟨g1, g2⟩ := ow_step (S := S) (T := T) h1.1 hlt ha hb
      simp only [OW]
      rw [g1, g2]
      exact id
    have hx : xs.length.beq xs.length = true := Nat.beq_refl _
    have hx2 : (xs.length.beq xs.length && true) = true := by rw [hx]; rfl
    refine cond_dk hlt (cond_dk ⟨h1.1, hlt⟩ (cond_kk hx2 (cond_kk hx ?_)))
    have go : ∀ (a b : List Int), S.length + a.length = (S ++ a).length ∧ T.length + b.length = (T ++ b).length := fun a b => ⟨by simp, by simp⟩
    refine cond_d (fun hs => cond_kk (Nat.beq_refl _) (cond_kk (room8 (by omega)) ?_)) (fun hs => ?_)
    · have hs' : loF lim (xs.getD i.toNat w0) = true := decide_eq_true hs
      refine cond_d (fun ht => cond_kk (Nat.beq_refl _) (cond_kk (room8 (by omega)) (cond_r (by omega) ?_))) (fun ht => cond_r (by omega) ?_)
      · have ht' : hiF lim (xs.getD i.toNat w0) = true := decide_eq_true ht
        have := next [i] [i] _ _ (by rw [hs']; rfl) (by rw [ht']; rfl) (fit_snocI S i) (fit_snocI T i)
        rw [← (go [i] [i]).1, ← (go [i] [i]).2] at this
        exact this
      · have ht' : hiF lim (xs.getD i.toNat w0) = false := decide_eq_false ht
        have := next [i] [] _ _ (by rw [hs']; rfl) (by rw [ht']; rfl) (fit_snocI S i) (VB.fit_refl _)
        rw [← (go [i] []).1, List.append_nil] at this
        exact this
    · have hs' : loF lim (xs.getD i.toNat w0) = false := decide_eq_false hs
      refine cond_d (fun ht => cond_kk (Nat.beq_refl _) (cond_kk (room8 (by omega)) (cond_r (by omega) ?_))) (fun ht => cond_r (by omega) ?_)
      · have ht' : hiF lim (xs.getD i.toNat w0) = true := decide_eq_true ht
        have := next [] [i] _ _ (by rw [hs']; rfl) (by rw [ht']; rfl) (VB.fit_refl _) (fit_snocI T i)
        rw [← (go [] [i]).2, List.append_nil] at this
        exact this
      · have ht' : hiF lim (xs.getD i.toNat w0) = false := decide_eq_false ht
        have := next [] [] _ _ (by rw [hs']; rfl) (by rw [ht']; rfl) (VB.fit_refl _) (VB.fit_refl _)
        rw [List.append_nil, List.append_nil] at this
        exact this
  · refine cond_d (fun h => absurd h hlt) (fun _ => ?_)
    have hk : i = (xs.length : Int) := by omega
    subst hk
    refine ⟨rfl, ?_, ?_⟩ <;> simp only [ixs_end (Int.le_refl _), List.append_nil] <;> rfl

theorem wn_round (i : Int) (S T : List Int) (hi : IW xs ⟨i, S, T⟩) : codeE Try.prog (callN Try.prog noSpec noL 10 20) (fun _ => none) true 10 63 0 (loopB 0 (bodyOf Try.prog 16)) (dsW2.zip (VW2 xs.length S.length T.length i lim)) ⟨5, nsW.zip (BW xs S T)⟩
    (obs 5 dsW2 nsW (RoundQ (fun s : SW => VW2 xs.length s.S.length s.T.length s.i lim) (fun s => BW xs s.S s.T) (IW xs) (fun s => (xs.length - s.i).toNat) (OW2 xs lim) ⟨i, S, T⟩)) := by
  obtain ⟨h1, h2, h3, h4⟩ := hi
  dsimp only at h1 h2 h3
  rw [wn_ev]
  by_cases hlt : i < (xs.length : Int)
  · have next : ∀ (a b : List Int) (ba bb : VB), (a = bif loF lim (xs.getD i.toNat w0) then [i] else []) → (b = bif hiF lim (xs.getD i.toNat w0) then [i] else []) → (vecI (S ++ a)).fit ba → (vecI (T ++ b)).fit bb →
        RoundQ (fun s : SW => VW2 xs.length s.S.length s.T.length s.i lim) (fun s => BW xs s.S s.T) (IW xs) (fun s => (xs.length - s.i).toNat) (OW2 xs lim) ⟨i, S, T⟩ .normal (VW2 xs.length (S ++ a).length (T ++ b).length (i + 1) lim) [vecW xs, ba, bb] := fun a b ba bb ha hb fa fb => by
      have la : a.length ≤ 1 := by rw [ha]; cases loF lim (xs.getD i.toNat w0) <;> simp
      have lb : b.length ≤ 1 := by rw [hb]; cases hiF lim (xs.getD i.toNat w0) <;> simp
      refine ⟨⟨i + 1, S ++ a, T ++ b⟩, ⟨by dsimp only; omega, by simp; omega, by simp; omega, h4⟩, by dsimp only; omega, rfl, ⟨VB.fit_refl _, fa, fb, trivial⟩, ?_⟩
      intro x vs bs
      obtain ⟨g1, g2⟩ := ow_step (S := S) (T := T) h1.1 hlt ha hb
      simp only [OW2]
      rw [g1, g2]
      exact id
    have hx : xs.length.beq xs.length = true := Nat.beq_refl _
    have hx2 : (xs.length.beq xs.length && true) = true := by rw [hx]; rfl
    refine cond_dk hlt (cond_dk ⟨h1.1, hlt⟩ (cond_kk hx2 (cond_kk hx ?_)))
    have go : ∀ (a b : List Int), S.length + a.length = (S ++ a).length ∧ T.length + b.length = (T ++ b).length := fun a b => ⟨by simp, by simp⟩
    refine cond_d (fun hs => cond_kk (Nat.beq_refl _) (cond_kk (room8 (by omega)) (cond_dk ⟨h1.1, hlt⟩ (cond_kk hx2 (cond_kk hx ?_))))) (fun hs => cond_dk ⟨h1.1, hlt⟩ (cond_kk hx2 (cond_kk hx ?_)))
    · have hs' : loF lim (xs.getD i.toNat w0) = true := decide_eq_true hs
      refine cond_d (fun ht => cond_kk (Nat.beq_refl _) (cond_kk (room8 (by omega)) (cond_r (by omega) ?_))) (fun ht => cond_r (by omega) ?_)
      · have ht' : hiF lim (xs.getD i.toNat w0) = true := decide_eq_true ht
        have := next [i] [i] _ _ (by rw [hs']; rfl) (by rw [ht']; rfl) (fit_snocI S i) (fit_snocI T i)
        rw [← (go [i] [i]).1, ← (go [i] [i]).2] at this
        exact this
      · have ht' : hiF lim (xs.getD i.toNat w0) = false := decide_eq_false ht
        have := next [i] [] _ _ (by rw [hs']; rfl) (by rw [ht']; rfl) (fit_snocI S i) (VB.fit_refl _)
        rw [← (go [i] []).1, List.append_nil] at this
        exact this
    · have hs' : loF lim (xs.getD i.toNat w0) = false := decide_eq_false hs
      refine cond_d (fun ht => cond_kk (Nat.beq_refl _) (cond_kk (room8 (by omega)) (cond_r (by omega) ?_))) (fun ht => cond_r (by omega) ?_)
      · have ht' : hiF lim (xs.getD i.toNat w0) = true := decide_eq_true ht
        have := next [] [i] _ _ (by rw [hs']; rfl) (by rw [ht']; rfl) (VB.fit_refl _) (fit_snocI T i)
        rw [← (go [] [i]).2, List.append_nil] at this
        exact this
      · have ht' : hiF lim (xs.getD i.toNat w0) = false := decide_eq_false ht
        have := next [] [] _ _ (by rw [hs']; rfl) (by rw [ht']; rfl) (VB.fit_refl _) (VB.fit_refl _)
        rw [List.append_nil, List.append_nil] at this
        exact this
  · refine cond_d (fun h => absurd h hlt) (fun _ => ?_)
    have hk : i = (xs.length : Int) := by omega
    subst hk
    refine ⟨rfl, ?_, ?_⟩ <;> simp only [ixs_end (Int.le_refl _), List.append_nil] <;> rfl

/-- The loops, from two lists of no elements. -/
def LWs (xs : List Wt) (e lim : Int) : LT := fun lock t h K =>
  FitP lock h t ⟨5, nsW.zip (BW xs [] [])⟩ (dsW.zip (VW xs.length 0 0 e 0 lim)) ∧ xs.length ≤ 100000 ∧
    K .normal (dsW.zip (VW xs.length (ixs (loF lim) 0 xs).length (ixs (hiF lim) 0 xs).length e xs.length lim)) ⟨5, nsW.zip (BW xs (ixs (loF lim) 0 xs) (ixs (hiF lim) 0 xs))⟩

theorem LWs_ok : LSound Try.prog true (.block 1 (.loop (loopB 1 (bodyOf Try.prog 15)))) 57 (LWs xs e lim) := by
  refine loop_row hmix good0 (un := 10) (ds := dsW) (ns := nsW) (nx := 5) (fun s : SW => VW xs.length s.S.length s.T.length e s.i lim) (fun s => BW xs s.S s.T) (IW xs) (fun s => (xs.length - s.i).toNat) (OW xs e lim) noL_ok (fun s hi => wm_round s.i s.S s.T hi) ?_
  rintro lock t h K ⟨hf, hn, hK⟩
  refine ⟨⟨0, [], []⟩, hf, ⟨⟨Int.le_refl 0, Int.natCast_nonneg _⟩, Int.le_refl 0, Int.le_refl 0, hn⟩, ?_⟩
  rintro x vs bs ⟨rfl, rfl, rfl⟩
  exact hK

def LWs2 (xs : List Wt) (lim : Int) : LT := fun lock t h K =>
  FitP lock h t ⟨5, nsW.zip (BW xs [] [])⟩ (dsW2.zip (VW2 xs.length 0 0 0 lim)) ∧ xs.length ≤ 100000 ∧
    K .normal (dsW2.zip (VW2 xs.length (ixs (loF lim) 0 xs).length (ixs (hiF lim) 0 xs).length xs.length lim)) ⟨5, nsW.zip (BW xs (ixs (loF lim) 0 xs) (ixs (hiF lim) 0 xs))⟩

theorem LWs2_ok : LSound Try.prog true (.block 0 (.loop (loopB 0 (bodyOf Try.prog 16)))) 63 (LWs2 xs lim) := by
  refine loop_row hmix good0 (un := 10) (ds := dsW2) (ns := nsW) (nx := 5) (fun s : SW => VW2 xs.length s.S.length s.T.length s.i lim) (fun s => BW xs s.S s.T) (IW xs) (fun s => (xs.length - s.i).toNat) (OW2 xs lim) noL_ok (fun s hi => wn_round s.i s.S s.T hi) ?_
  rintro lock t h K ⟨hf, hn, hK⟩
  refine ⟨⟨0, [], []⟩, hf, ⟨⟨Int.le_refl 0, Int.natCast_nonneg _⟩, Int.le_refl 0, Int.le_refl 0, hn⟩, ?_⟩
  rintro x vs bs ⟨rfl, rfl, rfl⟩
  exact hK

def tW (xs : List Wt) (e lim : Int) : Slots := [(8, I e), (28, .sl 2 xs.length), (29, I xs.length), (30, I 0), (2, I lim)]
def tW2 (xs : List Wt) (lim : Int) : Slots := [(9, .sl 2 xs.length), (14, I 0), (2, I lim)]

def LW1 (xs : List Wt) (e lim : Int) : LT := fun lock t h K =>
  FitP lock h t ⟨3, [(2, vecW xs)]⟩ ((6, .nils) :: (7, .nils) :: tW xs e lim) ∧ xs.length ≤ 100000 ∧
    K .normal (dsW.zip (VW xs.length (ixs (loF lim) 0 xs).length (ixs (hiF lim) 0 xs).length e xs.length lim)) ⟨5, nsW.zip (BW xs (ixs (loF lim) 0 xs) (ixs (hiF lim) 0 xs))⟩
def LW2 (xs : List Wt) (lim : Int) : LT := fun lock t h K =>
  FitP lock h t ⟨3, [(2, vecW xs)]⟩ ((12, .nils) :: (13, .nils) :: tW2 xs lim) ∧ xs.length ≤ 100000 ∧
    K .normal (dsW2.zip (VW2 xs.length (ixs (loF lim) 0 xs).length (ixs (hiF lim) 0 xs).length xs.length lim)) ⟨5, nsW.zip (BW xs (ixs (loF lim) 0 xs) (ixs (hiF lim) 0 xs))⟩
/-- Between the two ghosts. -/
def LW1m (xs : List Wt) (e lim : Int) : LT := fun lock t h K =>
  FitP lock h t ⟨4, [(3, vecI []), (2, vecW xs)]⟩ ((7, .nils) :: (6, .sl 3 0) :: tW xs e lim) ∧ xs.length ≤ 100000 ∧
    K .normal (dsW.zip (VW xs.length (ixs (loF lim) 0 xs).length (ixs (hiF lim) 0 xs).length e xs.length lim)) ⟨5, nsW.zip (BW xs (ixs (loF lim) 0 xs) (ixs (hiF lim) 0 xs))⟩
def LW2m (xs : List Wt) (lim : Int) : LT := fun lock t h K =>
  FitP lock h t ⟨4, [(3, vecI []), (2, vecW xs)]⟩ ((13, .nils) :: (12, .sl 3 0) :: tW2 xs lim) ∧ xs.length ≤ 100000 ∧
    K .normal (dsW2.zip (VW2 xs.length (ixs (loF lim) 0 xs).length (ixs (hiF lim) 0 xs).length xs.length lim)) ⟨5, nsW.zip (BW xs (ixs (loF lim) 0 xs) (ixs (hiF lim) 0 xs))⟩

abbrev gI : Nat → List VV := fun i => [I (([] : List Int).getD i 0)]

theorem LW1_ok : LSound Try.prog true (.block 1 (.loop (loopB 1 (bodyOf Try.prog 15)))) 57 (LW1 xs e lim) := by
  have h1 : LSound Try.prog true (.block 1 (.loop (loopB 1 (bodyOf Try.prog 15)))) 57 (LW1m xs e lim) :=
    ghost_row (d := 7) (nx := 4) (bs := [(3, vecI []), (2, vecW xs)]) (t0 := (6, .sl 3 0) :: tW xs e lim) gI 1 3 LWs_ok (by
      rintro lock t h K ⟨hf, hn, hK⟩
      exact ⟨hf, ⟨⟨rfl, rfl, VB.fit_refl _, VB.fit_refl _, VB.fit_refl _, trivial⟩, rfl, rfl, rfl, rfl, rfl, rfl, rfl, trivial⟩, hn, hK⟩)
  exact ghost_row (d := 6) (nx := 3) (bs := [(2, vecW xs)]) (t0 := (7, .nils) :: tW xs e lim) gI 1 3 h1 (by
      rintro lock t h K ⟨hf, hn, hK⟩
      exact ⟨hf, ⟨⟨rfl, rfl, VB.fit_refl _, VB.fit_refl _, trivial⟩, rfl, rfl, rfl, rfl, rfl, rfl, rfl, trivial⟩, hn, hK⟩)

theorem LW2_ok : LSound Try.prog true (.block 0 (.loop (loopB 0 (bodyOf Try.prog 16)))) 63 (LW2 xs lim) := by
  have h1 : LSound Try.prog true (.block 0 (.loop (loopB 0 (bodyOf Try.prog 16)))) 63 (LW2m xs lim) :=
    ghost_row (d := 13) (nx := 4) (bs := [(3, vecI []), (2, vecW xs)]) (t0 := (12, .sl 3 0) :: tW2 xs lim) gI 1 3 LWs2_ok (by
      rintro lock t h K ⟨hf, hn, hK⟩
      exact ⟨hf, ⟨⟨rfl, rfl, VB.fit_refl _, VB.fit_refl _, VB.fit_refl _, trivial⟩, rfl, rfl, rfl, rfl, rfl, trivial⟩, hn, hK⟩)
  exact ghost_row (d := 12) (nx := 3) (bs := [(2, vecW xs)]) (t0 := (13, .nils) :: tW2 xs lim) gI 1 3 h1 (by
      rintro lock t h K ⟨hf, hn, hK⟩
      exact ⟨hf, ⟨⟨rfl, rfl, VB.fit_refl _, VB.fit_refl _, trivial⟩, rfl, rfl, rfl, rfl, rfl, trivial⟩, hn, hK⟩)
end

/-- The loops, wherever the list is the one that is kept. -/
def LWx : LT := fun lock t h K => ∃ xs e lim, LW1 xs e lim lock t h K
def LWx2 : LT := fun lock t h K => ∃ xs lim, LW2 xs lim lock t h K
theorem LWx_ok : LSound Try.prog true (.block 1 (.loop (loopB 1 (bodyOf Try.prog 15)))) 57 LWx := by
  rintro lock t h K ⟨xs, e, lim, hK⟩
  exact LW1_ok _ _ _ _ hK
theorem LWx2_ok : LSound Try.prog true (.block 0 (.loop (loopB 0 (bodyOf Try.prog 16)))) 63 LWx2 := by
  rintro lock t h K ⟨xs, lim, hK⟩
  exact LW2_ok _ _ _ _ hK
end Go.Sx.Str

/- stream: Warm, evaluated. -/

namespace Go.Sx.Str
open Go Go.Sx Go.Proofs
set_option maxRecDepth 100000

def t15 : List (FuncId × Spec1) := [waT 34, inT 38, flT 13]
def t16 : List (FuncId × Spec1) := [waT 23, inT 39, flT 14]
def wmR (Q : VRes → List VB → Prop) : VRes → VH → Prop := fun r h => Q r [h.at 3, h.at 4]
theorem f15_ev (n cap : Nat) (l : Int → Pt) (w : Wt) (lim : Int) (Q : VRes → List VB → Prop) : spBL Try.prog 15 (tabS t15) [(1, LWx)] 10 20 0 [.agg (wtL w), .slice (.el 0 [] 0 0) n cap, I lim] ⟨1, [(0, ptsA n l)]⟩ (wmR Q) =
  (bif !watB w then
 Q (VRes.ret (VV.tup [VV.nils, VV.nils, I 1])) [VB.free, VB.free]
 else bif !inB lim (0 : Int) (100000 : Int) then
 Q (VRes.ret (VV.tup [VV.nils, VV.nils, I 2])) [VB.free, VB.free]
 else ∃ P, isList (VH.mk (2) [(1, VB.cells (wtL w) 25), (0, ptsA n l)]) (VV.slice (VA.el 0 [] (0 : Int) 0) n cap) P.length 9 (pG P) ∧ ∃ xs e lim_1, FitP 0 (VH.mk (2 + 1) [(2, vecW (flL w P)), (1, VB.cells (wtL w) 25), (0, ptsA n l)]) [(30, I 0), (29, I (↑(flL w P).length : Int)), (28, VV.sl (2) (flL w P).length), (8, I (flE w P)), (10, I (flI w P)), (9, VV.sl (2) (flL w P).length), (27, I (flE w P)), (26, I (flI w P)), (25, VV.sl (2) (flL w P).length), (21, VV.tup [VV.sl (2) (flL w P).length, I (flI w P), I (flE w P)]), (24, flV (2) w P), (23, VV.slice (VA.el 0 [] (0 : Int) 0) n cap), (22, VV.agg [I w.flo, I w.fhi, I w.wlo, I w.whi]), (17, VV.bool false), (17, VV.bool !inB lim (0 : Int) (100000 : Int)), (20, VV.bool !inB lim (0 : Int) (100000 : Int)), (19, VV.bool (inB lim (0 : Int) (100000 : Int))), (18, I lim), (13, VV.bool false), (13, VV.bool !watB w), (16, VV.bool !watB w), (15, VV.bool (watB w)), (14, VV.agg [I w.flo, I w.fhi, I w.wlo, I w.whi]), (8, I 0), (7, VV.nils), (6, VV.nils), (3, VV.ptr (VA.own (1) 0)), (0, VV.agg (wtL w)), (1, VV.slice (VA.el 0 [] (0 : Int) 0) n cap), (2, I lim)] (VH.mk 3 [(2, vecW xs)]) ((6, VV.nils) :: (7, VV.nils) :: tW xs e lim_1) ∧ xs.length ≤ 100000 ∧ Q (VRes.ret (VV.tup [VV.sl 3 (ixs (loF lim_1) (0 : Int) xs).length, VV.sl 4 (ixs (hiF lim_1) (0 : Int) xs).length, I e])) [VB.vec (ixs (loF lim_1) (0 : Int) xs).length (fun i => [I ((ixs (loF lim_1) (0 : Int) xs).getD i (0 : Int))]) 1 (3 : TypeId), VB.vec (ixs (hiF lim_1) (0 : Int) xs).length (fun i => [I ((ixs (hiF lim_1) (0 : Int) xs).getD i (0 : Int))]) 1 (3 : TypeId)]) := by kernel_rfl

theorem f16_ev (n cap : Nat) (l : Int → Pt) (w : Wt) (lim : Int) (Q : VRes → List VB → Prop) : spBL Try.prog 16 (tabS t16) [(0, LWx2)] 10 20 0 [.agg (wtL w), .slice (.el 0 [] 0 0) n cap, I lim] ⟨1, [(0, ptsA n l)]⟩ (wmR Q) =
  (bif !watB w then
 Q (VRes.ret (VV.tup [VV.nils, VV.nils, I 1])) [VB.free, VB.free]
 else bif !inB lim (0 : Int) (100000 : Int) then
 Q (VRes.ret (VV.tup [VV.nils, VV.nils, I 2])) [VB.free, VB.free]
 else ∃ P, isList (VH.mk (2) [(1, VB.cells (wtL w) 25), (0, ptsA n l)]) (VV.slice (VA.el 0 [] (0 : Int) 0) n cap) P.length 9 (pG P) ∧ bif !decide (flE w P = (0 : Int)) then
 Q (VRes.ret (VV.tup [VV.nils, VV.nils, I (flE w P)])) [VB.free, VB.free]
 else ∃ xs lim_1, FitP 0 (VH.mk (2 + 1) [(2, vecW (flL w P)), (1, VB.cells (wtL w) 25), (0, ptsA n l)]) [(14, I 0), (13, VV.nils), (12, VV.nils), (29, VV.bool false), (29, VV.bool !decide (flE w P = (0 : Int))), (28, I (flE w P)), (11, I (flE w P)), (10, I (flI w P)), (9, VV.sl (2) (flL w P).length), (27, I (flE w P)), (26, I (flI w P)), (25, VV.sl (2) (flL w P).length), (21, VV.tup [VV.sl (2) (flL w P).length, I (flI w P), I (flE w P)]), (24, flV (2) w P), (23, VV.slice (VA.el 0 [] (0 : Int) 0) n cap), (22, VV.agg [I w.flo, I w.fhi, I w.wlo, I w.whi]), (20, VV.bool false), (20, VV.bool !inB lim (0 : Int) (100000 : Int)), (19, VV.bool (inB lim (0 : Int) (100000 : Int))), (18, I lim), (17, VV.bool false), (17, VV.bool !watB w), (16, VV.bool (watB w)), (15, VV.agg [I w.flo, I w.fhi, I w.wlo, I w.whi]), (8, I 0), (7, VV.nils), (6, VV.nils), (3, VV.ptr (VA.own (1) 0)), (0, VV.agg (wtL w)), (1, VV.slice (VA.el 0 [] (0 : Int) 0) n cap), (2, I lim)] (VH.mk 3 [(2, vecW xs)]) ((12, VV.nils) :: (13, VV.nils) :: tW2 xs lim_1) ∧ xs.length ≤ 100000 ∧ Q (VRes.ret (VV.tup [VV.sl 3 (ixs (loF lim_1) (0 : Int) xs).length, VV.sl 4 (ixs (hiF lim_1) (0 : Int) xs).length, I 0])) [VB.vec (ixs (loF lim_1) (0 : Int) xs).length (fun i => [I ((ixs (loF lim_1) (0 : Int) xs).getD i (0 : Int))]) 1 (3 : TypeId), VB.vec (ixs (hiF lim_1) (0 : Int) xs).length (fun i => [I ((ixs (hiF lim_1) (0 : Int) xs).getD i (0 : Int))]) 1 (3 : TypeId)]) := by kernel_rfl


end Go.Sx.Str

/- stream: Warm as a row. -/

namespace Go.Sx.Str
open Go Go.Sx Go.Proofs
set_option maxRecDepth 100000

def wmE (w : Wt) (P : List Pt) (lim : Int) : Int := bif !watB w then 1 else bif !inB lim 0 100000 then 2 else flE w P
def wmS (w : Wt) (P : List Pt) (lim : Int) : List Int := bif decide (wmE w P lim = 0) then ixs (loF lim) 0 (rL w P) else []
def wmP (w : Wt) (P : List Pt) (lim : Int) : List Int := bif decide (wmE w P lim = 0) then ixs (hiF lim) 0 (rL w P) else []
abbrev wmV (o : Nat) (w : Wt) (P : List Pt) (lim : Int) : VV := .tup [.sl o (wmS w P lim).length, .sl (o + 1) (wmP w P lim).length, I (wmE w P lim)]

theorem wm_bad {w : Wt} {P : List Pt} {lim : Int} (h : wmE w P lim ≠ 0) : wmS w P lim = [] ∧ wmP w P lim = [] := by
  unfold wmS wmP
  rw [decide_eq_false h]
  exact ⟨rfl, rfl⟩
theorem wm_good {w : Wt} {P : List Pt} {lim : Int} (h : wmE w P lim = 0) : wmS w P lim = ixs (loF lim) 0 (rL w P) ∧ wmP w P lim = ixs (hiF lim) 0 (rL w P) := by
  unfold wmS wmP
  rw [decide_eq_true h]
  exact ⟨rfl, rfl⟩

theorem flE_len {w : Wt} {P : List Pt} (h : flE w P = 0) : P.length ≤ 64 ∧ watB w = true ∧ rE w P = 0 := by
  unfold flE at h
  cases hw : watB w
  · rw [hw] at h; exact absurd h (show (1 : Int) ≠ 0 by decide)
  · rw [hw] at h
    by_cases hl : (P.length : Int) > 64
    · rw [decide_eq_true hl] at h; exact absurd h (show (3 : Int) ≠ 0 by decide)
    · rw [decide_eq_false hl] at h
      exact ⟨by omega, rfl, h⟩

theorem flL_0 {w : Wt} {P : List Pt} (h : flE w P = 0) : flL w P = rL w P := by
  unfold flL
  rw [decide_eq_true h]; rfl
theorem flL_1 {w : Wt} {P : List Pt} (h : flE w P ≠ 0) : flL w P = [] := by
  unfold flL
  rw [decide_eq_false h]; rfl
theorem flL_len (w : Wt) (P : List Pt) : (flL w P).length ≤ 64 := by
  by_cases h : flE w P = 0
  · rw [flL_0 h, rL_len]; exact (flE_len h).1
  · rw [flL_1 h]; exact Nat.zero_le _

theorem two_ghosts {f : FuncId} {args : List VV} {h : VH} {bs : List (Nat × VB)} {e : Int} (hc : CallsV Try.prog f args h (.ret (.tup [.nils, .nils, I e])) ⟨3, bs⟩) : CallsV Try.prog f args h (.ret (.tup [.sl 3 0, .sl 4 0, I e])) (((VH.mk 3 bs).new (vecI [])).new (vecI [])) := by
  have h1 := calls_ghost (v2 := .tup [.sl 3 0, .nils, I e]) gI 1 3 hc (fun R x hv hx => by
    obtain ⟨xs, ⟨y, ys, g1, ⟨y2, ys2, g2, ⟨y3, ys3, g3, g4, rfl⟩, rfl⟩, rfl⟩, hx⟩ := hx
    exact ⟨_, ⟨y, _, nil_ghost hv g1, ⟨y2, _, g2, ⟨y3, _, g3, g4, rfl⟩, rfl⟩, rfl⟩, hx⟩)
  exact calls_ghost (v2 := .tup [.sl 3 0, .sl 4 0, I e]) gI 1 3 h1 (fun R x hv hx => by
    obtain ⟨xs, ⟨y, ys, g1, ⟨y2, ys2, g2, ⟨y3, ys3, g3, g4, rfl⟩, rfl⟩, rfl⟩, hx⟩ := hx
    exact ⟨_, ⟨y, _, g1, ⟨y2, _, nil_ghost hv g2, ⟨y3, _, g3, g4, rfl⟩, rfl⟩, rfl⟩, hx⟩)

def wmK (w : Wt) (P : List Pt) (lim : Int) : VRes → List VB → Prop := fun r bs =>
  (r = .ret (.tup [.nils, .nils, I (wmE w P lim)]) ∧ wmS w P lim = [] ∧ wmP w P lim = []) ∨ (r = .ret (wmV 3 w P lim) ∧ bs = [vecI (wmS w P lim), vecI (wmP w P lim)])

theorem wm_finish {f : FuncId} {args : List VV} {n : Nat} {l : Int → Pt} {w : Wt} {P : List Pt} {lim : Int} {r : VRes} {h' : VH} (hc : CallsV Try.prog f args ⟨1, [(0, ptsA n l)]⟩ r h') (hQ : wmR (wmK w P lim) r h') :
    CallsV Try.prog f args ⟨1, [(0, ptsA n l)]⟩ (.ret (wmV 3 w P lim)) ⟨5, [(3, vecI (wmS w P lim)), (4, vecI (wmP w P lim))]⟩ := by
  rcases hQ with ⟨rfl, h1, h2⟩ | ⟨rfl, hb⟩
  · have h3 := calls_weak hc (k := 3) (bs := []) (show 1 ≤ 3 by decide) trivial rfl rfl
    unfold wmV
    rw [h1, h2]
    exact calls_weak (two_ghosts h3) (show 1 ≤ 5 by decide) ⟨VB.fit_refl _, VB.fit_refl _, trivial⟩ rfl rfl
  · injection hb with g0 g1
    injection g1 with g1 _
    exact calls_weak hc (show 1 ≤ 5 by decide) ⟨by rw [g0]; exact VB.fit_refl _, by rw [g1]; exact VB.fit_refl _, trivial⟩ rfl rfl

theorem t15_ok : ∀ x ∈ t15, SpOk Try.prog x.1 x.2 := by
  intro x hx
  simp only [t15, List.mem_cons, List.not_mem_nil, or_false] at hx
  rcases hx with rfl | rfl | rfl
  · exact waT_ok wa34_v
  · exact inT_ok within_v
  · exact fl13_ok
theorem t16_ok : ∀ x ∈ t16, SpOk Try.prog x.1 x.2 := by
  intro x hx
  simp only [t16, List.mem_cons, List.not_mem_nil, or_false] at hx
  rcases hx with rfl | rfl | rfl
  · exact waT_ok wa23_v
  · exact inT_ok in_v
  · exact fl14_ok

theorem warm15 (w : Wt) (P : List Pt) (lim : Int) (cap : Nat) : CallsV Try.prog 15 [.agg (wtL w), .slice (.el 0 [] 0 0) P.length cap, I lim] ⟨1, [(0, ptsA P.length (pF P))]⟩ (.ret (wmV 3 w P lim)) ⟨5, [(3, vecI (wmS w P lim)), (4, vecI (wmP w P lim))]⟩ := by
  have hsp := spBL_ok hmix (tabs_ok t15_ok) (f := 15) (l := [(1, LWx)]) (fun x hx => by
    simp only [List.mem_singleton] at hx
    subst hx
    exact ⟨by kernel_rfl, LWx_ok⟩) (un := 10) (fu := 20)
  obtain ⟨r, h', hQ, hc⟩ := of_sp hsp (args := [.agg (wtL w), .slice (.el 0 [] 0 0) P.length cap, I lim]) (h := ⟨1, [(0, ptsA P.length (pF P))]⟩)
    (K := wmR (wmK w P lim))
    (by
      rw [f15_ev]
      refine cond_b (fun hw => .inl ?_) (fun hw => cond_b (fun hn => .inl ?_) (fun hn => ?_))
      · have : wmE w P lim = 1 := by unfold wmE; rw [hw]; rfl
        obtain ⟨h1, h2⟩ := wm_bad (show wmE w P lim ≠ 0 by rw [this]; decide)
        rw [this]; exact ⟨rfl, h1, h2⟩
      · have : wmE w P lim = 2 := by unfold wmE; rw [hw, hn]; rfl
        obtain ⟨h1, h2⟩ := wm_bad (show wmE w P lim ≠ 0 by rw [this]; decide)
        rw [this]; exact ⟨rfl, h1, h2⟩
      · have he : wmE w P lim = flE w P := by unfold wmE; rw [hw, hn]; rfl
        refine ⟨P, isList_arr rfl, flL w P, flE w P, lim, ⟨⟨rfl, rfl, VB.fit_refl _, trivial⟩, rfl, rfl, rfl, rfl, rfl, rfl, rfl, trivial⟩, by have := flL_len w P; omega, .inr ?_⟩
        unfold wmV
        rw [he]
        by_cases h0 : flE w P = 0
        · obtain ⟨h1, h2⟩ := wm_good (he.trans h0)
          rw [h1, h2, flL_0 h0]
          exact ⟨rfl, rfl⟩
        · obtain ⟨h1, h2⟩ := wm_bad (show wmE w P lim ≠ 0 by rw [he]; exact h0)
          rw [h1, h2, flL_1 h0]
          exact ⟨rfl, rfl⟩)
  exact wm_finish hc hQ

theorem warm16 (w : Wt) (P : List Pt) (lim : Int) (cap : Nat) : CallsV Try.prog 16 [.agg (wtL w), .slice (.el 0 [] 0 0) P.length cap, I lim] ⟨1, [(0, ptsA P.length (pF P))]⟩ (.ret (wmV 3 w P lim)) ⟨5, [(3, vecI (wmS w P lim)), (4, vecI (wmP w P lim))]⟩ := by
  have hsp := spBL_ok hmix (tabs_ok t16_ok) (f := 16) (l := [(0, LWx2)]) (fun x hx => by
    simp only [List.mem_singleton] at hx
    subst hx
    exact ⟨by kernel_rfl, LWx2_ok⟩) (un := 10) (fu := 20)
  obtain ⟨r, h', hQ, hc⟩ := of_sp hsp (args := [.agg (wtL w), .slice (.el 0 [] 0 0) P.length cap, I lim]) (h := ⟨1, [(0, ptsA P.length (pF P))]⟩)
    (K := wmR (wmK w P lim))
    (by
      rw [f16_ev]
      refine cond_b (fun hw => .inl ?_) (fun hw => cond_b (fun hn => .inl ?_) (fun hn => ?_))
      · have : wmE w P lim = 1 := by unfold wmE; rw [hw]; rfl
        obtain ⟨h1, h2⟩ := wm_bad (show wmE w P lim ≠ 0 by rw [this]; decide)
        rw [this]; exact ⟨rfl, h1, h2⟩
      · have : wmE w P lim = 2 := by unfold wmE; rw [hw, hn]; rfl
        obtain ⟨h1, h2⟩ := wm_bad (show wmE w P lim ≠ 0 by rw [this]; decide)
        rw [this]; exact ⟨rfl, h1, h2⟩
      · have he : wmE w P lim = flE w P := by unfold wmE; rw [hw, hn]; rfl
        refine ⟨P, isList_arr rfl, cond_nd (fun h0 => .inl ?_) (fun h0 => ⟨flL w P, lim, ⟨⟨rfl, rfl, VB.fit_refl _, trivial⟩, rfl, rfl, rfl, rfl, rfl, trivial⟩, by have := flL_len w P; omega, .inr ?_⟩)⟩
        · obtain ⟨h1, h2⟩ := wm_bad (show wmE w P lim ≠ 0 by rw [he]; exact h0)
          rw [he]; exact ⟨rfl, h1, h2⟩
        · obtain ⟨h1, h2⟩ := wm_good (he.trans h0)
          unfold wmV
          rw [h1, h2, he, h0, flL_0 h0]
          exact ⟨rfl, rfl⟩)
  exact wm_finish hc hQ

/-- A function of water, points and a limit that returns what Warm does. -/
def wmT (f : FuncId) : FuncId × Spec1 := (f, fun _ args h K => match args with
  | [.agg [.int .i64 a, .int .i64 b, .int .i64 c, .int .i64 d], v, .int .i64 lim] => ∃ P : List Pt, isList h v P.length 9 (pG P) ∧ match h with
    | ⟨nx, bs⟩ => K (.ret (wmV nx ⟨a, b, c, d⟩ P lim)) ⟨nx + 2, (nx + 1, vecI (wmP ⟨a, b, c, d⟩ P lim)) :: (nx, vecI (wmS ⟨a, b, c, d⟩ P lim)) :: bs⟩
  | _ => False)

theorem at_two {A B : VB} (i : Nat) : (VH.mk 5 [(3, A), (4, B)]).at (3 + i) = (([A, B] : List VB)[i]?).getD .free := by
  match i with
  | 0 => rfl
  | 1 => rfl
  | i + 2 =>
    rw [at_ge (by show ¬ 3 + (i + 2) < 5; omega)]
    rfl

theorem wmT_ok {f : FuncId} (hf : ∀ (w : Wt) (P : List Pt) (lim : Int) (cap : Nat), CallsV Try.prog f [.agg (wtL w), .slice (.el 0 [] 0 0) P.length cap, I lim] ⟨1, [(0, ptsA P.length (pF P))]⟩ (.ret (wmV 3 w P lim)) ⟨5, [(3, vecI (wmS w P lim)), (4, vecI (wmP w P lim))]⟩) : SpOk Try.prog (wmT f).1 (wmT f).2 := by
  intro lock args h K hK
  simp only [wmT] at hK
  split at hK
  · rename_i a b c d v lim
    obtain ⟨P, hl, hK⟩ := hK
    have h2 := calls_lists (P := Try.prog) (f := f) (ags := [.v (.agg (wtL ⟨a, b, c, d⟩)), .l P.length 9 (pG P), .v (I lim)]) (args' := [.agg (wtL ⟨a, b, c, d⟩), v, I lim]) (h := h) (r := .ret (wmV 3 ⟨a, b, c, d⟩ P lim)) (bl := [vecI (wmS ⟨a, b, c, d⟩ P lim), vecI (wmP ⟨a, b, c, d⟩ P lim)]) 3
      (fun cs => by
        cases cs with
        | nil => exact ⟨_, hf _ _ _ _, at_two⟩
        | cons c cs => exact ⟨_, hf _ _ _ _, at_two⟩)
      (by simp [VRes.flat, VV.flat, flatL])
      (fun c hc => by
        simp only [List.mem_cons, List.not_mem_nil, or_false] at hc
        rcases hc with rfl | rfl <;> exact fun _ _ => rfl)
      ⟨_, rfl, rfl, _, _, rfl, hl, fun _ _ => rfl, _, rfl, rfl, rfl⟩
    have e2 : (VRes.ret (wmV 3 ⟨a, b, c, d⟩ P lim)).sh 3 h.nx = .ret (wmV h.nx ⟨a, b, c, d⟩ P lim) := by
      simp [VRes.sh, VV.sh, shL, shN]; omega
    rw [e2] at h2
    exact ⟨_, _, (by cases h; exact hK), lockP_push _ _, h2⟩
  · exact hK.elim

theorem wm15_ok : SpOk Try.prog (wmT 15).1 (wmT 15).2 := wmT_ok warm15
theorem wm16_ok : SpOk Try.prog (wmT 16).1 (wmT 16).2 := wmT_ok warm16
end Go.Sx.Str

/- stream: Same and Ints, evaluated. -/

namespace Go.Sx.Str
open Go Go.Sx Go.Proofs
set_option maxRecDepth 100000

def wA (xs : List Wt) : VB := arrOf 4 xs.length (fun j => wtL (xs.getD j w0))
def iA (xs : List Int) : VB := arrOf 1 xs.length (fun j => [I (xs.getD j 0)])
def dsE : List Nat := [4, 5, 0, 1]
def VE (n c m d : Nat) (i : Int) : List VV := [.bool false, I i, .slice (.el 0 [] 0 0) n c, .slice (.el 1 [] 0 0) m d]
def LE (id : Nat) (n c m d : Nat) (A B : VB) (ok : Bool) : LT := fun lock t h K =>
  FitP lock h t ⟨2, [0, 1].zip [A, B]⟩ (dsE.zip (VE n c m d 0)) ∧ (n = m ∧ n ≤ 100000) ∧ (ok = true → K .normal (dsE.zip (VE n c m d n)) ⟨2, [0, 1].zip [A, B]⟩) ∧ (ok = false → ∀ i, K .ret (dsE.zip (VE n c m d i)) ⟨2, [0, 1].zip [A, B]⟩)
theorem sa_ev (xs ys : List Wt) (c d : Nat) (i : Int) (X : VEx → List VV → List VB → Prop) : codeE Try.prog (callN Try.prog noSpec noL 10 20) (fun _ => none) true 10 26 0 (loopB 0 (bodyOf Try.prog 17)) (dsE.zip (VE xs.length c ys.length d i)) ⟨2, [0, 1].zip [wA xs, wA ys]⟩ (obs 2 dsE [0, 1] X) =
  (bif decide (i < (↑xs.length : Int)) then
 bif decide ((0 : Int) ≤ i ∧ i < (↑xs.length : Int)) then
 (([] : List Int) = [] ∧ (0 : Int) ≤ (0 : Int) + i ∧ (0 : Int) + i < (↑xs.length : Int)) ∧ bif decide ((0 : Int) ≤ i ∧ i < (↑ys.length : Int)) then
 (([] : List Int) = [] ∧ (0 : Int) ≤ (0 : Int) + i ∧ (0 : Int) + i < (↑ys.length : Int)) ∧ bif !(decide ((xs.getD ((0 : Int) + i).toNat w0).flo = (ys.getD ((0 : Int) + i).toNat w0).flo) && (decide ((xs.getD ((0 : Int) + i).toNat w0).fhi = (ys.getD ((0 : Int) + i).toNat w0).fhi) && true) && (decide ((xs.getD ((0 : Int) + i).toNat w0).wlo = (ys.getD ((0 : Int) + i).toNat w0).wlo) && (decide ((xs.getD ((0 : Int) + i).toNat w0).whi = (ys.getD ((0 : Int) + i).toNat w0).whi) && true) && true)) then
 X VEx.ret [VV.bool false, I i, VV.slice (VA.el 0 [] (0 : Int) 0) xs.length c, VV.slice (VA.el 1 [] (0 : Int) 0) ys.length d] [VB.arr 4 (fun ix i => ix = [] ∧ (0 : Int) ≤ i ∧ i < (↑xs.length : Int)) fun x i => (fun j => wtL (xs.getD j w0)) i.toNat, VB.arr 4 (fun ix i => ix = [] ∧ (0 : Int) ≤ i ∧ i < (↑ys.length : Int)) fun x i => (fun j => wtL (ys.getD j w0)) i.toNat]
 else bif inK IntKind.i64 (i + (1 : Int)) then
 X VEx.normal [VV.bool false, I (i + (1 : Int)), VV.slice (VA.el 0 [] (0 : Int) 0) xs.length c, VV.slice (VA.el 1 [] (0 : Int) 0) ys.length d] [VB.arr 4 (fun ix i => ix = [] ∧ (0 : Int) ≤ i ∧ i < (↑xs.length : Int)) fun x i => (fun j => wtL (xs.getD j w0)) i.toNat, VB.arr 4 (fun ix i => ix = [] ∧ (0 : Int) ≤ i ∧ i < (↑ys.length : Int)) fun x i => (fun j => wtL (ys.getD j w0)) i.toNat]
 else False
 else False
 else False
 else X (VEx.exit 0) [VV.bool false, I i, VV.slice (VA.el 0 [] (0 : Int) 0) xs.length c, VV.slice (VA.el 1 [] (0 : Int) 0) ys.length d] [VB.arr 4 (fun ix i => ix = [] ∧ (0 : Int) ≤ i ∧ i < (↑xs.length : Int)) fun x i => (fun j => wtL (xs.getD j w0)) i.toNat, VB.arr 4 (fun ix i => ix = [] ∧ (0 : Int) ≤ i ∧ i < (↑ys.length : Int)) fun x i => (fun j => wtL (ys.getD j w0)) i.toNat]) := by kernel_rfl

theorem in18_ev (xs ys : List Int) (c d : Nat) (i : Int) (X : VEx → List VV → List VB → Prop) : codeE Try.prog (callN Try.prog noSpec noL 10 20) (fun _ => none) true 10 26 0 (loopB 0 (bodyOf Try.prog 18)) (dsE.zip (VE xs.length c ys.length d i)) ⟨2, [0, 1].zip [iA xs, iA ys]⟩ (obs 2 dsE [0, 1] X) =
  (bif decide (i < (↑xs.length : Int)) then
 bif decide ((0 : Int) ≤ i ∧ i < (↑xs.length : Int)) then
 (([] : List Int) = [] ∧ (0 : Int) ≤ (0 : Int) + i ∧ (0 : Int) + i < (↑xs.length : Int)) ∧ bif decide ((0 : Int) ≤ i ∧ i < (↑ys.length : Int)) then
 (([] : List Int) = [] ∧ (0 : Int) ≤ (0 : Int) + i ∧ (0 : Int) + i < (↑ys.length : Int)) ∧ bif !decide (xs.getD ((0 : Int) + i).toNat (0 : Int) = ys.getD ((0 : Int) + i).toNat (0 : Int)) then
 X VEx.ret [VV.bool false, I i, VV.slice (VA.el 0 [] (0 : Int) 0) xs.length c, VV.slice (VA.el 1 [] (0 : Int) 0) ys.length d] [VB.arr 1 (fun ix i => ix = [] ∧ (0 : Int) ≤ i ∧ i < (↑xs.length : Int)) fun x i => (fun j => [I (xs.getD j (0 : Int))]) i.toNat, VB.arr 1 (fun ix i => ix = [] ∧ (0 : Int) ≤ i ∧ i < (↑ys.length : Int)) fun x i => (fun j => [I (ys.getD j (0 : Int))]) i.toNat]
 else bif inK IntKind.i64 (i + (1 : Int)) then
 X VEx.normal [VV.bool false, I (i + (1 : Int)), VV.slice (VA.el 0 [] (0 : Int) 0) xs.length c, VV.slice (VA.el 1 [] (0 : Int) 0) ys.length d] [VB.arr 1 (fun ix i => ix = [] ∧ (0 : Int) ≤ i ∧ i < (↑xs.length : Int)) fun x i => (fun j => [I (xs.getD j (0 : Int))]) i.toNat, VB.arr 1 (fun ix i => ix = [] ∧ (0 : Int) ≤ i ∧ i < (↑ys.length : Int)) fun x i => (fun j => [I (ys.getD j (0 : Int))]) i.toNat]
 else False
 else False
 else False
 else X (VEx.exit 0) [VV.bool false, I i, VV.slice (VA.el 0 [] (0 : Int) 0) xs.length c, VV.slice (VA.el 1 [] (0 : Int) 0) ys.length d] [VB.arr 1 (fun ix i => ix = [] ∧ (0 : Int) ≤ i ∧ i < (↑xs.length : Int)) fun x i => (fun j => [I (xs.getD j (0 : Int))]) i.toNat, VB.arr 1 (fun ix i => ix = [] ∧ (0 : Int) ≤ i ∧ i < (↑ys.length : Int)) fun x i => (fun j => [I (ys.getD j (0 : Int))]) i.toNat]) := by kernel_rfl

theorem f17_ev (xs ys : List Wt) (c d : Nat) (ok : Bool) (Q : VRes → Prop) : spBL Try.prog 17 noSpec [(0, LE 0 xs.length c ys.length d (wA xs) (wA ys) ok)] 10 20 0 [.slice (.el 0 [] 0 0) xs.length c, .slice (.el 1 [] 0 0) ys.length d] ⟨2, [(0, wA xs), (1, wA ys)]⟩ (fun r _ => Q r) =
  (bif !decide ((↑xs.length : Int) = (↑ys.length : Int)) then
 Q (VRes.ret (VV.bool false))
 else FitP 0 (VH.mk 2 ([0, 1].zip [wA xs, wA ys])) (dsE.zip (VE xs.length c ys.length d (0 : Int))) (VH.mk 2 ([0, 1].zip [wA xs, wA ys])) (dsE.zip (VE xs.length c ys.length d (0 : Int))) ∧ (xs.length = ys.length ∧ xs.length ≤ 100000) ∧ (ok = true → Q (VRes.ret (VV.bool true))) ∧ (ok = false → ∀ (i : Int), Q (VRes.ret (VV.bool false)))) := by kernel_rfl

theorem f18_ev (xs ys : List Int) (c d : Nat) (ok : Bool) (Q : VRes → Prop) : spBL Try.prog 18 noSpec [(0, LE 0 xs.length c ys.length d (iA xs) (iA ys) ok)] 10 20 0 [.slice (.el 0 [] 0 0) xs.length c, .slice (.el 1 [] 0 0) ys.length d] ⟨2, [(0, iA xs), (1, iA ys)]⟩ (fun r _ => Q r) =
  (bif !decide ((↑xs.length : Int) = (↑ys.length : Int)) then
 Q (VRes.ret (VV.bool false))
 else FitP 0 (VH.mk 2 ([0, 1].zip [iA xs, iA ys])) (dsE.zip (VE xs.length c ys.length d (0 : Int))) (VH.mk 2 ([0, 1].zip [iA xs, iA ys])) (dsE.zip (VE xs.length c ys.length d (0 : Int))) ∧ (xs.length = ys.length ∧ xs.length ≤ 100000) ∧ (ok = true → Q (VRes.ret (VV.bool true))) ∧ (ok = false → ∀ (i : Int), Q (VRes.ret (VV.bool false)))) := by kernel_rfl


end Go.Sx.Str

/- stream: Same and Ints of one list, as rows. -/

namespace Go.Sx.Str
open Go Go.Sx Go.Proofs
set_option maxRecDepth 100000

section
variable {c d : Nat}

def OE (n c d : Nat) (A : VB) (_ : Int) (x : VEx) (vs : List VV) (bs : List VB) : Prop := x = .exit 0 ∧ vs = VE n c n d n ∧ bs = [A, A]

theorem LE17_ok {xs : List Wt} : LSound Try.prog true (.block 0 (.loop (loopB 0 (bodyOf Try.prog 17)))) 26 (LE 0 xs.length c xs.length d (wA xs) (wA xs) true) := by
  by_cases hn : xs.length ≤ 100000
  · refine loop_row hmix good0 (un := 10) (ds := dsE) (ns := [0, 1]) (nx := 2) (fun i : Int => VE xs.length c xs.length d i) (fun _ => [wA xs, wA xs]) (fun i => 0 ≤ i ∧ i ≤ xs.length) (fun i => (xs.length - i).toNat) (OE xs.length c d (wA xs)) noL_ok ?_ ?_
    · rintro i ⟨h0, h1⟩
      rw [sa_ev]
      by_cases hlt : i < (xs.length : Int)
      · refine cond_dk hlt (cond_dk ⟨h0, hlt⟩ ⟨⟨rfl, by omega, by omega⟩, cond_dk ⟨h0, hlt⟩ ⟨⟨rfl, by omega, by omega⟩, ?_⟩⟩)
        simp only [decide_true, Bool.and_true, Bool.not_true, cond_false]
        exact cond_r (by omega) ⟨i + 1, ⟨by omega, by omega⟩, by dsimp only; omega, rfl, fitBs_refl _, fun _ _ _ h => h⟩
      · refine cond_d (fun h => absurd h hlt) (fun _ => ?_)
        have : i = (xs.length : Int) := by omega
        subst this
        exact ⟨rfl, rfl, rfl⟩
    · rintro lock t h K ⟨hf, _, h1, _⟩
      refine ⟨0, hf, ⟨Int.le_refl 0, Int.natCast_nonneg _⟩, ?_⟩
      rintro x vs bs ⟨rfl, rfl, rfl⟩
      exact h1 rfl
  · rintro lock t h K ⟨hf, hc, h1, _⟩
    exact (hn hc.2).elim

theorem LE18_ok {xs : List Int} : LSound Try.prog true (.block 0 (.loop (loopB 0 (bodyOf Try.prog 18)))) 26 (LE 0 xs.length c xs.length d (iA xs) (iA xs) true) := by
  by_cases hn : xs.length ≤ 100000
  · refine loop_row hmix good0 (un := 10) (ds := dsE) (ns := [0, 1]) (nx := 2) (fun i : Int => VE xs.length c xs.length d i) (fun _ => [iA xs, iA xs]) (fun i => 0 ≤ i ∧ i ≤ xs.length) (fun i => (xs.length - i).toNat) (OE xs.length c d (iA xs)) noL_ok ?_ ?_
    · rintro i ⟨h0, h1⟩
      rw [in18_ev]
      by_cases hlt : i < (xs.length : Int)
      · refine cond_dk hlt (cond_dk ⟨h0, hlt⟩ ⟨⟨rfl, by omega, by omega⟩, cond_dk ⟨h0, hlt⟩ ⟨⟨rfl, by omega, by omega⟩, ?_⟩⟩)
        simp only [decide_true, Bool.not_true, cond_false]
        exact cond_r (by omega) ⟨i + 1, ⟨by omega, by omega⟩, by dsimp only; omega, rfl, fitBs_refl _, fun _ _ _ h => h⟩
      · refine cond_d (fun h => absurd h hlt) (fun _ => ?_)
        have : i = (xs.length : Int) := by omega
        subst this
        exact ⟨rfl, rfl, rfl⟩
    · rintro lock t h K ⟨hf, _, h1, _⟩
      refine ⟨0, hf, ⟨Int.le_refl 0, Int.natCast_nonneg _⟩, ?_⟩
      rintro x vs bs ⟨rfl, rfl, rfl⟩
      exact h1 rfl
  · rintro lock t h K ⟨hf, hc, h1, _⟩
    exact (hn hc.2).elim
end

theorem same_v {xs : List Wt} (hn : xs.length ≤ 100000) (c d : Nat) : ∃ h', CallsV Try.prog 17 [.slice (.el 0 [] 0 0) xs.length c, .slice (.el 1 [] 0 0) xs.length d] ⟨2, [(0, wA xs), (1, wA xs)]⟩ (.ret (.bool true)) h' := by
  have hsp := spBL_ok hmix (sp := noSpec) (fun _ _ h => absurd h (by simp [noSpec])) (f := 17) (lo_one (by kernel_rfl) (LE17_ok (xs := xs) (c := c) (d := d))) (un := 10) (fu := 20)
  obtain ⟨r, h', hQ, hc⟩ := of_sp hsp (args := [.slice (.el 0 [] 0 0) xs.length c, .slice (.el 1 [] 0 0) xs.length d]) (h := ⟨2, [(0, wA xs), (1, wA xs)]⟩) (K := fun r _ => r = .ret (.bool true))
    (by
      refine cast (f17_ev xs xs c d true (fun r => r = .ret (.bool true))).symm ?_
      exact cond_nd (fun h => absurd rfl h) (fun _ => ⟨fitP_self rfl, ⟨rfl, hn⟩, fun _ => rfl, fun h => by cases h⟩))
  subst hQ
  exact ⟨h', hc⟩

theorem ints_v {xs : List Int} (hn : xs.length ≤ 100000) (c d : Nat) : ∃ h', CallsV Try.prog 18 [.slice (.el 0 [] 0 0) xs.length c, .slice (.el 1 [] 0 0) xs.length d] ⟨2, [(0, iA xs), (1, iA xs)]⟩ (.ret (.bool true)) h' := by
  have hsp := spBL_ok hmix (sp := noSpec) (fun _ _ h => absurd h (by simp [noSpec])) (f := 18) (lo_one (by kernel_rfl) (LE18_ok (xs := xs) (c := c) (d := d))) (un := 10) (fu := 20)
  obtain ⟨r, h', hQ, hc⟩ := of_sp hsp (args := [.slice (.el 0 [] 0 0) xs.length c, .slice (.el 1 [] 0 0) xs.length d]) (h := ⟨2, [(0, iA xs), (1, iA xs)]⟩) (K := fun r _ => r = .ret (.bool true))
    (by
      refine cast (f18_ev xs xs c d true (fun r => r = .ret (.bool true))).symm ?_
      exact cond_nd (fun h => absurd rfl h) (fun _ => ⟨fitP_self rfl, ⟨rfl, hn⟩, fun _ => rfl, fun h => by cases h⟩))
  subst hQ
  exact ⟨h', hc⟩

abbrev wG (xs : List Wt) : Nat → List VV := fun j => wtL (xs.getD j w0)
abbrev iG (xs : List Int) : Nat → List VV := fun j => [I (xs.getD j 0)]
/-- Two lists that are the same. -/
def saT : FuncId × Spec1 := (17, fun _ args h K => match args with
  | [a, b] => ∃ xs : List Wt, (isList h a xs.length 4 (wG xs) ∧ isList h b xs.length 4 (wG xs) ∧ xs.length ≤ 100000) ∧ K (.ret (.bool true)) h
  | _ => False)
def inT18 : FuncId × Spec1 := (18, fun _ args h K => match args with
  | [a, b] => ∃ xs : List Int, (isList h a xs.length 1 (iG xs) ∧ isList h b xs.length 1 (iG xs) ∧ xs.length ≤ 100000) ∧ K (.ret (.bool true)) h
  | _ => False)

theorem saT_ok : SpOk Try.prog saT.1 saT.2 := by
  intro lock args h K hK
  simp only [saT] at hK
  split at hK
  · rename_i a b
    obtain ⟨xs, ⟨h1, h2, hn⟩, hK⟩ := hK
    refine ⟨_, h, hK, lockP_refl _ _, calls_listsP (ags := [.l xs.length 4 (wG xs), .l xs.length 4 (wG xs)]) (fun cs => ?_) rfl ⟨_, _, rfl, h1, fun _ _ => rfl, _, _, rfl, h2, fun _ _ => rfl, rfl⟩⟩
    match cs with
    | [] => exact same_v hn 0 0
    | [c] => exact same_v hn c 0
    | c :: d :: _ => exact same_v hn c d
  · exact hK.elim
theorem inT18_ok : SpOk Try.prog inT18.1 inT18.2 := by
  intro lock args h K hK
  simp only [inT18] at hK
  split at hK
  · rename_i a b
    obtain ⟨xs, ⟨h1, h2, hn⟩, hK⟩ := hK
    refine ⟨_, h, hK, lockP_refl _ _, calls_listsP (ags := [.l xs.length 1 (iG xs), .l xs.length 1 (iG xs)]) (fun cs => ?_) rfl ⟨_, _, rfl, h1, fun _ _ => rfl, _, _, rfl, h2, fun _ _ => rfl, rfl⟩⟩
    match cs with
    | [] => exact ints_v hn 0 0
    | [c] => exact ints_v hn c 0
    | c :: d :: _ => exact ints_v hn c d
  · exact hK.elim
end Go.Sx.Str
