/- stream: No1 No2 No3, in one text. -/
import Derived.Test.YtnfkbbcbehnnkaaNN
/- nose: whose differences are bounded. -/

namespace Go.Sx.Nos
open Go Go.Sx Go.Proofs
set_option maxRecDepth 1000000

/-- The difference of two unknowns is bounded. -/
def Bd (p : Pn) (a b : Nd) : Prop := ∃ K : Int, ∀ x, Sol p x → -K ≤ x a - x b ∧ x a - x b ≤ K

section
variable {p : Pn} {a b c : Nd}

theorem bd_refl : Bd p a a := ⟨0, fun _ _ => ⟨by omega, by omega⟩⟩
theorem bd_symm (h : Bd p a b) : Bd p b a := h.elim fun K h => ⟨K, fun x hx => ⟨by have := (h x hx).2; omega, by have := (h x hx).1; omega⟩⟩
theorem bd_trans (h : Bd p a b) (g : Bd p b c) : Bd p a c := by
  obtain ⟨K, h⟩ := h
  obtain ⟨L, g⟩ := g
  refine ⟨K + L, fun x hx => ?_⟩
  have h1 := h x hx
  have g1 := g x hx
  omega

theorem bd_un (h : Un p a b) : ¬ Bd p a b := fun ⟨K, hb⟩ => by
  obtain ⟨x, hx, hk⟩ := h (K + 1)
  have := (hb x hx).2
  omega

theorem bd_mx {m n : Int} (h : Mx p a b m) (g : Mx p b a n) : Bd p a b := by
  refine ⟨max m n, fun x hx => ?_⟩
  have h1 := h.1 x hx
  have g1 := g.1 x hx
  omega

/-- The error of a difference tells whether it is bounded. -/
theorem bt_bd (hp : PnOk p) (hf : fitF p) (ha : thP p a) (hb : thP p b) : ((btF p a b).2.2 = 0 ∧ Bd p a b) ∨ (btF p a b = (0, 0, 12) ∧ ¬ Bd p a b) := by
  rcases btF_cases p a b with ⟨h, _⟩ | ⟨_, h, _⟩ | ⟨_, _, h, _⟩ | ⟨_, _, _, h, e⟩ | ⟨_, _, _, lo, hi, h1, h2, _, _, _, e⟩
  · exact (h hp).elim
  · exact (h ⟨ha, hb⟩).elim
  · exact (h hf).elim
  · refine .inr ⟨e, fun hB => ?_⟩
    rcases h with h | h
    · exact bd_un h hB
    · exact bd_un h (bd_symm hB)
  · rw [e]
    exact .inl ⟨rfl, bd_mx h1 h2⟩

theorem bdP_iff (hp : PnOk p) (hf : fitF p) {s o : Int} (hs : thP p (vN s)) (ho : thP p (vN o)) : bdP p s o ↔ Bd p (vN s) (vN o) := by
  have hW := eWW
  unfold bdP
  rcases far_cases hp hf hs ho with ⟨h1, h2⟩ | ⟨h1, h2, h3, h4⟩
  · exact ⟨fun h => by omega, fun h => (bd_un h2 h).elim⟩
  · rcases far_cases hp hf ho hs with ⟨g1, g2⟩ | ⟨g1, g2, g3, g4⟩
    · exact ⟨fun h => by omega, fun h => (bd_un g2 (bd_symm h)).elim⟩
    · exact ⟨fun _ => bd_mx h2 g2, fun _ => ⟨by omega, by omega⟩⟩

/-- Without a standard nothing is bounded that is compared with the number 0. -/
theorem bd_none (hp : PnOk p) (hf : fitF p) (hS : p.S = []) (ha : a ≠ zeroN) : ¬ Bd p a zeroN := by
  rintro ⟨K, hK⟩
  obtain ⟨x, hx⟩ := (fit_iff hp).1 hf
  have key : ∀ n : Int, Sol p (fun y => if y = zeroN then x y + n else x y) := by
    intro n l hl
    have hz : l.1 ≠ zeroN ∧ l.2.1 ≠ zeroN := by
      unfold links at hl
      rw [hS] at hl
      rcases List.mem_append.1 hl with hl | hl
      · obtain ⟨t, ht, hl⟩ := List.mem_flatMap.1 hl
        unfold lkT at hl
        rcases List.mem_append.1 hl with hl | hl
        · simp only [lkH, List.mem_cons, List.not_mem_nil, or_false] at hl
          have hn := (hp.ts t ht).2.1
          rcases hl with rfl | rfl
          · exact ⟨by simp [ndB, zeroN]; omega, by simp [ndB, zeroN]⟩
          · exact ⟨by simp [ndB, zeroN], by simp [ndB, zeroN]; omega⟩
        · obtain ⟨u, _, hl⟩ := List.mem_flatMap.1 hl
          unfold lkI at hl
          split at hl
          · rename_i hc
            simp only [List.mem_cons, List.not_mem_nil, or_false] at hl
            rcases hl with rfl | rfl <;> exact ⟨by simp [ndB, zeroN], by simp [ndB, zeroN]⟩
          · cases hl
      · cases hl
    dsimp only
    rw [if_neg hz.1, if_neg hz.2]
    exact hx l hl
  have h1 := hK x hx
  have h2 := hK _ (key (2 * K + 1))
  rw [if_neg ha, if_pos rfl] at h2
  omega

theorem gFirst_bd (hp : PnOk p) (hf : fitF p) {s : Int} (hs0 : 0 ≤ s) (hs : thP p (vN s)) : ∀ l : List Int, (∀ o ∈ l, o = -1 ∨ (0 ≤ o ∧ thP p (vN o))) →
    0 ≤ gFirst p s l ∧ thP p (vN (gFirst p s l)) ∧ Bd p (vN s) (vN (gFirst p s l))
  | [], _ => ⟨hs0, hs, bd_refl⟩
  | o :: r, h => by
    unfold gFirst
    split
    · rename_i hc
      rcases h o (List.mem_cons_self ..) with h1 | ⟨h1, h2⟩
      · omega
      · exact ⟨h1, h2, (bdP_iff hp hf hs h2).1 hc.2⟩
    · exact gFirst_bd hp hf hs0 hs r fun o ho => h o (List.mem_cons_of_mem _ ho)

/-- What Groups says of a sample. -/
noncomputable def gE (p : Pn) (k : Nat) : Int := gN p k (grp p k)

theorem grp_eq (p : Pn) : ∀ n, grp p n = (List.range n).map (gE p)
  | 0 => rfl
  | n + 1 => by
    rw [List.range_succ, List.map_append, ← grp_eq p n]
    rfl

theorem grp_get {n k : Nat} (h : k < n) : (grp p n).getD k 0 = gE p k := by
  rw [grp_eq, List.getD_eq_getElem?_getD, List.getElem?_map, List.getElem?_range h]
  rfl

theorem gE_no {k : Nat} (h : ¬ thP p (vN k)) : gE p k = -1 := by
  unfold gE gN
  rw [if_neg h]

theorem grp_th (n : Nat) : ∀ o ∈ grp p n, o = -1 ∨ (0 ≤ o ∧ thP p (vN o)) := fun o ho => (grp_mem n o ho).imp id fun h => ⟨h.1, h.2.2⟩

theorem gE_bd (hp : PnOk p) (hf : fitF p) {k : Nat} (h : thP p (vN k)) : 0 ≤ gE p k ∧ thP p (vN (gE p k)) ∧ Bd p (vN k) (vN (gE p k)) := by
  have := gFirst_bd hp hf (s := (k : Nat)) (by omega) h (grp p k) (grp_th k)
  unfold gE gN
  rw [if_pos h]
  exact this

theorem gE_pos (hp : PnOk p) (hf : fitF p) {k : Nat} : 0 ≤ gE p k ↔ thP p (vN k) := by
  refine ⟨fun h => ?_, fun h => (gE_bd hp hf h).1⟩
  by_cases ht : thP p (vN k)
  · exact ht
  · rw [gE_no ht] at h
    exact absurd h (by decide)

theorem gFirst_congr (hp : PnOk p) (hf : fitF p) {s t : Int} (hs : thP p (vN s)) (ht : thP p (vN t)) (hb : Bd p (vN s) (vN t)) : ∀ l : List Int, (∀ o ∈ l, o = -1 ∨ (0 ≤ o ∧ thP p (vN o))) →
    (∃ o ∈ l, 0 ≤ o ∧ bdP p s o) → ∀ r, gFirst p s l = gFirst p t (l ++ r)
  | [], _, h, _ => by obtain ⟨o, h, _⟩ := h; cases h
  | o :: l, h, he, r => by
    have ho := h o (List.mem_cons_self ..)
    have ih := gFirst_congr hp hf hs ht hb l (fun o ho => h o (List.mem_cons_of_mem _ ho))
    show gFirst p s (o :: l) = gFirst p t (o :: (l ++ r))
    by_cases h0 : 0 ≤ o
    · have h2 : thP p (vN o) := ho.elim (fun h => by omega) fun h => h.2
      have e : bdP p s o ↔ bdP p t o := by
        rw [bdP_iff hp hf hs h2, bdP_iff hp hf ht h2]
        exact ⟨fun h => bd_trans (bd_symm hb) h, fun h => bd_trans hb h⟩
      by_cases hc : bdP p s o
      · unfold gFirst
        rw [if_pos ⟨h0, hc⟩, if_pos ⟨h0, e.1 hc⟩]
      · unfold gFirst
        rw [if_neg (fun h => hc h.2), if_neg (fun h => hc (e.2 h.2))]
        refine ih ?_ r
        obtain ⟨o', g1, g2⟩ := he
        rcases List.mem_cons.1 g1 with rfl | g1
        · exact (hc g2.2).elim
        · exact ⟨o', g1, g2⟩
    · unfold gFirst
      rw [if_neg (fun h => h0 h.1), if_neg (fun h => h0 h.1)]
      refine ih ?_ r
      obtain ⟨o', h1, h2⟩ := he
      rcases List.mem_cons.1 h1 with rfl | h1
      · exact (h0 h2.1).elim
      · exact ⟨o', h1, h2⟩

/-- None before it: the sample itself. -/
theorem gFirst_self {s : Int} : ∀ l : List Int, (¬ ∃ o ∈ l, 0 ≤ o ∧ bdP p s o) → gFirst p s l = s
  | [], _ => rfl
  | o :: r, h => by
    unfold gFirst
    rw [if_neg (fun hc => h ⟨o, List.mem_cons_self .., hc⟩)]
    exact gFirst_self r fun ⟨o', h1, h2⟩ => h ⟨o', List.mem_cons_of_mem _ h1, h2⟩

theorem gE_lt (hp : PnOk p) (hf : fitF p) {i k : Nat} (hik : i < k) (hi : thP p (vN i)) (hk : thP p (vN k)) (hb : Bd p (vN k) (vN i)) : gE p i = gE p k := by
  have hbi := gE_bd hp hf hi
  have hmem : gE p i ∈ grp p k := by
    rw [grp_eq]
    exact List.mem_map.2 ⟨i, List.mem_range.2 hik, rfl⟩
  obtain ⟨r, hr⟩ : ∃ r, grp p k = grp p i ++ (gE p i :: r) := by
    obtain ⟨m, rfl⟩ : ∃ m, k = i + 1 + m := ⟨k - (i + 1), by omega⟩
    refine ⟨((List.range m).map fun j => gE p (i + 1 + j)), ?_⟩
    rw [grp_eq, grp_eq, List.range_add, List.map_append, List.range_succ, List.map_append, List.append_assoc, List.map_map]
    rfl
  have e1 : gE p i = gFirst p i (grp p i) := by
    show gN p i (grp p i) = _
    unfold gN
    rw [if_pos hi]
  have e2 : gE p k = gFirst p k (grp p k) := by
    show gN p k (grp p k) = _
    unfold gN
    rw [if_pos hk]
  rw [e2, hr]
  by_cases he : ∃ o ∈ grp p i, 0 ≤ o ∧ bdP p i o
  · rw [e1]
    exact gFirst_congr hp hf hi hk (bd_symm hb) _ (grp_th i) he _
  · have hs : gE p i = i := by rw [e1]; exact gFirst_self _ he
    have hne : ∀ l : List Int, (∀ o ∈ l, o = -1 ∨ (0 ≤ o ∧ thP p (vN o))) → (¬ ∃ o ∈ l, 0 ≤ o ∧ bdP p i o) → gFirst p k (l ++ (gE p i :: r)) = gE p i := by
      intro l
      induction l with
      | nil =>
        intro _ _
        show gFirst p k (gE p i :: r) = _
        unfold gFirst
        rw [if_pos ⟨hbi.1, (bdP_iff hp hf hk hbi.2.1).2 (bd_trans hb hbi.2.2)⟩]
      | cons o l ih =>
        intro h1 h2
        show gFirst p k (o :: (l ++ (gE p i :: r))) = _
        unfold gFirst
        rw [if_neg, ih (fun o ho => h1 o (List.mem_cons_of_mem _ ho)) fun ⟨o', h3, h4⟩ => h2 ⟨o', List.mem_cons_of_mem _ h3, h4⟩]
        rintro ⟨h0, hc⟩
        rcases h1 o (List.mem_cons_self ..) with h3 | ⟨_, h4⟩
        · omega
        · exact h2 ⟨o, List.mem_cons_self .., h0, (bdP_iff hp hf hi h4).2 (bd_trans (bd_symm hb) ((bdP_iff hp hf hk h4).1 hc))⟩
    exact (hne _ (grp_th i) he).symm

/-- Two samples are of one group where their difference is bounded. -/
theorem gE_iff (hp : PnOk p) (hf : fitF p) {i k : Nat} (hi : thP p (vN i)) (hk : thP p (vN k)) : gE p i = gE p k ↔ Bd p (vN i) (vN k) := by
  refine ⟨fun h => ?_, fun h => ?_⟩
  · have h1 := (gE_bd hp hf hi).2.2
    rw [h] at h1
    exact bd_trans h1 (bd_symm (gE_bd hp hf hk).2.2)
  · rcases Nat.lt_trichotomy i k with hlt | rfl | hlt
    · exact gE_lt hp hf hlt hi hk (bd_symm h)
    · rfl
    · exact (gE_lt hp hf hlt hk hi h).symm
end
end Go.Sx.Nos

/- nose: NoseApart, evaluated. -/

namespace Go.Sx.Nos
open Go Go.Sx Go.Proofs
set_option maxRecDepth 1000000

def dsA0 : List Nat := [60, 59, 58, 1, 3, 4]
def VA0 (i : Int) : List VV := [I i, I 16, .sl 4 16, .ptr (.own 3 0), .sl 4 16, I 0]
def nsA : List Nat := [0, 1, 2, 3, 4]
def BA (p : Pn) (c1 c2 c3 : Nat) (l : List Int) : List VB := [arD p, arT p, arS p, pnB p c1 c2 c3, .vec 16 (dG l) 1 3]
def dsA2 : List Nat := [97, 96, 1, 3, 7, 8, 10, 60, 59, 58, 4]
def VA2 (i own f m : Int) : List VV := [I m, I (i + 1), .ptr (.own 3 0), .sl 4 16, I i, I own, I f, I i, I 16, .sl 4 16, I 0]
def dsA4 : List Nat := [142, 141, 140, 1]
def VA4 (p : Pn) (c2 : Nat) (m : Int) : List VV := [I m, I p.T.length, .slice (.el 1 [] 0 0) p.T.length c2, .ptr (.own 3 0)]
noncomputable def lA2 (p : Pn) (c1 c2 c3 : Nat) (l : List Int) (i : Nat) : LT := fun lock tt h K => ∃ own f : Int,
  FitP lock h tt ⟨6, nsA.zip (BA p c1 c2 c3 l)⟩ (dsA2.zip (VA2 i own f 0)) ∧ ((PnOk p ∧ fitF p ∧ l = grp p 16) ∧ i < 16 ∧ own = gE p i ∧ f = (valF p i).2.2) ∧
    K .normal (dsA2.zip (VA2 i own f ((i : Int) + 1))) ⟨6, nsA.zip (BA p c1 c2 c3 l)⟩
theorem a2_ev (p : Pn) (c1 c2 c3 : Nat) (l : List Int) (i own f m : Int) (X : VEx → List VV → List VB → Prop) : codeE Try.prog (callN Try.prog (tabS [valT, difT]) noL 10 20) (fun _ => none) true 10 177 0 (loopB 2 (bodyOf Try.prog 8)) (dsA2.zip (VA2 i own f m)) ⟨6, nsA.zip (BA p c1 c2 c3 l)⟩ (obs 6 dsA2 nsA X) =
  (bif decide (m < i + (1 : Int)) then
 ∃ p_1, pnIs (VH.mk 6 (nsA.zip (BA p c1 c2 c3 l))) p_1 (VV.slice (VA.el 0 [] (0 : Int) 0) p.D.length c1) (VV.slice (VA.el 1 [] (0 : Int) 0) p.T.length c2) (VV.slice (VA.el 2 [] (0 : Int) 0) p.S.length c3) ∧ (n64 (g0 [i, m] 0) ∧ n64 (g0 [i, m] 1)) ∧ ∃ p_2, pnIs (VH.mk (7) ((6, VB.cells [I (difF p_1 (i) (m)).fst, I (difF p_1 (i) (m)).snd.fst] 34) :: (6, VB.cells [I 0, I 0] 34) :: nsA.zip (BA p c1 c2 c3 l))) p_2 (VV.slice (VA.el 0 [] (0 : Int) 0) p.D.length c1) (VV.slice (VA.el 1 [] (0 : Int) 0) p.T.length c2) (VV.slice (VA.el 2 [] (0 : Int) 0) p.S.length c3) ∧ n64 (g0 [m] 0) ∧ bif decide (own ≥ (0 : Int)) then
 bif decide ((0 : Int) ≤ m ∧ m < (↑16 : Int)) then
 bif !decide ((difF p_1 (i) (m)).snd.snd = (0 : Int)) == decide (own = l.getD m.toNat (0 : Int)) then
 X VEx.ret [I m, I (i + (1 : Int)), VV.ptr (VA.own 3 0), VV.sl 4 16, I i, I own, I f, I i, I 16, VV.sl 4 16, I 0] [arD p, arT p, arS p, pnB p c1 c2 c3, VB.vec 16 (dG l) 1 (3 : TypeId)]
 else bif decide (own = l.getD m.toNat (0 : Int)) then
 bif !decide ((valF p_2 (m)).snd.snd = (0 : Int)) == decide (f = (0 : Int)) then
 X VEx.ret [I m, I (i + (1 : Int)), VV.ptr (VA.own 3 0), VV.sl 4 16, I i, I own, I f, I i, I 16, VV.sl 4 16, I 0] [arD p, arT p, arS p, pnB p c1 c2 c3, VB.vec 16 (dG l) 1 (3 : TypeId)]
 else bif inK IntKind.i64 (m + (1 : Int)) then
 X VEx.normal [I (m + (1 : Int)), I (i + (1 : Int)), VV.ptr (VA.own 3 0), VV.sl 4 16, I i, I own, I f, I i, I 16, VV.sl 4 16, I 0] [arD p, arT p, arS p, pnB p c1 c2 c3, VB.vec 16 (dG l) 1 (3 : TypeId)]
 else False
 else bif inK IntKind.i64 (m + (1 : Int)) then
 X VEx.normal [I (m + (1 : Int)), I (i + (1 : Int)), VV.ptr (VA.own 3 0), VV.sl 4 16, I i, I own, I f, I i, I 16, VV.sl 4 16, I 0] [arD p, arT p, arS p, pnB p c1 c2 c3, VB.vec 16 (dG l) 1 (3 : TypeId)]
 else False
 else False
 else bif !decide ((difF p_1 (i) (m)).snd.snd = (0 : Int)) == false then
 X VEx.ret [I m, I (i + (1 : Int)), VV.ptr (VA.own 3 0), VV.sl 4 16, I i, I own, I f, I i, I 16, VV.sl 4 16, I 0] [arD p, arT p, arS p, pnB p c1 c2 c3, VB.vec 16 (dG l) 1 (3 : TypeId)]
 else bif inK IntKind.i64 (m + (1 : Int)) then
 X VEx.normal [I (m + (1 : Int)), I (i + (1 : Int)), VV.ptr (VA.own 3 0), VV.sl 4 16, I i, I own, I f, I i, I 16, VV.sl 4 16, I 0] [arD p, arT p, arS p, pnB p c1 c2 c3, VB.vec 16 (dG l) 1 (3 : TypeId)]
 else False
 else X (VEx.exit 2) [I m, I (i + (1 : Int)), VV.ptr (VA.own 3 0), VV.sl 4 16, I i, I own, I f, I i, I 16, VV.sl 4 16, I 0] [arD p, arT p, arS p, pnB p c1 c2 c3, VB.vec 16 (dG l) 1 (3 : TypeId)]) := by kernel_rfl

theorem a0_ev (p : Pn) (c1 c2 c3 : Nat) (l : List Int) (k : Nat) (X : VEx → List VV → List VB → Prop) : codeE Try.prog (callN Try.prog (tabS [valT]) noL 10 20) (tabB [(2, lA2 p c1 c2 c3 l k)]) true 10 177 0 (loopB 0 (bodyOf Try.prog 8)) (dsA0.zip (VA0 k)) ⟨5, nsA.zip (BA p c1 c2 c3 l)⟩ (obs 5 dsA0 nsA X) =
  (bif decide ((↑k : Int) < (16 : Int)) then
 bif decide ((0 : Int) ≤ (↑k : Int) ∧ (↑k : Int) < (↑16 : Int)) then
 ∃ p_1, pnIs (VH.mk 5 (nsA.zip (BA p c1 c2 c3 l))) p_1 (VV.slice (VA.el 0 [] (0 : Int) 0) p.D.length c1) (VV.slice (VA.el 1 [] (0 : Int) 0) p.T.length c2) (VV.slice (VA.el 2 [] (0 : Int) 0) p.S.length c3) ∧ n64 (g0 [(↑k : Int)] 0) ∧ bif !decide (l.getD (↑k : Int).toNat (0 : Int) < (0 : Int)) == decide ((valF p_1 ((↑k : Int))).snd.snd = (4 : Int)) then
 X VEx.ret [I (↑k : Int), I 16, VV.sl 4 16, VV.ptr (VA.own 3 0), VV.sl 4 16, I 0] [arD p, arT p, arS p, pnB p c1 c2 c3, VB.vec 16 (dG l) 1 (3 : TypeId)]
 else bif !decide ((valF p_1 ((↑k : Int))).snd.snd = (0 : Int)) then
 bif !(decide ((valF p_1 ((↑k : Int))).fst = (0 : Int)) && (decide ((valF p_1 ((↑k : Int))).snd.fst = (0 : Int)) && true)) then
 X VEx.ret [I (↑k : Int), I 16, VV.sl 4 16, VV.ptr (VA.own 3 0), VV.sl 4 16, I 0] [arD p, arT p, arS p, pnB p c1 c2 c3, VB.vec 16 (dG l) 1 (3 : TypeId)]
 else bif decide ((↑p.S.length : Int) = (0 : Int)) then
 bif decide ((valF p_1 ((↑k : Int))).snd.snd = (0 : Int)) then
 X VEx.ret [I (↑k : Int), I 16, VV.sl 4 16, VV.ptr (VA.own 3 0), VV.sl 4 16, I 0] [arD p, arT p, arS p, pnB p c1 c2 c3, VB.vec 16 (dG l) 1 (3 : TypeId)]
 else bif inK IntKind.i64 ((↑k : Int) + (1 : Int)) then
 ∃ own f, FitP 0 (VH.mk (6) ((5, VB.cells [I (valF p_1 ((↑k : Int))).fst, I (valF p_1 ((↑k : Int))).snd.fst] 34) :: (5, VB.cells [I 0, I 0] 34) :: nsA.zip (BA p c1 c2 c3 l))) ((97, I 0) :: (96, I ((↑k : Int) + (1 : Int))) :: (95, I (↑k : Int)) :: (94, VV.bool false) :: (94, VV.bool (decide ((valF p_1 ((↑k : Int))).snd.snd = (0 : Int)))) :: (93, VV.bool (decide ((valF p_1 ((↑k : Int))).snd.snd = (0 : Int)))) :: (85, VV.bool false) :: (92, VV.bool (decide ((valF p_1 ((↑k : Int))).snd.snd = (0 : Int)))) :: (90, VV.bool true) :: (91, I (valF p_1 ((↑k : Int))).snd.snd) :: (90, VV.bool true) :: (90, VV.bool (decide ((↑p.S.length : Int) = (0 : Int)))) :: (85, VV.bool false) :: (89, VV.bool (decide ((↑p.S.length : Int) = (0 : Int)))) :: (85, VV.bool false) :: (88, I (↑p.S.length : Int)) :: (85, VV.bool false) :: (87, VV.slice (VA.el 2 [] (0 : Int) 0) p.S.length c3) :: (85, VV.bool false) :: (86, VV.ptr (VA.own 3 (2))) :: (85, VV.bool false) :: (85, VV.bool !(decide ((valF p_1 ((↑k : Int))).fst = (0 : Int)) && (decide ((valF p_1 ((↑k : Int))).snd.fst = (0 : Int)) && true))) :: (84, VV.bool !(decide ((valF p_1 ((↑k : Int))).fst = (0 : Int)) && (decide ((valF p_1 ((↑k : Int))).snd.fst = (0 : Int)) && true))) :: (83, VV.bool !(decide ((valF p_1 ((↑k : Int))).fst = (0 : Int)) && (decide ((valF p_1 ((↑k : Int))).snd.fst = (0 : Int)) && true))) :: (76, VV.bool false) :: (82, VV.bool !(decide ((valF p_1 ((↑k : Int))).fst = (0 : Int)) && (decide ((valF p_1 ((↑k : Int))).snd.fst = (0 : Int)) && true))) :: (79, VV.bool true) :: (81, VV.agg [I 0, I 0]) :: (79, VV.bool true) :: (80, VV.agg [I (valF p_1 ((↑k : Int))).fst, I (valF p_1 ((↑k : Int))).snd.fst]) :: (79, VV.bool true) :: (79, VV.bool !decide ((valF p_1 ((↑k : Int))).snd.snd = (0 : Int))) :: (76, VV.bool false) :: (78, VV.bool !decide ((valF p_1 ((↑k : Int))).snd.snd = (0 : Int))) :: (76, VV.bool false) :: (77, I (valF p_1 ((↑k : Int))).snd.snd) :: (76, VV.bool false) :: (76, VV.bool !decide (l.getD (↑k : Int).toNat (0 : Int) < (0 : Int)) == decide ((valF p_1 ((↑k : Int))).snd.snd = (4 : Int))) :: (75, VV.bool !decide (l.getD (↑k : Int).toNat (0 : Int) < (0 : Int)) == decide ((valF p_1 ((↑k : Int))).snd.snd = (4 : Int))) :: (74, VV.bool (decide ((valF p_1 ((↑k : Int))).snd.snd = (4 : Int)))) :: (73, I (valF p_1 ((↑k : Int))).snd.snd) :: (72, VV.bool (decide (l.getD (↑k : Int).toNat (0 : Int) < (0 : Int)))) :: (71, I (l.getD (↑k : Int).toNat (0 : Int))) :: (10, I (valF p_1 ((↑k : Int))).snd.snd) :: (9, VV.ptr (VA.own (5) 0)) :: (70, I (valF p_1 ((↑k : Int))).snd.snd) :: (69, VV.agg [I (valF p_1 ((↑k : Int))).fst, I (valF p_1 ((↑k : Int))).snd.fst]) :: (65, VV.tup [VV.agg [I (valF p_1 ((↑k : Int))).fst, I (valF p_1 ((↑k : Int))).snd.fst], I (valF p_1 ((↑k : Int))).snd.snd]) :: (68, spV (valF p_1 ((↑k : Int)))) :: (67, I (↑k : Int)) :: (66, VV.agg [VV.slice (VA.el 0 [] (0 : Int) 0) p.D.length c1, VV.slice (VA.el 1 [] (0 : Int) 0) p.T.length c2, VV.slice (VA.el 2 [] (0 : Int) 0) p.S.length c3]) :: (8, I (l.getD (↑k : Int).toNat (0 : Int))) :: (7, I (↑k : Int)) :: (64, I (l.getD (↑k : Int).toNat (0 : Int))) :: (63, VV.ptr (VA.ve 4 16 Try.prog.types[3].size (↑k : Int).toNat 0)) :: (62, I (↑k : Int)) :: (61, VV.bool true) :: (61, VV.bool (decide ((↑k : Int) < (16 : Int)))) :: dsA0.zip (VA0 (↑k : Int))) (VH.mk 6 (nsA.zip (BA p c1 c2 c3 l))) (dsA2.zip (VA2 (↑k : Int) own f (0 : Int))) ∧ ((PnOk p ∧ fitF p ∧ l = grp p 16) ∧ k < 16 ∧ own = gE p k ∧ f = (valF p (↑k : Int)).snd.snd) ∧ bif inK IntKind.i64 ((↑k : Int) + (1 : Int)) then
 X VEx.normal [I ((↑k : Int) + (1 : Int)), I 16, VV.sl 4 16, VV.ptr (VA.own 3 0), VV.sl 4 16, I 0] [arD p, arT p, arS p, pnB p c1 c2 c3, VB.vec 16 (dG l) 1 (3 : TypeId)]
 else False
 else False
 else bif inK IntKind.i64 ((↑k : Int) + (1 : Int)) then
 ∃ own f, FitP 0 (VH.mk (6) ((5, VB.cells [I (valF p_1 ((↑k : Int))).fst, I (valF p_1 ((↑k : Int))).snd.fst] 34) :: (5, VB.cells [I 0, I 0] 34) :: nsA.zip (BA p c1 c2 c3 l))) ((97, I 0) :: (96, I ((↑k : Int) + (1 : Int))) :: (95, I (↑k : Int)) :: (94, VV.bool false) :: (94, VV.bool false) :: (93, VV.bool false) :: (85, VV.bool false) :: (92, udf) :: (90, VV.bool false) :: (91, udf) :: (90, VV.bool false) :: (90, VV.bool (decide ((↑p.S.length : Int) = (0 : Int)))) :: (85, VV.bool false) :: (89, VV.bool (decide ((↑p.S.length : Int) = (0 : Int)))) :: (85, VV.bool false) :: (88, I (↑p.S.length : Int)) :: (85, VV.bool false) :: (87, VV.slice (VA.el 2 [] (0 : Int) 0) p.S.length c3) :: (85, VV.bool false) :: (86, VV.ptr (VA.own 3 (2))) :: (85, VV.bool false) :: (85, VV.bool !(decide ((valF p_1 ((↑k : Int))).fst = (0 : Int)) && (decide ((valF p_1 ((↑k : Int))).snd.fst = (0 : Int)) && true))) :: (84, VV.bool !(decide ((valF p_1 ((↑k : Int))).fst = (0 : Int)) && (decide ((valF p_1 ((↑k : Int))).snd.fst = (0 : Int)) && true))) :: (83, VV.bool !(decide ((valF p_1 ((↑k : Int))).fst = (0 : Int)) && (decide ((valF p_1 ((↑k : Int))).snd.fst = (0 : Int)) && true))) :: (76, VV.bool false) :: (82, VV.bool !(decide ((valF p_1 ((↑k : Int))).fst = (0 : Int)) && (decide ((valF p_1 ((↑k : Int))).snd.fst = (0 : Int)) && true))) :: (79, VV.bool true) :: (81, VV.agg [I 0, I 0]) :: (79, VV.bool true) :: (80, VV.agg [I (valF p_1 ((↑k : Int))).fst, I (valF p_1 ((↑k : Int))).snd.fst]) :: (79, VV.bool true) :: (79, VV.bool !decide ((valF p_1 ((↑k : Int))).snd.snd = (0 : Int))) :: (76, VV.bool false) :: (78, VV.bool !decide ((valF p_1 ((↑k : Int))).snd.snd = (0 : Int))) :: (76, VV.bool false) :: (77, I (valF p_1 ((↑k : Int))).snd.snd) :: (76, VV.bool false) :: (76, VV.bool !decide (l.getD (↑k : Int).toNat (0 : Int) < (0 : Int)) == decide ((valF p_1 ((↑k : Int))).snd.snd = (4 : Int))) :: (75, VV.bool !decide (l.getD (↑k : Int).toNat (0 : Int) < (0 : Int)) == decide ((valF p_1 ((↑k : Int))).snd.snd = (4 : Int))) :: (74, VV.bool (decide ((valF p_1 ((↑k : Int))).snd.snd = (4 : Int)))) :: (73, I (valF p_1 ((↑k : Int))).snd.snd) :: (72, VV.bool (decide (l.getD (↑k : Int).toNat (0 : Int) < (0 : Int)))) :: (71, I (l.getD (↑k : Int).toNat (0 : Int))) :: (10, I (valF p_1 ((↑k : Int))).snd.snd) :: (9, VV.ptr (VA.own (5) 0)) :: (70, I (valF p_1 ((↑k : Int))).snd.snd) :: (69, VV.agg [I (valF p_1 ((↑k : Int))).fst, I (valF p_1 ((↑k : Int))).snd.fst]) :: (65, VV.tup [VV.agg [I (valF p_1 ((↑k : Int))).fst, I (valF p_1 ((↑k : Int))).snd.fst], I (valF p_1 ((↑k : Int))).snd.snd]) :: (68, spV (valF p_1 ((↑k : Int)))) :: (67, I (↑k : Int)) :: (66, VV.agg [VV.slice (VA.el 0 [] (0 : Int) 0) p.D.length c1, VV.slice (VA.el 1 [] (0 : Int) 0) p.T.length c2, VV.slice (VA.el 2 [] (0 : Int) 0) p.S.length c3]) :: (8, I (l.getD (↑k : Int).toNat (0 : Int))) :: (7, I (↑k : Int)) :: (64, I (l.getD (↑k : Int).toNat (0 : Int))) :: (63, VV.ptr (VA.ve 4 16 Try.prog.types[3].size (↑k : Int).toNat 0)) :: (62, I (↑k : Int)) :: (61, VV.bool true) :: (61, VV.bool (decide ((↑k : Int) < (16 : Int)))) :: dsA0.zip (VA0 (↑k : Int))) (VH.mk 6 (nsA.zip (BA p c1 c2 c3 l))) (dsA2.zip (VA2 (↑k : Int) own f (0 : Int))) ∧ ((PnOk p ∧ fitF p ∧ l = grp p 16) ∧ k < 16 ∧ own = gE p k ∧ f = (valF p (↑k : Int)).snd.snd) ∧ bif inK IntKind.i64 ((↑k : Int) + (1 : Int)) then
 X VEx.normal [I ((↑k : Int) + (1 : Int)), I 16, VV.sl 4 16, VV.ptr (VA.own 3 0), VV.sl 4 16, I 0] [arD p, arT p, arS p, pnB p c1 c2 c3, VB.vec 16 (dG l) 1 (3 : TypeId)]
 else False
 else False
 else bif decide ((↑p.S.length : Int) = (0 : Int)) then
 bif decide ((valF p_1 ((↑k : Int))).snd.snd = (0 : Int)) then
 X VEx.ret [I (↑k : Int), I 16, VV.sl 4 16, VV.ptr (VA.own 3 0), VV.sl 4 16, I 0] [arD p, arT p, arS p, pnB p c1 c2 c3, VB.vec 16 (dG l) 1 (3 : TypeId)]
 else bif inK IntKind.i64 ((↑k : Int) + (1 : Int)) then
 ∃ own f, FitP 0 (VH.mk (6) ((5, VB.cells [I (valF p_1 ((↑k : Int))).fst, I (valF p_1 ((↑k : Int))).snd.fst] 34) :: (5, VB.cells [I 0, I 0] 34) :: nsA.zip (BA p c1 c2 c3 l))) ((97, I 0) :: (96, I ((↑k : Int) + (1 : Int))) :: (95, I (↑k : Int)) :: (94, VV.bool false) :: (94, VV.bool (decide ((valF p_1 ((↑k : Int))).snd.snd = (0 : Int)))) :: (93, VV.bool (decide ((valF p_1 ((↑k : Int))).snd.snd = (0 : Int)))) :: (85, VV.bool false) :: (92, VV.bool (decide ((valF p_1 ((↑k : Int))).snd.snd = (0 : Int)))) :: (90, VV.bool true) :: (91, I (valF p_1 ((↑k : Int))).snd.snd) :: (90, VV.bool true) :: (90, VV.bool (decide ((↑p.S.length : Int) = (0 : Int)))) :: (85, VV.bool false) :: (89, VV.bool (decide ((↑p.S.length : Int) = (0 : Int)))) :: (85, VV.bool false) :: (88, I (↑p.S.length : Int)) :: (85, VV.bool false) :: (87, VV.slice (VA.el 2 [] (0 : Int) 0) p.S.length c3) :: (85, VV.bool false) :: (86, VV.ptr (VA.own 3 (2))) :: (85, VV.bool false) :: (85, VV.bool false) :: (84, VV.bool false) :: (83, VV.bool false) :: (76, VV.bool false) :: (82, udf) :: (79, VV.bool false) :: (81, udf) :: (79, VV.bool false) :: (80, udf) :: (79, VV.bool false) :: (79, VV.bool !decide ((valF p_1 ((↑k : Int))).snd.snd = (0 : Int))) :: (76, VV.bool false) :: (78, VV.bool !decide ((valF p_1 ((↑k : Int))).snd.snd = (0 : Int))) :: (76, VV.bool false) :: (77, I (valF p_1 ((↑k : Int))).snd.snd) :: (76, VV.bool false) :: (76, VV.bool !decide (l.getD (↑k : Int).toNat (0 : Int) < (0 : Int)) == decide ((valF p_1 ((↑k : Int))).snd.snd = (4 : Int))) :: (75, VV.bool !decide (l.getD (↑k : Int).toNat (0 : Int) < (0 : Int)) == decide ((valF p_1 ((↑k : Int))).snd.snd = (4 : Int))) :: (74, VV.bool (decide ((valF p_1 ((↑k : Int))).snd.snd = (4 : Int)))) :: (73, I (valF p_1 ((↑k : Int))).snd.snd) :: (72, VV.bool (decide (l.getD (↑k : Int).toNat (0 : Int) < (0 : Int)))) :: (71, I (l.getD (↑k : Int).toNat (0 : Int))) :: (10, I (valF p_1 ((↑k : Int))).snd.snd) :: (9, VV.ptr (VA.own (5) 0)) :: (70, I (valF p_1 ((↑k : Int))).snd.snd) :: (69, VV.agg [I (valF p_1 ((↑k : Int))).fst, I (valF p_1 ((↑k : Int))).snd.fst]) :: (65, VV.tup [VV.agg [I (valF p_1 ((↑k : Int))).fst, I (valF p_1 ((↑k : Int))).snd.fst], I (valF p_1 ((↑k : Int))).snd.snd]) :: (68, spV (valF p_1 ((↑k : Int)))) :: (67, I (↑k : Int)) :: (66, VV.agg [VV.slice (VA.el 0 [] (0 : Int) 0) p.D.length c1, VV.slice (VA.el 1 [] (0 : Int) 0) p.T.length c2, VV.slice (VA.el 2 [] (0 : Int) 0) p.S.length c3]) :: (8, I (l.getD (↑k : Int).toNat (0 : Int))) :: (7, I (↑k : Int)) :: (64, I (l.getD (↑k : Int).toNat (0 : Int))) :: (63, VV.ptr (VA.ve 4 16 Try.prog.types[3].size (↑k : Int).toNat 0)) :: (62, I (↑k : Int)) :: (61, VV.bool true) :: (61, VV.bool (decide ((↑k : Int) < (16 : Int)))) :: dsA0.zip (VA0 (↑k : Int))) (VH.mk 6 (nsA.zip (BA p c1 c2 c3 l))) (dsA2.zip (VA2 (↑k : Int) own f (0 : Int))) ∧ ((PnOk p ∧ fitF p ∧ l = grp p 16) ∧ k < 16 ∧ own = gE p k ∧ f = (valF p (↑k : Int)).snd.snd) ∧ bif inK IntKind.i64 ((↑k : Int) + (1 : Int)) then
 X VEx.normal [I ((↑k : Int) + (1 : Int)), I 16, VV.sl 4 16, VV.ptr (VA.own 3 0), VV.sl 4 16, I 0] [arD p, arT p, arS p, pnB p c1 c2 c3, VB.vec 16 (dG l) 1 (3 : TypeId)]
 else False
 else False
 else bif inK IntKind.i64 ((↑k : Int) + (1 : Int)) then
 ∃ own f, FitP 0 (VH.mk (6) ((5, VB.cells [I (valF p_1 ((↑k : Int))).fst, I (valF p_1 ((↑k : Int))).snd.fst] 34) :: (5, VB.cells [I 0, I 0] 34) :: nsA.zip (BA p c1 c2 c3 l))) ((97, I 0) :: (96, I ((↑k : Int) + (1 : Int))) :: (95, I (↑k : Int)) :: (94, VV.bool false) :: (94, VV.bool false) :: (93, VV.bool false) :: (85, VV.bool false) :: (92, udf) :: (90, VV.bool false) :: (91, udf) :: (90, VV.bool false) :: (90, VV.bool (decide ((↑p.S.length : Int) = (0 : Int)))) :: (85, VV.bool false) :: (89, VV.bool (decide ((↑p.S.length : Int) = (0 : Int)))) :: (85, VV.bool false) :: (88, I (↑p.S.length : Int)) :: (85, VV.bool false) :: (87, VV.slice (VA.el 2 [] (0 : Int) 0) p.S.length c3) :: (85, VV.bool false) :: (86, VV.ptr (VA.own 3 (2))) :: (85, VV.bool false) :: (85, VV.bool false) :: (84, VV.bool false) :: (83, VV.bool false) :: (76, VV.bool false) :: (82, udf) :: (79, VV.bool false) :: (81, udf) :: (79, VV.bool false) :: (80, udf) :: (79, VV.bool false) :: (79, VV.bool !decide ((valF p_1 ((↑k : Int))).snd.snd = (0 : Int))) :: (76, VV.bool false) :: (78, VV.bool !decide ((valF p_1 ((↑k : Int))).snd.snd = (0 : Int))) :: (76, VV.bool false) :: (77, I (valF p_1 ((↑k : Int))).snd.snd) :: (76, VV.bool false) :: (76, VV.bool !decide (l.getD (↑k : Int).toNat (0 : Int) < (0 : Int)) == decide ((valF p_1 ((↑k : Int))).snd.snd = (4 : Int))) :: (75, VV.bool !decide (l.getD (↑k : Int).toNat (0 : Int) < (0 : Int)) == decide ((valF p_1 ((↑k : Int))).snd.snd = (4 : Int))) :: (74, VV.bool (decide ((valF p_1 ((↑k : Int))).snd.snd = (4 : Int)))) :: (73, I (valF p_1 ((↑k : Int))).snd.snd) :: (72, VV.bool (decide (l.getD (↑k : Int).toNat (0 : Int) < (0 : Int)))) :: (71, I (l.getD (↑k : Int).toNat (0 : Int))) :: (10, I (valF p_1 ((↑k : Int))).snd.snd) :: (9, VV.ptr (VA.own (5) 0)) :: (70, I (valF p_1 ((↑k : Int))).snd.snd) :: (69, VV.agg [I (valF p_1 ((↑k : Int))).fst, I (valF p_1 ((↑k : Int))).snd.fst]) :: (65, VV.tup [VV.agg [I (valF p_1 ((↑k : Int))).fst, I (valF p_1 ((↑k : Int))).snd.fst], I (valF p_1 ((↑k : Int))).snd.snd]) :: (68, spV (valF p_1 ((↑k : Int)))) :: (67, I (↑k : Int)) :: (66, VV.agg [VV.slice (VA.el 0 [] (0 : Int) 0) p.D.length c1, VV.slice (VA.el 1 [] (0 : Int) 0) p.T.length c2, VV.slice (VA.el 2 [] (0 : Int) 0) p.S.length c3]) :: (8, I (l.getD (↑k : Int).toNat (0 : Int))) :: (7, I (↑k : Int)) :: (64, I (l.getD (↑k : Int).toNat (0 : Int))) :: (63, VV.ptr (VA.ve 4 16 Try.prog.types[3].size (↑k : Int).toNat 0)) :: (62, I (↑k : Int)) :: (61, VV.bool true) :: (61, VV.bool (decide ((↑k : Int) < (16 : Int)))) :: dsA0.zip (VA0 (↑k : Int))) (VH.mk 6 (nsA.zip (BA p c1 c2 c3 l))) (dsA2.zip (VA2 (↑k : Int) own f (0 : Int))) ∧ ((PnOk p ∧ fitF p ∧ l = grp p 16) ∧ k < 16 ∧ own = gE p k ∧ f = (valF p (↑k : Int)).snd.snd) ∧ bif inK IntKind.i64 ((↑k : Int) + (1 : Int)) then
 X VEx.normal [I ((↑k : Int) + (1 : Int)), I 16, VV.sl 4 16, VV.ptr (VA.own 3 0), VV.sl 4 16, I 0] [arD p, arT p, arS p, pnB p c1 c2 c3, VB.vec 16 (dG l) 1 (3 : TypeId)]
 else False
 else False
 else False
 else X (VEx.exit 0) [I (↑k : Int), I 16, VV.sl 4 16, VV.ptr (VA.own 3 0), VV.sl 4 16, I 0] [arD p, arT p, arS p, pnB p c1 c2 c3, VB.vec 16 (dG l) 1 (3 : TypeId)]) := by kernel_rfl

theorem a4_ev (p : Pn) (c1 c2 c3 : Nat) (l : List Int) (m : Int) (X : VEx → List VV → List VB → Prop) : codeE Try.prog (callN Try.prog (tabS [valT, biaT]) noL 10 20) (fun _ => none) true 10 177 0 (loopB 4 (bodyOf Try.prog 8)) (dsA4.zip (VA4 p c2 m)) ⟨5, nsA.zip (BA p c1 c2 c3 l)⟩ (obs 5 dsA4 nsA X) =
  (bif decide (m < (↑p.T.length : Int)) then
 bif decide ((0 : Int) ≤ m ∧ m < (↑p.T.length : Int)) then
 (([] : List Int) = [] ∧ (0 : Int) ≤ (0 : Int) + m ∧ (0 : Int) + m < (↑p.T.length : Int)) ∧ ∃ p_1, pnIs (VH.mk (6) ((5, VB.cells [I (getI p m).j, I (getI p m).s, I (getI p m).p, I (getI p m).c, I (getI p m).o] 32) :: (5, VB.cells [I 0, I 0, I 0, I 0, I 0] 32) :: nsA.zip (BA p c1 c2 c3 l))) p_1 (VV.slice (VA.el 0 [] (0 : Int) 0) p.D.length c1) (VV.slice (VA.el 1 [] (0 : Int) 0) p.T.length c2) (VV.slice (VA.el 2 [] (0 : Int) 0) p.S.length c3) ∧ n64 (g0 [(getI p m).s] 0) ∧ ∃ p_2, pnIs (VH.mk (7) ((6, VB.cells [I (valF p_1 ((getI p m).s)).fst, I (valF p_1 ((getI p m).s)).snd.fst] 34) :: (6, VB.cells [I 0, I 0] 34) :: (5, VB.cells [I (getI p m).j, I (getI p m).s, I (getI p m).p, I (getI p m).c, I (getI p m).o] 32) :: (5, VB.cells [I 0, I 0, I 0, I 0, I 0] 32) :: nsA.zip (BA p c1 c2 c3 l))) p_2 (VV.slice (VA.el 0 [] (0 : Int) 0) p.D.length c1) (VV.slice (VA.el 1 [] (0 : Int) 0) p.T.length c2) (VV.slice (VA.el 2 [] (0 : Int) 0) p.S.length c3) ∧ True ∧ bif !decide ((valF p_1 ((getI p m).s)).snd.snd = (biaF p_2 ((getI p m).j) ((getI p m).p)).snd.snd) then
 X VEx.ret [I m, I (↑p.T.length : Int), VV.slice (VA.el 1 [] (0 : Int) 0) p.T.length c2, VV.ptr (VA.own 3 0)] [arD p, arT p, arS p, pnB p c1 c2 c3, VB.vec 16 (dG l) 1 (3 : TypeId)]
 else bif decide ((↑p.S.length : Int) = (0 : Int)) then
 bif decide ((biaF p_2 ((getI p m).j) ((getI p m).p)).snd.snd = (0 : Int)) then
 X VEx.ret [I m, I (↑p.T.length : Int), VV.slice (VA.el 1 [] (0 : Int) 0) p.T.length c2, VV.ptr (VA.own 3 0)] [arD p, arT p, arS p, pnB p c1 c2 c3, VB.vec 16 (dG l) 1 (3 : TypeId)]
 else bif inK IntKind.i64 (m + (1 : Int)) then
 X VEx.normal [I (m + (1 : Int)), I (↑p.T.length : Int), VV.slice (VA.el 1 [] (0 : Int) 0) p.T.length c2, VV.ptr (VA.own 3 0)] [arD p, arT p, arS p, pnB p c1 c2 c3, VB.vec 16 (dG l) 1 (3 : TypeId)]
 else False
 else bif inK IntKind.i64 (m + (1 : Int)) then
 X VEx.normal [I (m + (1 : Int)), I (↑p.T.length : Int), VV.slice (VA.el 1 [] (0 : Int) 0) p.T.length c2, VV.ptr (VA.own 3 0)] [arD p, arT p, arS p, pnB p c1 c2 c3, VB.vec 16 (dG l) 1 (3 : TypeId)]
 else False
 else False
 else X (VEx.exit 4) [I m, I (↑p.T.length : Int), VV.slice (VA.el 1 [] (0 : Int) 0) p.T.length c2, VV.ptr (VA.own 3 0)] [arD p, arT p, arS p, pnB p c1 c2 c3, VB.vec 16 (dG l) 1 (3 : TypeId)]) := by kernel_rfl

noncomputable def lA0 (p : Pn) (c1 c2 c3 : Nat) (l : List Int) : LT := fun lock tt h K =>
  FitP lock h tt ⟨5, nsA.zip (BA p c1 c2 c3 l)⟩ (dsA0.zip (VA0 0)) ∧ (PnOk p ∧ fitF p ∧ l = grp p 16) ∧ K .normal (dsA0.zip (VA0 16)) ⟨5, nsA.zip (BA p c1 c2 c3 l)⟩
noncomputable def lA4 (p : Pn) (c1 c2 c3 : Nat) (l : List Int) : LT := fun lock tt h K =>
  FitP lock h tt ⟨5, nsA.zip (BA p c1 c2 c3 l)⟩ (dsA4.zip (VA4 p c2 0)) ∧ (PnOk p ∧ fitF p) ∧ K .normal (dsA4.zip (VA4 p c2 p.T.length)) ⟨5, nsA.zip (BA p c1 c2 c3 l)⟩
theorem apart_ev (p : Pn) (c1 c2 c3 : Nat) (l : List Int) (Q : VRes → Prop) : callN Try.prog (tabS [greatT, alvT, grpT, fisT]) (atF 8 [(0, lA0 p c1 c2 c3 l), (4, lA4 p c1 c2 c3 l)]) 10 20 0 (.fn 8) [.agg (pnV p c1 c2 c3)] (pnH p) (fun r _ => Q r) =
  (∃ p_1, pnIs (VH.mk (4) [(3, VB.cells [VV.slice (VA.el 0 [] (0 : Int) 0) p.D.length c1, VV.slice (VA.el 1 [] (0 : Int) 0) p.T.length c2, VV.slice (VA.el 2 [] (0 : Int) 0) p.S.length c3] 26), (0, arD p), (1, arT p), (2, arS p)]) p_1 (VV.slice (VA.el 0 [] (0 : Int) 0) p.D.length c1) (VV.slice (VA.el 1 [] (0 : Int) 0) p.T.length c2) (VV.slice (VA.el 2 [] (0 : Int) 0) p.S.length c3) ∧ True ∧ bif greatB p_1 ((14 : Int)) then
 Q (VRes.ret (VV.bool true))
 else ∃ p_2, pnIs (VH.mk (4) [(3, VB.cells [VV.slice (VA.el 0 [] (0 : Int) 0) p.D.length c1, VV.slice (VA.el 1 [] (0 : Int) 0) p.T.length c2, VV.slice (VA.el 2 [] (0 : Int) 0) p.S.length c3] 26), (0, arD p), (1, arT p), (2, arS p)]) p_2 (VV.slice (VA.el 0 [] (0 : Int) 0) p.D.length c1) (VV.slice (VA.el 1 [] (0 : Int) 0) p.T.length c2) (VV.slice (VA.el 2 [] (0 : Int) 0) p.S.length c3) ∧ (¬PnOk p_2 → ∃ p_3, pnIs (VH.mk (4) [(3, VB.cells [VV.slice (VA.el 0 [] (0 : Int) 0) p.D.length c1, VV.slice (VA.el 1 [] (0 : Int) 0) p.T.length c2, VV.slice (VA.el 2 [] (0 : Int) 0) p.S.length c3] 26), (0, arD p), (1, arT p), (2, arS p)]) p_3 (VV.slice (VA.el 0 [] (0 : Int) 0) p.D.length c1) (VV.slice (VA.el 1 [] (0 : Int) 0) p.T.length c2) (VV.slice (VA.el 2 [] (0 : Int) 0) p.S.length c3) ∧ True ∧ bif !(fisF p_3).fst then
 bif decide ((1 : Int) = (6 : Int)) == decide ((fisF p_3).snd = (0 : Int)) then
 Q (VRes.ret (VV.bool true))
 else Q (VRes.ret (VV.bool false))
 else Q (VRes.ret (VV.bool false))) ∧ (PnOk p_2 → ¬fitF p_2 → ∃ p_3, pnIs (VH.mk (4) [(3, VB.cells [VV.slice (VA.el 0 [] (0 : Int) 0) p.D.length c1, VV.slice (VA.el 1 [] (0 : Int) 0) p.T.length c2, VV.slice (VA.el 2 [] (0 : Int) 0) p.S.length c3] 26), (0, arD p), (1, arT p), (2, arS p)]) p_3 (VV.slice (VA.el 0 [] (0 : Int) 0) p.D.length c1) (VV.slice (VA.el 1 [] (0 : Int) 0) p.T.length c2) (VV.slice (VA.el 2 [] (0 : Int) 0) p.S.length c3) ∧ True ∧ bif !(fisF p_3).fst then
 bif decide ((6 : Int) = (6 : Int)) == decide ((fisF p_3).snd = (0 : Int)) then
 Q (VRes.ret (VV.bool true))
 else Q (VRes.ret (VV.bool false))
 else Q (VRes.ret (VV.bool false))) ∧ (PnOk p_2 → fitF p_2 → FitP 0 (VH.mk (4 + 1) [(4, VB.vec 16 (dG (grp p_2 16)) 1 (3 : TypeId)), (3, VB.cells [VV.slice (VA.el 0 [] (0 : Int) 0) p.D.length c1, VV.slice (VA.el 1 [] (0 : Int) 0) p.T.length c2, VV.slice (VA.el 2 [] (0 : Int) 0) p.S.length c3] 26), (0, arD p), (1, arT p), (2, arS p)]) [(60, I 0), (59, I (↑16 : Int)), (58, VV.sl (4) 16), (57, VV.bool false), (57, VV.bool !decide ((↑16 : Int) = (16 : Int))), (56, I (↑16 : Int)), (55, VV.sl (4) 16), (32, VV.bool false), (32, VV.bool !decide ((0 : Int) = (0 : Int))), (31, I 0), (4, I 0), (3, VV.sl (4) 16), (30, I 0), (29, VV.sl (4) 16), (26, VV.tup [VV.sl (4) 16, I 0]), (28, VV.tup [VV.sl (4) 16, I 0]), (27, VV.agg [VV.slice (VA.el 0 [] (0 : Int) 0) p.D.length c1, VV.slice (VA.el 1 [] (0 : Int) 0) p.T.length c2, VV.slice (VA.el 2 [] (0 : Int) 0) p.S.length c3]), (24, VV.bool false), (24, boV (greatB p_1 ((14 : Int)))), (23, VV.agg [VV.slice (VA.el 0 [] (0 : Int) 0) p.D.length c1, VV.slice (VA.el 1 [] (0 : Int) 0) p.T.length c2, VV.slice (VA.el 2 [] (0 : Int) 0) p.S.length c3]), (2, VV.bool false), (1, VV.ptr (VA.own (3) 0)), (0, VV.agg (pnV p c1 c2 c3))] (VH.mk 5 (nsA.zip (BA p c1 c2 c3 l))) (dsA0.zip (VA0 (0 : Int))) ∧ (PnOk p ∧ fitF p ∧ l = grp p 16) ∧ FitP 0 (VH.mk 5 (nsA.zip (BA p c1 c2 c3 l))) (dsA4.zip (VA4 p c2 (0 : Int))) (VH.mk 5 (nsA.zip (BA p c1 c2 c3 l))) (dsA4.zip (VA4 p c2 (0 : Int))) ∧ (PnOk p ∧ fitF p) ∧ Q (VRes.ret (VV.bool true)))) := by kernel_rfl


end Go.Sx.Nos

/- nose: NoseApart. -/

namespace Go.Sx.Nos
open Go Go.Sx Go.Proofs
set_option maxRecDepth 1000000

theorem cond_z {A B : Prop} [Decidable A] [Decidable B] {X Y : Prop} (h : A ↔ B) (hY : Y) : bif !(decide A == decide B) then X else Y := by
  rw [decide_eq_decide.2 h, beq_self_eq_true]
  exact hY
theorem cond_zf {A : Prop} [Decidable A] {X Y : Prop} (h : ¬ A) (hY : Y) : bif !(decide A == false) then X else Y := by
  rw [decide_eq_false h]
  exact hY

section
variable {p : Pn} {c1 c2 c3 : Nat} {l : List Int}

theorem bt_iff (hp : PnOk p) (hf : fitF p) {a b : Nd} (ha : thP p a) (hb : thP p b) : (btF p a b).2.2 = 0 ↔ Bd p a b := by
  rcases bt_bd hp hf ha hb with ⟨h1, h2⟩ | ⟨h1, h2⟩
  · exact ⟨fun _ => h2, fun _ => h1⟩
  · rw [h1]
    exact ⟨fun h => absurd h (by decide), fun h => (h2 h).elim⟩

theorem bt_not (hp : PnOk p) {a b : Nd} (h : ¬ (thP p a ∧ thP p b)) : btF p a b = (0, 0, 4) := by
  unfold btF
  rw [if_pos hp, if_neg h]

theorem k16 {k : Nat} (h : k < 16) : sOk16 (k : Int) := ⟨by omega, by omega⟩
theorem th_z : thP p zeroN := .inl rfl

theorem dif_same (hp : PnOk p) (hf : fitF p) {i m : Nat} (hi : i < 16) (hm : m < 16) : (difF p i m).2.2 = 0 ↔ (0 ≤ gE p i ∧ gE p i = gE p m) := by
  rw [dif_in (k16 hi) (k16 hm)]
  by_cases h : thP p (vN i) ∧ thP p (vN m)
  · rw [bt_iff hp hf h.1 h.2, gE_iff hp hf h.1 h.2]
    exact ⟨fun hb => ⟨(gE_bd hp hf h.1).1, hb⟩, fun hb => hb.2⟩
  · rw [bt_not hp h]
    refine ⟨fun h => absurd h (by decide), fun ⟨h1, h2⟩ => (h ⟨(gE_pos hp hf).1 h1, (gE_pos hp hf).1 (h2 ▸ h1)⟩).elim⟩

theorem val_same (hp : PnOk p) (hf : fitF p) {i m : Nat} (hi : i < 16) (hm : m < 16) (h0 : 0 ≤ gE p i) (he : gE p i = gE p m) : (valF p m).2.2 = 0 ↔ (valF p i).2.2 = 0 := by
  have ti := (gE_pos hp hf).1 h0
  have tm := (gE_pos hp hf).1 (he ▸ h0)
  have hb := (gE_iff hp hf ti tm).1 he
  rw [val_in (k16 hi), val_in (k16 hm), bt_iff hp hf ti th_z, bt_iff hp hf tm th_z]
  exact ⟨fun h => bd_trans hb h, fun h => bd_trans (bd_symm hb) h⟩

theorem lA2_ok (i : Nat) : LSound Try.prog true (.block 2 (.loop (loopB 2 (bodyOf Try.prog 8)))) 177 (lA2 p c1 c2 c3 l i) := by
  by_cases hh : (PnOk p ∧ fitF p ∧ l = grp p 16) ∧ i < 16
  · obtain ⟨⟨hp, hf, hl⟩, hi⟩ := hh
    obtain ⟨own, ho⟩ : ∃ own, own = gE p i := ⟨_, rfl⟩
    obtain ⟨f, hff⟩ : ∃ f, f = (valF p i).2.2 := ⟨_, rfl⟩
    have hg : ∀ m : Nat, m < 16 → l.getD m 0 = gE p m := fun m hm => by rw [hl]; exact grp_get hm
    refine loop_row hmix (tab_good hmix (l := [valT, difT]) (fun x hx => by
        simp only [List.mem_cons, List.not_mem_nil, or_false] at hx
        rcases hx with rfl | rfl
        · exact valT_ok
        · exact difT_ok) (unroll := 10) 20) (un := 10) (ds := dsA2) (ns := nsA) (nx := 6) (fun m : Nat => VA2 i own f m) (fun _ => BA p c1 c2 c3 l) (fun m => m ≤ i + 1) (fun m => i + 1 - m)
      (fun _ ex vs bs => ex = .exit 2 ∧ vs = VA2 i own f ((i : Int) + 1) ∧ bs = BA p c1 c2 c3 l) noL_ok ?_ ?_
    · intro m hm
      refine cast (a2_ev p c1 c2 c3 l i own f m _).symm ?_
      by_cases h : m < i + 1
      · have hm16 : m < 16 := by omega
        have go : RoundQ (fun m : Nat => VA2 i own f m) (fun _ => BA p c1 c2 c3 l) (fun m => m ≤ i + 1) (fun m => i + 1 - m)
            (fun _ ex vs bs => ex = .exit 2 ∧ vs = VA2 i own f ((i : Int) + 1) ∧ bs = BA p c1 c2 c3 l) m .normal (VA2 i own f (m + 1)) (BA p c1 c2 c3 l) :=
          ⟨m + 1, by omega, by dsimp only; omega, vst (V := VA2 i own f) m, fitBs_refl _, fun _ _ _ ho => ho⟩
        have hd := dif_same hp hf hi hm16
        have hv := val_same hp hf hi hm16
        have e1 : l.getD (m : Int).toNat 0 = gE p m := by rw [Int.toNat_natCast]; exact hg m hm16
        refine cond_dk (by omega) ⟨p, pnIs_own rfl rfl rfl, ⟨n64_16 (k16 hi), n64_16 (k16 hm16)⟩, p, pnIs_own rfl rfl rfl, n64_16 (k16 hm16), ?_⟩
        rw [e1, ho, hff]
        rw [ho, hff] at go
        refine cond_d (fun h0 => cond_dk ⟨by omega, by omega⟩ (cond_z ⟨fun h => (hd.1 h).2, fun h => hd.2 ⟨h0, h⟩⟩ (cond_d (fun he => cond_z (hv h0 he) (cond_r (by omega) go)) (fun _ => cond_r (by omega) go)))) (fun h0 => cond_zf (fun h => h0 (hd.1 h).1) (cond_r (by omega) go))
      · obtain rfl : m = i + 1 := by omega
        exact cond_d (fun h => by omega) (fun _ => ⟨rfl, rfl, rfl⟩)
    · rintro lock tt h K ⟨own', f', hfit, ⟨_, _, h1, h2⟩, hK⟩
      obtain rfl : own' = own := by rw [ho, h1]
      obtain rfl : f' = f := by rw [hff, h2]
      refine ⟨0, hfit, Nat.zero_le _, ?_⟩
      rintro ex vs bs ⟨rfl, rfl, rfl⟩
      exact hK
  · rintro lock tt h K ⟨_, _, _, ⟨h1, h2, _⟩, _⟩
    exact (hh ⟨h1, h2⟩).elim

theorem lsp_A2 {i : Nat} : ∀ id T, tabB [(2, lA2 p c1 c2 c3 l i)] id = some T → ∀ b' ∈ blocksOf id (loopB 0 (bodyOf Try.prog 8)), LSound Try.prog true (.block id b') 177 T := by
  intro id T hT
  have hm := tabB_some hT
  simp only [List.mem_singleton, Prod.mk.injEq] at hm
  obtain ⟨rfl, rfl⟩ := hm
  have hb : blocksOf 2 (loopB 0 (bodyOf Try.prog 8)) = [.loop (loopB 2 (bodyOf Try.prog 8))] := by kernel_rfl
  intro b' hb'
  rw [hb, List.mem_singleton] at hb'
  subst hb'
  exact lA2_ok i

/-- What a value's span is, of a panel that fits. -/
theorem val_all (hp : PnOk p) (hf : fitF p) {k : Nat} (hk : k < 16) : (gE p k < 0 ↔ (valF p k).2.2 = 4) ∧ ((valF p k).2.2 ≠ 0 → (valF p k).1 = 0 ∧ (valF p k).2.1 = 0) ∧ (p.S.length = 0 → (valF p k).2.2 ≠ 0) := by
  rw [val_in (k16 hk)]
  by_cases h : thP p (vN k)
  · have h1 := (gE_bd hp hf h).1
    rcases bt_bd hp hf h th_z with ⟨g1, g2⟩ | ⟨g1, g2⟩
    · rw [g1]
      refine ⟨⟨fun h => by omega, fun h => absurd h (by decide)⟩, fun h => absurd rfl h, fun hs => ?_⟩
      exact (bd_none hp hf (List.length_eq_zero_iff.1 hs) (by simp [ndB, zeroN]; omega) g2).elim
    · rw [g1]
      exact ⟨⟨fun h => by omega, fun h => absurd h (by decide)⟩, fun _ => ⟨rfl, rfl⟩, fun _ => by decide⟩
  · rw [gE_no h, bt_not hp (fun hh => h hh.1)]
    exact ⟨⟨fun _ => rfl, fun _ => by decide⟩, fun _ => ⟨rfl, rfl⟩, fun _ => by decide⟩

theorem cond_w {a b : Int} {X Y : Prop} (h : a = 0 ∧ b = 0) (hY : Y) : bif !(decide (a = 0) && (decide (b = 0) && true)) then X else Y := by
  rw [h.1, h.2]
  exact hY

theorem lA0_ok : LSound Try.prog true (.block 0 (.loop (loopB 0 (bodyOf Try.prog 8)))) 177 (lA0 p c1 c2 c3 l) := by
  by_cases hh : PnOk p ∧ fitF p ∧ l = grp p 16
  · obtain ⟨hp, hf, hl⟩ := hh
    have hg : ∀ m : Nat, m < 16 → l.getD m 0 = gE p m := fun m hm => by rw [hl]; exact grp_get hm
    refine loop_rowD hmix (tab_good hmix (l := [valT]) (fun x hx => by simp only [List.mem_singleton] at hx; subst hx; exact valT_ok) (unroll := 10) 20) (un := 10) (ds := dsA0) (ns := nsA) (nx := 5) (lsp := fun k : Nat => tabB [(2, lA2 p c1 c2 c3 l k)]) (fun k : Nat => VA0 k) (fun _ => BA p c1 c2 c3 l) (fun k => k ≤ 16) (fun k => 16 - k)
      (fun _ ex vs bs => ex = .exit 0 ∧ vs = VA0 16 ∧ bs = BA p c1 c2 c3 l) (fun _ _ => lsp_A2) ?_ ?_
    · intro k hk
      refine cast (a0_ev p c1 c2 c3 l k _).symm ?_
      by_cases h : k < 16
      · have go : RoundQ (fun k : Nat => VA0 k) (fun _ => BA p c1 c2 c3 l) (fun k => k ≤ 16) (fun k => 16 - k)
            (fun _ ex vs bs => ex = .exit 0 ∧ vs = VA0 16 ∧ bs = BA p c1 c2 c3 l) k .normal (VA0 (k + 1)) (BA p c1 c2 c3 l) :=
          ⟨k + 1, by omega, by dsimp only; omega, vst (V := VA0) k, fitBs_refl _, fun _ _ _ ho => ho⟩
        obtain ⟨v1, v2, v3⟩ := val_all hp hf h
        have e1 : l.getD (k : Int).toNat 0 = gE p k := by rw [Int.toNat_natCast]; exact hg k h
        refine cond_dk (by omega) (cond_dk ⟨by omega, by omega⟩ ⟨p, pnIs_own rfl rfl rfl, n64_16 (k16 h), ?_⟩)
        rw [e1]
        have fin : ∀ {tt : Slots} {h' : VH}, FitP 0 h' tt ⟨6, nsA.zip (BA p c1 c2 c3 l)⟩ (dsA2.zip (VA2 k (gE p k) (valF p k).2.2 0)) →
            ∃ own f, FitP 0 h' tt ⟨6, nsA.zip (BA p c1 c2 c3 l)⟩ (dsA2.zip (VA2 k own f 0)) ∧ ((PnOk p ∧ fitF p ∧ l = grp p 16) ∧ k < 16 ∧ own = gE p k ∧ f = (valF p k).2.2) ∧
              bif inK .i64 ((k : Int) + 1) then RoundQ (fun k : Nat => VA0 k) (fun _ => BA p c1 c2 c3 l) (fun k => k ≤ 16) (fun k => 16 - k)
            (fun _ ex vs bs => ex = .exit 0 ∧ vs = VA0 16 ∧ bs = BA p c1 c2 c3 l) k .normal (VA0 (k + 1)) (BA p c1 c2 c3 l) else False := fun hfit =>
          ⟨_, _, hfit, ⟨⟨hp, hf, hl⟩, h, rfl, rfl⟩, cond_r (by omega) go⟩
        refine cond_z v1 (cond_nd (fun n0 => cond_w (v2 n0) (cond_d (fun hs => cond_d (fun hc => (n0 hc).elim) (fun _ => cond_r (by omega) (fin ?_))) (fun _ => cond_r (by omega) (fin ?_)))) (fun n0 => cond_d (fun hs => ((v3 (by omega)) n0).elim) (fun _ => cond_r (by omega) (fin ?_))))
        all_goals exact ⟨⟨rfl, rfl, VB.fit_refl _, VB.fit_refl _, VB.fit_refl _, VB.fit_refl _, VB.fit_refl _, trivial⟩, rfl, rfl, rfl, rfl, rfl, rfl, rfl, rfl, rfl, rfl, rfl, trivial⟩
      · obtain rfl : k = 16 := by omega
        exact cond_d (fun h => by omega) (fun _ => ⟨rfl, rfl, rfl⟩)
    · rintro lock tt h K ⟨hfit, _, hK⟩
      refine ⟨0, hfit, Nat.zero_le _, ?_⟩
      rintro ex vs bs ⟨rfl, rfl, rfl⟩
      exact hK
  · rintro lock tt h K ⟨_, hc, _⟩
    exact (hh hc).elim

/-- Who tasted a sample: its bias is bounded where the value is. -/
theorem bd_link {t : Ts} (ht : t ∈ p.T) : thP p (vN t.s) ∧ thP p (cN t.j t.p) ∧ Bd p (vN t.s) (cN t.j t.p) := by
  have m1 : (vN t.s, cN t.j t.p, t.c + t.o) ∈ links p := List.mem_append.2 (.inl (List.mem_flatMap.2 ⟨t, ht, List.mem_append.2 (.inl (by simp [lkH]))⟩))
  have m2 : (cN t.j t.p, vN t.s, t.o - t.c) ∈ links p := List.mem_append.2 (.inl (List.mem_flatMap.2 ⟨t, ht, List.mem_append.2 (.inl (by simp [lkH]))⟩))
  refine ⟨.inr ⟨_, m1, rfl⟩, .inr ⟨_, m2, rfl⟩, max (t.c + t.o) (t.o - t.c), fun x hx => ?_⟩
  have h1 : x (vN t.s) - x (cN t.j t.p) ≤ t.c + t.o := hx _ m1
  have h2 : x (cN t.j t.p) - x (vN t.s) ≤ t.o - t.c := hx _ m2
  omega

theorem tst_all (hp : PnOk p) (hf : fitF p) {t : Ts} (ht : t ∈ p.T) : (valF p t.s).2.2 = (biaF p t.j t.p).2.2 ∧ (p.S.length = 0 → (biaF p t.j t.p).2.2 ≠ 0) := by
  obtain ⟨t1, t2, hb⟩ := bd_link ht
  have hs := (hp.ts t ht).2.1
  rw [val_in (show sOk16 t.s from hs)]
  unfold biaF
  rcases bt_bd hp hf t1 th_z with ⟨g1, g2⟩ | ⟨g1, g2⟩
  · have h1 : (btF p zeroN (cN t.j t.p)).2.2 = 0 := (bt_iff hp hf th_z t2).2 (bd_trans (bd_symm g2) hb)
    rw [g1, h1]
    exact ⟨rfl, fun h => (bd_none hp hf (List.length_eq_zero_iff.1 h) (by simp [ndB, zeroN]; omega) g2).elim⟩
  · rcases bt_bd hp hf th_z t2 with ⟨k1, k2⟩ | ⟨k1, k2⟩
    · exact (g2 (bd_trans hb (bd_symm k2))).elim
    · rw [g1, k1]
      exact ⟨rfl, fun _ => by decide⟩

theorem lA4_ok : LSound Try.prog true (.block 4 (.loop (loopB 4 (bodyOf Try.prog 8)))) 177 (lA4 p c1 c2 c3 l) := by
  by_cases hh : PnOk p ∧ fitF p
  · obtain ⟨hp, hf⟩ := hh
    have hT := hp.t
    refine loop_row hmix (tab_good hmix (l := [valT, biaT]) (fun x hx => by
        simp only [List.mem_cons, List.not_mem_nil, or_false] at hx
        rcases hx with rfl | rfl
        · exact valT_ok
        · exact biaT_ok) (unroll := 10) 20) (un := 10) (ds := dsA4) (ns := nsA) (nx := 5) (fun m : Nat => VA4 p c2 m) (fun _ => BA p c1 c2 c3 l) (fun m => m ≤ p.T.length) (fun m => p.T.length - m)
      (fun _ ex vs bs => ex = .exit 4 ∧ vs = VA4 p c2 p.T.length ∧ bs = BA p c1 c2 c3 l) noL_ok ?_ ?_
    · intro m hm
      refine cast (a4_ev p c1 c2 c3 l m _).symm ?_
      by_cases h : m < p.T.length
      · have go : RoundQ (fun m : Nat => VA4 p c2 m) (fun _ => BA p c1 c2 c3 l) (fun m => m ≤ p.T.length) (fun m => p.T.length - m)
            (fun _ ex vs bs => ex = .exit 4 ∧ vs = VA4 p c2 p.T.length ∧ bs = BA p c1 c2 c3 l) m .normal (VA4 p c2 (m + 1)) (BA p c1 c2 c3 l) :=
          ⟨m + 1, by omega, by dsimp only; omega, vst (V := VA4 p c2) m, fitBs_refl _, fun _ _ _ ho => ho⟩
        have hgi : getI p m = p.T.getD m t0 := by unfold getI; rw [zero_toNat]
        obtain ⟨ht, _⟩ := getT h
        obtain ⟨g1, g2⟩ := tst_all hp hf ht
        have hs := (hp.ts _ ht).2.1
        rw [hgi]
        refine cond_dk (by omega) (cond_dk ⟨by omega, by omega⟩ ⟨⟨rfl, by omega, by omega⟩, p, pnIs_own rfl rfl rfl, n64_16 (show sOk16 (p.T.getD m t0).s from hs), p, pnIs_own rfl rfl rfl, trivial, ?_⟩)
        exact cond_ne g1 (cond_d (fun h0 => cond_d (fun hc => (g2 (by omega) hc).elim) (fun _ => cond_r (by omega) go)) (fun _ => cond_r (by omega) go))
      · obtain rfl : m = p.T.length := by omega
        exact cond_d (fun h => by omega) (fun _ => ⟨rfl, rfl, rfl⟩)
    · rintro lock tt h K ⟨hfit, _, hK⟩
      refine ⟨0, hfit, Nat.zero_le _, ?_⟩
      rintro ex vs bs ⟨rfl, rfl, rfl⟩
      exact hK
  · rintro lock tt h K ⟨_, hc, _⟩
    exact (hh hc).elim

theorem aa_ok : ∀ x ∈ [greatT, alvT, grpT, fisT], SpOk Try.prog x.1 x.2 := fun x hx => by
  simp only [List.mem_cons, List.not_mem_nil, or_false] at hx
  rcases hx with rfl | rfl | rfl | rfl
  · exact greatT_ok
  · exact alvT_ok
  · exact grpT_ok
  · exact fisT_ok

theorem aaL_ok : LoopsOk Try.prog 8 [(0, lA0 p c1 c2 c3 l), (4, lA4 p c1 c2 c3 l)] := by
  intro x hx
  simp only [List.mem_cons, List.not_mem_nil, or_false] at hx
  rcases hx with rfl | rfl
  · exact ⟨by kernel_rfl, lA0_ok⟩
  · exact ⟨by kernel_rfl, lA4_ok⟩

theorem apart_v : ∃ h', CallsV Try.prog 8 [.agg (pnV p c1 c2 c3)] (pnH p) (.ret (.bool true)) h' := by
  obtain ⟨l, hl⟩ : ∃ l, l = grp p 16 := ⟨_, rfl⟩
  obtain ⟨r, h', rfl, hc⟩ := of_callN (callL_good hmix (tabs_ok aa_ok) (aaL_ok (p := p) (c1 := c1) (c2 := c2) (c3 := c3) (l := l)) (un := 10) 20) (f := 8)
    (args := [.agg (pnV p c1 c2 c3)]) (h := pnH p) (K := fun r _ => r = .ret (.bool true))
    (by
      refine cast (apart_ev p c1 c2 c3 l _).symm ?_
      refine ⟨p, pnIs_own rfl rfl rfl, trivial, cond_b (fun _ => rfl) (fun hg => ⟨p, pnIs_own rfl rfl rfl, fun hp => ?_, fun hp hf => ?_, fun hp hf => ?_⟩)⟩
      · have e : fisF p = (false, 1) := by unfold fisF; rw [if_neg hp]
        refine ⟨p, pnIs_own rfl rfl rfl, trivial, ?_⟩
        rw [e]
        rfl
      · have e : fisF p = (false, 0) := by unfold fisF; rw [if_pos hp, fitB_f hf]
        refine ⟨p, pnIs_own rfl rfl rfl, trivial, ?_⟩
        rw [e]
        rfl
      · rw [← hl]
        exact ⟨⟨⟨rfl, rfl, VB.fit_refl _, VB.fit_refl _, VB.fit_refl _, VB.fit_refl _, VB.fit_refl _, trivial⟩, rfl, rfl, rfl, rfl, rfl, rfl, trivial⟩, ⟨hp, hf, rfl⟩, fitP_self rfl, ⟨hp, hf⟩, rfl⟩)
  exact ⟨h', hc⟩
end
end Go.Sx.Nos
