/- stream: Nm1 Nm2 Nm3, in one text. -/
import Derived.Test.YtnfkbbcbehnnkaaNL
/- nose: the differences of a panel that says more. -/

namespace Go.Sx.Nos
open Go Go.Sx Go.Proofs
set_option maxRecDepth 100000

section
variable {p q : Pn} {a b : Nd}

theorem df_mid {lo hi v : Int} (h1 : Df p a b lo) (h2 : Df p a b hi) (h3 : lo ≤ v) (h4 : v ≤ hi) : Df p a b v := by
  obtain ⟨y, hy, ey⟩ := h1
  obtain ⟨x, hx, ex⟩ := h2
  refine ⟨fun c => min (x c) (y c + (v + x b - y a)), fun l hl => ?_, ?_⟩
  · have g1 := hx l hl
    have g2 := hy l hl
    show min (x l.1) (y l.1 + (v + x b - y a)) - min (x l.2.1) (y l.2.1 + (v + x b - y a)) ≤ l.2.2
    omega
  · show min (x a) (y a + (v + x b - y a)) - min (x b) (y b + (v + x b - y a)) = v
    omega

/-- What a span that is told says. -/
theorem bt_ok (h : (btF p a b).2.2 = 0) : PnOk p ∧ thP p a ∧ thP p b ∧ fitF p ∧ ((btF p a b).1 ≤ (btF p a b).2.1) ∧ ∀ v, Df p a b v ↔ (btF p a b).1 ≤ v ∧ v ≤ (btF p a b).2.1 := by
  rcases btF_cases p a b with ⟨_, e⟩ | ⟨_, _, e⟩ | ⟨_, _, _, e⟩ | ⟨_, _, _, _, e⟩ | ⟨hp, ht, hf, lo, hi, h1, h2, _, _, _, e⟩
  · rw [e] at h; exact absurd h (by decide)
  · rw [e] at h; exact absurd h (by decide)
  · rw [e] at h; exact absurd h (by decide)
  · rw [e] at h; exact absurd h (by decide)
  · rw [e]
    refine ⟨hp, ht.1, ht.2, hf, by assumption, fun v => ⟨fun ⟨x, hx, hv⟩ => ?_, fun hv => ?_⟩⟩
    · have g1 := h1.1 x hx
      have g2 := h2.1 x hx
      exact ⟨by show lo ≤ v; omega, by show v ≤ hi; omega⟩
    · have k1 : Df p a b hi := h1.2
      have k2 : Df p a b lo := by
        obtain ⟨x, hx, e⟩ := h2.2
        exact ⟨x, hx, by omega⟩
      exact df_mid k2 k1 hv.1 hv.2

/-- More is said: no span is wider. -/
theorem bt_more (hq : PnOk q) (hfq : fitF q) (hsub : ∀ x, Sol q x → Sol p x) (hth : ∀ a, thP p a → thP q a) (h : (btF p a b).2.2 = 0) :
    (btF q a b).2.2 = 0 ∧ (btF p a b).1 ≤ (btF q a b).1 ∧ (btF q a b).1 ≤ (btF q a b).2.1 ∧ (btF q a b).2.1 ≤ (btF p a b).2.1 := by
  obtain ⟨hp, ha, hb, _, _, hd⟩ := bt_ok h
  have hsub' : ∀ v, Df q a b v → Df p a b v := fun v ⟨x, hx, hv⟩ => ⟨x, hsub x hx, hv⟩
  rcases btF_cases q a b with ⟨h1, _⟩ | ⟨_, h1, _⟩ | ⟨_, _, h1, _⟩ | ⟨_, _, _, h1, _⟩ | ⟨_, _, _, lo, hi, h1, h2, _, h3, _, e⟩
  · exact absurd hq h1
  · exact absurd ⟨hth _ ha, hth _ hb⟩ h1
  · exact absurd hfq h1
  · rcases h1 with h1 | h1
    · obtain ⟨x, hx, hv⟩ := h1 ((btF p a b).2.1 + 1)
      have := ((hd _).1 ⟨x, hsub x hx, rfl⟩).2
      omega
    · obtain ⟨x, hx, hv⟩ := h1 (1 - (btF p a b).1)
      have := ((hd _).1 ⟨x, hsub x hx, rfl⟩).1
      omega
  · rw [e]
    have k1 : Df p a b hi := hsub' _ h1.2
    have k2 : Df p a b lo := by
      obtain ⟨x, hx, e⟩ := h2.2
      exact ⟨x, hsub x hx, by omega⟩
    exact ⟨rfl, ((hd _).1 k2).1, h3, ((hd _).1 k1).2⟩

/-- The same is said. -/
theorem bt_perm (hok : PnOk p ↔ PnOk q) (hs : ∀ x, Sol p x ↔ Sol q x) (hth : ∀ a, thP p a ↔ thP q a) : btF q a b = btF p a b := by
  by_cases hp : PnOk p
  · exact btF_same hp (hok.1 hp) (and_congr (hth a) (hth b)) fun v => ⟨fun ⟨x, hx, hv⟩ => ⟨x, (hs x).1 hx, hv⟩, fun ⟨x, hx, hv⟩ => ⟨x, (hs x).2 hx, hv⟩⟩
  · unfold btF
    rw [if_neg hp, if_neg (fun h => hp (hok.2 h))]

/-- One standard more. -/
def stP (p : Pn) (s : Sd) : Pn := ⟨p.D, p.T, p.S ++ [s]⟩
/-- One tasting more. -/
def moP (p : Pn) (t : Ts) : Pn := ⟨p.D, p.T ++ [t], p.S⟩
/-- A judge more, who tastes two samples. -/
def jdP (p : Pn) (i k n : Int) : Pn := ⟨p.D ++ [0], p.T ++ [⟨p.D.length, i, 0, n, 0⟩, ⟨p.D.length, k, 0, 0, 0⟩], p.S⟩

theorem st_sol {s : Sd} {x : Nd → Int} : Sol (stP p s) x ↔ Sol p x ∧ s.lo ≤ x (vN s.s) - x zeroN ∧ x (vN s.s) - x zeroN ≤ s.hi := by
  rw [sol_iff, sol_iff]
  constructor
  · intro h
    exact ⟨⟨h.ts, h.dr, fun s' hs => h.sd s' (List.mem_append_left _ hs)⟩, h.sd s (List.mem_append_right _ (List.mem_singleton.2 rfl))⟩
  · rintro ⟨h, h'⟩
    refine ⟨h.ts, h.dr, fun s' hs => ?_⟩
    rcases List.mem_append.1 hs with hs | hs
    · exact h.sd s' hs
    · rw [List.mem_singleton.1 hs]; exact h'

theorem st_th {s : Sd} (h : thP p a) : thP (stP p s) a := by
  rw [th_iff] at h ⊢
  rcases h with h | h | ⟨s', hs, h⟩
  · exact .inl h
  · exact .inr (.inl h)
  · exact .inr (.inr ⟨s', List.mem_append_left _ hs, h⟩)

theorem mo_sol {t : Ts} {x : Nd → Int} (h : Sol (moP p t) x) : Sol p x := by
  rw [sol_iff] at h ⊢
  exact ⟨fun t' ht => h.ts t' (List.mem_append_left _ ht), fun t' ht u hu => h.dr t' (List.mem_append_left _ ht) u (List.mem_append_left _ hu), h.sd⟩

theorem mo_th {t : Ts} (h : thP p a) : thP (moP p t) a := by
  rw [th_iff] at h ⊢
  rcases h with h | ⟨t', ht, h⟩ | h
  · exact .inl h
  · exact .inr (.inl ⟨t', List.mem_append_left _ ht, h⟩)
  · exact .inr (.inr h)

theorem st_ok (hp : PnOk p) (hl : p.S.length < 16) {i n : Int} (hi : sOk16 i) (hn : -100000 ≤ n ∧ n ≤ 100000) : PnOk (stP p ⟨i, n, n⟩) := by
  refine ⟨hp.d, hp.t, ?_, hp.dr, hp.ts, fun s hs => ?_⟩
  · show (p.S ++ [_]).length ≤ 16
    rw [List.length_append]; exact hl
  · rcases List.mem_append.1 hs with hs | hs
    · exact hp.sd s hs
    · rw [List.mem_singleton.1 hs]
      exact ⟨hi, hn.1, Int.le_refl _, hn.2⟩

theorem st_fit (hp : PnOk p) (hl : p.S.length < 16) {i n : Int} (hi : sOk16 i) (hn : -100000 ≤ n ∧ n ≤ 100000) : fitF (stP p ⟨i, n, n⟩) ↔ Df p (vN i) zeroN n := by
  rw [fit_iff (st_ok hp hl hi hn)]
  refine exists_congr fun x => ?_
  rw [st_sol]
  refine and_congr Iff.rfl ?_
  show n ≤ x (vN i) - x zeroN ∧ x (vN i) - x zeroN ≤ n ↔ x (vN i) - x zeroN = n
  omega

theorem jd_ok (hp : PnOk p) (hd : p.D.length < 8) (ht : p.T.length < 47) {i k n : Int} (hi : sOk16 i) (hk : sOk16 k) (hn : -100000 ≤ n ∧ n ≤ 100000) : PnOk (jdP p i k n) := by
  have hl : (jdP p i k n).D.length = p.D.length + 1 := by show (p.D ++ [0]).length = _; rw [List.length_append]; rfl
  refine ⟨?_, ?_, hp.s, fun x hx => ?_, fun t h => ?_, hp.sd⟩
  · omega
  · show (p.T ++ [_, _]).length ≤ 48
    rw [List.length_append]
    show p.T.length + 2 ≤ 48
    omega
  · rcases List.mem_append.1 hx with hx | hx
    · exact hp.dr x hx
    · rw [List.mem_singleton.1 hx]; decide
  · rw [hl]
    rcases List.mem_append.1 h with h | h
    · obtain ⟨h1, h2⟩ := hp.ts t h
      exact ⟨by omega, h2⟩
    · simp only [List.mem_cons, List.not_mem_nil, or_false] at h
      rcases h with rfl | rfl
      · exact ⟨⟨by show (0 : Int) ≤ (p.D.length : Int); omega, by show (p.D.length : Int) < _; omega⟩, hi, (show (0 : Int) ≤ 0 ∧ (0 : Int) ≤ 1000 by decide), hn, (show (0 : Int) ≤ 0 ∧ (0 : Int) ≤ 10000 by decide)⟩
      · exact ⟨⟨by show (0 : Int) ≤ (p.D.length : Int); omega, by show (p.D.length : Int) < _; omega⟩, hk, (show (0 : Int) ≤ 0 ∧ (0 : Int) ≤ 1000 by decide), (show (-100000 : Int) ≤ 0 ∧ (0 : Int) ≤ 100000 by decide), (show (0 : Int) ≤ 0 ∧ (0 : Int) ≤ 10000 by decide)⟩

theorem jd_dr (hp : PnOk p) {i k n : Int} {t u : Ts} (ht : t ∈ p.T) : dr (jdP p i k n) t u = dr p t u := by
  have h := (hp.ts t ht).1
  unfold dr
  congr 1
  show (p.D ++ [0]).getD t.j.toNat 0 = _
  rw [List.getD_eq_getElem?_getD, List.getElem?_append_left (by omega), List.getD_eq_getElem?_getD]

theorem vN_cN (s j t : Int) : vN s ≠ cN j t := fun h => by
  have := congrArg (fun l => l.getD 0 0) h
  exact absurd this (show ¬ (0 : Int) = 1 by decide)
theorem zN_cN (j t : Int) : zeroN ≠ cN j t := fun h => by
  have := congrArg (fun l => l.getD 0 0) h
  exact absurd this (show ¬ (0 : Int) = 1 by decide)
theorem cN_inj {j t j' t' : Int} (h : cN j t = cN j' t') : j = j' ∧ t = t' :=
  ⟨congrArg (fun l => l.getD 1 0) h, congrArg (fun l => l.getD 2 0) h⟩

theorem jd_fit (hp : PnOk p) (hd : p.D.length < 8) (ht : p.T.length < 47) {i k n : Int} (hi : sOk16 i) (hk : sOk16 k) (hn : -100000 ≤ n ∧ n ≤ 100000) : fitF (jdP p i k n) ↔ Df p (vN i) (vN k) n := by
  rw [fit_iff (jd_ok hp hd ht hi hk hn)]
  constructor
  · rintro ⟨x, hx⟩
    rw [sol_iff] at hx
    refine ⟨x, sol_iff.2 ⟨fun t h => hx.ts t (List.mem_append_left _ h), fun t h u hu => ?_, hx.sd⟩, ?_⟩
    · have := hx.dr t (List.mem_append_left _ h) u (List.mem_append_left _ hu)
      rwa [jd_dr hp h] at this
    · have g1 := hx.ts ⟨p.D.length, i, 0, n, 0⟩ (List.mem_append_right _ (by simp))
      have g2 := hx.ts ⟨p.D.length, k, 0, 0, 0⟩ (List.mem_append_right _ (by simp))
      dsimp only at g1 g2
      omega
  · rintro ⟨x, hx, hv⟩
    rw [sol_iff] at hx
    have e1 : ∀ t ∈ p.T, cN t.j t.p ≠ cN p.D.length 0 := fun t h hc => by
      have := (hp.ts t h).1
      have := (cN_inj hc).1
      omega
    refine ⟨fun c => if c = cN p.D.length 0 then x (vN k) else x c, sol_iff.2 ⟨fun t h => ?_, fun t h u hu hj hlt => ?_, fun s hs => ?_⟩⟩
    · show t.c - t.o ≤ (if vN t.s = cN p.D.length 0 then x (vN k) else x (vN t.s)) - (if cN t.j t.p = cN p.D.length 0 then x (vN k) else x (cN t.j t.p)) ∧ (if vN t.s = cN p.D.length 0 then x (vN k) else x (vN t.s)) - (if cN t.j t.p = cN p.D.length 0 then x (vN k) else x (cN t.j t.p)) ≤ t.c + t.o
      rw [if_neg (vN_cN _ _ _)]
      rcases List.mem_append.1 h with h | h
      · rw [if_neg (e1 t h)]; exact hx.ts t h
      · simp only [List.mem_cons, List.not_mem_nil, or_false] at h
        rcases h with rfl | rfl
        · dsimp only; rw [if_pos rfl]; omega
        · dsimp only; rw [if_pos rfl]; omega
    · show (if cN t.j t.p = cN p.D.length 0 then x (vN k) else x (cN t.j t.p)) - (if cN u.j u.p = cN p.D.length 0 then x (vN k) else x (cN u.j u.p)) ≤ _ ∧ (if cN u.j u.p = cN p.D.length 0 then x (vN k) else x (cN u.j u.p)) - (if cN t.j t.p = cN p.D.length 0 then x (vN k) else x (cN t.j t.p)) ≤ _
      rcases List.mem_append.1 h with h | h
      · rcases List.mem_append.1 hu with hu | hu
        · rw [if_neg (e1 t h), if_neg (e1 u hu), jd_dr hp h]; exact hx.dr t h u hu hj hlt
        · have := (hp.ts t h).1
          simp only [List.mem_cons, List.not_mem_nil, or_false] at hu
          rcases hu with rfl | rfl <;> (dsimp only at hj; omega)
      · rcases List.mem_append.1 hu with hu | hu
        · have := (hp.ts u hu).1
          simp only [List.mem_cons, List.not_mem_nil, or_false] at h
          rcases h with rfl | rfl <;> (dsimp only at hj; omega)
        · simp only [List.mem_cons, List.not_mem_nil, or_false] at h hu
          rcases h with rfl | rfl <;> rcases hu with rfl | rfl <;> exact absurd hlt (show ¬ (0 : Int) < 0 by decide)
    · show s.lo ≤ (if vN s.s = cN p.D.length 0 then x (vN k) else x (vN s.s)) - (if zeroN = cN p.D.length 0 then x (vN k) else x zeroN) ∧ (if vN s.s = cN p.D.length 0 then x (vN k) else x (vN s.s)) - (if zeroN = cN p.D.length 0 then x (vN k) else x zeroN) ≤ s.hi
      rw [if_neg (vN_cN _ _ _), if_neg (zN_cN _ _)]
      exact hx.sd s hs

/-- The tastings, turned. -/
def tuT (T : List Ts) (m : Nat) : List Ts := (List.range T.length).map fun i => T.getD ((i + m) % T.length) t0
def tuP (p : Pn) (m : Nat) : Pn := ⟨p.D, tuT p.T m, p.S⟩

theorem tuT_len (T : List Ts) (m : Nat) : (tuT T m).length = T.length := by unfold tuT; rw [List.length_map, List.length_range]

theorem tuT_get {T : List Ts} {m k : Nat} (h : k < T.length) : tG (tuT T m) k = tsL (T.getD ((k + m) % T.length) t0) := by
  unfold tG tuT
  rw [List.getD_eq_getElem?_getD, List.getElem?_map, List.getElem?_range h]
  rfl

theorem tuT_mem {T : List Ts} {m : Nat} {t : Ts} : t ∈ tuT T m ↔ t ∈ T := by
  unfold tuT
  rw [List.mem_map]
  constructor
  · rintro ⟨i, hi, rfl⟩
    have hi := List.mem_range.1 hi
    have hk : (i + m) % T.length < T.length := Nat.mod_lt _ (by omega)
    rw [List.getD_eq_getElem?_getD, List.getElem?_eq_getElem hk]
    exact List.getElem_mem hk
  · intro h
    obtain ⟨k, hk, rfl⟩ := List.mem_iff_getElem.1 h
    refine ⟨(k + (T.length - m % T.length)) % T.length, List.mem_range.2 (Nat.mod_lt _ (by omega)), ?_⟩
    have e : ((k + (T.length - m % T.length)) % T.length + m) % T.length = k := by
      have h1 : m % T.length < T.length := Nat.mod_lt _ (by omega)
      rw [Nat.mod_add_mod, ← Nat.add_mod_mod, show k + (T.length - m % T.length) + m % T.length = k + T.length by omega, Nat.add_mod_right, Nat.mod_eq_of_lt hk]
    rw [e, List.getD_eq_getElem?_getD, List.getElem?_eq_getElem hk]
    rfl

theorem tu_bt (p : Pn) (m : Nat) (a b : Nd) : btF (tuP p m) a b = btF p a b := by
  refine bt_perm ?_ (fun x => ?_) (fun c => ?_)
  · refine ⟨fun h => ⟨h.d, ?_, h.s, h.dr, fun t ht => h.ts t (tuT_mem.1 ht), h.sd⟩, fun h => ⟨h.d, ?_, h.s, h.dr, fun t ht => h.ts t (tuT_mem.2 ht), h.sd⟩⟩
    · show (tuT p.T m).length ≤ 48; rw [tuT_len]; exact h.t
    · have := h.t
      change (tuT p.T m).length ≤ 48 at this
      rwa [tuT_len] at this
  · rw [sol_iff, sol_iff]
    exact ⟨fun h => ⟨fun t ht => h.ts t (tuT_mem.1 ht), fun t ht u hu => h.dr t (tuT_mem.1 ht) u (tuT_mem.1 hu), h.sd⟩, fun h => ⟨fun t ht => h.ts t (tuT_mem.2 ht), fun t ht u hu => h.dr t (tuT_mem.2 ht) u (tuT_mem.2 hu), h.sd⟩⟩
  · rw [th_iff, th_iff]
    exact or_congr Iff.rfl (or_congr (exists_congr fun t => and_congr tuT_mem.symm Iff.rfl) Iff.rfl)

/-- Whether a panel is valid does not hang on the order of its tastings. -/
theorem tu_ok {p : Pn} {m : Nat} : PnOk p ↔ PnOk (tuP p m) := by
  refine ⟨fun h => ⟨h.d, ?_, h.s, h.dr, fun t ht => h.ts t (tuT_mem.1 ht), h.sd⟩, fun h => ⟨h.d, ?_, h.s, h.dr, fun t ht => h.ts t (tuT_mem.2 ht), h.sd⟩⟩
  · show (tuT p.T m).length ≤ 48; rw [tuT_len]; exact h.t
  · have := h.t
    change (tuT p.T m).length ≤ 48 at this
    rwa [tuT_len] at this
end
end Go.Sx.Nos

/- nose: NoseTight, evaluated. -/

namespace Go.Sx.Nos
open Go Go.Sx Go.Proofs
set_option maxRecDepth 1000000

def dsT (t : Nat) : List Nat := [t, t + 1, t + 2, 3, 6, 7, 8, 9, 11, 12]
def VT (m : Nat) (a b e : Int) (i : Int) : List VV := [.sl m 4, I 4, I i, .ptr (.own 3 0), .bool false, I a, I b, .ptr (.own 4 0), .ptr (.own 5 0), I e]
def BT (p : Pn) (c1 c2 c3 : Nat) (v d : Int × Int × Int) (l : List Int) : List VB := [arD p, arT p, arS p, pnB p c1 c2 c3, .cells [I v.1, I v.2.1] 34, .cells [I d.1, I d.2.1] 34, .vec 4 (dG l) 1 3]
def BT7 (p : Pn) (c1 c2 c3 : Nat) (v d : Int × Int × Int) (l l' : List Int) : List VB := BT p c1 c2 c3 v d l ++ [.vec 4 (dG l') 1 3]
def nsT6 : List Nat := [0, 1, 2, 3, 4, 5, 6]
def nsT7 : List Nat := [0, 1, 2, 3, 4, 5, 6, 7]
theorem t0_ev (p : Pn) (c1 c2 c3 : Nat) (v d : Int × Int × Int) (l : List Int) (a b e : Int) (i : Int) (X : VEx → List VV → List VB → Prop) : codeE Try.prog (callN Try.prog (tabS [fisT]) noL 10 20) (fun _ => none) true 10 181 0 (loopB 0 (bodyOf Try.prog 5)) ((dsT 63).zip (VT 6 a b e i)) ⟨7, nsT6.zip (BT p c1 c2 c3 v d l)⟩ (obs 7 (dsT 63) nsT6 X) =
  (bif decide (i < (4 : Int)) then
 bif decide ((0 : Int) ≤ i ∧ i < (↑4 : Int)) then
 bif decide (l.getD i.toNat (0 : Int) < (-100000 : Int)) then
 bif inK IntKind.i64 (i + (1 : Int)) then
 X VEx.normal (VT 6 a b e (i + 1)) (BT p c1 c2 c3 v d l)
 else False
 else bif decide (l.getD i.toNat (0 : Int) > (100000 : Int)) then
 bif inK IntKind.i64 (i + (1 : Int)) then
 X VEx.normal (VT 6 a b e (i + 1)) (BT p c1 c2 c3 v d l)
 else False
 else (∀ (j : Nat), j < p.S.length → (([] : List Int) = [] ∧ (0 : Int) ≤ (0 : Int) + (↑j : Int) ∧ (0 : Int) + (↑j : Int) < (↑p.S.length : Int)) ∧ ((fun (_ : List Int) (i : Int) ↦ sG p.S i.toNat) [] ((0 : Int) + (↑j : Int))).all VV.one = true) ∧ bif roomB (0 + p.S.length) (24) then
 bif (0 + p.S.length).beq (0 + p.S.length) then
 bif roomB (0 + p.S.length + 1) (24) then
 ∃ p_1, pnIs (VH.mk (10) ((7, VB.cells [VV.slice (VA.el 0 [] (0 : Int) 0) p.D.length c1, VV.slice (VA.el 1 [] (0 : Int) 0) p.T.length c2, VV.sl (8) (0 + p.S.length + 1)] 26) :: (8, VB.vec (0 + p.S.length + 1) (catG (0 + p.S.length) (catG 0 (fun j => List.take (3) (List.drop (j * (3)) [])) fun j => (fun (_ : List Int) (i : Int) ↦ sG p.S i.toNat) [] ((0 : Int) + (↑j : Int))) fun j => List.take (3) (List.drop (j * (3)) [I a, I (l.getD i.toNat (0 : Int)), I (l.getD i.toNat (0 : Int))])) (3) 36) :: (9, VB.vec 1 (fun j => List.take (3) (List.drop (j * (3)) [I a, I (l.getD i.toNat (0 : Int)), I (l.getD i.toNat (0 : Int))])) (3) 36) :: (8, VB.vec (0 + p.S.length) (catG 0 (fun j => List.take (3) (List.drop (j * (3)) [])) fun j => (fun (_ : List Int) (i : Int) ↦ sG p.S i.toNat) [] ((0 : Int) + (↑j : Int))) (3) 36) :: (8, VB.vec 0 (fun j => List.take (3) (List.drop (j * (3)) [])) (3) 36) :: (7, VB.cells [VV.slice (VA.el 0 [] (0 : Int) 0) p.D.length c1, VV.slice (VA.el 1 [] (0 : Int) 0) p.T.length c2, VV.slice (VA.el 2 [] (0 : Int) 0) p.S.length c3] 26) :: (7, VB.cells [VV.nils, VV.nils, VV.nils] 26) :: nsT6.zip (BT p c1 c2 c3 v d l))) p_1 (sD p c1) (sT1 p c2) (VV.sl (8) (0 + p.S.length + 1)) ∧ True ∧ bif !decide ((fisF p_1).snd = (0 : Int)) then
 X VEx.ret (VT 6 a b e i) (BT p c1 c2 c3 v d l)
 else bif decide (v.fst ≤ l.getD i.toNat (0 : Int)) then
 bif !(fisF p_1).fst == decide (l.getD i.toNat (0 : Int) ≤ v.snd.fst) then
 X VEx.ret (VT 6 a b e i) (BT p c1 c2 c3 v d l)
 else bif inK IntKind.i64 (i + (1 : Int)) then
 X VEx.normal (VT 6 a b e (i + 1)) (BT p c1 c2 c3 v d l)
 else False
 else bif !(fisF p_1).fst == false then
 X VEx.ret (VT 6 a b e i) (BT p c1 c2 c3 v d l)
 else bif inK IntKind.i64 (i + (1 : Int)) then
 X VEx.normal (VT 6 a b e (i + 1)) (BT p c1 c2 c3 v d l)
 else False
 else False
 else False
 else False
 else False
 else X (VEx.exit 0) (VT 6 a b e i) (BT p c1 c2 c3 v d l)) := by kernel_rfl

theorem t2_ev (p : Pn) (c1 c2 c3 : Nat) (v d : Int × Int × Int) (l : List Int) (a b e : Int) (i : Int) (X : VEx → List VV → List VB → Prop) : codeE Try.prog (callN Try.prog (tabS [fisT]) noL 10 20) (fun _ => none) true 10 181 0 (loopB 2 (bodyOf Try.prog 5)) ((dsT 127).zip (VT 6 a b e i)) ⟨7, nsT6.zip (BT p c1 c2 c3 v d l)⟩ (obs 7 (dsT 127) nsT6 X) =
  (bif decide (i < (4 : Int)) then
 bif decide ((0 : Int) ≤ i ∧ i < (↑4 : Int)) then
 bif decide (l.getD i.toNat (0 : Int) < (-100000 : Int)) then
 bif inK IntKind.i64 (i + (1 : Int)) then
 X VEx.normal (VT 6 a b e (i + 1)) (BT p c1 c2 c3 v d l)
 else False
 else bif decide (l.getD i.toNat (0 : Int) > (100000 : Int)) then
 bif inK IntKind.i64 (i + (1 : Int)) then
 X VEx.normal (VT 6 a b e (i + 1)) (BT p c1 c2 c3 v d l)
 else False
 else (∀ (j : Nat), j < p.D.length → (([] : List Int) = [] ∧ (0 : Int) ≤ (0 : Int) + (↑j : Int) ∧ (0 : Int) + (↑j : Int) < (↑p.D.length : Int)) ∧ ((fun (_ : List Int) (i : Int) ↦ dG p.D i.toNat) [] ((0 : Int) + (↑j : Int))).all VV.one = true) ∧ bif roomB (0 + p.D.length) (8) then
 bif (0 + p.D.length).beq (0 + p.D.length) then
 bif roomB (0 + p.D.length + 1) (8) then
 (∀ (j : Nat), j < p.T.length → (([] : List Int) = [] ∧ (0 : Int) ≤ (0 : Int) + (↑j : Int) ∧ (0 : Int) + (↑j : Int) < (↑p.T.length : Int)) ∧ ((fun (_ : List Int) (i : Int) ↦ tG p.T i.toNat) [] ((0 : Int) + (↑j : Int))).all VV.one = true) ∧ bif roomB (0 + p.T.length) (40) then
 bif (0 + p.T.length).beq (0 + p.T.length) then
 bif roomB (0 + p.T.length + 2) (40) then
 ∃ p_1, pnIs (VH.mk (12) ((7, VB.cells [VV.sl (8) (0 + p.D.length + 1), VV.sl (10) (0 + p.T.length + 2), VV.slice (VA.el 2 [] (0 : Int) 0) p.S.length c3] 26) :: (10, VB.vec (0 + p.T.length + 2) (catG (0 + p.T.length) (catG 0 (fun j => List.take (5) (List.drop (j * (5)) [])) fun j => (fun (_ : List Int) (i : Int) ↦ tG p.T i.toNat) [] ((0 : Int) + (↑j : Int))) fun j => List.take (5) (List.drop (j * (5)) [I (↑p.D.length : Int), I a, I 0, I (l.getD i.toNat (0 : Int)), I 0, I (↑p.D.length : Int), I b, I 0, I 0, I 0])) (5) 32) :: (11, VB.vec 2 (fun j => List.take (5) (List.drop (j * (5)) [I (↑p.D.length : Int), I a, I 0, I (l.getD i.toNat (0 : Int)), I 0, I (↑p.D.length : Int), I b, I 0, I 0, I 0])) (5) 32) :: (10, VB.vec (0 + p.T.length) (catG 0 (fun j => List.take (5) (List.drop (j * (5)) [])) fun j => (fun (_ : List Int) (i : Int) ↦ tG p.T i.toNat) [] ((0 : Int) + (↑j : Int))) (5) 32) :: (10, VB.vec 0 (fun j => List.take (5) (List.drop (j * (5)) [])) (5) 32) :: (7, VB.cells [VV.sl (8) (0 + p.D.length + 1), VV.slice (VA.el 1 [] (0 : Int) 0) p.T.length c2, VV.slice (VA.el 2 [] (0 : Int) 0) p.S.length c3] 26) :: (8, VB.vec (0 + p.D.length + 1) (catG (0 + p.D.length) (catG 0 (fun j => List.take (1) (List.drop (j * (1)) [])) fun j => (fun (_ : List Int) (i : Int) ↦ dG p.D i.toNat) [] ((0 : Int) + (↑j : Int))) fun j => List.take (1) (List.drop (j * (1)) [I 0])) (1) 3) :: (9, VB.vec 1 (fun j => List.take (1) (List.drop (j * (1)) [I 0])) (1) 3) :: (8, VB.vec (0 + p.D.length) (catG 0 (fun j => List.take (1) (List.drop (j * (1)) [])) fun j => (fun (_ : List Int) (i : Int) ↦ dG p.D i.toNat) [] ((0 : Int) + (↑j : Int))) (1) 3) :: (8, VB.vec 0 (fun j => List.take (1) (List.drop (j * (1)) [])) (1) 3) :: (7, VB.cells [VV.slice (VA.el 0 [] (0 : Int) 0) p.D.length c1, VV.slice (VA.el 1 [] (0 : Int) 0) p.T.length c2, VV.slice (VA.el 2 [] (0 : Int) 0) p.S.length c3] 26) :: (7, VB.cells [VV.nils, VV.nils, VV.nils] 26) :: nsT6.zip (BT p c1 c2 c3 v d l))) p_1 (VV.sl (8) (0 + p.D.length + 1)) (VV.sl (10) (0 + p.T.length + 2)) (sS p c3) ∧ True ∧ bif !decide ((fisF p_1).snd = (0 : Int)) then
 X VEx.ret (VT 6 a b e i) (BT p c1 c2 c3 v d l)
 else bif decide (d.fst ≤ l.getD i.toNat (0 : Int)) then
 bif !(fisF p_1).fst == decide (l.getD i.toNat (0 : Int) ≤ d.snd.fst) then
 X VEx.ret (VT 6 a b e i) (BT p c1 c2 c3 v d l)
 else bif inK IntKind.i64 (i + (1 : Int)) then
 X VEx.normal (VT 6 a b e (i + 1)) (BT p c1 c2 c3 v d l)
 else False
 else bif !(fisF p_1).fst == false then
 X VEx.ret (VT 6 a b e i) (BT p c1 c2 c3 v d l)
 else bif inK IntKind.i64 (i + (1 : Int)) then
 X VEx.normal (VT 6 a b e (i + 1)) (BT p c1 c2 c3 v d l)
 else False
 else False
 else False
 else False
 else False
 else False
 else False
 else False
 else X (VEx.exit 2) (VT 6 a b e i) (BT p c1 c2 c3 v d l)) := by kernel_rfl

theorem t27_ev (p : Pn) (c1 c2 c3 : Nat) (v d : Int × Int × Int) (l l' : List Int) (a b e : Int) (i : Int) (X : VEx → List VV → List VB → Prop) : codeE Try.prog (callN Try.prog (tabS [fisT]) noL 10 20) (fun _ => none) true 10 181 0 (loopB 2 (bodyOf Try.prog 5)) ((dsT 127).zip (VT 7 a b e i)) ⟨8, nsT7.zip (BT7 p c1 c2 c3 v d l l')⟩ (obs 8 (dsT 127) nsT7 X) =
  (bif decide (i < (4 : Int)) then
 bif decide ((0 : Int) ≤ i ∧ i < (↑4 : Int)) then
 bif decide (l'.getD i.toNat (0 : Int) < (-100000 : Int)) then
 bif inK IntKind.i64 (i + (1 : Int)) then
 X VEx.normal (VT 7 a b e (i + 1)) (BT7 p c1 c2 c3 v d l l')
 else False
 else bif decide (l'.getD i.toNat (0 : Int) > (100000 : Int)) then
 bif inK IntKind.i64 (i + (1 : Int)) then
 X VEx.normal (VT 7 a b e (i + 1)) (BT7 p c1 c2 c3 v d l l')
 else False
 else (∀ (j : Nat), j < p.D.length → (([] : List Int) = [] ∧ (0 : Int) ≤ (0 : Int) + (↑j : Int) ∧ (0 : Int) + (↑j : Int) < (↑p.D.length : Int)) ∧ ((fun (_ : List Int) (i : Int) ↦ dG p.D i.toNat) [] ((0 : Int) + (↑j : Int))).all VV.one = true) ∧ bif roomB (0 + p.D.length) (8) then
 bif (0 + p.D.length).beq (0 + p.D.length) then
 bif roomB (0 + p.D.length + 1) (8) then
 (∀ (j : Nat), j < p.T.length → (([] : List Int) = [] ∧ (0 : Int) ≤ (0 : Int) + (↑j : Int) ∧ (0 : Int) + (↑j : Int) < (↑p.T.length : Int)) ∧ ((fun (_ : List Int) (i : Int) ↦ tG p.T i.toNat) [] ((0 : Int) + (↑j : Int))).all VV.one = true) ∧ bif roomB (0 + p.T.length) (40) then
 bif (0 + p.T.length).beq (0 + p.T.length) then
 bif roomB (0 + p.T.length + 2) (40) then
 ∃ p_1, pnIs (VH.mk (13) ((8, VB.cells [VV.sl (9) (0 + p.D.length + 1), VV.sl (11) (0 + p.T.length + 2), VV.slice (VA.el 2 [] (0 : Int) 0) p.S.length c3] 26) :: (11, VB.vec (0 + p.T.length + 2) (catG (0 + p.T.length) (catG 0 (fun j => List.take (5) (List.drop (j * (5)) [])) fun j => (fun (_ : List Int) (i : Int) ↦ tG p.T i.toNat) [] ((0 : Int) + (↑j : Int))) fun j => List.take (5) (List.drop (j * (5)) [I (↑p.D.length : Int), I a, I 0, I (l'.getD i.toNat (0 : Int)), I 0, I (↑p.D.length : Int), I b, I 0, I 0, I 0])) (5) 32) :: (12, VB.vec 2 (fun j => List.take (5) (List.drop (j * (5)) [I (↑p.D.length : Int), I a, I 0, I (l'.getD i.toNat (0 : Int)), I 0, I (↑p.D.length : Int), I b, I 0, I 0, I 0])) (5) 32) :: (11, VB.vec (0 + p.T.length) (catG 0 (fun j => List.take (5) (List.drop (j * (5)) [])) fun j => (fun (_ : List Int) (i : Int) ↦ tG p.T i.toNat) [] ((0 : Int) + (↑j : Int))) (5) 32) :: (11, VB.vec 0 (fun j => List.take (5) (List.drop (j * (5)) [])) (5) 32) :: (8, VB.cells [VV.sl (9) (0 + p.D.length + 1), VV.slice (VA.el 1 [] (0 : Int) 0) p.T.length c2, VV.slice (VA.el 2 [] (0 : Int) 0) p.S.length c3] 26) :: (9, VB.vec (0 + p.D.length + 1) (catG (0 + p.D.length) (catG 0 (fun j => List.take (1) (List.drop (j * (1)) [])) fun j => (fun (_ : List Int) (i : Int) ↦ dG p.D i.toNat) [] ((0 : Int) + (↑j : Int))) fun j => List.take (1) (List.drop (j * (1)) [I 0])) (1) 3) :: (10, VB.vec 1 (fun j => List.take (1) (List.drop (j * (1)) [I 0])) (1) 3) :: (9, VB.vec (0 + p.D.length) (catG 0 (fun j => List.take (1) (List.drop (j * (1)) [])) fun j => (fun (_ : List Int) (i : Int) ↦ dG p.D i.toNat) [] ((0 : Int) + (↑j : Int))) (1) 3) :: (9, VB.vec 0 (fun j => List.take (1) (List.drop (j * (1)) [])) (1) 3) :: (8, VB.cells [VV.slice (VA.el 0 [] (0 : Int) 0) p.D.length c1, VV.slice (VA.el 1 [] (0 : Int) 0) p.T.length c2, VV.slice (VA.el 2 [] (0 : Int) 0) p.S.length c3] 26) :: (8, VB.cells [VV.nils, VV.nils, VV.nils] 26) :: nsT7.zip (BT7 p c1 c2 c3 v d l l'))) p_1 (VV.sl (9) (0 + p.D.length + 1)) (VV.sl (11) (0 + p.T.length + 2)) (sS p c3) ∧ True ∧ bif !decide ((fisF p_1).snd = (0 : Int)) then
 X VEx.ret (VT 7 a b e i) (BT7 p c1 c2 c3 v d l l')
 else bif decide (d.fst ≤ l'.getD i.toNat (0 : Int)) then
 bif !(fisF p_1).fst == decide (l'.getD i.toNat (0 : Int) ≤ d.snd.fst) then
 X VEx.ret (VT 7 a b e i) (BT7 p c1 c2 c3 v d l l')
 else bif inK IntKind.i64 (i + (1 : Int)) then
 X VEx.normal (VT 7 a b e (i + 1)) (BT7 p c1 c2 c3 v d l l')
 else False
 else bif !(fisF p_1).fst == false then
 X VEx.ret (VT 7 a b e i) (BT7 p c1 c2 c3 v d l l')
 else bif inK IntKind.i64 (i + (1 : Int)) then
 X VEx.normal (VT 7 a b e (i + 1)) (BT7 p c1 c2 c3 v d l l')
 else False
 else False
 else False
 else False
 else False
 else False
 else False
 else False
 else X (VEx.exit 2) (VT 7 a b e i) (BT7 p c1 c2 c3 v d l l')) := by kernel_rfl

/-- The loop over what standards say; the loops over what a judge says. -/
def lT0 (p : Pn) (c1 c2 c3 : Nat) (v d : Int × Int × Int) (l : List Int) (a b e : Int) : LT := fun lock tt h K =>
  FitP lock h tt ⟨7, nsT6.zip (BT p c1 c2 c3 v d l)⟩ ((dsT 63).zip (VT 6 a b e 0)) ∧ (PnOk p ∧ p.S.length < 16 ∧ sOk16 a ∧ ∀ n, Df p (vN a) zeroN n ↔ v.1 ≤ n ∧ n ≤ v.2.1) ∧ K .normal ((dsT 63).zip (VT 6 a b e 4)) ⟨7, nsT6.zip (BT p c1 c2 c3 v d l)⟩
def lT2 (p : Pn) (c1 c2 c3 : Nat) (v d : Int × Int × Int) (l : List Int) (a b e : Int) : LT := fun lock tt h K =>
  FitP lock h tt ⟨7, nsT6.zip (BT p c1 c2 c3 v d l)⟩ ((dsT 127).zip (VT 6 a b e 0)) ∧ (PnOk p ∧ (p.D.length < 8 ∧ p.T.length < 47) ∧ (sOk16 a ∧ sOk16 b) ∧ ∀ n, Df p (vN a) (vN b) n ↔ d.1 ≤ n ∧ n ≤ d.2.1) ∧ K .normal ((dsT 127).zip (VT 6 a b e 4)) ⟨7, nsT6.zip (BT p c1 c2 c3 v d l)⟩
def lT27 (p : Pn) (c1 c2 c3 : Nat) (v d : Int × Int × Int) (l l' : List Int) (a b e : Int) : LT := fun lock tt h K =>
  FitP lock h tt ⟨8, nsT7.zip (BT7 p c1 c2 c3 v d l l')⟩ ((dsT 127).zip (VT 7 a b e 0)) ∧ (PnOk p ∧ (p.D.length < 8 ∧ p.T.length < 47) ∧ (sOk16 a ∧ sOk16 b) ∧ ∀ n, Df p (vN a) (vN b) n ↔ d.1 ≤ n ∧ n ≤ d.2.1) ∧ K .normal ((dsT 127).zip (VT 7 a b e 4)) ⟨8, nsT7.zip (BT7 p c1 c2 c3 v d l l')⟩
def orL (A B : LT) : LT := fun lock t h K => ∃ m : Bool, bif m then A lock t h K else B lock t h K
noncomputable def tgL (p : Pn) (c1 c2 c3 : Nat) (v d : Int × Int × Int) (a b : Int) : List (Nat × LT) :=
  [(0, lT0 p c1 c2 c3 v d [v.1 - 1, v.1, v.2.1, v.2.1 + 1] a b d.2.2), (2, orL (lT2 p c1 c2 c3 v d [d.1 - 1, d.1, d.2.1, d.2.1 + 1] a b d.2.2) (lT27 p c1 c2 c3 v d [v.1 - 1, v.1, v.2.1, v.2.1 + 1] [d.1 - 1, d.1, d.2.1, d.2.1 + 1] a b d.2.2))]
theorem tight_ev (p : Pn) (c1 c2 c3 : Nat) (v d : Int × Int × Int) (a b a' b' : Int) (Q : VRes → Prop) : callN Try.prog (tabS [greatT, alvT, valT, difT]) (atF 5 (tgL p c1 c2 c3 v d a' b')) 10 20 0 (.fn 5) [.agg (pnV p c1 c2 c3), .int .u8 a, .int .u8 b] (pnH p) (fun r _ => Q r) =
  (∃ p_1, pnIs (VH.mk (4) [(3, VB.cells [VV.slice (VA.el 0 [] (0 : Int) 0) p.D.length c1, VV.slice (VA.el 1 [] (0 : Int) 0) p.T.length c2, VV.slice (VA.el 2 [] (0 : Int) 0) p.S.length c3] 26), (0, arD p), (1, arT p), (2, arS p)]) p_1 (sD p c1) (sT1 p c2) (sS p c3) ∧ True ∧ bif greatB p_1 ((12 : Int)) then
 Q (VRes.ret (VV.bool true))
 else bif inK IntKind.i64 a then
 bif inK IntKind.i64 b then
 ∃ p_2, pnIs (VH.mk (4) [(3, VB.cells [VV.slice (VA.el 0 [] (0 : Int) 0) p.D.length c1, VV.slice (VA.el 1 [] (0 : Int) 0) p.T.length c2, VV.slice (VA.el 2 [] (0 : Int) 0) p.S.length c3] 26), (0, arD p), (1, arT p), (2, arS p)]) p_2 (sD p c1) (sT1 p c2) (sS p c3) ∧ n64 (g0 [remZ a (16 : Int)] 0) ∧ ∃ p_3, pnIs (VH.mk (5) [(4, VB.cells [I (valF p_2 (remZ a (16 : Int))).fst, I (valF p_2 (remZ a (16 : Int))).snd.fst] 34), (4, VB.cells [I 0, I 0] 34), (3, VB.cells [VV.slice (VA.el 0 [] (0 : Int) 0) p.D.length c1, VV.slice (VA.el 1 [] (0 : Int) 0) p.T.length c2, VV.slice (VA.el 2 [] (0 : Int) 0) p.S.length c3] 26), (0, arD p), (1, arT p), (2, arS p)]) p_3 (sD p c1) (sT1 p c2) (sS p c3) ∧ (n64 (g0 [remZ a (16 : Int), remZ b (16 : Int)] 0) ∧ n64 (g0 [remZ a (16 : Int), remZ b (16 : Int)] 1)) ∧ bif decide ((valF p_2 (remZ a (16 : Int))).snd.snd = (0 : Int)) then
 bif decide ((↑p.S.length : Int) < (16 : Int)) then
 bif inK IntKind.i64 ((valF p_2 (remZ a (16 : Int))).fst - (1 : Int)) then
 bif inK IntKind.i64 ((valF p_2 (remZ a (16 : Int))).snd.fst + (1 : Int)) then
 FitP 0 (VH.mk (7) [(6, VB.vec 4 (fun j => List.take (1) (List.drop (j * (1)) [I ((valF p_2 (remZ a (16 : Int))).fst - (1 : Int)), I (valF p_2 (remZ a (16 : Int))).fst, I (valF p_2 (remZ a (16 : Int))).snd.fst, I ((valF p_2 (remZ a (16 : Int))).snd.fst + (1 : Int))])) (1) 3), (5, VB.cells [I (difF p_3 (remZ a (16 : Int)) (remZ b (16 : Int))).fst, I (difF p_3 (remZ a (16 : Int)) (remZ b (16 : Int))).snd.fst] 34), (5, VB.cells [I 0, I 0] 34), (4, VB.cells [I (valF p_2 (remZ a (16 : Int))).fst, I (valF p_2 (remZ a (16 : Int))).snd.fst] 34), (4, VB.cells [I 0, I 0] 34), (3, VB.cells [VV.slice (VA.el 0 [] (0 : Int) 0) p.D.length c1, VV.slice (VA.el 1 [] (0 : Int) 0) p.T.length c2, VV.slice (VA.el 2 [] (0 : Int) 0) p.S.length c3] 26), (0, arD p), (1, arT p), (2, arS p)]) [(65, I 0), (64, I (↑4 : Int)), (63, VV.sl (6) 4), (62, I ((valF p_2 (remZ a (16 : Int))).snd.fst + (1 : Int))), (61, I (valF p_2 (remZ a (16 : Int))).snd.fst), (60, VV.ptr (VA.own (4) (1))), (59, I (valF p_2 (remZ a (16 : Int))).snd.fst), (58, VV.ptr (VA.own (4) (1))), (57, I (valF p_2 (remZ a (16 : Int))).fst), (56, VV.ptr (VA.own (4) 0)), (55, I ((valF p_2 (remZ a (16 : Int))).fst - (1 : Int))), (54, I (valF p_2 (remZ a (16 : Int))).fst), (53, VV.ptr (VA.own (4) 0)), (52, VV.bool true), (52, VV.bool (decide ((↑p.S.length : Int) < (16 : Int)))), (51, VV.bool (decide ((↑p.S.length : Int) < (16 : Int)))), (47, VV.bool true), (50, I (↑p.S.length : Int)), (47, VV.bool true), (49, VV.slice (VA.el 2 [] (0 : Int) 0) p.S.length c3), (47, VV.bool true), (48, VV.ptr (VA.own (3) (2))), (47, VV.bool true), (47, VV.bool (decide ((valF p_2 (remZ a (16 : Int))).snd.snd = (0 : Int)))), (46, VV.bool (decide ((valF p_2 (remZ a (16 : Int))).snd.snd = (0 : Int)))), (45, I (valF p_2 (remZ a (16 : Int))).snd.snd), (12, I (difF p_3 (remZ a (16 : Int)) (remZ b (16 : Int))).snd.snd), (11, VV.ptr (VA.own (5) 0)), (44, I (difF p_3 (remZ a (16 : Int)) (remZ b (16 : Int))).snd.snd), (43, VV.agg [I (difF p_3 (remZ a (16 : Int)) (remZ b (16 : Int))).fst, I (difF p_3 (remZ a (16 : Int)) (remZ b (16 : Int))).snd.fst]), (38, VV.tup [VV.agg [I (difF p_3 (remZ a (16 : Int)) (remZ b (16 : Int))).fst, I (difF p_3 (remZ a (16 : Int)) (remZ b (16 : Int))).snd.fst], I (difF p_3 (remZ a (16 : Int)) (remZ b (16 : Int))).snd.snd]), (42, spV (difF p_3 (remZ a (16 : Int)) (remZ b (16 : Int)))), (41, I (remZ b (16 : Int))), (40, I (remZ a (16 : Int))), (39, VV.agg [VV.slice (VA.el 0 [] (0 : Int) 0) p.D.length c1, VV.slice (VA.el 1 [] (0 : Int) 0) p.T.length c2, VV.slice (VA.el 2 [] (0 : Int) 0) p.S.length c3]), (10, I (valF p_2 (remZ a (16 : Int))).snd.snd), (9, VV.ptr (VA.own (4) 0)), (37, I (valF p_2 (remZ a (16 : Int))).snd.snd), (36, VV.agg [I (valF p_2 (remZ a (16 : Int))).fst, I (valF p_2 (remZ a (16 : Int))).snd.fst]), (32, VV.tup [VV.agg [I (valF p_2 (remZ a (16 : Int))).fst, I (valF p_2 (remZ a (16 : Int))).snd.fst], I (valF p_2 (remZ a (16 : Int))).snd.snd]), (35, spV (valF p_2 (remZ a (16 : Int)))), (34, I (remZ a (16 : Int))), (33, VV.agg [VV.slice (VA.el 0 [] (0 : Int) 0) p.D.length c1, VV.slice (VA.el 1 [] (0 : Int) 0) p.T.length c2, VV.slice (VA.el 2 [] (0 : Int) 0) p.S.length c3]), (8, I (remZ b (16 : Int))), (7, I (remZ a (16 : Int))), (31, I (remZ b (16 : Int))), (30, I b), (29, VV.int IntKind.u8 b), (28, I (remZ a (16 : Int))), (27, I a), (26, VV.int IntKind.u8 a), (24, VV.bool false), (24, boV (greatB p_1 ((12 : Int)))), (23, VV.agg [VV.slice (VA.el 0 [] (0 : Int) 0) p.D.length c1, VV.slice (VA.el 1 [] (0 : Int) 0) p.T.length c2, VV.slice (VA.el 2 [] (0 : Int) 0) p.S.length c3]), (6, VV.bool false), (3, VV.ptr (VA.own (3) 0)), (0, VV.agg (pnV p c1 c2 c3)), (1, VV.int IntKind.u8 a), (2, VV.int IntKind.u8 b)] (VH.mk 7 (nsT6.zip (BT p c1 c2 c3 v d [v.fst - (1 : Int), v.fst, v.snd.fst, v.snd.fst + (1 : Int)]))) ((dsT 63).zip (VT 6 a' b' d.snd.snd (0 : Int))) ∧ (PnOk p ∧ p.S.length < 16 ∧ sOk16 a' ∧ ∀ (n : Int), Df p (vN a') zeroN n ↔ v.fst ≤ n ∧ n ≤ v.snd.fst) ∧ bif decide (d.snd.snd = (0 : Int)) then
 bif decide ((↑p.D.length : Int) < (8 : Int)) then
 bif decide ((↑p.T.length : Int) < (47 : Int)) then
 bif inK IntKind.i64 (d.fst - (1 : Int)) then
 bif inK IntKind.i64 (d.snd.fst + (1 : Int)) then
 ∃ m, bif m then
 FitP 0 (VH.mk (8) ((7, VB.vec 4 (fun j => List.take (1) (List.drop (j * (1)) [I (d.fst - (1 : Int)), I d.fst, I d.snd.fst, I (d.snd.fst + (1 : Int))])) (1) 3) :: nsT6.zip (BT p c1 c2 c3 v d [v.fst - (1 : Int), v.fst, v.snd.fst, v.snd.fst + (1 : Int)]))) ((129, I 0) :: (128, I (↑4 : Int)) :: (127, VV.sl (7) 4) :: (126, I (d.snd.fst + (1 : Int))) :: (125, I d.snd.fst) :: (124, VV.ptr (VA.own 5 (1))) :: (123, I d.snd.fst) :: (122, VV.ptr (VA.own 5 (1))) :: (121, I d.fst) :: (120, VV.ptr (VA.own 5 0)) :: (119, I (d.fst - (1 : Int))) :: (118, I d.fst) :: (117, VV.ptr (VA.own 5 0)) :: (116, VV.bool true) :: (116, VV.bool (decide ((↑p.T.length : Int) < (47 : Int)))) :: (115, VV.bool (decide ((↑p.T.length : Int) < (47 : Int)))) :: (111, VV.bool true) :: (114, I (↑p.T.length : Int)) :: (111, VV.bool true) :: (113, VV.slice (VA.el 1 [] (0 : Int) 0) p.T.length c2) :: (111, VV.bool true) :: (112, VV.ptr (VA.own 3 (1))) :: (111, VV.bool true) :: (111, VV.bool (decide ((↑p.D.length : Int) < (8 : Int)))) :: (110, VV.bool (decide ((↑p.D.length : Int) < (8 : Int)))) :: (109, VV.bool (decide ((↑p.D.length : Int) < (8 : Int)))) :: (105, VV.bool true) :: (108, I (↑p.D.length : Int)) :: (105, VV.bool true) :: (107, VV.slice (VA.el 0 [] (0 : Int) 0) p.D.length c1) :: (105, VV.bool true) :: (106, VV.ptr (VA.own 3 0)) :: (105, VV.bool true) :: (105, VV.bool (decide (d.snd.snd = (0 : Int)))) :: (104, VV.bool (decide (d.snd.snd = (0 : Int)))) :: (103, I d.snd.snd) :: (dsT 63).zip (VT 6 a' b' d.snd.snd (4 : Int))) (VH.mk 7 (nsT6.zip (BT p c1 c2 c3 v d [d.fst - (1 : Int), d.fst, d.snd.fst, d.snd.fst + (1 : Int)]))) ((dsT 127).zip (VT 6 a' b' d.snd.snd (0 : Int))) ∧ (PnOk p ∧ (p.D.length < 8 ∧ p.T.length < 47) ∧ (sOk16 a' ∧ sOk16 b') ∧ ∀ (n : Int), Df p (vN a') (vN b') n ↔ d.fst ≤ n ∧ n ≤ d.snd.fst) ∧ Q (VRes.ret (VV.bool true))
 else FitP 0 (VH.mk (8) ((7, VB.vec 4 (fun j => List.take (1) (List.drop (j * (1)) [I (d.fst - (1 : Int)), I d.fst, I d.snd.fst, I (d.snd.fst + (1 : Int))])) (1) 3) :: nsT6.zip (BT p c1 c2 c3 v d [v.fst - (1 : Int), v.fst, v.snd.fst, v.snd.fst + (1 : Int)]))) ((129, I 0) :: (128, I (↑4 : Int)) :: (127, VV.sl (7) 4) :: (126, I (d.snd.fst + (1 : Int))) :: (125, I d.snd.fst) :: (124, VV.ptr (VA.own 5 (1))) :: (123, I d.snd.fst) :: (122, VV.ptr (VA.own 5 (1))) :: (121, I d.fst) :: (120, VV.ptr (VA.own 5 0)) :: (119, I (d.fst - (1 : Int))) :: (118, I d.fst) :: (117, VV.ptr (VA.own 5 0)) :: (116, VV.bool true) :: (116, VV.bool (decide ((↑p.T.length : Int) < (47 : Int)))) :: (115, VV.bool (decide ((↑p.T.length : Int) < (47 : Int)))) :: (111, VV.bool true) :: (114, I (↑p.T.length : Int)) :: (111, VV.bool true) :: (113, VV.slice (VA.el 1 [] (0 : Int) 0) p.T.length c2) :: (111, VV.bool true) :: (112, VV.ptr (VA.own 3 (1))) :: (111, VV.bool true) :: (111, VV.bool (decide ((↑p.D.length : Int) < (8 : Int)))) :: (110, VV.bool (decide ((↑p.D.length : Int) < (8 : Int)))) :: (109, VV.bool (decide ((↑p.D.length : Int) < (8 : Int)))) :: (105, VV.bool true) :: (108, I (↑p.D.length : Int)) :: (105, VV.bool true) :: (107, VV.slice (VA.el 0 [] (0 : Int) 0) p.D.length c1) :: (105, VV.bool true) :: (106, VV.ptr (VA.own 3 0)) :: (105, VV.bool true) :: (105, VV.bool (decide (d.snd.snd = (0 : Int)))) :: (104, VV.bool (decide (d.snd.snd = (0 : Int)))) :: (103, I d.snd.snd) :: (dsT 63).zip (VT 6 a' b' d.snd.snd (4 : Int))) (VH.mk 8 (nsT7.zip (BT7 p c1 c2 c3 v d [v.fst - (1 : Int), v.fst, v.snd.fst, v.snd.fst + (1 : Int)] [d.fst - (1 : Int), d.fst, d.snd.fst, d.snd.fst + (1 : Int)]))) ((dsT 127).zip (VT 7 a' b' d.snd.snd (0 : Int))) ∧ (PnOk p ∧ (p.D.length < 8 ∧ p.T.length < 47) ∧ (sOk16 a' ∧ sOk16 b') ∧ ∀ (n : Int), Df p (vN a') (vN b') n ↔ d.fst ≤ n ∧ n ≤ d.snd.fst) ∧ Q (VRes.ret (VV.bool true))
 else False
 else False
 else Q (VRes.ret (VV.bool true))
 else Q (VRes.ret (VV.bool true))
 else Q (VRes.ret (VV.bool true))
 else False
 else False
 else bif decide ((difF p_3 (remZ a (16 : Int)) (remZ b (16 : Int))).snd.snd = (0 : Int)) then
 bif decide ((↑p.D.length : Int) < (8 : Int)) then
 bif decide ((↑p.T.length : Int) < (47 : Int)) then
 bif inK IntKind.i64 ((difF p_3 (remZ a (16 : Int)) (remZ b (16 : Int))).fst - (1 : Int)) then
 bif inK IntKind.i64 ((difF p_3 (remZ a (16 : Int)) (remZ b (16 : Int))).snd.fst + (1 : Int)) then
 ∃ m, bif m then
 FitP 0 (VH.mk (7) [(6, VB.vec 4 (fun j => List.take (1) (List.drop (j * (1)) [I ((difF p_3 (remZ a (16 : Int)) (remZ b (16 : Int))).fst - (1 : Int)), I (difF p_3 (remZ a (16 : Int)) (remZ b (16 : Int))).fst, I (difF p_3 (remZ a (16 : Int)) (remZ b (16 : Int))).snd.fst, I ((difF p_3 (remZ a (16 : Int)) (remZ b (16 : Int))).snd.fst + (1 : Int))])) (1) 3), (5, VB.cells [I (difF p_3 (remZ a (16 : Int)) (remZ b (16 : Int))).fst, I (difF p_3 (remZ a (16 : Int)) (remZ b (16 : Int))).snd.fst] 34), (5, VB.cells [I 0, I 0] 34), (4, VB.cells [I (valF p_2 (remZ a (16 : Int))).fst, I (valF p_2 (remZ a (16 : Int))).snd.fst] 34), (4, VB.cells [I 0, I 0] 34), (3, VB.cells [VV.slice (VA.el 0 [] (0 : Int) 0) p.D.length c1, VV.slice (VA.el 1 [] (0 : Int) 0) p.T.length c2, VV.slice (VA.el 2 [] (0 : Int) 0) p.S.length c3] 26), (0, arD p), (1, arT p), (2, arS p)]) [(129, I 0), (128, I (↑4 : Int)), (127, VV.sl (6) 4), (126, I ((difF p_3 (remZ a (16 : Int)) (remZ b (16 : Int))).snd.fst + (1 : Int))), (125, I (difF p_3 (remZ a (16 : Int)) (remZ b (16 : Int))).snd.fst), (124, VV.ptr (VA.own (5) (1))), (123, I (difF p_3 (remZ a (16 : Int)) (remZ b (16 : Int))).snd.fst), (122, VV.ptr (VA.own (5) (1))), (121, I (difF p_3 (remZ a (16 : Int)) (remZ b (16 : Int))).fst), (120, VV.ptr (VA.own (5) 0)), (119, I ((difF p_3 (remZ a (16 : Int)) (remZ b (16 : Int))).fst - (1 : Int))), (118, I (difF p_3 (remZ a (16 : Int)) (remZ b (16 : Int))).fst), (117, VV.ptr (VA.own (5) 0)), (116, VV.bool true), (116, VV.bool (decide ((↑p.T.length : Int) < (47 : Int)))), (115, VV.bool (decide ((↑p.T.length : Int) < (47 : Int)))), (111, VV.bool true), (114, I (↑p.T.length : Int)), (111, VV.bool true), (113, VV.slice (VA.el 1 [] (0 : Int) 0) p.T.length c2), (111, VV.bool true), (112, VV.ptr (VA.own (3) (1))), (111, VV.bool true), (111, VV.bool (decide ((↑p.D.length : Int) < (8 : Int)))), (110, VV.bool (decide ((↑p.D.length : Int) < (8 : Int)))), (109, VV.bool (decide ((↑p.D.length : Int) < (8 : Int)))), (105, VV.bool true), (108, I (↑p.D.length : Int)), (105, VV.bool true), (107, VV.slice (VA.el 0 [] (0 : Int) 0) p.D.length c1), (105, VV.bool true), (106, VV.ptr (VA.own (3) 0)), (105, VV.bool true), (105, VV.bool (decide ((difF p_3 (remZ a (16 : Int)) (remZ b (16 : Int))).snd.snd = (0 : Int)))), (104, VV.bool (decide ((difF p_3 (remZ a (16 : Int)) (remZ b (16 : Int))).snd.snd = (0 : Int)))), (103, I (difF p_3 (remZ a (16 : Int)) (remZ b (16 : Int))).snd.snd), (52, VV.bool false), (52, VV.bool (decide ((↑p.S.length : Int) < (16 : Int)))), (51, VV.bool (decide ((↑p.S.length : Int) < (16 : Int)))), (47, VV.bool true), (50, I (↑p.S.length : Int)), (47, VV.bool true), (49, VV.slice (VA.el 2 [] (0 : Int) 0) p.S.length c3), (47, VV.bool true), (48, VV.ptr (VA.own (3) (2))), (47, VV.bool true), (47, VV.bool (decide ((valF p_2 (remZ a (16 : Int))).snd.snd = (0 : Int)))), (46, VV.bool (decide ((valF p_2 (remZ a (16 : Int))).snd.snd = (0 : Int)))), (45, I (valF p_2 (remZ a (16 : Int))).snd.snd), (12, I (difF p_3 (remZ a (16 : Int)) (remZ b (16 : Int))).snd.snd), (11, VV.ptr (VA.own (5) 0)), (44, I (difF p_3 (remZ a (16 : Int)) (remZ b (16 : Int))).snd.snd), (43, VV.agg [I (difF p_3 (remZ a (16 : Int)) (remZ b (16 : Int))).fst, I (difF p_3 (remZ a (16 : Int)) (remZ b (16 : Int))).snd.fst]), (38, VV.tup [VV.agg [I (difF p_3 (remZ a (16 : Int)) (remZ b (16 : Int))).fst, I (difF p_3 (remZ a (16 : Int)) (remZ b (16 : Int))).snd.fst], I (difF p_3 (remZ a (16 : Int)) (remZ b (16 : Int))).snd.snd]), (42, spV (difF p_3 (remZ a (16 : Int)) (remZ b (16 : Int)))), (41, I (remZ b (16 : Int))), (40, I (remZ a (16 : Int))), (39, VV.agg [VV.slice (VA.el 0 [] (0 : Int) 0) p.D.length c1, VV.slice (VA.el 1 [] (0 : Int) 0) p.T.length c2, VV.slice (VA.el 2 [] (0 : Int) 0) p.S.length c3]), (10, I (valF p_2 (remZ a (16 : Int))).snd.snd), (9, VV.ptr (VA.own (4) 0)), (37, I (valF p_2 (remZ a (16 : Int))).snd.snd), (36, VV.agg [I (valF p_2 (remZ a (16 : Int))).fst, I (valF p_2 (remZ a (16 : Int))).snd.fst]), (32, VV.tup [VV.agg [I (valF p_2 (remZ a (16 : Int))).fst, I (valF p_2 (remZ a (16 : Int))).snd.fst], I (valF p_2 (remZ a (16 : Int))).snd.snd]), (35, spV (valF p_2 (remZ a (16 : Int)))), (34, I (remZ a (16 : Int))), (33, VV.agg [VV.slice (VA.el 0 [] (0 : Int) 0) p.D.length c1, VV.slice (VA.el 1 [] (0 : Int) 0) p.T.length c2, VV.slice (VA.el 2 [] (0 : Int) 0) p.S.length c3]), (8, I (remZ b (16 : Int))), (7, I (remZ a (16 : Int))), (31, I (remZ b (16 : Int))), (30, I b), (29, VV.int IntKind.u8 b), (28, I (remZ a (16 : Int))), (27, I a), (26, VV.int IntKind.u8 a), (24, VV.bool false), (24, boV (greatB p_1 ((12 : Int)))), (23, VV.agg [VV.slice (VA.el 0 [] (0 : Int) 0) p.D.length c1, VV.slice (VA.el 1 [] (0 : Int) 0) p.T.length c2, VV.slice (VA.el 2 [] (0 : Int) 0) p.S.length c3]), (6, VV.bool false), (3, VV.ptr (VA.own (3) 0)), (0, VV.agg (pnV p c1 c2 c3)), (1, VV.int IntKind.u8 a), (2, VV.int IntKind.u8 b)] (VH.mk 7 (nsT6.zip (BT p c1 c2 c3 v d [d.fst - (1 : Int), d.fst, d.snd.fst, d.snd.fst + (1 : Int)]))) ((dsT 127).zip (VT 6 a' b' d.snd.snd (0 : Int))) ∧ (PnOk p ∧ (p.D.length < 8 ∧ p.T.length < 47) ∧ (sOk16 a' ∧ sOk16 b') ∧ ∀ (n : Int), Df p (vN a') (vN b') n ↔ d.fst ≤ n ∧ n ≤ d.snd.fst) ∧ Q (VRes.ret (VV.bool true))
 else FitP 0 (VH.mk (7) [(6, VB.vec 4 (fun j => List.take (1) (List.drop (j * (1)) [I ((difF p_3 (remZ a (16 : Int)) (remZ b (16 : Int))).fst - (1 : Int)), I (difF p_3 (remZ a (16 : Int)) (remZ b (16 : Int))).fst, I (difF p_3 (remZ a (16 : Int)) (remZ b (16 : Int))).snd.fst, I ((difF p_3 (remZ a (16 : Int)) (remZ b (16 : Int))).snd.fst + (1 : Int))])) (1) 3), (5, VB.cells [I (difF p_3 (remZ a (16 : Int)) (remZ b (16 : Int))).fst, I (difF p_3 (remZ a (16 : Int)) (remZ b (16 : Int))).snd.fst] 34), (5, VB.cells [I 0, I 0] 34), (4, VB.cells [I (valF p_2 (remZ a (16 : Int))).fst, I (valF p_2 (remZ a (16 : Int))).snd.fst] 34), (4, VB.cells [I 0, I 0] 34), (3, VB.cells [VV.slice (VA.el 0 [] (0 : Int) 0) p.D.length c1, VV.slice (VA.el 1 [] (0 : Int) 0) p.T.length c2, VV.slice (VA.el 2 [] (0 : Int) 0) p.S.length c3] 26), (0, arD p), (1, arT p), (2, arS p)]) [(129, I 0), (128, I (↑4 : Int)), (127, VV.sl (6) 4), (126, I ((difF p_3 (remZ a (16 : Int)) (remZ b (16 : Int))).snd.fst + (1 : Int))), (125, I (difF p_3 (remZ a (16 : Int)) (remZ b (16 : Int))).snd.fst), (124, VV.ptr (VA.own (5) (1))), (123, I (difF p_3 (remZ a (16 : Int)) (remZ b (16 : Int))).snd.fst), (122, VV.ptr (VA.own (5) (1))), (121, I (difF p_3 (remZ a (16 : Int)) (remZ b (16 : Int))).fst), (120, VV.ptr (VA.own (5) 0)), (119, I ((difF p_3 (remZ a (16 : Int)) (remZ b (16 : Int))).fst - (1 : Int))), (118, I (difF p_3 (remZ a (16 : Int)) (remZ b (16 : Int))).fst), (117, VV.ptr (VA.own (5) 0)), (116, VV.bool true), (116, VV.bool (decide ((↑p.T.length : Int) < (47 : Int)))), (115, VV.bool (decide ((↑p.T.length : Int) < (47 : Int)))), (111, VV.bool true), (114, I (↑p.T.length : Int)), (111, VV.bool true), (113, VV.slice (VA.el 1 [] (0 : Int) 0) p.T.length c2), (111, VV.bool true), (112, VV.ptr (VA.own (3) (1))), (111, VV.bool true), (111, VV.bool (decide ((↑p.D.length : Int) < (8 : Int)))), (110, VV.bool (decide ((↑p.D.length : Int) < (8 : Int)))), (109, VV.bool (decide ((↑p.D.length : Int) < (8 : Int)))), (105, VV.bool true), (108, I (↑p.D.length : Int)), (105, VV.bool true), (107, VV.slice (VA.el 0 [] (0 : Int) 0) p.D.length c1), (105, VV.bool true), (106, VV.ptr (VA.own (3) 0)), (105, VV.bool true), (105, VV.bool (decide ((difF p_3 (remZ a (16 : Int)) (remZ b (16 : Int))).snd.snd = (0 : Int)))), (104, VV.bool (decide ((difF p_3 (remZ a (16 : Int)) (remZ b (16 : Int))).snd.snd = (0 : Int)))), (103, I (difF p_3 (remZ a (16 : Int)) (remZ b (16 : Int))).snd.snd), (52, VV.bool false), (52, VV.bool (decide ((↑p.S.length : Int) < (16 : Int)))), (51, VV.bool (decide ((↑p.S.length : Int) < (16 : Int)))), (47, VV.bool true), (50, I (↑p.S.length : Int)), (47, VV.bool true), (49, VV.slice (VA.el 2 [] (0 : Int) 0) p.S.length c3), (47, VV.bool true), (48, VV.ptr (VA.own (3) (2))), (47, VV.bool true), (47, VV.bool (decide ((valF p_2 (remZ a (16 : Int))).snd.snd = (0 : Int)))), (46, VV.bool (decide ((valF p_2 (remZ a (16 : Int))).snd.snd = (0 : Int)))), (45, I (valF p_2 (remZ a (16 : Int))).snd.snd), (12, I (difF p_3 (remZ a (16 : Int)) (remZ b (16 : Int))).snd.snd), (11, VV.ptr (VA.own (5) 0)), (44, I (difF p_3 (remZ a (16 : Int)) (remZ b (16 : Int))).snd.snd), (43, VV.agg [I (difF p_3 (remZ a (16 : Int)) (remZ b (16 : Int))).fst, I (difF p_3 (remZ a (16 : Int)) (remZ b (16 : Int))).snd.fst]), (38, VV.tup [VV.agg [I (difF p_3 (remZ a (16 : Int)) (remZ b (16 : Int))).fst, I (difF p_3 (remZ a (16 : Int)) (remZ b (16 : Int))).snd.fst], I (difF p_3 (remZ a (16 : Int)) (remZ b (16 : Int))).snd.snd]), (42, spV (difF p_3 (remZ a (16 : Int)) (remZ b (16 : Int)))), (41, I (remZ b (16 : Int))), (40, I (remZ a (16 : Int))), (39, VV.agg [VV.slice (VA.el 0 [] (0 : Int) 0) p.D.length c1, VV.slice (VA.el 1 [] (0 : Int) 0) p.T.length c2, VV.slice (VA.el 2 [] (0 : Int) 0) p.S.length c3]), (10, I (valF p_2 (remZ a (16 : Int))).snd.snd), (9, VV.ptr (VA.own (4) 0)), (37, I (valF p_2 (remZ a (16 : Int))).snd.snd), (36, VV.agg [I (valF p_2 (remZ a (16 : Int))).fst, I (valF p_2 (remZ a (16 : Int))).snd.fst]), (32, VV.tup [VV.agg [I (valF p_2 (remZ a (16 : Int))).fst, I (valF p_2 (remZ a (16 : Int))).snd.fst], I (valF p_2 (remZ a (16 : Int))).snd.snd]), (35, spV (valF p_2 (remZ a (16 : Int)))), (34, I (remZ a (16 : Int))), (33, VV.agg [VV.slice (VA.el 0 [] (0 : Int) 0) p.D.length c1, VV.slice (VA.el 1 [] (0 : Int) 0) p.T.length c2, VV.slice (VA.el 2 [] (0 : Int) 0) p.S.length c3]), (8, I (remZ b (16 : Int))), (7, I (remZ a (16 : Int))), (31, I (remZ b (16 : Int))), (30, I b), (29, VV.int IntKind.u8 b), (28, I (remZ a (16 : Int))), (27, I a), (26, VV.int IntKind.u8 a), (24, VV.bool false), (24, boV (greatB p_1 ((12 : Int)))), (23, VV.agg [VV.slice (VA.el 0 [] (0 : Int) 0) p.D.length c1, VV.slice (VA.el 1 [] (0 : Int) 0) p.T.length c2, VV.slice (VA.el 2 [] (0 : Int) 0) p.S.length c3]), (6, VV.bool false), (3, VV.ptr (VA.own (3) 0)), (0, VV.agg (pnV p c1 c2 c3)), (1, VV.int IntKind.u8 a), (2, VV.int IntKind.u8 b)] (VH.mk 8 (nsT7.zip (BT7 p c1 c2 c3 v d [v.fst - (1 : Int), v.fst, v.snd.fst, v.snd.fst + (1 : Int)] [d.fst - (1 : Int), d.fst, d.snd.fst, d.snd.fst + (1 : Int)]))) ((dsT 127).zip (VT 7 a' b' d.snd.snd (0 : Int))) ∧ (PnOk p ∧ (p.D.length < 8 ∧ p.T.length < 47) ∧ (sOk16 a' ∧ sOk16 b') ∧ ∀ (n : Int), Df p (vN a') (vN b') n ↔ d.fst ≤ n ∧ n ≤ d.snd.fst) ∧ Q (VRes.ret (VV.bool true))
 else False
 else False
 else Q (VRes.ret (VV.bool true))
 else Q (VRes.ret (VV.bool true))
 else Q (VRes.ret (VV.bool true))
 else bif decide ((difF p_3 (remZ a (16 : Int)) (remZ b (16 : Int))).snd.snd = (0 : Int)) then
 bif decide ((↑p.D.length : Int) < (8 : Int)) then
 bif decide ((↑p.T.length : Int) < (47 : Int)) then
 bif inK IntKind.i64 ((difF p_3 (remZ a (16 : Int)) (remZ b (16 : Int))).fst - (1 : Int)) then
 bif inK IntKind.i64 ((difF p_3 (remZ a (16 : Int)) (remZ b (16 : Int))).snd.fst + (1 : Int)) then
 ∃ m, bif m then
 FitP 0 (VH.mk (7) [(6, VB.vec 4 (fun j => List.take (1) (List.drop (j * (1)) [I ((difF p_3 (remZ a (16 : Int)) (remZ b (16 : Int))).fst - (1 : Int)), I (difF p_3 (remZ a (16 : Int)) (remZ b (16 : Int))).fst, I (difF p_3 (remZ a (16 : Int)) (remZ b (16 : Int))).snd.fst, I ((difF p_3 (remZ a (16 : Int)) (remZ b (16 : Int))).snd.fst + (1 : Int))])) (1) 3), (5, VB.cells [I (difF p_3 (remZ a (16 : Int)) (remZ b (16 : Int))).fst, I (difF p_3 (remZ a (16 : Int)) (remZ b (16 : Int))).snd.fst] 34), (5, VB.cells [I 0, I 0] 34), (4, VB.cells [I (valF p_2 (remZ a (16 : Int))).fst, I (valF p_2 (remZ a (16 : Int))).snd.fst] 34), (4, VB.cells [I 0, I 0] 34), (3, VB.cells [VV.slice (VA.el 0 [] (0 : Int) 0) p.D.length c1, VV.slice (VA.el 1 [] (0 : Int) 0) p.T.length c2, VV.slice (VA.el 2 [] (0 : Int) 0) p.S.length c3] 26), (0, arD p), (1, arT p), (2, arS p)]) [(129, I 0), (128, I (↑4 : Int)), (127, VV.sl (6) 4), (126, I ((difF p_3 (remZ a (16 : Int)) (remZ b (16 : Int))).snd.fst + (1 : Int))), (125, I (difF p_3 (remZ a (16 : Int)) (remZ b (16 : Int))).snd.fst), (124, VV.ptr (VA.own (5) (1))), (123, I (difF p_3 (remZ a (16 : Int)) (remZ b (16 : Int))).snd.fst), (122, VV.ptr (VA.own (5) (1))), (121, I (difF p_3 (remZ a (16 : Int)) (remZ b (16 : Int))).fst), (120, VV.ptr (VA.own (5) 0)), (119, I ((difF p_3 (remZ a (16 : Int)) (remZ b (16 : Int))).fst - (1 : Int))), (118, I (difF p_3 (remZ a (16 : Int)) (remZ b (16 : Int))).fst), (117, VV.ptr (VA.own (5) 0)), (116, VV.bool true), (116, VV.bool (decide ((↑p.T.length : Int) < (47 : Int)))), (115, VV.bool (decide ((↑p.T.length : Int) < (47 : Int)))), (111, VV.bool true), (114, I (↑p.T.length : Int)), (111, VV.bool true), (113, VV.slice (VA.el 1 [] (0 : Int) 0) p.T.length c2), (111, VV.bool true), (112, VV.ptr (VA.own (3) (1))), (111, VV.bool true), (111, VV.bool (decide ((↑p.D.length : Int) < (8 : Int)))), (110, VV.bool (decide ((↑p.D.length : Int) < (8 : Int)))), (109, VV.bool (decide ((↑p.D.length : Int) < (8 : Int)))), (105, VV.bool true), (108, I (↑p.D.length : Int)), (105, VV.bool true), (107, VV.slice (VA.el 0 [] (0 : Int) 0) p.D.length c1), (105, VV.bool true), (106, VV.ptr (VA.own (3) 0)), (105, VV.bool true), (105, VV.bool (decide ((difF p_3 (remZ a (16 : Int)) (remZ b (16 : Int))).snd.snd = (0 : Int)))), (104, VV.bool (decide ((difF p_3 (remZ a (16 : Int)) (remZ b (16 : Int))).snd.snd = (0 : Int)))), (103, I (difF p_3 (remZ a (16 : Int)) (remZ b (16 : Int))).snd.snd), (52, VV.bool false), (52, VV.bool false), (51, udf), (47, VV.bool false), (50, udf), (47, VV.bool false), (49, udf), (47, VV.bool false), (48, udf), (47, VV.bool false), (47, VV.bool (decide ((valF p_2 (remZ a (16 : Int))).snd.snd = (0 : Int)))), (46, VV.bool (decide ((valF p_2 (remZ a (16 : Int))).snd.snd = (0 : Int)))), (45, I (valF p_2 (remZ a (16 : Int))).snd.snd), (12, I (difF p_3 (remZ a (16 : Int)) (remZ b (16 : Int))).snd.snd), (11, VV.ptr (VA.own (5) 0)), (44, I (difF p_3 (remZ a (16 : Int)) (remZ b (16 : Int))).snd.snd), (43, VV.agg [I (difF p_3 (remZ a (16 : Int)) (remZ b (16 : Int))).fst, I (difF p_3 (remZ a (16 : Int)) (remZ b (16 : Int))).snd.fst]), (38, VV.tup [VV.agg [I (difF p_3 (remZ a (16 : Int)) (remZ b (16 : Int))).fst, I (difF p_3 (remZ a (16 : Int)) (remZ b (16 : Int))).snd.fst], I (difF p_3 (remZ a (16 : Int)) (remZ b (16 : Int))).snd.snd]), (42, spV (difF p_3 (remZ a (16 : Int)) (remZ b (16 : Int)))), (41, I (remZ b (16 : Int))), (40, I (remZ a (16 : Int))), (39, VV.agg [VV.slice (VA.el 0 [] (0 : Int) 0) p.D.length c1, VV.slice (VA.el 1 [] (0 : Int) 0) p.T.length c2, VV.slice (VA.el 2 [] (0 : Int) 0) p.S.length c3]), (10, I (valF p_2 (remZ a (16 : Int))).snd.snd), (9, VV.ptr (VA.own (4) 0)), (37, I (valF p_2 (remZ a (16 : Int))).snd.snd), (36, VV.agg [I (valF p_2 (remZ a (16 : Int))).fst, I (valF p_2 (remZ a (16 : Int))).snd.fst]), (32, VV.tup [VV.agg [I (valF p_2 (remZ a (16 : Int))).fst, I (valF p_2 (remZ a (16 : Int))).snd.fst], I (valF p_2 (remZ a (16 : Int))).snd.snd]), (35, spV (valF p_2 (remZ a (16 : Int)))), (34, I (remZ a (16 : Int))), (33, VV.agg [VV.slice (VA.el 0 [] (0 : Int) 0) p.D.length c1, VV.slice (VA.el 1 [] (0 : Int) 0) p.T.length c2, VV.slice (VA.el 2 [] (0 : Int) 0) p.S.length c3]), (8, I (remZ b (16 : Int))), (7, I (remZ a (16 : Int))), (31, I (remZ b (16 : Int))), (30, I b), (29, VV.int IntKind.u8 b), (28, I (remZ a (16 : Int))), (27, I a), (26, VV.int IntKind.u8 a), (24, VV.bool false), (24, boV (greatB p_1 ((12 : Int)))), (23, VV.agg [VV.slice (VA.el 0 [] (0 : Int) 0) p.D.length c1, VV.slice (VA.el 1 [] (0 : Int) 0) p.T.length c2, VV.slice (VA.el 2 [] (0 : Int) 0) p.S.length c3]), (6, VV.bool false), (3, VV.ptr (VA.own (3) 0)), (0, VV.agg (pnV p c1 c2 c3)), (1, VV.int IntKind.u8 a), (2, VV.int IntKind.u8 b)] (VH.mk 7 (nsT6.zip (BT p c1 c2 c3 v d [d.fst - (1 : Int), d.fst, d.snd.fst, d.snd.fst + (1 : Int)]))) ((dsT 127).zip (VT 6 a' b' d.snd.snd (0 : Int))) ∧ (PnOk p ∧ (p.D.length < 8 ∧ p.T.length < 47) ∧ (sOk16 a' ∧ sOk16 b') ∧ ∀ (n : Int), Df p (vN a') (vN b') n ↔ d.fst ≤ n ∧ n ≤ d.snd.fst) ∧ Q (VRes.ret (VV.bool true))
 else FitP 0 (VH.mk (7) [(6, VB.vec 4 (fun j => List.take (1) (List.drop (j * (1)) [I ((difF p_3 (remZ a (16 : Int)) (remZ b (16 : Int))).fst - (1 : Int)), I (difF p_3 (remZ a (16 : Int)) (remZ b (16 : Int))).fst, I (difF p_3 (remZ a (16 : Int)) (remZ b (16 : Int))).snd.fst, I ((difF p_3 (remZ a (16 : Int)) (remZ b (16 : Int))).snd.fst + (1 : Int))])) (1) 3), (5, VB.cells [I (difF p_3 (remZ a (16 : Int)) (remZ b (16 : Int))).fst, I (difF p_3 (remZ a (16 : Int)) (remZ b (16 : Int))).snd.fst] 34), (5, VB.cells [I 0, I 0] 34), (4, VB.cells [I (valF p_2 (remZ a (16 : Int))).fst, I (valF p_2 (remZ a (16 : Int))).snd.fst] 34), (4, VB.cells [I 0, I 0] 34), (3, VB.cells [VV.slice (VA.el 0 [] (0 : Int) 0) p.D.length c1, VV.slice (VA.el 1 [] (0 : Int) 0) p.T.length c2, VV.slice (VA.el 2 [] (0 : Int) 0) p.S.length c3] 26), (0, arD p), (1, arT p), (2, arS p)]) [(129, I 0), (128, I (↑4 : Int)), (127, VV.sl (6) 4), (126, I ((difF p_3 (remZ a (16 : Int)) (remZ b (16 : Int))).snd.fst + (1 : Int))), (125, I (difF p_3 (remZ a (16 : Int)) (remZ b (16 : Int))).snd.fst), (124, VV.ptr (VA.own (5) (1))), (123, I (difF p_3 (remZ a (16 : Int)) (remZ b (16 : Int))).snd.fst), (122, VV.ptr (VA.own (5) (1))), (121, I (difF p_3 (remZ a (16 : Int)) (remZ b (16 : Int))).fst), (120, VV.ptr (VA.own (5) 0)), (119, I ((difF p_3 (remZ a (16 : Int)) (remZ b (16 : Int))).fst - (1 : Int))), (118, I (difF p_3 (remZ a (16 : Int)) (remZ b (16 : Int))).fst), (117, VV.ptr (VA.own (5) 0)), (116, VV.bool true), (116, VV.bool (decide ((↑p.T.length : Int) < (47 : Int)))), (115, VV.bool (decide ((↑p.T.length : Int) < (47 : Int)))), (111, VV.bool true), (114, I (↑p.T.length : Int)), (111, VV.bool true), (113, VV.slice (VA.el 1 [] (0 : Int) 0) p.T.length c2), (111, VV.bool true), (112, VV.ptr (VA.own (3) (1))), (111, VV.bool true), (111, VV.bool (decide ((↑p.D.length : Int) < (8 : Int)))), (110, VV.bool (decide ((↑p.D.length : Int) < (8 : Int)))), (109, VV.bool (decide ((↑p.D.length : Int) < (8 : Int)))), (105, VV.bool true), (108, I (↑p.D.length : Int)), (105, VV.bool true), (107, VV.slice (VA.el 0 [] (0 : Int) 0) p.D.length c1), (105, VV.bool true), (106, VV.ptr (VA.own (3) 0)), (105, VV.bool true), (105, VV.bool (decide ((difF p_3 (remZ a (16 : Int)) (remZ b (16 : Int))).snd.snd = (0 : Int)))), (104, VV.bool (decide ((difF p_3 (remZ a (16 : Int)) (remZ b (16 : Int))).snd.snd = (0 : Int)))), (103, I (difF p_3 (remZ a (16 : Int)) (remZ b (16 : Int))).snd.snd), (52, VV.bool false), (52, VV.bool false), (51, udf), (47, VV.bool false), (50, udf), (47, VV.bool false), (49, udf), (47, VV.bool false), (48, udf), (47, VV.bool false), (47, VV.bool (decide ((valF p_2 (remZ a (16 : Int))).snd.snd = (0 : Int)))), (46, VV.bool (decide ((valF p_2 (remZ a (16 : Int))).snd.snd = (0 : Int)))), (45, I (valF p_2 (remZ a (16 : Int))).snd.snd), (12, I (difF p_3 (remZ a (16 : Int)) (remZ b (16 : Int))).snd.snd), (11, VV.ptr (VA.own (5) 0)), (44, I (difF p_3 (remZ a (16 : Int)) (remZ b (16 : Int))).snd.snd), (43, VV.agg [I (difF p_3 (remZ a (16 : Int)) (remZ b (16 : Int))).fst, I (difF p_3 (remZ a (16 : Int)) (remZ b (16 : Int))).snd.fst]), (38, VV.tup [VV.agg [I (difF p_3 (remZ a (16 : Int)) (remZ b (16 : Int))).fst, I (difF p_3 (remZ a (16 : Int)) (remZ b (16 : Int))).snd.fst], I (difF p_3 (remZ a (16 : Int)) (remZ b (16 : Int))).snd.snd]), (42, spV (difF p_3 (remZ a (16 : Int)) (remZ b (16 : Int)))), (41, I (remZ b (16 : Int))), (40, I (remZ a (16 : Int))), (39, VV.agg [VV.slice (VA.el 0 [] (0 : Int) 0) p.D.length c1, VV.slice (VA.el 1 [] (0 : Int) 0) p.T.length c2, VV.slice (VA.el 2 [] (0 : Int) 0) p.S.length c3]), (10, I (valF p_2 (remZ a (16 : Int))).snd.snd), (9, VV.ptr (VA.own (4) 0)), (37, I (valF p_2 (remZ a (16 : Int))).snd.snd), (36, VV.agg [I (valF p_2 (remZ a (16 : Int))).fst, I (valF p_2 (remZ a (16 : Int))).snd.fst]), (32, VV.tup [VV.agg [I (valF p_2 (remZ a (16 : Int))).fst, I (valF p_2 (remZ a (16 : Int))).snd.fst], I (valF p_2 (remZ a (16 : Int))).snd.snd]), (35, spV (valF p_2 (remZ a (16 : Int)))), (34, I (remZ a (16 : Int))), (33, VV.agg [VV.slice (VA.el 0 [] (0 : Int) 0) p.D.length c1, VV.slice (VA.el 1 [] (0 : Int) 0) p.T.length c2, VV.slice (VA.el 2 [] (0 : Int) 0) p.S.length c3]), (8, I (remZ b (16 : Int))), (7, I (remZ a (16 : Int))), (31, I (remZ b (16 : Int))), (30, I b), (29, VV.int IntKind.u8 b), (28, I (remZ a (16 : Int))), (27, I a), (26, VV.int IntKind.u8 a), (24, VV.bool false), (24, boV (greatB p_1 ((12 : Int)))), (23, VV.agg [VV.slice (VA.el 0 [] (0 : Int) 0) p.D.length c1, VV.slice (VA.el 1 [] (0 : Int) 0) p.T.length c2, VV.slice (VA.el 2 [] (0 : Int) 0) p.S.length c3]), (6, VV.bool false), (3, VV.ptr (VA.own (3) 0)), (0, VV.agg (pnV p c1 c2 c3)), (1, VV.int IntKind.u8 a), (2, VV.int IntKind.u8 b)] (VH.mk 8 (nsT7.zip (BT7 p c1 c2 c3 v d [v.fst - (1 : Int), v.fst, v.snd.fst, v.snd.fst + (1 : Int)] [d.fst - (1 : Int), d.fst, d.snd.fst, d.snd.fst + (1 : Int)]))) ((dsT 127).zip (VT 7 a' b' d.snd.snd (0 : Int))) ∧ (PnOk p ∧ (p.D.length < 8 ∧ p.T.length < 47) ∧ (sOk16 a' ∧ sOk16 b') ∧ ∀ (n : Int), Df p (vN a') (vN b') n ↔ d.fst ≤ n ∧ n ≤ d.snd.fst) ∧ Q (VRes.ret (VV.bool true))
 else False
 else False
 else Q (VRes.ret (VV.bool true))
 else Q (VRes.ret (VV.bool true))
 else Q (VRes.ret (VV.bool true))
 else False
 else False) := by kernel_rfl


end Go.Sx.Nos

/- nose: NoseTight. -/

namespace Go.Sx.Nos
open Go Go.Sx Go.Proofs
set_option maxRecDepth 1000000

theorem cat_app {n m : Nat} {G0 f1 f2 gg : Nat → List VV} (h1 : ∀ j, j < n → f1 j = gg j) (h2 : ∀ j, j < m → f2 j = gg (n + j)) : ∀ j, j < n + m → catG (0 + n) (catG 0 G0 f1) f2 j = gg j := by
  intro j hj
  unfold catG
  by_cases h : j < n
  · rw [blt_t (by omega), blt_f (by omega)]
    exact h1 j h
  · rw [blt_f (by omega)]
    rw [show j - (0 + n) = j - n by omega]
    show f2 (j - n) = _
    rw [h2 _ (by omega)]
    congr 1; omega

theorem sG_l {S R : List Sd} {j : Nat} (h : j < S.length) : sG S j = sG (S ++ R) j := by
  unfold sG; rw [List.getD_eq_getElem?_getD, List.getD_eq_getElem?_getD, List.getElem?_append_left h]
theorem sG_r {S R : List Sd} {j : Nat} : sG (S ++ R) (S.length + j) = sG R j := by
  unfold sG; rw [List.getD_eq_getElem?_getD, List.getD_eq_getElem?_getD, List.getElem?_append_right (by omega), Nat.add_sub_cancel_left]
theorem tG_l {S R : List Ts} {j : Nat} (h : j < S.length) : tG S j = tG (S ++ R) j := by
  unfold tG; rw [List.getD_eq_getElem?_getD, List.getD_eq_getElem?_getD, List.getElem?_append_left h]
theorem tG_r {S R : List Ts} {j : Nat} : tG (S ++ R) (S.length + j) = tG R j := by
  unfold tG; rw [List.getD_eq_getElem?_getD, List.getD_eq_getElem?_getD, List.getElem?_append_right (by omega), Nat.add_sub_cancel_left]
theorem dG_l {S R : List Int} {j : Nat} (h : j < S.length) : dG S j = dG (S ++ R) j := by
  unfold dG; rw [List.getD_eq_getElem?_getD, List.getD_eq_getElem?_getD, List.getElem?_append_left h]
theorem dG_r {S R : List Int} {j : Nat} : dG (S ++ R) (S.length + j) = dG R j := by
  unfold dG; rw [List.getD_eq_getElem?_getD, List.getD_eq_getElem?_getD, List.getElem?_append_right (by omega), Nat.add_sub_cancel_left]

section
variable {p : Pn} {c1 c2 c3 : Nat}

/-- A list with more behind it, in the heap. -/
theorem isS_app {h : VH} {m : Nat} {S R : List Sd} {G0 f2 : Nat → List VV} {t : TypeId} (hm : h.at m = .vec (0 + S.length + R.length) (catG (0 + S.length) (catG 0 G0 fun j => (fun (_ : List Int) (i : Int) => sG S i.toNat) [] ((0 : Int) + (j : Int))) f2) 3 t) (h2 : ∀ j, j < R.length → f2 j = sG R j) :
    isList h (.sl m (0 + S.length + R.length)) (S ++ R).length 3 (sG (S ++ R)) := by
  refine ⟨by rw [List.length_append]; omega, _, _, hm, fun j hj => ?_⟩
  rw [List.length_append] at hj
  refine cat_app (n := S.length) (m := R.length) (gg := sG (S ++ R)) (fun j hj => ?_) (fun j hj => ?_) j hj
  · show sG S ((0 : Int) + (j : Int)).toNat = _
    rw [zero_toNat]; exact sG_l hj
  · rw [h2 j hj]; exact sG_r.symm
theorem isT_app {h : VH} {m : Nat} {S R : List Ts} {G0 f2 : Nat → List VV} {t : TypeId} (hm : h.at m = .vec (0 + S.length + R.length) (catG (0 + S.length) (catG 0 G0 fun j => (fun (_ : List Int) (i : Int) => tG S i.toNat) [] ((0 : Int) + (j : Int))) f2) 5 t) (h2 : ∀ j, j < R.length → f2 j = tG R j) :
    isList h (.sl m (0 + S.length + R.length)) (S ++ R).length 5 (tG (S ++ R)) := by
  refine ⟨by rw [List.length_append]; omega, _, _, hm, fun j hj => ?_⟩
  rw [List.length_append] at hj
  refine cat_app (n := S.length) (m := R.length) (gg := tG (S ++ R)) (fun j hj => ?_) (fun j hj => ?_) j hj
  · show tG S ((0 : Int) + (j : Int)).toNat = _
    rw [zero_toNat]; exact tG_l hj
  · rw [h2 j hj]; exact tG_r.symm
theorem isD_app {h : VH} {m : Nat} {S R : List Int} {G0 f2 : Nat → List VV} {t : TypeId} (hm : h.at m = .vec (0 + S.length + R.length) (catG (0 + S.length) (catG 0 G0 fun j => (fun (_ : List Int) (i : Int) => dG S i.toNat) [] ((0 : Int) + (j : Int))) f2) 1 t) (h2 : ∀ j, j < R.length → f2 j = dG R j) :
    isList h (.sl m (0 + S.length + R.length)) (S ++ R).length 1 (dG (S ++ R)) := by
  refine ⟨by rw [List.length_append]; omega, _, _, hm, fun j hj => ?_⟩
  rw [List.length_append] at hj
  refine cat_app (n := S.length) (m := R.length) (gg := dG (S ++ R)) (fun j hj => ?_) (fun j hj => ?_) j hj
  · show dG S ((0 : Int) + (j : Int)).toNat = _
    rw [zero_toNat]; exact dG_l hj
  · rw [h2 j hj]; exact dG_r.symm

theorem isD_own {h : VH} (g0 : h.at 0 = arD p) : isList h (sD p c1) p.D.length 1 (dG p.D) := by
  refine ⟨rfl, by decide, _, _, g0, fun j hj => ⟨⟨rfl, by omega, by omega⟩, ?_⟩⟩
  show dG p.D ((0 : Int) + (j : Int)).toNat = _
  rw [zero_toNat]
theorem isT_own {h : VH} (g0 : h.at 1 = arT p) : isList h (sT1 p c2) p.T.length 5 (tG p.T) := by
  refine ⟨rfl, by decide, _, _, g0, fun j hj => ⟨⟨rfl, by omega, by omega⟩, ?_⟩⟩
  show tG p.T ((0 : Int) + (j : Int)).toNat = _
  rw [zero_toNat]
theorem isS_own {h : VH} (g0 : h.at 2 = arS p) : isList h (sS p c3) p.S.length 3 (sG p.S) := by
  refine ⟨rfl, by decide, _, _, g0, fun j hj => ⟨⟨rfl, by omega, by omega⟩, ?_⟩⟩
  show sG p.S ((0 : Int) + (j : Int)).toNat = _
  rw [zero_toNat]

/-- Its elements may be taken on. -/
theorem tk_D : ∀ j : Nat, j < p.D.length → (([] : List Int) = [] ∧ (0 : Int) ≤ (0 : Int) + (j : Int) ∧ (0 : Int) + (j : Int) < (p.D.length : Int)) ∧ ((fun (_ : List Int) (i : Int) => dG p.D i.toNat) [] ((0 : Int) + (j : Int))).all VV.one = true := fun j hj => ⟨⟨rfl, by omega, by omega⟩, rfl⟩
theorem tk_T : ∀ j : Nat, j < p.T.length → (([] : List Int) = [] ∧ (0 : Int) ≤ (0 : Int) + (j : Int) ∧ (0 : Int) + (j : Int) < (p.T.length : Int)) ∧ ((fun (_ : List Int) (i : Int) => tG p.T i.toNat) [] ((0 : Int) + (j : Int))).all VV.one = true := fun j hj => ⟨⟨rfl, by omega, by omega⟩, rfl⟩
theorem tk_S : ∀ j : Nat, j < p.S.length → (([] : List Int) = [] ∧ (0 : Int) ≤ (0 : Int) + (j : Int) ∧ (0 : Int) + (j : Int) < (p.S.length : Int)) ∧ ((fun (_ : List Int) (i : Int) => sG p.S i.toNat) [] ((0 : Int) + (j : Int))).all VV.one = true := fun j hj => ⟨⟨rfl, by omega, by omega⟩, rfl⟩

theorem room8 {n : Nat} (h : n ≤ 1000) : roomB n 8 = true := by
  unfold roomB
  simp only [Bool.and_eq_true, Nat.ble_eq]
  omega

theorem fitB_iff {p : Pn} {c : Prop} [Decidable c] (h : fitF p ↔ c) : fitB p = decide c := by
  by_cases hc : c
  · rw [decide_eq_true hc]; exact fitB_t (h.2 hc)
  · rw [decide_eq_false hc]; exact fitB_f (fun hf => hc (h.1 hf))

variable {v d : Int × Int × Int} {l l' : List Int} {a b e : Int}

/-- A round's test: fits just if the number is in the span. -/
theorem cond_has {f : Bool} {x n y : Int} {A B : Prop} (hf : f = decide (x ≤ n ∧ n ≤ y)) (hB : B) : (bif decide (x ≤ n) then (bif !(f == decide (n ≤ y)) then A else B) else (bif !(f == false) then A else B)) := by
  by_cases h1 : x ≤ n
  · rw [decide_eq_true h1]
    show (bif !(f == decide (n ≤ y)) then A else B)
    have : f = decide (n ≤ y) := by rw [hf]; simp [h1]
    rw [this, beq_self_eq_true]; exact hB
  · rw [decide_eq_false h1]
    show (bif !(f == false) then A else B)
    have : f = false := by rw [hf]; simp [h1]
    rw [this]; exact hB

theorem lT0_ok : LSound Try.prog true (.block 0 (.loop (loopB 0 (bodyOf Try.prog 5)))) 181 (lT0 p c1 c2 c3 v d l a b e) := by
  by_cases hh : PnOk p ∧ p.S.length < 16 ∧ sOk16 a ∧ ∀ n, Df p (vN a) zeroN n ↔ v.1 ≤ n ∧ n ≤ v.2.1
  · obtain ⟨hp, hl, ha, hd⟩ := hh
    refine loop_row hmix (tab_good hmix (l := [fisT]) (fun x hx => by simp only [List.mem_singleton] at hx; subst hx; exact fisT_ok) (unroll := 10) 20) (un := 10) (ds := dsT 63) (ns := nsT6) (nx := 7) (fun k : Nat => VT 6 a b e k) (fun _ => BT p c1 c2 c3 v d l) (fun k => k ≤ 4) (fun k => 4 - k)
      (fun _ ex vs bs => ex = .exit 0 ∧ vs = VT 6 a b e 4 ∧ bs = BT p c1 c2 c3 v d l) noL_ok ?_ ?_
    · intro k hk
      refine cast (t0_ev p c1 c2 c3 v d l a b e k _).symm ?_
      by_cases h : k < 4
      · have go : RoundQ (fun k : Nat => VT 6 a b e k) (fun _ => BT p c1 c2 c3 v d l) (fun k => k ≤ 4) (fun k => 4 - k) (fun _ ex vs bs => ex = .exit 0 ∧ vs = VT 6 a b e 4 ∧ bs = BT p c1 c2 c3 v d l) k .normal (VT 6 a b e (k + 1)) (BT p c1 c2 c3 v d l) :=
          ⟨k + 1, by omega, by dsimp only; omega, vst (V := VT 6 a b e) k, fitBs_refl _, fun _ _ _ ho => ho⟩
        refine cond_dk (by omega) (cond_dk ⟨by omega, by omega⟩ ?_)
        rw [Int.toNat_natCast]
        generalize l.getD k 0 = n
        refine cond_d (fun _ => cond_r (by omega) go) (fun h1 => cond_d (fun _ => cond_r (by omega) go) (fun h2 => ⟨tk_S, cond_k (room24 (by omega)) (cond_k (beq_t rfl) (cond_k (room24 (by omega)) ⟨stP p ⟨a, n, n⟩, ⟨isD_own rfl, isT_own rfl, isS_app (R := [⟨a, n, n⟩]) rfl (fun j hj => ?_)⟩, trivial, ?_⟩))⟩))
        · match j, hj with
          | 0, _ => rfl
        · have hn : -100000 ≤ n ∧ n ≤ 100000 := by omega
          have hf : fisF (stP p ⟨a, n, n⟩) = (decide (v.1 ≤ n ∧ n ≤ v.2.1), 0) := by
            unfold fisF
            rw [if_pos (st_ok hp hl ha hn), fitB_iff ((st_fit hp hl ha hn).trans (hd n))]
          rw [hf]
          exact cond_nd (fun hc => absurd rfl hc) (fun _ => cond_has rfl (cond_r (by omega) go))
      · obtain rfl : k = 4 := by omega
        exact cond_d (fun h => by omega) (fun _ => ⟨rfl, rfl, rfl⟩)
    · rintro lock tt h K ⟨hf, _, hK⟩
      refine ⟨0, hf, Nat.zero_le _, ?_⟩
      rintro ex vs bs ⟨rfl, rfl, rfl⟩
      exact hK
  · rintro lock tt h K ⟨_, hc, _⟩
    exact (hh hc).elim
theorem lT2_ok : LSound Try.prog true (.block 2 (.loop (loopB 2 (bodyOf Try.prog 5)))) 181 (lT2 p c1 c2 c3 v d l a b e) := by
  by_cases hh : PnOk p ∧ (p.D.length < 8 ∧ p.T.length < 47) ∧ (sOk16 a ∧ sOk16 b) ∧ ∀ n, Df p (vN a) (vN b) n ↔ d.1 ≤ n ∧ n ≤ d.2.1
  · obtain ⟨hp, ⟨hl, hm⟩, ⟨ha, hb⟩, hd⟩ := hh
    refine loop_row hmix (tab_good hmix (l := [fisT]) (fun x hx => by simp only [List.mem_singleton] at hx; subst hx; exact fisT_ok) (unroll := 10) 20) (un := 10) (ds := dsT 127) (ns := nsT6) (nx := 7) (fun k : Nat => VT 6 a b e k) (fun _ => BT p c1 c2 c3 v d l) (fun k => k ≤ 4) (fun k => 4 - k)
      (fun _ ex vs bs => ex = .exit 2 ∧ vs = VT 6 a b e 4 ∧ bs = BT p c1 c2 c3 v d l) noL_ok ?_ ?_
    · intro k hk
      refine cast (t2_ev p c1 c2 c3 v d l a b e k _).symm ?_
      by_cases h : k < 4
      · have go : RoundQ (fun k : Nat => VT 6 a b e k) (fun _ => BT p c1 c2 c3 v d l) (fun k => k ≤ 4) (fun k => 4 - k) (fun _ ex vs bs => ex = .exit 2 ∧ vs = VT 6 a b e 4 ∧ bs = BT p c1 c2 c3 v d l) k .normal (VT 6 a b e (k + 1)) (BT p c1 c2 c3 v d l) :=
          ⟨k + 1, by omega, by dsimp only; omega, vst (V := VT 6 a b e) k, fitBs_refl _, fun _ _ _ ho => ho⟩
        refine cond_dk (by omega) (cond_dk ⟨by omega, by omega⟩ ?_)
        rw [Int.toNat_natCast]
        generalize l.getD k 0 = n
        refine cond_d (fun _ => cond_r (by omega) go) (fun h1 => cond_d (fun _ => cond_r (by omega) go) (fun h2 => ⟨tk_D, cond_k (room8 (by omega)) (cond_k (beq_t rfl) (cond_k (room8 (by omega)) ⟨tk_T, cond_k (room40 (by omega)) (cond_k (beq_t rfl) (cond_k (room40 (by omega)) ⟨jdP p a b n, ⟨isD_app (R := [0]) rfl (fun j hj => ?_), isT_app (R := [⟨p.D.length, a, 0, n, 0⟩, ⟨p.D.length, b, 0, 0, 0⟩]) rfl (fun j hj => ?_), isS_own rfl⟩, trivial, ?_⟩))⟩))⟩))
        · match j, hj with
          | 0, _ => rfl
        · match j, hj with
          | 0, _ => rfl
          | 1, _ => rfl
        · have hn : -100000 ≤ n ∧ n ≤ 100000 := by omega
          have hf : fisF (jdP p a b n) = (decide (d.1 ≤ n ∧ n ≤ d.2.1), 0) := by
            unfold fisF
            rw [if_pos (jd_ok hp hl hm ha hb hn), fitB_iff ((jd_fit hp hl hm ha hb hn).trans (hd n))]
          rw [hf]
          exact cond_nd (fun hc => absurd rfl hc) (fun _ => cond_has rfl (cond_r (by omega) go))
      · obtain rfl : k = 4 := by omega
        exact cond_d (fun h => by omega) (fun _ => ⟨rfl, rfl, rfl⟩)
    · rintro lock tt h K ⟨hf, _, hK⟩
      refine ⟨0, hf, Nat.zero_le _, ?_⟩
      rintro ex vs bs ⟨rfl, rfl, rfl⟩
      exact hK
  · rintro lock tt h K ⟨_, hc, _⟩
    exact (hh hc).elim

theorem lT27_ok : LSound Try.prog true (.block 2 (.loop (loopB 2 (bodyOf Try.prog 5)))) 181 (lT27 p c1 c2 c3 v d l l' a b e) := by
  by_cases hh : PnOk p ∧ (p.D.length < 8 ∧ p.T.length < 47) ∧ (sOk16 a ∧ sOk16 b) ∧ ∀ n, Df p (vN a) (vN b) n ↔ d.1 ≤ n ∧ n ≤ d.2.1
  · obtain ⟨hp, ⟨hl, hm⟩, ⟨ha, hb⟩, hd⟩ := hh
    refine loop_row hmix (tab_good hmix (l := [fisT]) (fun x hx => by simp only [List.mem_singleton] at hx; subst hx; exact fisT_ok) (unroll := 10) 20) (un := 10) (ds := dsT 127) (ns := nsT7) (nx := 8) (fun k : Nat => VT 7 a b e k) (fun _ => BT7 p c1 c2 c3 v d l l') (fun k => k ≤ 4) (fun k => 4 - k)
      (fun _ ex vs bs => ex = .exit 2 ∧ vs = VT 7 a b e 4 ∧ bs = BT7 p c1 c2 c3 v d l l') noL_ok ?_ ?_
    · intro k hk
      refine cast (t27_ev p c1 c2 c3 v d l l' a b e k _).symm ?_
      by_cases h : k < 4
      · have go : RoundQ (fun k : Nat => VT 7 a b e k) (fun _ => BT7 p c1 c2 c3 v d l l') (fun k => k ≤ 4) (fun k => 4 - k) (fun _ ex vs bs => ex = .exit 2 ∧ vs = VT 7 a b e 4 ∧ bs = BT7 p c1 c2 c3 v d l l') k .normal (VT 7 a b e (k + 1)) (BT7 p c1 c2 c3 v d l l') :=
          ⟨k + 1, by omega, by dsimp only; omega, vst (V := VT 7 a b e) k, fitBs_refl _, fun _ _ _ ho => ho⟩
        refine cond_dk (by omega) (cond_dk ⟨by omega, by omega⟩ ?_)
        rw [Int.toNat_natCast]
        generalize l'.getD k 0 = n
        refine cond_d (fun _ => cond_r (by omega) go) (fun h1 => cond_d (fun _ => cond_r (by omega) go) (fun h2 => ⟨tk_D, cond_k (room8 (by omega)) (cond_k (beq_t rfl) (cond_k (room8 (by omega)) ⟨tk_T, cond_k (room40 (by omega)) (cond_k (beq_t rfl) (cond_k (room40 (by omega)) ⟨jdP p a b n, ⟨isD_app (R := [0]) rfl (fun j hj => ?_), isT_app (R := [⟨p.D.length, a, 0, n, 0⟩, ⟨p.D.length, b, 0, 0, 0⟩]) rfl (fun j hj => ?_), isS_own rfl⟩, trivial, ?_⟩))⟩))⟩))
        · match j, hj with
          | 0, _ => rfl
        · match j, hj with
          | 0, _ => rfl
          | 1, _ => rfl
        · have hn : -100000 ≤ n ∧ n ≤ 100000 := by omega
          have hf : fisF (jdP p a b n) = (decide (d.1 ≤ n ∧ n ≤ d.2.1), 0) := by
            unfold fisF
            rw [if_pos (jd_ok hp hl hm ha hb hn), fitB_iff ((jd_fit hp hl hm ha hb hn).trans (hd n))]
          rw [hf]
          exact cond_nd (fun hc => absurd rfl hc) (fun _ => cond_has rfl (cond_r (by omega) go))
      · obtain rfl : k = 4 := by omega
        exact cond_d (fun h => by omega) (fun _ => ⟨rfl, rfl, rfl⟩)
    · rintro lock tt h K ⟨hf, _, hK⟩
      refine ⟨0, hf, Nat.zero_le _, ?_⟩
      rintro ex vs bs ⟨rfl, rfl, rfl⟩
      exact hK
  · rintro lock tt h K ⟨_, hc, _⟩
    exact (hh hc).elim

theorem orL_ok {pl : Bool} {cd : Code} {n : Nat} {A B : LT} (hA : LSound Try.prog pl cd n A) (hB : LSound Try.prog pl cd n B) : LSound Try.prog pl cd n (orL A B) := by
  rintro lock t h K ⟨m, hm⟩
  cases m with
  | true => exact hA lock t h K hm
  | false => exact hB lock t h K hm

theorem tgL_ok : LoopsOk Try.prog 5 (tgL p c1 c2 c3 v d a b) := by
  intro x hx
  simp only [tgL, List.mem_cons, List.not_mem_nil, or_false] at hx
  rcases hx with rfl | rfl
  · exact ⟨by kernel_rfl, lT0_ok⟩
  · exact ⟨by kernel_rfl, orL_ok lT2_ok lT27_ok⟩

theorem gavd_ok : ∀ x ∈ [greatT, alvT, valT, difT], SpOk Try.prog x.1 x.2 := fun x hx => by
  simp only [List.mem_cons, List.not_mem_nil, or_false] at hx
  rcases hx with rfl | rfl | rfl | rfl
  · exact greatT_ok
  · exact alvT_ok
  · exact valT_ok
  · exact difT_ok

theorem fit4 {x y : Int} : ∀ k, k < 4 → (fun j => List.take 1 (List.drop (j * 1) [I (x - 1), I x, I y, I (y + 1)])) k = dG [x - 1, x, y, y + 1] k := fun k hk => by
  match k, hk with
  | 0, _ => rfl
  | 1, _ => rfl
  | 2, _ => rfl
  | 3, _ => rfl

theorem tight_v (ha : 0 ≤ a ∧ a ≤ 255) (hb : 0 ≤ b ∧ b ≤ 255) : ∃ h', CallsV Try.prog 5 [.agg (pnV p c1 c2 c3), .int .u8 a, .int .u8 b] (pnH p) (.ret (.bool true)) h' := by
  have hi := rem16 ha.1
  have hk := rem16 hb.1
  have ni := n64_16 hi
  have nk := n64_16 hk
  obtain ⟨v, hv⟩ : ∃ v, v = valF p (remZ a 16) := ⟨_, rfl⟩
  obtain ⟨d, hd⟩ : ∃ d, d = difF p (remZ a 16) (remZ b 16) := ⟨_, rfl⟩
  obtain ⟨r, h', rfl, hc⟩ := of_callN (callL_good hmix (tabs_ok gavd_ok) (tgL_ok (p := p) (c1 := c1) (c2 := c2) (c3 := c3) (v := v) (d := d) (a := remZ a 16) (b := remZ b 16)) (un := 10) 20) (f := 5)
    (args := [.agg (pnV p c1 c2 c3), .int .u8 a, .int .u8 b]) (h := pnH p) (K := fun r _ => r = .ret (.bool true))
    (by
      refine cast (tight_ev p c1 c2 c3 v d a b (remZ a 16) (remZ b 16) _).symm ?_
      have vin : (-66000000 ≤ v.1 ∧ v.1 ≤ 66000000) ∧ (-66000000 ≤ v.2.1 ∧ v.2.1 ≤ 66000000) := by rw [hv, val_in hi]; exact btF_in _ _ _
      have din : (-66000000 ≤ d.1 ∧ d.1 ≤ 66000000) ∧ (-66000000 ≤ d.2.1 ∧ d.2.1 ≤ 66000000) := by rw [hd, dif_in hi hk]; exact btF_in _ _ _
      have vok : v.2.2 = 0 → PnOk p ∧ ∀ n, Df p (vN (remZ a 16)) zeroN n ↔ v.1 ≤ n ∧ n ≤ v.2.1 := fun h => by
        rw [hv, val_in hi] at h ⊢
        obtain ⟨h1, _, _, _, _, h2⟩ := bt_ok h
        exact ⟨h1, h2⟩
      have dok : d.2.2 = 0 → PnOk p ∧ ∀ n, Df p (vN (remZ a 16)) (vN (remZ b 16)) n ↔ d.1 ≤ n ∧ n ≤ d.2.1 := fun h => by
        rw [hd, dif_in hi hk] at h ⊢
        obtain ⟨h1, _, _, _, _, h2⟩ := bt_ok h
        exact ⟨h1, h2⟩
      refine ⟨p, pnIs_own rfl rfl rfl, trivial, cond_b (fun _ => rfl) (fun _ => cond_r (by omega) (cond_r (by omega) ⟨p, pnIs_own rfl rfl rfl, ni, p, pnIs_own rfl rfl rfl, ⟨ni, nk⟩, ?_⟩))⟩
      rw [← hv, ← hd]
      have two : d.2.2 = 0 → (p.D.length : Int) < 8 → (p.T.length : Int) < 47 → PnOk p ∧ (p.D.length < 8 ∧ p.T.length < 47) ∧ (sOk16 (remZ a 16) ∧ sOk16 (remZ b 16)) ∧ ∀ n, Df p (vN (remZ a 16)) (vN (remZ b 16)) n ↔ d.1 ≤ n ∧ n ≤ d.2.1 := fun h0 h1 h2 => ⟨(dok h0).1, ⟨by omega, by omega⟩, ⟨hi, hk⟩, (dok h0).2⟩
      refine cond_d (fun v0 => cond_d (fun hs => cond_r (by omega) (cond_r (by omega) ⟨?_, ⟨(vok v0).1, by omega, hi, (vok v0).2⟩, ?_⟩)) (fun _ => ?_)) (fun _ => ?_)
      · exact ⟨⟨rfl, rfl, VB.fit_refl _, VB.fit_refl _, VB.fit_refl _, VB.fit_refl _, VB.fit_refl _, VB.fit_refl _, ⟨rfl, rfl, rfl, fit4⟩, trivial⟩, rfl, rfl, rfl, rfl, rfl, rfl, rfl, rfl, rfl, rfl, trivial⟩
      · refine cond_d (fun d0 => cond_d (fun h1 => cond_d (fun h2 => cond_r (by omega) (cond_r (by omega) ⟨false, ⟨⟨rfl, rfl, VB.fit_refl _, VB.fit_refl _, VB.fit_refl _, VB.fit_refl _, VB.fit_refl _, VB.fit_refl _, VB.fit_refl _, ⟨rfl, rfl, rfl, fit4⟩, trivial⟩, rfl, rfl, rfl, rfl, rfl, rfl, rfl, rfl, rfl, rfl, trivial⟩, two d0 h1 h2, rfl⟩)) (fun _ => rfl)) (fun _ => rfl)) (fun _ => rfl)
      · refine cond_d (fun d0 => cond_d (fun h1 => cond_d (fun h2 => cond_r (by omega) (cond_r (by omega) ⟨true, ⟨⟨rfl, rfl, VB.fit_refl _, VB.fit_refl _, VB.fit_refl _, VB.fit_refl _, VB.fit_refl _, VB.fit_refl _, ⟨rfl, rfl, rfl, fit4⟩, trivial⟩, rfl, rfl, rfl, rfl, rfl, rfl, rfl, rfl, rfl, rfl, trivial⟩, two d0 h1 h2, rfl⟩)) (fun _ => rfl)) (fun _ => rfl)) (fun _ => rfl)
      · refine cond_d (fun d0 => cond_d (fun h1 => cond_d (fun h2 => cond_r (by omega) (cond_r (by omega) ⟨true, ⟨⟨rfl, rfl, VB.fit_refl _, VB.fit_refl _, VB.fit_refl _, VB.fit_refl _, VB.fit_refl _, VB.fit_refl _, ⟨rfl, rfl, rfl, fit4⟩, trivial⟩, rfl, rfl, rfl, rfl, rfl, rfl, rfl, rfl, rfl, rfl, trivial⟩, two d0 h1 h2, rfl⟩)) (fun _ => rfl)) (fun _ => rfl)) (fun _ => rfl))
  exact ⟨h', hc⟩
end
end Go.Sx.Nos
