/- stream: Nf1 Nf2 Nf3, in one text. -/
import Derived.Test.YtnfkbbcbehnnkaaNE
/- nose: the greatest differences, plainly. -/

namespace Go.Sx.Nos
open Go Go.Sx Go.Proofs

abbrev CC : Int := 1000000
theorem eWW : WW = 1125899906842624 := rfl
theorem eCC : CC = 1000000 := rfl

/-- The weight of a way. -/
def wt (w : Nat → Nat → Int) : Nat → List Nat → Nat → Int
  | i, [], k => w i k
  | i, v :: r, k => w i v + wt w v r k
def okp (w : Nat → Nat → Int) : Nat → List Nat → Nat → Prop
  | i, [], k => w i k < WW
  | i, v :: r, k => w i v < WW ∧ okp w v r k

theorem wt_app (w : Nat → Nat → Int) (v k : Nat) (b : List Nat) : ∀ (a : List Nat) (i : Nat), wt w i (a ++ v :: b) k = wt w i a v + wt w v b k
  | [], i => rfl
  | u :: r, i => by
    show w i u + wt w u (r ++ v :: b) k = _
    rw [wt_app w v k b r u]
    show _ = w i u + wt w u r v + wt w v b k
    omega

theorem okp_app (w : Nat → Nat → Int) (v k : Nat) (b : List Nat) : ∀ (a : List Nat) (i : Nat), okp w i (a ++ v :: b) k ↔ okp w i a v ∧ okp w v b k
  | [], i => Iff.rfl
  | u :: r, i => by
    show w i u < WW ∧ okp w u (r ++ v :: b) k ↔ (w i u < WW ∧ okp w u r v) ∧ _
    rw [okp_app w v k b r u, and_assoc]

structure Wg (n : Nat) (w : Nat → Nat → Int) : Prop where
  z : ∀ i, i < n → w i i = 0
  b : ∀ i k, i < n → k < n → w i k = WW ∨ (-CC ≤ w i k ∧ w i k ≤ CC)

theorem wt_le {n : Nat} {w : Nat → Nat → Int} (hw : Wg n w) : ∀ (l : List Nat) (i k : Nat), i < n → k < n → (∀ v ∈ l, v < n) → okp w i l k → -(CC * (l.length + 1)) ≤ wt w i l k ∧ wt w i l k ≤ CC * (l.length + 1)
  | [], i, k, hi, hk, _, ho => by
    have ho : w i k < WW := ho
    rcases hw.b i k hi hk with h | h
    · rw [h] at ho; exact absurd ho (Int.lt_irrefl _)
    · simp only [wt, List.length_nil, CC] at *; omega
  | v :: r, i, k, hi, hk, hl, ho => by
    obtain ⟨h1, h2⟩ := ho
    have hv := hl v (by simp)
    have ih := wt_le hw r v k hv hk (fun u hu => hl u (by simp [hu])) h2
    rcases hw.b i v hi hv with h | h
    · rw [h] at h1; exact absurd h1 (Int.lt_irrefl _)
    · simp only [wt, List.length_cons]
      have := eCC
      rw [Int.natCast_add]
      simp only [CC] at *
      omega

/-- What is known of the greatest differences by way of the unknowns below m. -/
structure FI (n m : Nat) (w d : Nat → Nat → Int) : Prop where
  opt : ∀ i k l, i < n → k < n → (∀ v ∈ l, v < m) → okp w i l k → d i k < WW ∧ d i k ≤ wt w i l k
  real : ∀ i k, i < n → k < n → d i k = WW ∨ ∃ l : List Nat, l.Nodup ∧ (∀ v ∈ l, v < m) ∧ okp w i l k ∧ wt w i l k = d i k

theorem FI.bd {n m : Nat} {w d : Nat → Nat → Int} (h : FI n m w d) (hw : Wg n w) (hn : n ≤ 65) (hm : m ≤ n) {i k : Nat} (hi : i < n) (hk : k < n) : d i k = WW ∨ (-66000000 ≤ d i k ∧ d i k ≤ 66000000) := by
  rcases h.real i k hi hk with h1 | ⟨l, h1, h2, h3, h4⟩
  · exact .inl h1
  · have h5 := wt_le hw l i k hi hk (fun v hv => Nat.lt_of_lt_of_le (h2 v hv) hm) h3
    have h6 := nodup_le (m := List.range m) h1 (fun v hv => List.mem_range.2 (h2 v hv))
    rw [List.length_range] at h6
    right
    rw [← h4]
    have : CC * ((l.length : Int) + 1) ≤ 66000000 := by
      have : (l.length : Int) + 1 ≤ 66 := by omega
      show 1000000 * ((l.length : Int) + 1) ≤ _
      omega
    omega

/-- One round. -/
def rnd (m : Nat) (d : Nat → Nat → Int) : Nat → Nat → Int := fun i k => if d i m ≠ WW ∧ d m k < WW then min (d i k) (d i m + d m k) else d i k

theorem rnd_le (m : Nat) (d : Nat → Nat → Int) (i k : Nat) : rnd m d i k ≤ d i k := by
  unfold rnd; split <;> omega

theorem FI.zero {n m : Nat} {w d : Nat → Nat → Int} (h : FI n m w d) (hw : Wg n w) {i : Nat} (hi : i < n) : d i i ≤ 0 := by
  have h1 := (h.opt i i [] hi hi (by simp) (by show w i i < WW; rw [hw.z i hi]; decide)).2
  simp only [wt, hw.z i hi] at h1
  exact h1

theorem nodup_split : ∀ {l : List Nat} {m : Nat}, m ∈ l → ∃ a b, l = a ++ m :: b ∧ m ∉ a
  | v :: r, m, h => by
    by_cases hv : v = m
    · exact ⟨[], r, by rw [hv]; rfl, by simp⟩
    · obtain ⟨a, b, h1, h2⟩ := nodup_split (l := r) ((List.mem_cons.1 h).resolve_left fun e => hv e.symm)
      exact ⟨v :: a, b, by rw [h1]; rfl, by simp [h2, Ne.symm hv]⟩

theorem FI.optS {n m : Nat} {w d : Nat → Nat → Int} (h : FI n m w d) (hw : Wg n w) (hn : n ≤ 65) (hm : m < n) (hz : d m m = 0) : ∀ (c : Nat) (l : List Nat) (i k : Nat), l.length ≤ c → i < n → k < n → (∀ v ∈ l, v < m + 1) → okp w i l k → rnd m d i k < WW ∧ rnd m d i k ≤ wt w i l k := by
  intro c
  induction c with
  | zero =>
    intro l i k hc hi hk _ ho
    obtain rfl : l = [] := List.length_eq_zero_iff.1 (by omega)
    have h1 := h.opt i k [] hi hk (by simp) ho
    have := rnd_le m d i k
    omega
  | succ c ih =>
    intro l i k hc hi hk hl ho
    by_cases hml : m ∈ l
    · obtain ⟨a, b, rfl, ha⟩ := nodup_split hml
      obtain ⟨o1, o2⟩ := (okp_app w m k b a i).1 ho
      rw [wt_app]
      have ham : ∀ v ∈ a, v < m := fun v hv => by
        have := hl v (by simp [hv])
        have : v ≠ m := fun e => ha (e ▸ hv)
        omega
      have h1 := h.opt i m a hi hm ham o1
      have h2 := ih b m k (by simp at hc; omega) hm hk (fun v hv => hl v (by simp [hv])) o2
      have e2 : rnd m d m k = d m k := by unfold rnd; rw [hz]; split <;> omega
      rw [e2] at h2
      have b1 := h.bd hw hn (by omega) hi hm
      have b2 := h.bd hw hn (by omega) hm hk
      have hW := eWW
      have : rnd m d i k ≤ d i m + d m k := by
        unfold rnd
        rw [if_pos ⟨by omega, h2.1⟩]
        omega
      omega
    · have h1 := h.opt i k l hi hk (fun v hv => by
        have := hl v hv
        have : v ≠ m := fun e => hml (e ▸ hv)
        omega) ho
      have := rnd_le m d i k
      omega

/-- One round's ways. -/
theorem FI.walk {n m : Nat} {w d : Nat → Nat → Int} (h : FI n m w d) (hm : m < n) {i k : Nat} (hi : i < n) (hk : k < n) : rnd m d i k = WW ∨ ∃ l : List Nat, (∀ v ∈ l, v < m + 1) ∧ okp w i l k ∧ wt w i l k = rnd m d i k := by
  by_cases hc : d i m ≠ WW ∧ d m k < WW ∧ d i m + d m k < d i k
  · obtain ⟨c1, c2, c3⟩ := hc
    obtain ⟨l1, a1, a2, a3, a4⟩ := (h.real i m hi hm).resolve_left c1
    obtain ⟨l2, b1, b2, b3, b4⟩ := (h.real m k hm hk).resolve_left (by omega)
    refine .inr ⟨l1 ++ m :: l2, fun v hv => ?_, (okp_app w m k l2 l1 i).2 ⟨a3, b3⟩, ?_⟩
    · simp only [List.mem_append, List.mem_cons] at hv
      rcases hv with hv | rfl | hv
      · have := a2 v hv; omega
      · omega
      · have := b2 v hv; omega
    · rw [wt_app, a4, b4]
      unfold rnd
      rw [if_pos ⟨c1, c2⟩]
      omega
  · have he : rnd m d i k = d i k := by
      unfold rnd
      split
      · rename_i h1; omega
      · rfl
    rw [he]
    rcases h.real i k hi hk with h1 | ⟨l, h1, h2, h3, h4⟩
    · exact .inl h1
    · exact .inr ⟨l, fun v hv => by have := h2 v hv; omega, h3, h4⟩

theorem FI.step {n m : Nat} {w d : Nat → Nat → Int} (h : FI n m w d) (hw : Wg n w) (hn : n ≤ 65) (hm : m < n) (hz : d m m = 0) (hg : ∀ i, i < n → 0 ≤ rnd m d i i) : FI n (m + 1) w (rnd m d) := by
  have ho := fun l i k => h.optS hw hn hm hz l.length l i k (Nat.le_refl _)
  refine ⟨fun i k l hi hk hl hp => ho l i k hi hk hl hp, fun i k hi hk => ?_⟩
  by_cases hc : d i m ≠ WW ∧ d m k < WW ∧ d i m + d m k < d i k
  · obtain ⟨c1, c2, c3⟩ := hc
    obtain ⟨l1, a1, a2, a3, a4⟩ := (h.real i m hi hm).resolve_left c1
    obtain ⟨l2, b1, b2, b3, b4⟩ := (h.real m k hm hk).resolve_left (by omega)
    have hr : rnd m d i k = d i m + d m k := by unfold rnd; rw [if_pos ⟨c1, c2⟩]; omega
    refine .inr ⟨l1 ++ m :: l2, ?_, fun v hv => ?_, (okp_app w m k l2 l1 i).2 ⟨a3, b3⟩, by rw [wt_app, a4, b4, hr]⟩
    · refine List.nodup_append.2 ⟨a1, List.nodup_cons.2 ⟨fun hv => by have := b2 m hv; omega, b1⟩, fun v hv u hu e => ?_⟩
      subst e
      rcases List.mem_cons.1 hu with rfl | hu
      · have := a2 v hv; omega
      · obtain ⟨a, b, rfl, _⟩ := nodup_split hv
        obtain ⟨c, e, rfl, _⟩ := nodup_split hu
        have hvn : v < n := by have := a2 v hv; omega
        obtain ⟨o1, o2⟩ := (okp_app w v m b a i).1 a3
        obtain ⟨o3, o4⟩ := (okp_app w v k e c m).1 b3
        rw [wt_app] at a4 b4
        have lp := ho (b ++ m :: c) v v hvn hvn (fun u hu => by
          simp only [List.mem_append, List.mem_cons] at hu
          rcases hu with hu | rfl | hu
          · have := a2 u (by simp [hu]); omega
          · omega
          · have := b2 u (by simp [hu]); omega) ((okp_app w m v c b v).2 ⟨o2, o3⟩)
        rw [wt_app] at lp
        have := hg v hvn
        have sh := h.opt i k (a ++ v :: e) hi hk (fun u hu => by
          simp only [List.mem_append, List.mem_cons] at hu
          rcases hu with hu | rfl | hu
          · exact a2 u (by simp [hu])
          · exact a2 u (by simp)
          · exact b2 u (by simp [hu])) ((okp_app w v k e a i).2 ⟨o1, o4⟩)
        rw [wt_app] at sh
        omega
    · simp only [List.mem_append, List.mem_cons] at hv
      rcases hv with hv | rfl | hv
      · have := a2 v hv; omega
      · omega
      · have := b2 v hv; omega
  · have he : rnd m d i k = d i k := by
      unfold rnd
      split
      · rename_i h1; omega
      · rfl
    rw [he]
    rcases h.real i k hi hk with h1 | ⟨l, h1, h2, h3, h4⟩
    · exact .inl h1
    · exact .inr ⟨l, h1, fun v hv => by have := h2 v hv; omega, h3, h4⟩

theorem FI.start {n : Nat} {w : Nat → Nat → Int} (hw : Wg n w) : FI n 0 w w := by
  refine ⟨fun i k l _ _ hl ho => ?_, fun i k hi hk => ?_⟩
  · match l, hl, ho with
    | [], _, ho => exact ⟨ho, Int.le_refl _⟩
    | v :: r, hl, _ => have := hl v (by simp); omega
  · have hW := eWW
    have hC := eCC
    rcases hw.b i k hi hk with h | h
    · exact .inl h
    · exact .inr ⟨[], List.nodup_nil, by simp, show w i k < WW by omega, rfl⟩
end Go.Sx.Nos

/- nose: the greatest differences, plainly: all rounds. -/

namespace Go.Sx.Nos
open Go Go.Sx Go.Proofs

/-- A matrix in rows of 65. -/
def rd (d : Nat → Int) : Nat → Nat → Int := fun i k => d (i * 65 + k)

theorem FI.ext {n m : Nat} {w d d' : Nat → Nat → Int} (h : FI n m w d) (he : ∀ i k, i < n → k < n → d' i k = d i k) : FI n m w d' :=
  ⟨fun i k l hi hk hl ho => by rw [he i k hi hk]; exact h.opt i k l hi hk hl ho, fun i k hi hk => by rw [he i k hi hk]; exact h.real i k hi hk⟩

theorem iF_rnd {n m : Nat} {d : Nat → Int} (hn : n ≤ 65) (_ : m < n) {i k : Nat} (hi : i < n) (hk : k < n) : rd (iF n m n d) i k = rnd m (rd d) i k := by
  have e1 : (i * 65 + k) / 65 = i := by omega
  have e2 : (i * 65 + k) % 65 = k := by omega
  unfold rd iF rnd
  rw [e1, e2, if_pos ⟨hi, hk⟩]

section
variable {n : Nat} {d : Nat → Int}

theorem fw_z {m : Nat} (hw : Wg n (rd d)) (h : FI n m (rd d) (rd (fwN n m d))) (hg : ∀ j, j < m → ¬ badD n (fwN n (j + 1) d)) {i : Nat} (hi : i < n) : rd (fwN n m d) i i = 0 := by
  cases m with
  | zero => exact hw.z i hi
  | succ m =>
    have h1 := h.zero hw hi
    have h2 : ¬ rd (fwN n (m + 1) d) i i < 0 := fun hb => hg m (by omega) ⟨i, hi, hb⟩
    omega

theorem fw_FI (hw : Wg n (rd d)) (hn : n ≤ 65) : ∀ (m : Nat), m ≤ n → (∀ j, j < m → ¬ badD n (fwN n (j + 1) d)) → FI n m (rd d) (rd (fwN n m d)) := by
  intro m
  induction m with
  | zero => exact fun _ _ => FI.start hw
  | succ m ih =>
    intro hm hg
    have h := ih (by omega) (fun j hj => hg j (by omega))
    have hz := fw_z hw h (fun j hj => hg j (by omega)) (show m < n by omega)
    refine (h.step hw hn (by omega) hz (fun i hi => ?_)).ext (fun i k hi hk => iF_rnd hn (by omega) hi hk)
    have h2 : ¬ rd (fwN n (m + 1) d) i i < 0 := fun hb => hg m (by omega) ⟨i, hi, hb⟩
    have h3 : rd (fwN n (m + 1) d) i i = rnd m (rd (fwN n m d)) i i := iF_rnd hn (by omega) hi hi
    omega

theorem fw_safe (hw : Wg n (rd d)) (hn : n ≤ 65) : Safe n d := by
  refine ⟨hn, fun m hm hg => ?_⟩
  have h := fw_FI hw hn m (by omega) hg
  refine ⟨hn, hm, fw_z hw h hg hm, fun i k hi hk h1 h2 => ?_⟩
  have b1 := h.bd hw hn (by omega) hi hm
  have b2 := h.bd hw hn (by omega) hm hk
  have b1 := b1.resolve_left h1
  have b2 := b2.resolve_left (by intro e; have e : fwN n m d (m * 65 + k) = WW := e; omega)
  unfold rd at b1 b2
  exact ⟨by omega, by omega⟩

/-- Numbers that keep all limits. -/
def solW (n : Nat) (w : Nat → Nat → Int) (y : Nat → Int) : Prop := ∀ i k, i < n → k < n → w i k < WW → y i - y k ≤ w i k

theorem solW_wt {w : Nat → Nat → Int} {y : Nat → Int} (h : solW n w y) : ∀ (l : List Nat) (i k : Nat), i < n → k < n → (∀ v ∈ l, v < n) → okp w i l k → y i - y k ≤ wt w i l k
  | [], i, k, hi, hk, _, ho => h i k hi hk ho
  | v :: r, i, k, hi, hk, hl, ho => by
    have hv := hl v (by simp)
    have h1 := h i v hi hv ho.1
    have h2 := solW_wt h r v k hv hk (fun u hu => hl u (by simp [hu])) ho.2
    simp only [wt]
    omega

theorem FI.sol {w D : Nat → Nat → Int} {m : Nat} (h : FI n m w D) (hm : m ≤ n) {y : Nat → Int} (hy : solW n w y) {i k : Nat} (hi : i < n) (hk : k < n) (hd : D i k ≠ WW) : y i - y k ≤ D i k := by
  obtain ⟨l, h1, h2, h3, h4⟩ := (h.real i k hi hk).resolve_left hd
  rw [← h4]
  exact solW_wt hy l i k hi hk (fun v hv => Nat.lt_of_lt_of_le (h2 v hv) hm) h3

theorem FI.tri {w D : Nat → Nat → Int} (h : FI n n w D) {i m k : Nat} (hi : i < n) (hm : m < n) (hk : k < n) (h1 : D i m ≠ WW) (h2 : D m k ≠ WW) : D i k < WW ∧ D i k ≤ D i m + D m k := by
  obtain ⟨l1, a1, a2, a3, a4⟩ := (h.real i m hi hm).resolve_left h1
  obtain ⟨l2, b1, b2, b3, b4⟩ := (h.real m k hm hk).resolve_left h2
  have := h.opt i k (l1 ++ m :: l2) hi hk (fun v hv => by
    simp only [List.mem_append, List.mem_cons] at hv
    rcases hv with hv | rfl | hv
    · exact a2 v hv
    · exact hm
    · exact b2 v hv) ((okp_app w m k l2 l1 i).2 ⟨a3, b3⟩)
  rw [wt_app, a4, b4] at this
  exact this

theorem fw_no (hw : Wg n (rd d)) (hn : n ≤ 65) {y : Nat → Int} (hy : solW n (rd d) y) : goodF n d := by
  have key : ∀ m, m ≤ n → ∀ j, j < m → ¬ badD n (fwN n (j + 1) d) := by
    intro m
    induction m with
    | zero => intro _ j hj; omega
    | succ m ih =>
      intro hm j hj hb
      have hg := ih (by omega)
      by_cases hjm : j < m
      · exact hg j hjm hb
      · obtain rfl : j = m := by omega
        have h := fw_FI hw hn j (by omega) hg
        obtain ⟨i, hi, hb⟩ := hb
        have hr : rd (fwN n (j + 1) d) i i = rnd j (rd (fwN n j d)) i i := iF_rnd hn (by omega) hi hi
        have hb : rd (fwN n (j + 1) d) i i < 0 := hb
        have hW := eWW
        obtain ⟨l, l1, l2, l3⟩ := (h.walk (show j < n by omega) hi hi).resolve_left (by omega)
        have := solW_wt hy l i i hi hi (fun v hv => by have := l1 v hv; omega) l2
        omega
  exact fun m hm => key n (Nat.le_refl _) m hm

theorem least {f : Nat → Int} {q : Nat → Prop} : ∀ {n : Nat}, (∃ u, u < n ∧ q u) → ∃ y, (∀ u, u < n → q u → y ≤ f u) ∧ ∃ u, u < n ∧ q u ∧ y = f u := by
  intro n
  induction n with
  | zero => rintro ⟨u, h, _⟩; omega
  | succ n ih =>
    intro h
    by_cases h1 : ∃ u, u < n ∧ q u
    · obtain ⟨y, a1, u, a2, a3, a4⟩ := ih h1
      by_cases h2 : q n ∧ f n < y
      · refine ⟨f n, fun v hv hq => ?_, n, by omega, h2.1, rfl⟩
        by_cases hvn : v = n
        · rw [hvn]; omega
        · have := a1 v (by omega) hq; omega
      · refine ⟨y, fun v hv hq => ?_, u, by omega, a3, a4⟩
        by_cases hvn : v = n
        · subst hvn
          by_cases h3 : f v < y
          · exact (h2 ⟨hq, h3⟩).elim
          · omega
        · exact a1 v (by omega) hq
    · obtain ⟨u, hu, hq⟩ := h
      have hun : u = n := by
        by_cases hun : u = n
        · exact hun
        · exact (h1 ⟨u, by omega, hq⟩).elim
      subst hun
      refine ⟨f u, fun v hv hq' => ?_, u, by omega, hq, rfl⟩
      by_cases hvn : v = u
      · rw [hvn]; omega
      · exact (h1 ⟨v, by omega, hq'⟩).elim

/-- Numbers that reach the greatest differences from b. -/
theorem FI.pot {w D : Nat → Nat → Int} (h : FI n n w D) (hw : Wg n w) (hn : n ≤ 65) (hz : ∀ i, i < n → D i i = 0) {b : Nat} (hb : b < n) {K : Int} (hK : 200000000 ≤ K) :
    ∃ y, solW n w y ∧ y b = 0 ∧ ∀ a, a < n → (D a b ≠ WW → y a = D a b) ∧ (D a b = WW → K - 66000000 ≤ y a) := by
  have hW := eWW
  have ex : ∀ v, ∃ y, v < n → (∀ u, u < n → D v u ≠ WW → y ≤ D v u + if u = b then 0 else K) ∧ ∃ u, u < n ∧ D v u ≠ WW ∧ y = D v u + if u = b then 0 else K := fun v => by
    by_cases hv : v < n
    · obtain ⟨y, h1, h2⟩ := least (f := fun u => D v u + if u = b then 0 else K) (q := fun u => D v u ≠ WW) (n := n) ⟨v, hv, by rw [hz v hv]; decide⟩
      exact ⟨y, fun _ => ⟨h1, h2⟩⟩
    · exact ⟨0, fun h => absurd h hv⟩
  let y : Nat → Int := fun v => Classical.choose (ex v)
  have hy : ∀ v, v < n → (∀ u, u < n → D v u ≠ WW → y v ≤ D v u + if u = b then 0 else K) ∧ ∃ u, u < n ∧ D v u ≠ WW ∧ y v = D v u + if u = b then 0 else K := fun v hv => Classical.choose_spec (ex v) hv
  have bd := fun i k (hi : i < n) (hk : k < n) => h.bd hw hn (Nat.le_refl _) hi hk
  refine ⟨y, fun i k hi hk hlt => ?_, ?_, fun a ha => ⟨fun hf => ?_, fun hf => ?_⟩⟩
  · obtain ⟨_, u, hu, u1, u2⟩ := hy k hk
    have o := h.opt i k [] hi hk (by simp) hlt
    have t := h.tri hi hk hu (by omega) u1
    have := (hy i hi).1 u hu (by omega)
    simp only [wt] at o
    omega
  · obtain ⟨h1, u, hu, u1, u2⟩ := hy b hb
    have h1 := h1 b hb (by rw [hz b hb]; decide)
    rw [hz b hb, if_pos rfl] at h1
    by_cases hub : u = b
    · rw [if_pos hub, hub, hz b hb] at u2; omega
    · rw [if_neg hub] at u2
      have := (bd b u hb hu).resolve_left u1
      omega
  · obtain ⟨h1, u, hu, u1, u2⟩ := hy a ha
    have h1 := h1 b hb hf
    rw [if_pos rfl] at h1
    by_cases hub : u = b
    · rw [if_pos hub, hub] at u2; omega
    · rw [if_neg hub] at u2
      have := (bd a u ha hu).resolve_left u1
      have := (bd a b ha hb).resolve_left hf
      omega
  · obtain ⟨h1, u, hu, u1, u2⟩ := hy a ha
    by_cases hub : u = b
    · rw [hub] at u1; exact absurd hf u1
    · rw [if_neg hub] at u2
      have := (bd a u ha hu).resolve_left u1
      omega

theorem fw_yes (hw : Wg n (rd d)) (hn : n ≤ 65) (hg : goodF n d) : FI n n (rd d) (rd (fwN n n d)) ∧ ∀ i, i < n → rd (fwN n n d) i i = 0 := by
  have h := fw_FI hw hn n (Nat.le_refl _) hg
  exact ⟨h, fun i hi => fw_z hw h hg hi⟩
end
end Go.Sx.Nos

/- nose: what a panel says, plainly. -/

namespace Go.Sx.Nos
open Go Go.Sx Go.Proofs

/-- What is known of a matrix and the limits that it has. -/
structure LI (s : St) (L : List Lk) : Prop where
  nod : s.1.Nodup
  mem : ∀ l ∈ L, l.1 ∈ s.1 ∧ l.2.1 ∈ s.1
  from_ : ∀ x ∈ s.1, x = zeroN ∨ ∃ l ∈ L, x = l.1 ∨ x = l.2.1
  zero : zeroN ∈ s.1
  cell : ∀ k, s.2 k = dIni k ∨ ∃ l ∈ L, k = ixN s.1 l.1 * 65 + ixN s.1 l.2.1 ∧ s.2 k = l.2.2
  le : ∀ l ∈ L, s.2 (ixN s.1 l.1 * 65 + ixN s.1 l.2.1) ≤ l.2.2
  le0 : ∀ k, s.2 k ≤ dIni k

theorem nod_add {N : List Nd} (h : N.Nodup) (x : Nd) : (addN N x).Nodup := by
  unfold addN
  split
  · exact h
  · rename_i hn
    refine List.nodup_append.2 ⟨h, by simp, fun a ha b hb e => ?_⟩
    simp only [List.mem_singleton] at hb
    subst hb; subst e
    exact hn ha

theorem of_addN {N : List Nd} {x y : Nd} (h : y ∈ addN N x) : y ∈ N ∨ y = x := by
  unfold addN at h
  split at h
  · exact .inl h
  · rcases List.mem_append.1 h with h | h
    · exact .inl h
    · exact .inr (by simpa using h)

theorem ixN_lim {N : List Nd} {a b y : Nd} (h : y ∈ N) : ixN (limN N a b) y = ixN N y := by
  unfold limN
  rw [ixN_add (sub_addN h), ixN_add h]

theorem cel_eq (N : List Nd) (a b : Nd) : cel N a b = ixN (limN N a b) a * 65 + ixN (limN N a b) b := by
  unfold cel limN
  rw [ixN_new (addN N a) b, ixN_add (mem_addN N a), ixN_new]

theorem LI.step {s : St} {L : List Lk} (h : LI s L) (l : Lk) : LI (stepL s l) (L ++ [l]) := by
  obtain ⟨N, d⟩ := s
  obtain ⟨a, b, n⟩ := l
  have ha : a ∈ limN N a b := sub_addN (mem_addN N a)
  have hb : b ∈ limN N a b := mem_addN (addN N a) b
  have hs : ∀ {y}, y ∈ N → y ∈ limN N a b := fun hy => sub_addN (sub_addN hy)
  have hl := h.le
  have hm := h.mem
  have ho := h.le0
  dsimp only at hl hm ho
  refine ⟨nod_add (nod_add h.nod _) _, fun l' hl' => ?_, fun x hx => ?_, hs h.zero, fun k => ?_, fun l' hl' => ?_, fun k => ?_⟩
  · rcases List.mem_append.1 hl' with h1 | h1
    · exact ⟨hs (h.mem l' h1).1, hs (h.mem l' h1).2⟩
    · simp only [List.mem_singleton] at h1
      subst h1
      exact ⟨ha, hb⟩
  · have : x = b ∨ x = a ∨ x ∈ N := by
      rcases of_addN hx with h1 | h1
      · rcases of_addN h1 with h2 | h2
        · exact .inr (.inr h2)
        · exact .inr (.inl h2)
      · exact .inl h1
    rcases this with rfl | rfl | h1
    · exact .inr ⟨_, List.mem_append.2 (.inr (List.mem_singleton.2 rfl)), .inr rfl⟩
    · exact .inr ⟨_, List.mem_append.2 (.inr (List.mem_singleton.2 rfl)), .inl rfl⟩
    · rcases h.from_ x h1 with h2 | ⟨l', h2, h3⟩
      · exact .inl h2
      · exact .inr ⟨l', List.mem_append.2 (.inl h2), h3⟩
  · show limD N d a b n k = _ ∨ ∃ l ∈ L ++ [(a, b, n)], k = ixN (limN N a b) l.1 * 65 + ixN (limN N a b) l.2.1 ∧ limD N d a b n k = _
    have old : ∀ k, (d k = dIni k ∨ ∃ l ∈ L ++ [(a, b, n)], k = ixN (limN N a b) l.1 * 65 + ixN (limN N a b) l.2.1 ∧ d k = l.2.2) := fun k => by
      rcases h.cell k with h1 | ⟨l', h1, h2, h3⟩
      · exact .inl h1
      · exact .inr ⟨l', List.mem_append.2 (.inl h1), by rw [ixN_lim (h.mem l' h1).1, ixN_lim (h.mem l' h1).2]; exact h2, h3⟩
    by_cases hk : k = cel N a b
    · have e1 : limD N d a b n k = min (d k) n := by unfold limD; rw [if_pos hk, hk]
      rw [e1]
      by_cases hmin : d k ≤ n
      · rw [Int.min_eq_left hmin]; exact old k
      · rw [Int.min_eq_right (by omega)]
        exact .inr ⟨_, List.mem_append.2 (.inr (List.mem_singleton.2 rfl)), by rw [hk, cel_eq], rfl⟩
    · have e1 : limD N d a b n k = d k := by unfold limD; rw [if_neg hk]
      rw [e1]; exact old k
  · show limD N d a b n (ixN (limN N a b) l'.1 * 65 + ixN (limN N a b) l'.2.1) ≤ _
    have hle : ∀ k, limD N d a b n k ≤ d k := fun k => by
      unfold limD
      split
      · rename_i hk; rw [hk]; omega
      · omega
    rcases List.mem_append.1 hl' with h1 | h1
    · rw [ixN_lim (hm l' h1).1, ixN_lim (hm l' h1).2]
      exact Int.le_trans (hle _) (hl l' h1)
    · simp only [List.mem_singleton] at h1
      subst h1
      dsimp only
      rw [← cel_eq]
      unfold limD
      rw [if_pos rfl]
      omega
  · show limD N d a b n k ≤ _
    have := ho k
    unfold limD
    split
    · rename_i hk; rw [← hk]; omega
    · exact this

theorem LI.fold {s : St} {L : List Lk} (h : LI s L) : ∀ (l : List Lk), LI (stp l s) (L ++ l) := by
  intro l
  induction l generalizing s L with
  | nil => rw [List.append_nil]; exact h
  | cons x r ih =>
    have := ih (h.step x)
    rw [List.append_assoc] at this
    exact this

theorem LI.ini : LI sIni [] := by
  refine ⟨by simp [sIni], by simp, fun x hx => .inl (by simpa [sIni] using hx), by simp [sIni], fun k => .inl rfl, by simp, fun k => Int.le_refl _⟩

section
variable {p : Pn}

theorem li_all (p : Pn) : LI (sAll p) (links p) := by
  have := LI.ini.fold (links p)
  rwa [List.nil_append] at this

/-- The unknowns of a panel. -/
abbrev noP (p : Pn) : List Nd := (sAll p).1

theorem no_le (hp : PnOk p) : (sAll p).1.length ≤ 65 := (gd_all hp).le hp.t

/-- What a panel's limits are like. -/
theorem lk_ok (hp : PnOk p) : ∀ l ∈ links p, l.1 ≠ l.2.1 ∧ (-CC ≤ l.2.2 ∧ l.2.2 ≤ CC) ∧ ∃ m, (l.2.1, l.1, m) ∈ links p ∧ 0 ≤ l.2.2 + m := by
  have hC := eCC
  intro l hl
  rcases List.mem_append.1 hl with hx | hx
  · obtain ⟨t, ht, hx⟩ := List.mem_flatMap.1 hx
    have tt : ∀ {x}, x ∈ lkT p t → x ∈ links p := fun h => List.mem_append.2 (.inl (List.mem_flatMap.2 ⟨t, ht, h⟩))
    obtain ⟨_, _, _, ⟨s0, s1⟩, o0, o1⟩ := hp.ts t ht
    rcases List.mem_append.1 hx with hx | hx
    · rcases List.mem_cons.1 hx with rfl | hx
      · exact ⟨by simp [ndB], by dsimp only; omega, t.o - t.c, tt (List.mem_append.2 (.inl (by simp [lkH]))), by dsimp only; omega⟩
      · simp only [List.mem_singleton] at hx
        subst hx
        exact ⟨by simp [ndB], by dsimp only; omega, t.c + t.o, tt (List.mem_append.2 (.inl (by simp [lkH]))), by dsimp only; omega⟩
    · obtain ⟨u, hu, hx⟩ := List.mem_flatMap.1 hx
      have hx0 := hx
      unfold lkI at hx
      split at hx
      · rename_i hc
        have hd := dr_in hp ht hu hc.2
        have uu : ∀ {x}, x ∈ lkI p t u → x ∈ links p := fun h => tt (List.mem_append.2 (.inr (List.mem_flatMap.2 ⟨u, hu, h⟩)))
        have e : lkI p t u = [(cN t.j t.p, cN u.j u.p, dr p t u), (cN u.j u.p, cN t.j t.p, dr p t u)] := by unfold lkI; rw [if_pos hc]
        rcases List.mem_cons.1 hx with rfl | hx
        · refine ⟨?_, by dsimp only; omega, dr p t u, uu (by rw [e]; simp), by dsimp only; omega⟩
          simp only [ndB, ne_eq, List.cons.injEq, true_and, and_true, not_and]
          intros; omega
        · simp only [List.mem_singleton] at hx
          subst hx
          refine ⟨?_, by dsimp only; omega, dr p t u, uu (by rw [e]; simp), by dsimp only; omega⟩
          simp only [ndB, ne_eq, List.cons.injEq, true_and, and_true, not_and]
          intros; omega
      · cases hx
  · obtain ⟨s, hs, hx⟩ := List.mem_flatMap.1 hx
    have ss : ∀ {x}, x ∈ lkS s → x ∈ links p := fun h => List.mem_append.2 (.inr (List.mem_flatMap.2 ⟨s, hs, h⟩))
    obtain ⟨⟨a0, a1⟩, l0, l1, l2⟩ := hp.sd s hs
    rcases List.mem_cons.1 hx with rfl | hx
    · refine ⟨?_, by dsimp only; omega, 0 - s.lo, ss (by simp [lkS]), by dsimp only; omega⟩
      simp only [ndB, zeroN, ne_eq, List.cons.injEq, cond_false, true_and, and_true]
      omega
    · simp only [List.mem_singleton] at hx
      subst hx
      refine ⟨?_, by dsimp only; omega, s.hi, ss (by simp [lkS]), by dsimp only; omega⟩
      simp only [ndB, zeroN, ne_eq, List.cons.injEq, cond_false, true_and, and_true]
      omega

/-- An unknown that a panel has. -/
def thP (p : Pn) (x : Nd) : Prop := x = zeroN ∨ ∃ l ∈ links p, l.1 = x

theorem mem_no (hp : PnOk p) (x : Nd) : x ∈ (sAll p).1 ↔ thP p x := by
  refine ⟨fun h => ?_, fun h => ?_⟩
  · rcases (li_all p).from_ x h with h1 | ⟨l, h1, h2 | h2⟩
    · exact .inl h1
    · exact .inr ⟨l, h1, h2.symm⟩
    · obtain ⟨_, _, m, h3, _⟩ := lk_ok hp l h1
      exact .inr ⟨_, h3, h2.symm⟩
  · rcases h with h | ⟨l, h1, h2⟩
    · rw [h]; exact (li_all p).zero
    · rw [← h2]; exact ((li_all p).mem l h1).1

theorem ix_inj {N : List Nd} {a b : Nd} (ha : a ∈ N) (hb : b ∈ N) (h : ixN N a = ixN N b) : a = b := by
  have h1 := ixN_get ha
  have h2 := ixN_get hb
  rw [h, h2] at h1
  exact (Option.some.inj h1).symm

/-- Numbers that keep all that a panel says. -/
def Sol (p : Pn) (x : Nd → Int) : Prop := ∀ l ∈ links p, x l.1 - x l.2.1 ≤ l.2.2

theorem wg_all (hp : PnOk p) : Wg (sAll p).1.length (rd (sAll p).2) := by
  have hn := no_le hp
  have hW := eWW
  have hC := eCC
  refine ⟨fun i hi => ?_, fun i k hi hk => ?_⟩
  · unfold rd
    rcases (li_all p).cell (i * 65 + i) with h1 | ⟨l, h1, h2, h3⟩
    · rw [h1]; unfold dIni; rw [if_pos (by omega)]
    · exfalso
      obtain ⟨m1, m2⟩ := (li_all p).mem l h1
      have b1 := ixN_lt m1
      have b2 := ixN_lt m2
      exact (lk_ok hp l h1).1 (ix_inj m1 m2 (by omega))
  · unfold rd
    rcases (li_all p).cell (i * 65 + k) with h1 | ⟨l, h1, h2, h3⟩
    · rw [h1]; unfold dIni
      split
      · right; omega
      · left; rfl
    · right; rw [h3]; exact (lk_ok hp l h1).2.1

theorem safe_all (hp : PnOk p) : SafeP p := fw_safe (wg_all hp) (no_le hp)

theorem sol_to (hp : PnOk p) {x : Nd → Int} (h : Sol p x) : solW (sAll p).1.length (rd (sAll p).2) fun i => x ((sAll p).1.getD i zeroN) := by
  have hn := no_le hp
  intro i k hi hk hlt
  unfold rd at hlt ⊢
  rcases (li_all p).cell (i * 65 + k) with h1 | ⟨l, h1, h2, h3⟩
  · rw [h1] at hlt ⊢
    unfold dIni at hlt ⊢
    split at hlt
    · rename_i he
      have : i = k := by omega
      subst this
      rw [if_pos he]; omega
    · exact absurd hlt (Int.lt_irrefl _)
  · rw [h3]
    obtain ⟨m1, m2⟩ := (li_all p).mem l h1
    have b1 := ixN_lt m1
    have b2 := ixN_lt m2
    have e1 : i = ixN (sAll p).1 l.1 := by omega
    have e2 : k = ixN (sAll p).1 l.2.1 := by omega
    have g1 : (sAll p).1.getD i zeroN = l.1 := by rw [e1, List.getD_eq_getElem?_getD, ixN_get m1]; rfl
    have g2 : (sAll p).1.getD k zeroN = l.2.1 := by rw [e2, List.getD_eq_getElem?_getD, ixN_get m2]; rfl
    dsimp only
    rw [g1, g2]
    exact h l h1

theorem sol_of (hp : PnOk p) {y : Nat → Int} (h : solW (sAll p).1.length (rd (sAll p).2) y) : Sol p fun a => y (ixN (sAll p).1 a) := by
  intro l hl
  obtain ⟨m1, m2⟩ := (li_all p).mem l hl
  have h1 := (li_all p).le l hl
  have hb := (lk_ok hp l hl).2.1
  have hW := eWW
  have hC := eCC
  exact Int.le_trans (h _ _ (ixN_lt m1) (ixN_lt m2) (by unfold rd; omega)) h1

theorem fit_iff (hp : PnOk p) : fitF p ↔ ∃ x, Sol p x := by
  refine ⟨fun h => ?_, fun ⟨x, hx⟩ => fw_no (wg_all hp) (no_le hp) (sol_to hp hx)⟩
  obtain ⟨h1, h2⟩ := fw_yes (wg_all hp) (no_le hp) h
  obtain ⟨y, h3, _⟩ := h1.pot (wg_all hp) (no_le hp) h2 (b := ixN (sAll p).1 zeroN) (ixN_lt (li_all p).zero) (K := 200000000) (by omega)
  exact ⟨_, sol_of hp h3⟩

/-- The greatest difference of two unknowns. -/
def farAB (p : Pn) (a b : Nd) : Int := farF p (ixN (sAll p).1 a * 65 + ixN (sAll p).1 b)

/-- It is the greatest difference that can be. -/
def Mx (p : Pn) (a b : Nd) (m : Int) : Prop := (∀ x, Sol p x → x a - x b ≤ m) ∧ ∃ x, Sol p x ∧ x a - x b = m
/-- There is none. -/
def Un (p : Pn) (a b : Nd) : Prop := ∀ K : Int, ∃ x, Sol p x ∧ K ≤ x a - x b

theorem Mx.uniq {a b : Nd} {m m' : Int} (h : Mx p a b m) (h' : Mx p a b m') : m = m' := by
  obtain ⟨h1, x, h2, h3⟩ := h
  obtain ⟨g1, y, g2, g3⟩ := h'
  have := h1 y g2
  have := g1 x h2
  omega

theorem Mx.not_un {a b : Nd} {m : Int} (h : Mx p a b m) : ¬ Un p a b := fun hu => by
  obtain ⟨x, h1, h2⟩ := hu (m + 1)
  have := h.1 x h1
  omega

theorem far_mx (hp : PnOk p) (hf : fitF p) {a b : Nd} (ha : a ∈ (sAll p).1) (hb : b ∈ (sAll p).1) (h : farAB p a b ≠ WW) : Mx p a b (farAB p a b) ∧ -66000000 ≤ farAB p a b ∧ farAB p a b ≤ 66000000 := by
  obtain ⟨h1, h2⟩ := fw_yes (wg_all hp) (no_le hp) hf
  have ia := ixN_lt ha
  have ib := ixN_lt hb
  refine ⟨⟨fun x hx => ?_, ?_⟩, (h1.bd (wg_all hp) (no_le hp) (Nat.le_refl _) ia ib).resolve_left h⟩
  · have := h1.sol (Nat.le_refl _) (sol_to hp hx) ia ib h
    rw [List.getD_eq_getElem?_getD, ixN_get ha, List.getD_eq_getElem?_getD, ixN_get hb] at this
    exact this
  · obtain ⟨y, h3, h4, h5⟩ := h1.pot (wg_all hp) (no_le hp) h2 ib (K := 200000000) (by omega)
    refine ⟨_, sol_of hp h3, ?_⟩
    rw [h4, (h5 _ ia).1 h, Int.sub_zero]
    rfl

theorem far_un (hp : PnOk p) (hf : fitF p) {a b : Nd} (ha : a ∈ (sAll p).1) (hb : b ∈ (sAll p).1) (h : farAB p a b = WW) : Un p a b := by
  intro K
  obtain ⟨h1, h2⟩ := fw_yes (wg_all hp) (no_le hp) hf
  have ia := ixN_lt ha
  have ib := ixN_lt hb
  obtain ⟨y, h3, h4, h5⟩ := h1.pot (wg_all hp) (no_le hp) h2 ib (K := max 200000000 (K + 66000000)) (by omega)
  refine ⟨_, sol_of hp h3, ?_⟩
  have := (h5 _ ia).2 h
  rw [h4]
  omega

/-- Two panels with the same unknowns' differences say the same. -/
theorem far_iff (hp : PnOk p) (hf : fitF p) {a b : Nd} (ha : a ∈ (sAll p).1) (hb : b ∈ (sAll p).1) (m : Int) (hm : m ≠ WW) : farAB p a b = m ↔ Mx p a b m := by
  refine ⟨fun h => ?_, fun h => ?_⟩
  · rw [← h] at hm ⊢; exact (far_mx hp hf ha hb hm).1
  · by_cases hw : farAB p a b = WW
    · exact (h.not_un (far_un hp hf ha hb hw)).elim
    · exact (far_mx hp hf ha hb hw).1.uniq h
end
end Go.Sx.Nos
