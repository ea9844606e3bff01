/- malt: air, as Harm ranges over it. -/
import Derived.Test.YtdfbhoejljidfaaMd9

namespace Go.Sx.Malt
open Go Go.Sx Go.Proofs
set_option maxRecDepth 100000

noncomputable abbrev hH (κ : Nat) (a b c d last : Int) : VH := ⟨6, hHB (hU κ a b c d) a b c d last true none 0 0⟩

/-- What holds at the head of air's loop; r: what Harm returns in the end. -/
def HHd (b c d : Int) (r : Int × Int) (i x last : Int) : Prop :=
  (0 ≤ x ∧ x ≤ 2147483648) ∧ (0 ≤ i ∧ i ≤ 4294967296) ∧ ((last < x ∧ i ≤ x ∧ ∃ n : Nat, d + 1 - x ≤ n ∧ r = harmL b c d (n + 1) i x) ∨ (x ≤ last ∧ x ≤ d ∧ r = (0, 4)))

/-- How air ends. -/
def HOut (κ : Nat) (a b c d : Int) (r : Int × Int) (rc : VB) (bs : List VB) : Prop :=
  (r.2 = 0 ∧ rc = hRec (hU κ a b c d) a b c d false (some .ret) ∧ bs = [.cells [I 0] 30, .cells [I r.1] 3]) ∨
  (r = (0, 4) ∧ rc = hRec (hU κ a b c d) a b c d false (some (.exit 0)) ∧ bs = [.cells [I 0] 30, .cells [I 0] 3])

theorem h_eq {κ : Nat} (hκ : κ = 0 ∨ κ = 1 ∨ κ = 2) (a b c d last i x : Int) (Qn : VB → List VB → List VV → Prop) (Qo : VB → List VB → Prop) (Qx : Nat → VB → List VB → Prop) :
    codeE Try.prog (callN Try.prog noSpec noL 10 20) (fun _ => none) true 10 36 0 (loopB 0 (bodyOf Try.prog 59)) (hT i x) (hH κ a b c d last) (hK Qn Qo Qx) = hTree (hU κ a b c d) a b c d i x last Qn Qo Qx := by
  rcases hκ with rfl | rfl | rfl
  · exact hround_ev0 a b c d last i x Qn Qo Qx
  · exact hround_ev1 a b c d last i x Qn Qo Qx
  · exact hround_ev2 a b c d last i x Qn Qo Qx

theorem h_tree {κ : Nat} (hκ : κ = 0 ∨ κ = 1 ∨ κ = 2) {a b c d i x last : Int} {r : Int × Int} (hb : 0 ≤ b ∧ b ≤ 1073741824) (hc : 0 ≤ c ∧ c ≤ 10000) (hd : 0 ≤ d ∧ d ≤ 1073741824) (hh : HHd b c d r i x last) :
    codeE Try.prog (callN Try.prog noSpec noL 10 20) (fun _ => none) true 10 36 0 aBody (hT i x) (hH κ a b c d last)
      (hK (fun rc bs vs => ∃ i' y, (HHd b c d r i' y x ∧ x ≤ d ∧ last < x) ∧ rc = hRec (hU κ a b c d) a b c d true none ∧ bs = [.cells [I a, I b, I c, I d] 50, .cells [I x] 3, .cells [I 0] 30, .cells [I 0] 3, .cells [I a, I b, I c, I d] 50] ∧ vs = [.yld 5, .ptr (.own 4 0), I i', I y])
        (fun rc bs => HOut κ a b c d r rc bs) (fun id rc bs => id = 0 ∧ HOut κ a b c d r rc bs)) := by
  obtain ⟨⟨h3, h4⟩, ⟨h5, h6⟩, h7⟩ := hh
  rw [h_eq hκ]
  unfold hTree
  have hl := latF_b (made := b) hc h3
  have hz := latZ (b := b) hc h3
  have p1 : 0 ≤ (10000 - c) * x := Int.mul_nonneg (by omega) h3
  have p2 : (10000 - c) * x ≤ 10000 * x := Int.mul_le_mul_of_nonneg_right (by omega) h3
  have hq : quoZ ((10000 - c) * x + 10000 - 1) 10000 = latF b c x - b := by omega
  rw [hz]
  rcases h7 with ⟨k1, k2, n, k3, k4⟩ | ⟨k1, k2, k3⟩
  · by_cases hx : x > d
    · rw [harmL_hit hx] at k4
      subst k4
      exact cond_dk hx ⟨rfl, .inl ⟨rfl, rfl, rfl⟩⟩
    · refine cond_d (fun h => absurd h hx) (fun _ => cond_d (fun h => by omega) (fun _ => ?_))
      have g1 : latF b c x ≤ x → r = (0, 4) := fun h => by rw [k4, harmL_none hx h]
      have g2 : ¬ latF b c x ≤ x → r = harmL b c d n (i + 1) (latF b c x) := fun h => by rw [k4, harmL_go hx h]
      obtain ⟨n', rfl⟩ : ∃ n', n = n' + 1 := ⟨n - 1, by omega⟩
      have g3 : ¬ latF b c x ≤ x → latF b c x > d → r = (i + 1, 0) := fun h h' => by rw [g2 h, harmL_hit h']
      generalize latF b c x = y at *
      repeat' first
        | refine cond_r (by omega) ?_
        | (refine cond_d (fun _ => ?_) (fun _ => ?_) <;> try (exfalso; omega))
      all_goals first
        | (have e := g3 (by omega) (by omega)
           subst e
           exact .inl ⟨rfl, rfl, rfl⟩)
        | exact .inr ⟨g1 (by omega), rfl, rfl⟩
        | (refine ⟨i + 1, y, ⟨⟨⟨by omega, by omega⟩, ⟨by omega, by omega⟩, ?_⟩, by omega, k1⟩, rfl, rfl, rfl⟩
           by_cases hyx : y ≤ x
           · exact .inr ⟨hyx, by omega, g1 hyx⟩
           · exact .inl ⟨by omega, by omega, n', by omega, g2 hyx⟩)
  · exact cond_d (fun h => by omega) (fun _ => cond_dk k1 ⟨rfl, .inr ⟨k3, rfl, rfl⟩⟩)

/-- The heap behind air. -/
noncomputable def hEnd (κ : Nat) (a b c d : Int) (pd : VEx) (p : Int) : List (Nat × VB) := [(5, hRec (hU κ a b c d) a b c d false (some pd)), (2, .cells [I 0] 30), (1, .cells [I p] 3)]

theorem h_out {κ : Nat} {a b c d : Int} {r : Int × Int} {h' : VH} (h : HOut κ a b c d r (h'.at 5) [h'.at 2, h'.at 1]) :
    ∃ pd p, ((r.2 = 0 ∧ pd = .ret ∧ p = r.1) ∨ (r = (0, 4) ∧ pd = .exit 0 ∧ p = 0)) ∧ fitB (hEnd κ a b c d pd p) h' := by
  rcases h with ⟨h0, h1, h2⟩ | ⟨h0, h1, h2⟩ <;> simp only [List.cons.injEq] at h2
  · exact ⟨.ret, r.1, .inl ⟨h0, rfl, rfl⟩, h1, h2.1, h2.2.1, trivial⟩
  · exact ⟨.exit 0, 0, .inr ⟨h0, rfl, rfl⟩, h1, h2.1, h2.2.1, trivial⟩

theorem h_bel {κ : Nat} (hκ : κ = 0 ∨ κ = 1 ∨ κ = 2) {a b c d p : Int} {pd : VEx} : belB 6 (hEnd κ a b c d pd p) = true := by
  rcases hκ with rfl | rfl | rfl <;> rfl

theorem h_bel1 {κ : Nat} (hκ : κ = 0 ∨ κ = 1 ∨ κ = 2) {a b c d x : Int} : belB 6 (hHB (hU κ a b c d) a b c d x true none 0 0) = true := by
  rcases hκ with rfl | rfl | rfl <;> rfl

theorem h_round {κ : Nat} (hκ : κ = 0 ∨ κ = 1 ∨ κ = 2) {a b c d i x last : Int} {r : Int × Int} (hb : 0 ≤ b ∧ b ≤ 1073741824) (hc : 0 ≤ c ∧ c ≤ 10000) (hd : 0 ≤ d ∧ d ≤ 1073741824) (hh : HHd b c d r i x last) :
    (∃ i' y, (HHd b c d r i' y x ∧ x ≤ d ∧ last < x) ∧ SemC Try.prog true aBody 36 (hT i x) (hH κ a b c d last) .normal (hT i' y) (hH κ a b c d x)) ∨
    (∃ e pd p, (e = .ret ∨ e = .exit 0) ∧ ((r.2 = 0 ∧ pd = .ret ∧ p = r.1) ∨ (r = (0, 4) ∧ pd = .exit 0 ∧ p = 0)) ∧ SemC Try.prog true aBody 36 (hT i x) (hH κ a b c d last) e [] ⟨6, hEnd κ a b c d pd p⟩) := by
  obtain ⟨e, t', h', h1, h2⟩ := code_of hmix good0 (un := 10) (n := 36) (c := aBody) (t := hT i x) (h := hH κ a b c d last) (h_tree hκ hb hc hd hh)
  unfold hK at h1
  split at h1
  · obtain ⟨i', y, hd', hr, hb', hs⟩ := h1
    simp only [List.cons.injEq] at hb' hs
    exact .inl ⟨i', y, hd', sem_weak h2 (Nat.le_refl 6) ⟨hr, hb'.1, hb'.2.1, hb'.2.2.1, hb'.2.2.2.1, hb'.2.2.2.2.1, trivial⟩ (h_bel1 hκ) ⟨hs.1, hs.2.1, hs.2.2.1, hs.2.2.2.1, trivial⟩ rfl (fun v hv => by cases hv)⟩
  · obtain ⟨pd, p, g1, g2⟩ := h_out h1
    exact .inr ⟨_, pd, p, .inl rfl, g1, sem_weak h2 (Nat.le_refl 6) g2 (h_bel hκ) trivial rfl (fun v hv => by cases hv)⟩
  · obtain ⟨rfl, h1⟩ := h1
    obtain ⟨pd, p, g1, g2⟩ := h_out h1
    exact .inr ⟨_, pd, p, .inr rfl, g1, sem_weak h2 (Nat.le_refl 6) g2 (h_bel hκ) trivial rfl (fun v hv => by cases hv)⟩
  · exact h1.elim

theorem h_loop {κ : Nat} (hκ : κ = 0 ∨ κ = 1 ∨ κ = 2) {a b c d : Int} {r : Int × Int} (hb : 0 ≤ b ∧ b ≤ 1073741824) (hc : 0 ≤ c ∧ c ≤ 10000) (hd : 0 ≤ d ∧ d ≤ 1073741824) : ∀ (n : Nat) (i x last : Int), (last < x → d + 2 - x < n) → 0 < n → HHd b c d r i x last →
    ∃ e pd p, (e = .ret ∨ e = .exit 0) ∧ ((r.2 = 0 ∧ pd = .ret ∧ p = r.1) ∨ (r = (0, 4) ∧ pd = .exit 0 ∧ p = 0)) ∧ LoopTo Try.prog true aBody 36 (hT i x) (hH κ a b c d last) e [] ⟨6, hEnd κ a b c d pd p⟩
  | 0, _, _, _, _, h, _ => by omega
  | n + 1, i, x, last, hn, _, hh => by
    rcases h_round hκ (a := a) hb hc hd hh with ⟨i', y, ⟨h1, h2, h3⟩, hs⟩ | ⟨e, pd, p, he, hA, hs⟩
    · have := hn h3
      obtain ⟨e, pd, p, he, hA, hl⟩ := h_loop hκ (a := a) hb hc hd n i' y x (fun h => by omega) (by omega) h1
      exact ⟨e, pd, p, he, hA, .next hs hl⟩
    · exact ⟨e, pd, p, he, hA, .last hs (by rcases he with rfl | rfl <;> simp)⟩

/-- The loop as a row. -/
def hLk (κ : Nat) (a b c d : Int) (p q : Int) : LT := fun lock t h K =>
  FitP lock h t (hH κ a b c d (-1)) (hT 0 a) ∧ (q = 0 → K .normal [] ⟨6, hEnd κ a b c d .ret p⟩ ∧ K .ret [] ⟨6, hEnd κ a b c d .ret p⟩) ∧ (p = 0 ∧ q = 4 → K .normal [] ⟨6, hEnd κ a b c d (.exit 0) 0⟩ ∧ K .ret [] ⟨6, hEnd κ a b c d (.exit 0) 0⟩)

theorem hLk_ok {κ : Nat} (hκ : κ = 0 ∨ κ = 1 ∨ κ = 2) {a b c d : Int} (ha : 0 ≤ a ∧ a ≤ 1073741824) (hb : 0 ≤ b ∧ b ≤ 1073741824) (hc : 0 ≤ c ∧ c ≤ 10000) (hd : 0 ≤ d ∧ d ≤ 1073741824) : LSound Try.prog true (.block 0 (.loop aBody)) 36 (hLk κ a b c d (harmR a b c d).1 (harmR a b c d).2) := by
  intro lock t h K hK
  obtain ⟨hf, hK1, hK2⟩ := hK
  obtain rfl := hf.1.1
  obtain ⟨e, pd, p, he, hA, hl⟩ := h_loop hκ (a := a) (r := harmR a b c d) hb hc hd ((d + 2 - a).toNat + 1) 0 a (-1) (fun _ => by omega) (by omega)
    ⟨⟨by omega, by omega⟩, ⟨by omega, by omega⟩, .inl ⟨by omega, by omega, (d + 1 - a).toNat, by omega, rfl⟩⟩
  have key : ∀ (e' : VEx), ((e = .exit 0 ∧ e' = .normal) ∨ (e = .ret ∧ e' = .ret)) → K e' [] ⟨6, hEnd κ a b c d pd p⟩ → ∃ e t' h', K e t' h' ∧ LockP 0 h h' ∧ SemC Try.prog true (.block 0 (.loop aBody)) 36 t h e t' h' := by
    intro e' hee hk
    refine ⟨e', [], _, hk, lock0 _ _, sem_fit hf (block_sound (loopTo_sound hl) ?_)⟩
    rcases hee with ⟨h1, h2⟩ | ⟨h1, h2⟩
    · exact .inl ⟨h1, h2⟩
    · exact .inr ⟨by rw [h1]; simp, by rw [h1, h2]⟩
  rcases hA with ⟨h0, rfl, rfl⟩ | ⟨h0, rfl, rfl⟩
  · rcases he with he | he
    · exact key .ret (.inr ⟨he, rfl⟩) (hK1 h0).2
    · exact key .normal (.inl ⟨he, rfl⟩) (hK1 h0).1
  · have h4 : (harmR a b c d).1 = 0 ∧ (harmR a b c d).2 = 4 := by rw [h0]; exact ⟨rfl, rfl⟩
    rcases he with he | he
    · exact key .ret (.inr ⟨he, rfl⟩) (hK2 h4).2
    · exact key .normal (.inl ⟨he, rfl⟩) (hK2 h4).1
end Go.Sx.Malt
