/- malt: air, as Dust ranges over it. -/
import Derived.Test.YtdfbhoejljidfaaMd3

namespace Go.Sx.Malt
open Go Go.Sx Go.Proofs
set_option maxRecDepth 100000

noncomputable abbrev aBody : Code := loopB 0 (bodyOf Try.prog 59)
noncomputable abbrev dH (a b c d m prev : Int) : VH := ⟨7, dHB a b c d m prev true none 0 0⟩

/-- What holds at the head of air's loop; r: what Dust returns in the end. -/
def Hd (b c m r i x prev : Int) : Prop :=
  (0 ≤ i ∧ i ≤ m + 1) ∧ (0 ≤ x ∧ x ≤ 2147483648) ∧ (i ≤ m → x > 1073741824 → r = 1073741824) ∧ (i ≤ m → ¬ x > 1073741824 → r = dustL b c (m - i).toNat x) ∧ (m < i → r = prev)

/-- How air ends. -/
noncomputable def AOut (a b c d m r : Int) (rc : VB) (bs : List VB) : Prop :=
  (rc = dRec a b c d m true none ∧ bs = [.cells [I a, I b, I c, I d] 50, .cells [I r] 3, .cells [I 0] 30, .cells [I 0] 3, .cells [I m] 3]) ∨
  (rc = dRec a b c d m false (some (.exit 1)) ∧ bs = [.cells [I a, I b, I c, I d] 50, .cells [I r] 3, .cells [I 0] 30, .cells [I 0] 3, .cells [I m] 3]) ∨
  (r = 1073741824 ∧ rc = dRec a b c d m false (some .ret) ∧ ∃ y, bs = [.cells [I a, I b, I c, I d] 50, .cells [I y] 3, .cells [I 0] 30, .cells [I 1073741824] 3, .cells [I m] 3])

theorem toNat_s {m i : Int} (h : i + 1 ≤ m) : (m - i).toNat = (m - (i + 1)).toNat + 1 := by omega

theorem a_tree {a b c d m r i x prev : Int} (hb : 0 ≤ b ∧ b ≤ 1073741824) (hc : 0 ≤ c ∧ c ≤ 10000) (hm : 0 ≤ m ∧ m ≤ 65536) (hh : Hd b c m r i x prev) :
    codeE Try.prog (callN Try.prog noSpec noL 10 20) (fun _ => none) true 10 36 0 aBody (aT i x) (dH a b c d m prev)
      (aK (fun rc bs vs => ∃ i' x' p', (i' = i + 1 ∧ Hd b c m r i' x' p' ∧ i ≤ m) ∧ rc = dRec a b c d m true none ∧ bs = [.cells [I a, I b, I c, I d] 50, .cells [I p'] 3, .cells [I 0] 30, .cells [I 0] 3, .cells [I m] 3] ∧ vs = [.yld 6, .ptr (.own 5 0), I i', I x'])
        (fun rc bs => AOut a b c d m r rc bs) (fun id rc bs => id = 0 ∧ AOut a b c d m r rc bs)) := by
  obtain ⟨⟨h1, h2⟩, ⟨h3, h4⟩, h5, h6, h7⟩ := hh
  rw [around_ev]
  have hl := latF_b (made := b) hc h3
  have hz := latZ (b := b) hc h3
  have p1 : 0 ≤ (10000 - c) * x := Int.mul_nonneg (by omega) h3
  have p2 : (10000 - c) * x ≤ 10000 * x := Int.mul_le_mul_of_nonneg_right (by omega) h3
  have hq : quoZ ((10000 - c) * x + 10000 - 1) 10000 = latF b c x - b := by omega
  rw [hz]
  by_cases hi : i > m
  · have hr := h7 hi
    refine cond_dk hi ⟨rfl, .inr (.inl ⟨rfl, ?_⟩)⟩
    rw [hr]
  · have him : i ≤ m := by omega
    refine cond_d (fun h => absurd h hi) (fun _ => ?_)
    by_cases hx : x > 1073741824
    · refine cond_dk hx ⟨rfl, .inr (.inr ⟨h5 him hx, rfl, _, rfl⟩)⟩
    · refine cond_d (fun h => absurd h hx) (fun _ => ?_)
      have hr := h6 him hx
      have g1 : i + 1 > m → r = x := fun h => by
        rw [hr, show (m - i).toNat = 0 by omega]; rfl
      have g2 : i + 1 ≤ m → latF b c x > 1073741824 → r = 1073741824 := fun h hl => by
        rw [hr, toNat_s h]; exact dustL_big hl
      have g3 : i + 1 ≤ m → ¬ latF b c x > 1073741824 → r = dustL b c (m - (i + 1)).toNat (latF b c x) := fun h hl => by
        rw [hr, toNat_s h]; exact dustL_go hl
      have g4 : latF b c x = x → r = x := fun h => by rw [hr]; exact dustL_fix h hx _
      generalize hlat : latF b c x = y at *
      repeat' first
        | refine cond_r (by omega) ?_
        | (refine cond_d (fun _ => ?_) (fun _ => ?_) <;> try (exfalso; omega))
      all_goals first
        | exact .inr (.inl ⟨rfl, by rw [g1 (by omega)]⟩)
        | exact .inr (.inr ⟨g2 (by omega) (by omega), rfl, _, rfl⟩)
        | exact .inl ⟨rfl, by have e : y = x := by omega
                              rw [g4 e, e]⟩
        | exact ⟨i + 1, y, x, ⟨rfl, ⟨⟨by omega, by omega⟩, ⟨by omega, by omega⟩, fun h1 h2 => g2 (by omega) h2, fun h1 h2 => g3 (by omega) h2, fun h1 => g1 (by omega)⟩, him⟩, rfl, rfl, rfl⟩

theorem a_fit {a b c d m p : Int} {h' : VH} {st : Bool} {pd : Option VEx} {z2 z3 : Int} (hr : h'.at 6 = dRec a b c d m st pd) (hb : [h'.at 5, h'.at 4, h'.at 3, h'.at 2, h'.at 1] = [.cells [I a, I b, I c, I d] 50, .cells [I p] 3, .cells [I z3] 30, .cells [I z2] 3, .cells [I m] 3]) :
    fitB (dHB a b c d m p st pd z2 z3) h' := by
  simp only [List.cons.injEq] at hb
  exact ⟨hr, hb.1, hb.2.1, hb.2.2.1, hb.2.2.2.1, hb.2.2.2.2.1, trivial⟩

theorem dHB_bel {a b c d m p : Int} {st : Bool} {pd : Option VEx} {z2 z3 : Int} : belB 7 (dHB a b c d m p st pd z2 z3) = true := rfl

/-- How air's loop ends: where it is left, and the heap. -/
def AEnd (a b c d m r : Int) (bs : List (Nat × VB)) : Prop :=
  bs = dHB a b c d m r true none 0 0 ∨ bs = dHB a b c d m r false (some (.exit 1)) 0 0 ∨ (r = 1073741824 ∧ ∃ y, bs = dHB a b c d m y false (some .ret) 1073741824 0)

theorem a_out {a b c d m r : Int} {h' : VH} (h : AOut a b c d m r (h'.at 6) [h'.at 5, h'.at 4, h'.at 3, h'.at 2, h'.at 1]) : ∃ bs, AEnd a b c d m r bs ∧ fitB bs h' ∧ belB 7 bs = true := by
  rcases h with ⟨h1, h2⟩ | ⟨h1, h2⟩ | ⟨h0, h1, y, h2⟩
  · exact ⟨_, .inl rfl, a_fit h1 h2, rfl⟩
  · exact ⟨_, .inr (.inl rfl), a_fit h1 h2, rfl⟩
  · exact ⟨_, .inr (.inr ⟨h0, y, rfl⟩), a_fit h1 h2, rfl⟩

theorem a_round {a b c d m r i x prev : Int} (hb : 0 ≤ b ∧ b ≤ 1073741824) (hc : 0 ≤ c ∧ c ≤ 10000) (hm : 0 ≤ m ∧ m ≤ 65536) (hh : Hd b c m r i x prev) :
    (∃ x' p', Hd b c m r (i + 1) x' p' ∧ i ≤ m ∧ SemC Try.prog true aBody 36 (aT i x) (dH a b c d m prev) .normal (aT (i + 1) x') (dH a b c d m p')) ∨
    (∃ e bs, (e = .ret ∨ e = .exit 0) ∧ AEnd a b c d m r bs ∧ SemC Try.prog true aBody 36 (aT i x) (dH a b c d m prev) e [] ⟨7, bs⟩) := by
  obtain ⟨e, t', h', h1, h2⟩ := code_of hmix good0 (un := 10) (n := 36) (c := aBody) (t := aT i x) (h := dH a b c d m prev) (a_tree hb hc hm hh)
  unfold aK at h1
  split at h1
  · obtain ⟨i', x', p', ⟨rfl, hd, him⟩, hr, hb', hs⟩ := h1
    simp only [List.cons.injEq] at hs
    exact .inl ⟨x', p', hd, him, sem_weak h2 (Nat.le_refl 7) (a_fit hr hb') rfl ⟨hs.1, hs.2.1, hs.2.2.1, hs.2.2.2.1, trivial⟩ rfl (fun v hv => by cases hv)⟩
  · obtain ⟨bs, g1, g2, g3⟩ := a_out h1
    exact .inr ⟨_, bs, .inl rfl, g1, sem_weak h2 (Nat.le_refl 7) g2 g3 trivial rfl (fun v hv => by cases hv)⟩
  · obtain ⟨rfl, h1⟩ := h1
    obtain ⟨bs, g1, g2, g3⟩ := a_out h1
    exact .inr ⟨_, bs, .inr rfl, g1, sem_weak h2 (Nat.le_refl 7) g2 g3 trivial rfl (fun v hv => by cases hv)⟩
  · exact h1.elim

theorem a_loop {a b c d m r : Int} (hb : 0 ≤ b ∧ b ≤ 1073741824) (hc : 0 ≤ c ∧ c ≤ 10000) (hm : 0 ≤ m ∧ m ≤ 65536) : ∀ (n : Nat) (i x prev : Int), m + 2 - i ≤ n → Hd b c m r i x prev →
    ∃ e bs, (e = .ret ∨ e = .exit 0) ∧ AEnd a b c d m r bs ∧ LoopTo Try.prog true aBody 36 (aT i x) (dH a b c d m prev) e [] ⟨7, bs⟩
  | 0, i, x, prev, hn, hh => by
    have := hh.1.2
    omega
  | n + 1, i, x, prev, hn, hh => by
    rcases a_round (a := a) (d := d) hb hc hm hh with ⟨x', p', hd, _, hs⟩ | ⟨e, bs, he, hA, hs⟩
    · obtain ⟨e, bs, he, hA, hl⟩ := a_loop (a := a) (d := d) hb hc hm n (i + 1) x' p' (by omega) hd
      exact ⟨e, bs, he, hA, .next hs hl⟩
    · exact ⟨e, bs, he, hA, .last hs (by rcases he with rfl | rfl <;> simp)⟩

/-- The loop as a row. -/
def aLB (a b c d m r : Int) : LT := fun lock t h K =>
  FitP lock h t (dH a b c d m 0) (aT 0 a) ∧ (K .normal [] ⟨7, dHB a b c d m r true none 0 0⟩ ∧ K .ret [] ⟨7, dHB a b c d m r true none 0 0⟩) ∧ (K .normal [] ⟨7, dHB a b c d m r false (some (.exit 1)) 0 0⟩ ∧ K .ret [] ⟨7, dHB a b c d m r false (some (.exit 1)) 0 0⟩) ∧
    (∀ _y : Int, r = 1073741824 → K .normal [] ⟨7, dHB a b c d m _y false (some .ret) 1073741824 0⟩ ∧ K .ret [] ⟨7, dHB a b c d m _y false (some .ret) 1073741824 0⟩)

theorem aLB_ok {a b c d m : Int} (ha : 0 ≤ a ∧ a ≤ 1073741824) (hb : 0 ≤ b ∧ b ≤ 1073741824) (hc : 0 ≤ c ∧ c ≤ 10000) (hm : 0 ≤ m ∧ m ≤ 65536) : LSound Try.prog true (.block 0 (.loop aBody)) 36 (aLB a b c d m (dustL b c m.toNat a)) := by
  intro lock t h K hK
  obtain ⟨hf, hK1, hK2, hK3⟩ := hK
  obtain rfl := hf.1.1
  obtain ⟨e, bs, he, hA, hl⟩ := a_loop (a := a) (d := d) (r := dustL b c m.toNat a) hb hc hm (m + 2).toNat 0 a 0 (by omega)
    ⟨⟨by omega, by omega⟩, ⟨by omega, by omega⟩, fun _ h => by omega, fun _ _ => by rw [Int.sub_zero], fun h => by omega⟩
  have key : ∀ (e' : VEx), ((e = .exit 0 ∧ e' = .normal) ∨ (e = .ret ∧ e' = .ret)) → K e' [] ⟨7, bs⟩ → ∃ e t' h', K e t' h' ∧ LockP 0 h h' ∧ SemC Try.prog true (.block 0 (.loop aBody)) 36 t h e t' h' := by
    intro e' hee hk
    refine ⟨e', [], _, hk, lock0 _ _, sem_fit hf (block_sound (loopTo_sound hl) ?_)⟩
    rcases hee with ⟨h1, h2⟩ | ⟨h1, h2⟩
    · exact .inl ⟨h1, h2⟩
    · exact .inr ⟨by rw [h1]; simp, by rw [h1, h2]⟩
  rcases he with he | he <;> rcases hA with hA | hA | ⟨h0, y, hA⟩ <;> subst hA
  · exact key .ret (.inr ⟨he, rfl⟩) hK1.2
  · exact key .ret (.inr ⟨he, rfl⟩) hK2.2
  · exact key .ret (.inr ⟨he, rfl⟩) (hK3 y h0).2
  · exact key .normal (.inl ⟨he, rfl⟩) hK1.1
  · exact key .normal (.inl ⟨he, rfl⟩) hK2.1
  · exact key .normal (.inl ⟨he, rfl⟩) (hK3 y h0).1

end Go.Sx.Malt
