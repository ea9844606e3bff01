/- A contract over read-only arrays holds where its arrays are lists of the caller's. -/
import Derived.Test.YtlboglkgbhjpeaaSxV

namespace Go.Sx
open Go

/-- A list, as a read-only array. -/
def arrOf (s L : Nat) (g : Nat → List VV) : VB := .arr s (fun ix i => ix = [] ∧ 0 ≤ i ∧ i < (L : Int)) (fun _ i => g i.toNat)

section
variable {P : Program}

theorem calls_viewA {f : FuncId} {args' : List VV} {hm h : VH} {r : VRes} (ho : onlyArr hm) (hr : r.pure = true)
    (view : ∀ (B : Nat) (R : Rn) (w : World) (xs : List Value), Emb B R h.at w → VRelL R args' xs → ∃ ra st args hm', CallsV P f args hm r hm' ∧ View w hm ra st ∧ VRelL ⟨fun _ => none, ra, st, fun _ _ => none, fun _ => none⟩ args xs) : CallsV P f args' h r h := by
  intro B R w xs em hx
  obtain ⟨ra, st, args, hm', hs, hv, ha⟩ := view B R w xs em hx
  have e0 : Emb w.heap.size ⟨fun _ => none, ra, st, fun _ _ => none, fun _ => none⟩ hm.at w := emb_args (fun _ => rfl) (fun _ _ => rfl) ho hv.arr
  refine (hs w.heap.size _ w xs e0 ha).mono ?_
  rintro e w' ⟨R1, n1, e1, x⟩
  have how : ∀ n b, (⟨fun _ => none, ra, st, fun _ _ => none, fun _ => none⟩ : Rn).ow n (hm.at n) ≠ some b := fun n b hb => by
    rcases ho n with ⟨s, ok, g, h1⟩ | h1 | h1 <;> rw [h1] at hb <;> cases hb
  have hsame : ∀ b, b < w.heap.size → w'.heap[b]? = w.heap[b]? := fun b hb => n1.frame b hb (fun n => how n b)
  exact ⟨R, ⟨fun _ h => h, fun _ _ => rfl, rfl, rfl, fun _ _ _ h => h, fun n L v h1 h2 => (by rw [h1] at h2; cases h2), fun n L g s t hn => .inr ⟨L, g, s, t, hn, Nat.le_refl _⟩, fun _ _ h => .inl h, n1.size, fun b hb _ => hsame b hb, n1.os, n1.tape, n1.output, fun _ _ h => h, fun _ _ h => .inl h⟩,
    emb_same em n1.size hsame, pure_res hr x⟩

/-- A list of the caller's, as an array of the callee's. -/
theorem view_vec {B : Nat} {R : Rn} {w : World} {η : Nat → VB} (em : Emb B R η w) {m L s : Nat} {g : Nat → List VV} {t : TypeId} (hη : η m = .vec L g s t) {x : Value} (hx : VRel R (.sl m L) x) (hg : ∀ i, i < L → pureL (g i) = true) :
    ∃ (q : Addr) (p : Option Addr) (cap : Nat), x = .slice p L cap ∧ L ≤ cap ∧ (cap = 0 ∨ p = some q) ∧
      ∀ R' : Rn, ∀ i : Int, 0 ≤ i → i < (L : Int) → q.block < w.heap.size ∧ q.spot = none ∧ ∃ xs, VRelL R' (g i.toNat) xs ∧ xs.length = s ∧ ∀ k y, xs[k]? = some y → w.cell? (q.add (i.toNat * s + k)) = some y := by
  obtain ⟨hv, _⟩ := hx
  have hok := em.vec m L g s t hη
  obtain ⟨v, xs, g1, g2, _⟩ := hok.row
  rw [hv] at g1; cases g1
  rcases g2.2 with ⟨rfl, rfl⟩ | ⟨b, cap, cur, rfl, hb, hb2, hcap, _⟩
  · exact ⟨default, none, 0, rfl, Nat.le_refl 0, .inl rfl, fun R' i h0 h1 => by omega⟩
  · refine ⟨⟨b, 0, none⟩, _, cap, rfl, hcap, .inr rfl, fun R' i h0 h1 => ⟨?_, rfl, ?_⟩⟩
    · exact (Array.getElem?_eq_some_iff.1 hb2).1
    · obtain ⟨ys, w1, w2, _, w4⟩ := hok.elem hv rfl (i := i.toNat) (by omega)
      refine ⟨ys, pure_L _ _ (hg _ (by omega)) w1, w2, fun k y hk => ?_⟩
      rw [add_lit, Nat.zero_add]
      exact w4 k y hk

theorem onlyArr2 {A C : VB} (hA : ∃ s ok g, A = .arr s ok g) (hC : ∃ s ok g, C = .arr s ok g) : onlyArr (VH.mk 2 [(0, A), (1, C)]) := by
  intro n
  by_cases h : n < 2
  · have : n = 0 ∨ n = 1 := by omega
    rcases this with rfl | rfl
    · exact .inl hA
    · exact .inl hC
  · exact .inr (.inr (at_ge h))

/-- A function of two lists, where they are lists of the caller's. -/
theorem view_two {f : FuncId} {L1 L2 s1 s2 : Nat} {g1 g2 : Nat → List VV} {r : VRes} (hs : ∀ c1 c2 : Nat, ∃ h', CallsV P f [.slice (.el 0 [] 0 0) L1 c1, .slice (.el 1 [] 0 0) L2 c2] ⟨2, [(0, arrOf s1 L1 g1), (1, arrOf s2 L2 g2)]⟩ r h') (hr : r.pure = true)
    (p1 : ∀ i, i < L1 → pureL (g1 i) = true) (p2 : ∀ i, i < L2 → pureL (g2 i) = true) {h : VH} {m1 m2 : Nat} {t1 t2 : TypeId} (h1 : h.at m1 = .vec L1 g1 s1 t1) (h2 : h.at m2 = .vec L2 g2 s2 t2) : CallsV P f [.sl m1 L1, .sl m2 L2] h r h := by
  refine calls_viewA (hm := ⟨2, [(0, arrOf s1 L1 g1), (1, arrOf s2 L2 g2)]⟩) (onlyArr2 ⟨_, _, _, rfl⟩ ⟨_, _, _, rfl⟩) hr ?_
  intro B R w xs em hx
  obtain ⟨y1, _, hy1, ⟨y2, _, hy2, hnil, rfl⟩, rfl⟩ := hx
  simp only [VRelL] at hnil
  subst hnil
  obtain ⟨q1, a1, c1, rfl, e1, f1, v1⟩ := view_vec em h1 hy1 p1
  obtain ⟨q2, a2, c2, rfl, e2, f2, v2⟩ := view_vec em h2 hy2 p2
  obtain ⟨h', hc⟩ := hs c1 c2
  refine ⟨fun n _ => if n = 0 then q1 else q2, fun n => if n = 0 then s1 else s2, _, h', hc, ⟨fun n s ok g hn => ?_⟩, ?_⟩
  · by_cases h : n < 2
    · have : n = 0 ∨ n = 1 := by omega
      rcases this with rfl | rfl
      · cases hn
        refine ⟨rfl, ?_⟩
        rintro ix i ⟨_, i0, i1⟩
        obtain ⟨w1, w2, w3⟩ := v1 ⟨fun _ => none, fun n _ => if n = 0 then q1 else q2, fun n => if n = 0 then s1 else s2, fun _ _ => none, fun _ => none⟩ i i0 i1
        exact ⟨i0, w1, w2, w3⟩
      · cases hn
        refine ⟨rfl, ?_⟩
        rintro ix i ⟨_, i0, i1⟩
        obtain ⟨w1, w2, w3⟩ := v2 ⟨fun _ => none, fun n _ => if n = 0 then q1 else q2, fun n => if n = 0 then s1 else s2, fun _ _ => none, fun _ => none⟩ i i0 i1
        exact ⟨i0, w1, w2, w3⟩
    · rw [at_ge h] at hn; cases hn
  · have hadd : ∀ q : Addr, q.add ((0 : Int).toNat * 0 + 0) = q := fun q => by
      show q.add 0 = q
      unfold Addr.add
      rw [if_pos rfl]
    have hz : ∀ (q : Addr) (s : Nat), q = q.add ((0 : Int).toNat * s + 0) := fun q s => by
      have : (0 : Int).toNat * s + 0 = 0 := by simp
      rw [this]
      unfold Addr.add
      rw [if_pos rfl]
    refine ⟨_, _, ⟨e1, a1, ?_, rfl⟩, ⟨_, _, ⟨e2, a2, ?_, rfl⟩, rfl, rfl⟩, rfl⟩
    · rcases f1 with f1 | f1
      · exact .inl f1
      · exact .inr ⟨q1, f1, hz q1 _⟩
    · rcases f2 with f2 | f2
      · exact .inl f2
      · exact .inr ⟨q2, f2, hz q2 _⟩

theorem onlyArrA {A : VB} (hA : ∃ s ok g, A = .arr s ok g) : onlyArr (VH.mk 1 [(0, A)]) := by
  intro n
  by_cases h : n < 1
  · obtain rfl : n = 0 := by omega
    exact .inl hA
  · exact .inr (.inr (at_ge h))

/-- A function of a list and plain values, where the list is one of the caller's. -/
theorem view_one {f : FuncId} {L s : Nat} {g : Nat → List VV} {rest : List VV} {r : VRes} (hs : ∀ c : Nat, ∃ h', CallsV P f (.slice (.el 0 [] 0 0) L c :: rest) ⟨1, [(0, arrOf s L g)]⟩ r h') (hr : r.pure = true) (hp : pureL rest = true)
    (p1 : ∀ i, i < L → pureL (g i) = true) {h : VH} {m : Nat} {t : TypeId} (h1 : h.at m = .vec L g s t) : CallsV P f (.sl m L :: rest) h r h := by
  refine calls_viewA (hm := ⟨1, [(0, arrOf s L g)]⟩) (onlyArrA ⟨_, _, _, rfl⟩) hr ?_
  intro B R w xs em hx
  obtain ⟨y1, ys, hy1, hys, rfl⟩ := hx
  obtain ⟨q1, a1, c1, rfl, e1, f1, v1⟩ := view_vec em h1 hy1 p1
  obtain ⟨h', hc⟩ := hs c1
  refine ⟨fun _ _ => q1, fun _ => s, _, h', hc, ⟨fun n s' ok g' hn => ?_⟩, _, _, ⟨e1, a1, ?_, rfl⟩, pure_L _ _ hp hys, rfl⟩
  · by_cases h : n < 1
    · obtain rfl : n = 0 := by omega
      cases hn
      refine ⟨rfl, ?_⟩
      rintro ix i ⟨_, i0, i1⟩
      obtain ⟨w1, w2, w3⟩ := v1 ⟨fun _ => none, fun _ _ => q1, fun _ => s, fun _ _ => none, fun _ => none⟩ i i0 i1
      exact ⟨i0, w1, w2, w3⟩
    · rw [at_ge h] at hn; cases hn
  · have hz : ∀ (q : Addr) (s : Nat), q = q.add ((0 : Int).toNat * s + 0) := fun q s => by
      have : (0 : Int).toNat * s + 0 = 0 := by simp
      rw [this]
      unfold Addr.add
      rw [if_pos rfl]
    rcases f1 with f1 | f1
    · exact .inl f1
    · exact .inr ⟨q1, f1, hz q1 _⟩
end
end Go.Sx
