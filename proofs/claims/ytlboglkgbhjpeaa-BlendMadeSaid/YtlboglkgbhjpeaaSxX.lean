/- A contract over lists, at a row's arguments. -/
import Derived.Test.YtlboglkgbhjpeaaSxZ
import Derived.Test.YtlboglkgbhjpeaaSxQ

namespace Go.Sx
open Go Go.ChangeShapes Go.WideShapes Go.RowKit

/-- A list lies in the world. -/
structure RowIn (W : World) (v : Value) (L s cap : Nat) (g : Nat → List VV) (q : Addr) : Prop where
  val : v = .slice (some q) L cap ∨ (v = .slice none 0 0 ∧ L = 0 ∧ cap = 0)
  le : L ≤ cap
  cell : Lies W q L s g

/-- Arguments, as they lie in the world. -/
def agIn (W : World) : List Ag → List Value → Prop
  | [], xs => xs = []
  | .v x :: r, xs => ∃ y ys, xs = y :: ys ∧ (∀ R, VRel R x y) ∧ agIn W r ys
  | .l L s g :: r, xs => ∃ y ys cap q, xs = y :: ys ∧ RowIn W y L s cap g q ∧ agIn W r ys

theorem ag_in {W : World} : ∀ (ags : List Ag) (n : Nat) (xs : List Value), agIn W ags xs →
    ∃ (cs : List Nat) (qs : Nat → Addr), (∀ m s ok g, lookB (agBs n ags) m = .arr s ok g → agSt n ags m = s ∧ ∀ ix i, ok ix i → 0 ≤ i ∧ (qs m).block < W.heap.size ∧ (qs m).spot = none ∧
      ∀ R' : Rn, ∃ ys, VRelL R' (g ix i) ys ∧ ys.length = s ∧ ∀ k y, ys[k]? = some y → W.cell? ((qs m).add (i.toNat * s + k)) = some y) ∧
      ∀ R' : Rn, (∀ m, n ≤ m → R'.arr m [] = qs m) → VRelL R' (agArgs n ags cs) xs
  | [], n, xs, ha => by
    simp only [agIn] at ha
    subst ha
    exact ⟨[], fun _ => default, fun m s ok g hm => by simp [agBs, lookB] at hm, fun R' _ => rfl⟩
  | .v x :: r, n, xs, ha => by
    obtain ⟨y, ys, rfl, hy, ha⟩ := ha
    obtain ⟨cs, qs, h1, h2⟩ := ag_in r n ys ha
    exact ⟨cs, qs, h1, fun R' hR => ⟨y, ys, hy R', h2 R' hR, rfl⟩⟩
  | .l L s g :: r, n, xs, ha => by
    obtain ⟨y, ys, cap, q, rfl, hv, ha⟩ := ha
    obtain ⟨cs, qs, h1, h2⟩ := ag_in r (n + 1) ys ha
    refine ⟨cap :: cs, fun m => if m = n then q else qs m, fun m s' ok g' hm => ?_, fun R' hR => ⟨_, ys, ?_, h2 R' fun m hm => ?_, rfl⟩⟩
    · by_cases hmn : m = n
      · subst hmn
        simp only [agBs, lookB, beq_t rfl, cond_true] at hm
        cases hm
        refine ⟨by simp only [agSt, if_true], ?_⟩
        rintro ix i ⟨_, i0, i1⟩
        obtain ⟨a1, a2, a3⟩ := hv.cell i.toNat (by omega)
        dsimp only
        rw [if_pos rfl]
        exact ⟨i0, a1, a2, a3⟩
      · simp only [agBs, lookB, beq_f (fun e : n = m => hmn e.symm), cond_false] at hm
        obtain ⟨g1, g2⟩ := h1 m s' ok g' hm
        refine ⟨by simp only [agSt, if_neg hmn]; exact g1, ?_⟩
        dsimp only
        rw [if_neg hmn]
        exact g2
    · rcases hv.val with rfl | ⟨rfl, rfl, rfl⟩
      · refine ⟨hv.le, some q, .inr ⟨q, rfl, ?_⟩, rfl⟩
        show q = (R'.arr n []).add ((0 : Int).toNat * R'.str n + 0)
        rw [hR n (Nat.le_refl n)]
        dsimp only
        rw [if_pos rfl]
        have : (0 : Int).toNat * R'.str n + 0 = 0 := by simp
        rw [this]
        unfold Addr.add
        rw [if_pos rfl]
      · exact ⟨Nat.le_refl _, none, .inl rfl, rfl⟩
    · rw [hR m (by omega)]; exact if_neg (by omega)

/-- A law of lists, at a row's arguments. -/
theorem row_lists {P : Program} {f : FuncId} {ags : List Ag} {W : World} {xs : List Value} (hs : ∀ cs : List Nat, ∃ hm', CallsV P f (agArgs 0 ags cs) (agH ags) (.ret (.bool true)) hm') (ha : agIn W ags xs) :
    Calls P f xs.toArray W fun e W' => e = .returned (.bool true) ∧ Below W.heap.size W W' := by
  obtain ⟨cs, qs, h1, h2⟩ := ag_in ags 0 xs ha
  obtain ⟨hm', hc⟩ := hs cs
  refine calls_row (R := ⟨fun _ => none, fun n _ => qs n, fun n => agSt 0 ags n, fun _ _ => none, fun _ => none⟩) hc (emb_args (fun _ => rfl) (fun _ _ => rfl) (fun n => ?_) (fun n s ok g hn => ?_)) (h2 _ fun m _ => rfl) (fun n b hb => ?_)
  · rcases agH_at ags n with ⟨s, ok, g, h3, _⟩ | h3 | h3
    · exact .inl ⟨s, ok, g, h3⟩
    · exact .inr (.inl h3)
    · exact .inr (.inr h3)
  · rcases agH_at ags n with ⟨s', ok', g', h3, h4⟩ | h3 | h3
    · rw [h3] at hn
      cases hn
      obtain ⟨g1, g2⟩ := h1 n _ _ _ h4
      refine ⟨g1, fun ix i hi => ?_⟩
      obtain ⟨k1, k2, k3, k4⟩ := g2 ix i hi
      exact ⟨k1, k2, k3, k4 _⟩
    · rw [h3] at hn; cases hn
    · rw [h3] at hn; cases hn
  · rcases agH_at ags n with ⟨s', ok', g', h3, _⟩ | h3 | h3 <;> rw [h3] at hb <;> cases hb
end Go.Sx
