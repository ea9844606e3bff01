/- Lists of structs of numbers at a row's arguments, as data. -/
import Derived.Test.YtlboglkgbhjpeaaSxI

namespace Go.Sx
open Go Go.ChangeShapes Go.WideShapes Go.RowKit

theorem tl_congr {R : Rn} {L s : Nat} {g g' : Nat → List VV} {x : Value} (hg : ∀ j, j < L → g j = g' j) (hx : VRel R (.tl L s g) x) : VRel R (.tl L s g') x := by
  obtain ⟨p, cap, a1, a2, a3⟩ := hx
  refine ⟨p, cap, a1, a2, fun i hi => ?_⟩
  obtain ⟨b, o, xs, b1, b2, b3, b4, b5⟩ := a3 i hi
  exact ⟨b, o, xs, b1, b2, b3, by rw [← hg i hi]; exact b4, by rw [← hg i hi]; exact b5⟩

/-- A list of structs of numbers, as data. -/
theorem tl_of_rows {W : World} {v : Value} {s : Nat} {ki : IntKind} (hs : 0 < s)
    (h : v = .slice none 0 0 ∨ ∃ a len cap, v = .slice (some a) len cap ∧ len ≤ cap ∧ cap ≤ maxLen ∧ (0 < len → a.block < W.heap.size ∧ a.spot = none) ∧
      ∀ i, i < len → ∀ k, k < s → W.cell? (a.add (i * s + k)) = some (.int ki (rdI W (a.add (i * s + k)))) ∧ (Lit.int ki (rdI W (a.add (i * s + k)))).wf = true) :
    ∃ l : List (List Int), VRel (dataR W) (.tl l.length s fun j => (l.getD j []).map (VV.int ki)) v ∧ l.length ≤ maxLen ∧ ∀ x ∈ l, x.length = s ∧ ∀ n ∈ x, (Lit.int ki n).wf = true := by
  rcases h with rfl | ⟨a, len, cap, rfl, hl, hm, hbl, hc⟩
  · exact ⟨[], ⟨none, 0, rfl, ⟨Nat.le_refl _, fun _ => rfl⟩, fun i hi => absurd hi (Nat.not_lt_zero i)⟩, Nat.zero_le _, by simp⟩
  · have hln : ((List.range len).map (rdL W a s)).length = len := by simp
    have hget : ∀ j, j < len → ((List.range len).map (rdL W a s)).getD j [] = rdL W a s j := fun j hj => by simp [List.getD_eq_getElem?_getD, hj]
    refine ⟨(List.range len).map (rdL W a s), ?_, by rw [hln]; omega, fun x hx => ?_⟩
    · rw [hln]
      have hR : RowIn W (.slice (some a) len cap) len s cap (fun j => (((List.range len).map (rdL W a s)).getD j []).map (VV.int ki)) a := by
        refine ⟨.inl rfl, hl, fun j hj => ?_⟩
        obtain ⟨h1, h2⟩ := hbl (by omega)
        rw [hget j hj]
        refine ⟨h1, h2, fun R => ⟨(rdL W a s j).map (Value.int ki), vrel_ints _, by simp [rdL], fun k x hk => ?_⟩⟩
        rw [List.getElem?_map] at hk
        cases hk' : (rdL W a s j)[k]? with
        | none => rw [hk'] at hk; cases hk
        | some n =>
          rw [hk'] at hk
          cases hk
          have hks : k < s := by
            have := (List.getElem?_eq_some_iff.1 hk').1
            simpa [rdL] using this
          have : n = rdI W (a.add (j * s + k)) := by
            unfold rdL at hk'
            rw [List.getElem?_map, List.getElem?_range hks] at hk'
            cases hk'
            rfl
          rw [this]
          exact (hc j hj k hks).1
      refine rowIn_tl hR hs (fun j hj => ?_)
      rw [List.all_eq_true]
      intro x hx
      obtain ⟨n, _, rfl⟩ := List.mem_map.1 hx
      rfl
    · obtain ⟨j, hj, rfl⟩ := List.mem_map.1 hx
      rw [List.mem_range] at hj
      refine ⟨by simp [rdL], fun n hn => ?_⟩
      obtain ⟨k, hk, rfl⟩ := List.mem_map.1 hn
      rw [List.mem_range] at hk
      exact (hc j hj k hk).2
end Go.Sx
