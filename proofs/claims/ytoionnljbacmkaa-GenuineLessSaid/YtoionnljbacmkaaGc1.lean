/- genuine: arguments read. -/
import Derived.Test.YtoionnljbacmkaaGa9
import Derived.Test.YtoionnljbacmkaaRows

namespace Go.Sx.Gen
open Go Go.Sx Go.Proofs Go.RowKit
set_option maxRecDepth 100000

theorem leaves51 : leavesT Try.prog 5 51 = some [3, 3, 3, 3, 24] := by kernel_rfl
theorem leaves26 : leavesT Try.prog 5 26 = some [3, 3, 3, 3, 24] := by kernel_rfl
theorem leaves23 : leavesT Try.prog 5 23 = some [3, 3] := by kernel_rfl
theorem und3 : Try.prog.underlying 3 = some (.int .i64) := by kernel_rfl
theorem und4 : Try.prog.underlying 4 = some .bool := by kernel_rfl
theorem und24 : Try.prog.underlying 24 = some (.slice 23) := by kernel_rfl
theorem und27 : Try.prog.underlying 27 = some (.slice 51) := by kernel_rfl
theorem cells51 : Try.prog.cellsOf 51 = 5 := by kernel_rfl
theorem cells23 : Try.prog.cellsOf 23 = 2 := by kernel_rfl
theorem str26 : isStrB Try.prog 26 = true := by kernel_rfl

/-- A list of spans lies in the world. -/
structure SpansIn (W : World) (v : Value) (n cap : Nat) (lo hi : Int → Int) (a : Addr) : Prop where
  val : v = .slice (some a) n cap ∨ (v = .slice none 0 0 ∧ n = 0 ∧ cap = 0)
  le : n ≤ cap
  max : cap ≤ maxLen
  cell : ∀ j : Nat, j < n → a.block < W.heap.size ∧ a.spot = none ∧ W.cell? (a.add (j * 2)) = some (.int .i64 (lo j)) ∧ W.cell? (a.add (j * 2 + 1)) = some (.int .i64 (hi j))

/-- A list of sources lies in the world. -/
structure SrcsIn (W : World) (v : Value) (n cap : Nat) (l : Int → Src) (a : Addr) (av : Nat → Addr) : Prop where
  val : v = .slice (some a) n cap ∨ (v = .slice none 0 0 ∧ n = 0 ∧ cap = 0)
  le : n ≤ cap
  max : cap ≤ maxLen
  cell : ∀ j : Nat, j < n → a.block < W.heap.size ∧ a.spot = none ∧ W.cell? (a.add (j * 5)) = some (.int .i64 (l j).cask) ∧ W.cell? (a.add (j * 5 + 1)) = some (.int .i64 (l j).drawn) ∧
    W.cell? (a.add (j * 5 + 2)) = some (.int .i64 (l j).slo) ∧ W.cell? (a.add (j * 5 + 3)) = some (.int .i64 (l j).shi) ∧ ∃ sv, W.cell? (a.add (j * 5 + 4)) = some sv ∧ SpansIn W sv (l j).vl (l j).vc (l j).lo (l j).hi (av j)

section
variable {H : Type} {enc : TypeId × Value → H} {W : World} {base : Nat} {spare : Nat → Bool} {held : Bool}

theorem read_spans {m : Nat} {v : Value} {y : DataW H × List MemPlace} (h : DataW.trod enc Try.prog W base spare held m 24 [v] = some y) : ∃ n cap lo hi a, SpansIn W v n cap lo hi a := by
  rcases leaf_slice und24 leaves23 cells23 h with rfl | ⟨a, len, cap, rfl, h1, h2, h3⟩
  · exact ⟨0, 0, fun _ => 0, fun _ => 0, ⟨0, 0, none⟩, .inr ⟨rfl, rfl, rfl⟩, Nat.le_refl _, Nat.zero_le _, fun j hj => by omega⟩
  · refine ⟨len, cap, fun j => rdI W (a.add (j.toNat * 2)), fun j => rdI W (a.add (j.toNat * 2 + 1)), a, .inl rfl, h1, h2, fun j hj => ?_⟩
    obtain ⟨m0, v0, y0, g1, g2⟩ := h3 j hj 0 3 rfl
    obtain ⟨m1, v1, y1, g3, g4⟩ := h3 j hj 1 3 rfl
    obtain ⟨n0, rfl, _⟩ := leaf_int und3 g2
    obtain ⟨n1, rfl, _⟩ := leaf_int und3 g4
    have g1 : W.cell? (a.add (j * 2)) = _ := g1
    have g3 : W.cell? (a.add (j * 2 + 1)) = _ := g3
    refine ⟨?_, ?_, ?_, ?_⟩
    · have := cell_block g1; rwa [add_block] at this
    · obtain ⟨mz, vz, yz, gz, _⟩ := h3 0 (by omega) 0 3 rfl
      have := cell_spot gz
      simpa [Addr.add] using this
    · simp only [Int.toNat_natCast]; rw [rdI_of g1]; exact g1
    · simp only [Int.toNat_natCast]; rw [rdI_of g3]; exact g3

theorem read_srcs {m : Nat} {v : Value} {y : DataW H × List MemPlace} (h : DataW.trod enc Try.prog W base spare held m 27 [v] = some y) : ∃ n cap l a av, SrcsIn W v n cap l a av := by
  rcases leaf_slice und27 leaves51 cells51 h with rfl | ⟨a, len, cap, rfl, h1, h2, h3⟩
  · exact ⟨0, 0, fun _ => ⟨0, 0, 0, 0, 0, 0, fun _ => 0, fun _ => 0⟩, ⟨0, 0, none⟩, fun _ => ⟨0, 0, none⟩, .inr ⟨rfl, rfl, rfl⟩, Nat.le_refl _, Nat.zero_le _, fun j hj => by omega⟩
  · have key : ∀ j : Nat, ∃ p : Src × Addr, j < len → a.block < W.heap.size ∧ a.spot = none ∧ W.cell? (a.add (j * 5)) = some (.int .i64 p.1.cask) ∧ W.cell? (a.add (j * 5 + 1)) = some (.int .i64 p.1.drawn) ∧
        W.cell? (a.add (j * 5 + 2)) = some (.int .i64 p.1.slo) ∧ W.cell? (a.add (j * 5 + 3)) = some (.int .i64 p.1.shi) ∧ ∃ sv, W.cell? (a.add (j * 5 + 4)) = some sv ∧ SpansIn W sv p.1.vl p.1.vc p.1.lo p.1.hi p.2 := by
      intro j
      by_cases hj : j < len
      · obtain ⟨m0, v0, y0, g0, k0⟩ := h3 j hj 0 3 rfl
        obtain ⟨m1, v1, y1, g1, k1⟩ := h3 j hj 1 3 rfl
        obtain ⟨m2, v2, y2, g2, k2⟩ := h3 j hj 2 3 rfl
        obtain ⟨m3, v3, y3, g3, k3⟩ := h3 j hj 3 3 rfl
        obtain ⟨m4, v4, y4, g4, k4⟩ := h3 j hj 4 24 rfl
        obtain ⟨n0, rfl, _⟩ := leaf_int und3 k0
        obtain ⟨n1, rfl, _⟩ := leaf_int und3 k1
        obtain ⟨n2, rfl, _⟩ := leaf_int und3 k2
        obtain ⟨n3, rfl, _⟩ := leaf_int und3 k3
        obtain ⟨vl, vc, lo, hi, a', hs⟩ := read_spans k4
        have g0 : W.cell? (a.add (j * 5)) = _ := g0
        refine ⟨(⟨n0, n1, n2, n3, vl, vc, lo, hi⟩, a'), fun _ => ⟨?_, ?_, g0, g1, g2, g3, v4, g4, hs⟩⟩
        · have := cell_block g0; rwa [add_block] at this
        · obtain ⟨mz, vz, yz, gz, _⟩ := h3 0 (by omega) 0 3 rfl
          have := cell_spot gz
          simpa [Addr.add] using this
      · exact ⟨(⟨0, 0, 0, 0, 0, 0, fun _ => 0, fun _ => 0⟩, a), fun h => absurd h hj⟩
    obtain ⟨f, hf⟩ := Classical.axiomOfChoice key
    exact ⟨len, cap, fun j => (f j.toNat).1, a, fun j => (f j).2, .inl rfl, h1, h2, fun j hj => by simpa using hf j hj⟩
end

/-- Where the arrays lie. -/
def R3 (a : Addr) (av : Nat → Addr) (ab : Addr) : Rn := ⟨fun _ => none, fun m ix => match m with
  | 0 => a
  | 1 => (match ix with | [i] => av i.toNat | _ => a)
  | _ => ab, fun m => match m with | 0 => 5 | _ => 2, fun _ _ => none⟩

theorem spans_rel {W : World} {v : Value} {n cap : Nat} {lo hi : Int → Int} {a : Addr} (h : SpansIn W v n cap lo hi a) {R : Rn} {m : Nat} {ix : List Int} (hR : R.arr m ix = a) : VRel R (.slice (.el m ix 0 0) n cap) v := by
  rcases h.val with rfl | ⟨rfl, rfl, rfl⟩
  · refine ⟨h.le, some a, .inr ⟨a, rfl, ?_⟩, rfl⟩
    simp [ARel, hR, Addr.add]
  · exact ⟨Nat.le_refl _, none, .inl rfl, rfl⟩

theorem srcs_rel {W : World} {v : Value} {n cap : Nat} {l : Int → Src} {a ab : Addr} {av : Nat → Addr} (h : SrcsIn W v n cap l a av) : VRel (R3 a av ab) (lV n cap) v := by
  rcases h.val with rfl | ⟨rfl, rfl, rfl⟩
  · refine ⟨h.le, some a, .inr ⟨a, rfl, ?_⟩, rfl⟩
    simp [ARel, R3, Addr.add]
  · exact ⟨Nat.le_refl _, none, .inl rfl, rfl⟩

theorem spans_arr {W : World} {v : Value} {n cap : Nat} {lo hi : Int → Int} {a : Addr} (h : SpansIn W v n cap lo hi a) {R : Rn} {j : Int} (h0 : 0 ≤ j) (h1 : j < n) : a.block < W.heap.size ∧ a.spot = none ∧
    ∃ xs, VRelL R [I (lo j), I (hi j)] xs ∧ xs.length = 2 ∧ ∀ k x, xs[k]? = some x → W.cell? (a.add (j.toNat * 2 + k)) = some x := by
  obtain ⟨g1, g2, g3, g4⟩ := h.cell j.toNat (by omega)
  rw [show ((j.toNat : Nat) : Int) = j by omega] at g3 g4
  refine ⟨g1, g2, [.int .i64 (lo j), .int .i64 (hi j)], ⟨_, _, rfl, ⟨_, _, rfl, rfl, rfl⟩, rfl⟩, rfl, fun k x hk => ?_⟩
  match k, hk with
  | 0, hk => simp at hk; subst hk; exact g3
  | 1, hk => simp at hk; subst hk; exact g4
  | k + 2, hk => simp at hk

theorem bH_at (n : Nat) (l : Int → Src) (b : Sus) (m : Nat) : (m = 0 ∧ (bH n l b).at m = srcA n l) ∨ (m = 1 ∧ (bH n l b).at m = valA n l) ∨ (m = 2 ∧ (bH n l b).at m = seenA b) ∨ (bH n l b).at m = .free := by
  by_cases hm : m < 3
  · have : m = 0 ∨ m = 1 ∨ m = 2 := by omega
    rcases this with rfl | rfl | rfl
    · exact .inl ⟨rfl, rfl⟩
    · exact .inr (.inl ⟨rfl, rfl⟩)
    · exact .inr (.inr (.inl ⟨rfl, rfl⟩))
  · exact .inr (.inr (.inr (at_ge hm)))

theorem bH_no {R : Rn} {n : Nat} {l : Int → Src} {b : Sus} (m k : Nat) : R.ow m ((bH n l b).at m) ≠ some k := by
  intro h
  rcases bH_at n l b m with ⟨_, h1⟩ | ⟨_, h1⟩ | ⟨_, h1⟩ | h1 <;> rw [h1] at h <;> cases h

theorem emb3 {W : World} {v vb : Value} {n cap : Nat} {l : Int → Src} {b : Sus} {a ab : Addr} {av : Nat → Addr} (h : SrcsIn W v n cap l a av) (hb : SpansIn W vb b.sl b.sc b.lo b.hi ab) : Emb W.heap.size (R3 a av ab) (bH n l b).at W := by
  refine emb_args (fun _ => rfl) (fun _ _ => rfl) (fun m => ?_) (fun m s ok g hm => ?_)
  · rcases bH_at n l b m with ⟨_, h1⟩ | ⟨_, h1⟩ | ⟨_, h1⟩ | h1
    · exact .inl ⟨_, _, _, h1⟩
    · exact .inl ⟨_, _, _, h1⟩
    · exact .inl ⟨_, _, _, h1⟩
    · exact .inr (.inr h1)
  · rcases bH_at n l b m with ⟨rfl, h1⟩ | ⟨rfl, h1⟩ | ⟨rfl, h1⟩ | h1
    · rw [h1] at hm
      cases hm
      refine ⟨rfl, fun ix i hi => ?_⟩
      obtain ⟨rfl, i0, i1⟩ := hi
      obtain ⟨g1, g2, c0, c1, c2, c3, sv, c4, hs⟩ := h.cell i.toNat (by omega)
      rw [show ((i.toNat : Nat) : Int) = i by omega] at c0 c1 c2 c3 hs
      refine ⟨i0, g1, g2, [.int .i64 (l i).cask, .int .i64 (l i).drawn, .int .i64 (l i).slo, .int .i64 (l i).shi, sv], ⟨_, _, rfl, ⟨_, _, rfl, ⟨_, _, rfl, ⟨_, _, rfl, ⟨_, _, spans_rel hs rfl, rfl, rfl⟩, rfl⟩, rfl⟩, rfl⟩, rfl⟩, rfl, fun k x hk => ?_⟩
      match k, hk with
      | 0, hk => simp at hk; subst hk; exact c0
      | 1, hk => simp at hk; subst hk; exact c1
      | 2, hk => simp at hk; subst hk; exact c2
      | 3, hk => simp at hk; subst hk; exact c3
      | 4, hk => simp at hk; subst hk; exact c4
      | k + 5, hk => simp at hk
    · rw [h1] at hm
      cases hm
      refine ⟨rfl, fun ix j hj => ?_⟩
      obtain ⟨i, rfl, i0, i1, j0, j1⟩ := hj
      obtain ⟨_, _, _, _, _, _, sv, _, hs⟩ := h.cell i.toNat (by omega)
      rw [show ((i.toNat : Nat) : Int) = i by omega] at hs
      obtain ⟨g1, g2, g3⟩ := spans_arr (R := (R3 a av ab).no) hs j0 j1
      exact ⟨j0, g1, g2, g3⟩
    · rw [h1] at hm
      cases hm
      refine ⟨rfl, fun ix j hj => ?_⟩
      obtain ⟨rfl, j0, j1⟩ := hj
      obtain ⟨g1, g2, g3⟩ := spans_arr (R := (R3 a av ab).no) hb j0 j1
      exact ⟨j0, g1, g2, g3⟩
    · rw [h1] at hm; cases hm

theorem wf_in {W : World} {v vb : Value} {n cap : Nat} {l : Int → Src} {b : Sus} {a ab : Addr} {av : Nat → Addr} (h : SrcsIn W v n cap l a av) (hb : SpansIn W vb b.sl b.sc b.lo b.hi ab) : Wf n l b := by
  refine ⟨?_, fun i h0 h1 => ?_, ?_⟩
  · have := h.le; have := h.max; simp only [maxLen] at this; unfold maxI; omega
  · obtain ⟨_, _, _, _, _, _, sv, _, hs⟩ := h.cell i.toNat (by omega)
    rw [show ((i.toNat : Nat) : Int) = i by omega] at hs
    have := hs.le; have := hs.max; simp only [maxLen] at this; unfold maxI; omega
  · have := hb.le; have := hb.max; simp only [maxLen] at this; unfold maxI; omega
end Go.Sx.Gen
