import Derived.Test.YtoionnljbacmkaaGM
import Derived.Test.YtoionnljbacmkaaGP
/- genuine: a list of drawn numbers read; five arrays. -/

namespace Go.Sx.Gen
open Go Go.Sx Go.Proofs Go.RowKit
set_option maxRecDepth 100000

theorem leaves52 : leavesT Try.prog 5 52 = some [52] := by kernel_rfl
theorem und48 : Try.prog.underlying 48 = some (.slice 52) := by kernel_rfl
theorem und52 : Try.prog.underlying 52 = some (.int .u32) := by kernel_rfl
theorem und5 : Try.prog.underlying 5 = some (.int .u8) := by kernel_rfl
theorem cells52 : Try.prog.cellsOf 52 = 1 := by kernel_rfl

theorem u32_range {n : Int} (h : (Lit.int .u32 n).wf = true) : 0 ≤ n ∧ n ≤ 4294967295 := by
  simp [Lit.wf, IntKind.min, IntKind.max, IntKind.signed, IntKind.bits] at h
  omega

/-- A list of drawn numbers lies in the world. -/
structure ByIn (W : World) (v : Value) (n cap : Nat) (f : Int → Int) (a : Addr) : Prop where
  val : v = .slice (some a) n cap ∨ (v = .slice none 0 0 ∧ n = 0 ∧ cap = 0)
  le : n ≤ cap
  max : cap ≤ maxLen
  cell : ∀ j : Nat, j < n → a.block < W.heap.size ∧ a.spot = none ∧ W.cell? (a.add j) = some (.int .u32 (f j)) ∧ 0 ≤ f j ∧ f j ≤ 4294967295

section
variable {H : Type} {enc : TypeId × Value → H} {W : World} {base : Nat} {spare : Nat → Bool} {held : Bool}

theorem read_by {m : Nat} {v : Value} {y : DataW H × List MemPlace} (h : DataW.trod enc Try.prog W base spare held m 48 [v] = some y) : ∃ n cap f a, ByIn W v n cap f a := by
  rcases leaf_slice und48 leaves52 cells52 h with rfl | ⟨a, len, cap, rfl, h1, h2, h3⟩
  · exact ⟨0, 0, fun _ => 0, ⟨0, 0, none⟩, .inr ⟨rfl, rfl, rfl⟩, Nat.le_refl _, Nat.zero_le _, fun j hj => by omega⟩
  · refine ⟨len, cap, fun j => rdI W (a.add j.toNat), a, .inl rfl, h1, h2, fun j hj => ?_⟩
    obtain ⟨m0, v0, y0, g1, g2⟩ := h3 j hj 0 52 rfl
    obtain ⟨n0, rfl, hw⟩ := leaf_int und52 g2
    have g1 : W.cell? (a.add (j * 1 + 0)) = _ := g1
    rw [show j * 1 + 0 = j by omega] at g1
    refine ⟨?_, ?_, ?_⟩
    · have := cell_block g1; rwa [add_block] at this
    · obtain ⟨mz, vz, yz, gz, _⟩ := h3 0 (by omega) 0 52 rfl
      have := cell_spot gz
      simpa [Addr.add] using this
    · simp only [Int.toNat_natCast]; rw [rdI_of g1]; exact ⟨g1, u32_range hw⟩
end

/-- Where five arrays lie. -/
def R5 (a : Addr) (av : Nat → Addr) (ab ay am : Addr) : Rn := ⟨fun _ => none, fun m ix => match m with
  | 0 => a
  | 1 => (match ix with | [i] => av i.toNat | _ => a)
  | 2 => ab
  | 3 => ay
  | _ => am, fun m => match m with | 0 => 5 | 3 => 1 | _ => 2, fun _ _ => none⟩

theorem emb5 {W : World} {v vb vy vc : Value} {n cap m cm : Nat} {l : Int → Src} {b c : Sus} {f : Int → Int} {a ab ay am : Addr} {av : Nat → Addr} (h : SrcsIn W v n cap l a av) (hb : SpansIn W vb b.sl b.sc b.lo b.hi ab) (hy : ByIn W vy m cm f ay) (hc : SpansIn W vc c.sl c.sc c.lo c.hi am)
    {η : Nat → VB} (hη : ∀ k, (k = 0 ∧ η k = srcA n l) ∨ (k = 1 ∧ η k = valA n l) ∨ (k = 2 ∧ η k = seenA b) ∨ (k = 3 ∧ η k = byA m f) ∨ (k = 4 ∧ η k = seenA c) ∨ η k = .free) : Emb W.heap.size (R5 a av ab ay am) η W := by
  refine emb_args (fun _ => rfl) (fun _ _ => rfl) (fun k => ?_) (fun k s ok g hm => ?_)
  · rcases hη k with ⟨_, h1⟩ | ⟨_, h1⟩ | ⟨_, h1⟩ | ⟨_, h1⟩ | ⟨_, h1⟩ | h1
    · exact .inl ⟨_, _, _, h1⟩
    · exact .inl ⟨_, _, _, h1⟩
    · exact .inl ⟨_, _, _, h1⟩
    · exact .inl ⟨_, _, _, h1⟩
    · exact .inl ⟨_, _, _, h1⟩
    · exact .inr (.inr h1)
  · rcases hη k with ⟨rfl, h1⟩ | ⟨rfl, h1⟩ | ⟨rfl, h1⟩ | ⟨rfl, h1⟩ | ⟨rfl, h1⟩ | h1
    · rw [h1] at hm
      cases hm
      refine ⟨rfl, fun ix i hi => ?_⟩
      obtain ⟨rfl, i0, i1⟩ := hi
      obtain ⟨g1, g2, c0, c1, c2, c3, sv, c4, hs⟩ := h.cell i.toNat (by omega)
      rw [show ((i.toNat : Nat) : Int) = i by omega] at c0 c1 c2 c3 hs
      refine ⟨i0, g1, g2, [.int .i64 (l i).cask, .int .i64 (l i).drawn, .int .i64 (l i).slo, .int .i64 (l i).shi, sv], ⟨_, _, rfl, ⟨_, _, rfl, ⟨_, _, rfl, ⟨_, _, rfl, ⟨_, _, spans_rel hs rfl, rfl, rfl⟩, rfl⟩, rfl⟩, rfl⟩, rfl⟩, rfl, fun k x hk => ?_⟩
      match k, hk with
      | 0, hk => simp at hk; subst hk; exact c0
      | 1, hk => simp at hk; subst hk; exact c1
      | 2, hk => simp at hk; subst hk; exact c2
      | 3, hk => simp at hk; subst hk; exact c3
      | 4, hk => simp at hk; subst hk; exact c4
      | k + 5, hk => simp at hk
    · rw [h1] at hm
      cases hm
      refine ⟨rfl, fun ix j hj => ?_⟩
      obtain ⟨i, rfl, i0, i1, j0, j1⟩ := hj
      obtain ⟨_, _, _, _, _, _, sv, _, hs⟩ := h.cell i.toNat (by omega)
      rw [show ((i.toNat : Nat) : Int) = i by omega] at hs
      obtain ⟨g1, g2, g3⟩ := spans_arr (R := (R5 a av ab ay am).no) hs j0 j1
      exact ⟨j0, g1, g2, g3⟩
    · rw [h1] at hm
      cases hm
      refine ⟨rfl, fun ix j hj => ?_⟩
      obtain ⟨rfl, j0, j1⟩ := hj
      obtain ⟨g1, g2, g3⟩ := spans_arr (R := (R5 a av ab ay am).no) hb j0 j1
      exact ⟨j0, g1, g2, g3⟩
    · rw [h1] at hm
      cases hm
      refine ⟨rfl, fun ix j hj => ?_⟩
      obtain ⟨rfl, j0, j1⟩ := hj
      obtain ⟨g1, g2, g3, _⟩ := hy.cell j.toNat (by omega)
      rw [show ((j.toNat : Nat) : Int) = j by omega] at g3
      refine ⟨j0, g1, g2, [.int .u32 (f j)], ⟨_, _, rfl, rfl, rfl⟩, rfl, fun k x hk => ?_⟩
      match k, hk with
      | 0, hk => simp at hk; subst hk; show W.cell? (ay.add (j.toNat * 1 + 0)) = _; rw [Nat.mul_one, Nat.add_zero]; exact g3
      | k + 1, hk => simp at hk
    · rw [h1] at hm
      cases hm
      refine ⟨rfl, fun ix j hj => ?_⟩
      obtain ⟨rfl, j0, j1⟩ := hj
      obtain ⟨g1, g2, g3⟩ := spans_arr (R := (R5 a av ab ay am).no) hc j0 j1
      exact ⟨j0, g1, g2, g3⟩
    · rw [h1] at hm; cases hm

theorem srcs_rel5 {W : World} {v : Value} {n cap : Nat} {l : Int → Src} {a ab ay am : Addr} {av : Nat → Addr} (h : SrcsIn W v n cap l a av) : VRel (R5 a av ab ay am) (lV n cap) v := by
  rcases h.val with rfl | ⟨rfl, rfl, rfl⟩
  · refine ⟨h.le, some a, .inr ⟨a, rfl, ?_⟩, rfl⟩
    simp [ARel, R5, Addr.add]
  · exact ⟨Nat.le_refl _, none, .inl rfl, rfl⟩

theorem by_rel5 {W : World} {v : Value} {m cm : Nat} {f : Int → Int} {a ab ay am : Addr} {av : Nat → Addr} (h : ByIn W v m cm f ay) : VRel (R5 a av ab ay am) (.slice (.el 3 [] 0 0) m cm) v := by
  rcases h.val with rfl | ⟨rfl, rfl, rfl⟩
  · refine ⟨h.le, some ay, .inr ⟨ay, rfl, ?_⟩, rfl⟩
    simp [ARel, R5, Addr.add]
  · exact ⟨Nat.le_refl _, none, .inl rfl, rfl⟩
end Go.Sx.Gen
