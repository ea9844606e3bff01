import Derived.Test.YtnfkbbcbehnnkaaNR
/- nose: a tasting, a standard, read. -/

namespace Go.Sx.Nos
open Go Go.Sx Go.Proofs Go.ChangeShapes Go.WideShapes Go.RowKit
set_option maxRecDepth 100000

theorem vals5 {l : List Value} (h : l.length = 5) : ∃ a b c d e, l = [a, b, c, d, e] := by
  match l, h with
  | [a, b, c, d, e], _ => exact ⟨a, b, c, d, e, rfl⟩

section
variable {H : Type} {enc : TypeId × Value → H} {W : World} {base : Nat} {spare : Nat → Bool} {held : Bool} {r : Go.Reach} {b0 : Nat} {v : Value} {d : DataW H} {ps : List MemPlace}

theorem read_ts (hval : Value.okWide Try.prog W r b0 32 v) (hd : DataW.Trod enc Try.prog W base spare held 32 v d ps) : ∃ t : Ts, (∀ R, VRel R (.agg (tsL t)) v) ∧ TsB t := by
  obtain ⟨cs, rfl, hl, hg⟩ := fields_in str32 leaves32 hval hd
  obtain ⟨v0, v1, v2, v3, v4, rfl⟩ := vals5 hl
  obtain ⟨_, _, _, e0, h0⟩ := hg 0 3 rfl
  obtain ⟨_, _, _, e1, h1⟩ := hg 1 3 rfl
  obtain ⟨_, _, _, e2, h2⟩ := hg 2 3 rfl
  obtain ⟨_, _, _, e3, h3⟩ := hg 3 3 rfl
  obtain ⟨_, _, _, e4, h4⟩ := hg 4 3 rfl
  cases e0; cases e1; cases e2; cases e3; cases e4
  obtain ⟨n0, rfl, w0⟩ := leaf_int und3 h0
  obtain ⟨n1, rfl, w1⟩ := leaf_int und3 h1
  obtain ⟨n2, rfl, w2⟩ := leaf_int und3 h2
  obtain ⟨n3, rfl, w3⟩ := leaf_int und3 h3
  obtain ⟨n4, rfl, w4⟩ := leaf_int und3 h4
  exact ⟨⟨n0, n1, n2, n3, n4⟩, fun R => ⟨_, vrel_ints (k := .i64) [n0, n1, n2, n3, n4], rfl⟩, i64_range w0, i64_range w1, i64_range w2, i64_range w3, i64_range w4⟩

theorem read_sd (hval : Value.okWide Try.prog W r b0 36 v) (hd : DataW.Trod enc Try.prog W base spare held 36 v d ps) : ∃ s : Sd, (∀ R, VRel R (.agg (sdL s)) v) ∧ SdB s := by
  obtain ⟨cs, rfl, hl, hg⟩ := fields_in str36 leaves36 hval hd
  obtain ⟨v0, v1, v2, rfl⟩ := vals3 hl
  obtain ⟨_, _, _, e0, h0⟩ := hg 0 3 rfl
  obtain ⟨_, _, _, e1, h1⟩ := hg 1 3 rfl
  obtain ⟨_, _, _, e2, h2⟩ := hg 2 3 rfl
  cases e0; cases e1; cases e2
  obtain ⟨n0, rfl, w0⟩ := leaf_int und3 h0
  obtain ⟨n1, rfl, w1⟩ := leaf_int und3 h1
  obtain ⟨n2, rfl, w2⟩ := leaf_int und3 h2
  exact ⟨⟨n0, n1, n2⟩, fun R => ⟨_, vrel_ints (k := .i64) [n0, n1, n2], rfl⟩, i64_range w0, i64_range w1, i64_range w2⟩
end
end Go.Sx.Nos
