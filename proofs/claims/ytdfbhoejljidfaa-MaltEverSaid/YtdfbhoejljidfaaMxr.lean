/- malt: types, and arguments of steps. -/
import Derived.Test.YtdfbhoejljidfaaRows
import Derived.Test.YtdfbhoejljidfaaMxh
import Derived.Test.YtdfbhoejljidfaaSxQ

namespace Go.Proofs.Ytdfbhoejljidfaa
open Go Go.Sx Go.Sx.Malt Go.ChangeShapes Go.WideShapes Go.RowKit

theorem ownKnobTry : ownKnob Try.prog.godebug = none := by kernel_rfl
theorem laidTry : laidOutB Try.prog = true := by kernel_rfl

theorem leaves25 : leavesT Try.prog 5 25 = some [3, 3, 3, 3, 3, 3] := by kernel_rfl
theorem leaves42 : leavesT Try.prog 5 42 = some [3, 3, 3] := by kernel_rfl
theorem und3 : Try.prog.underlying 3 = some (.int .i64) := by kernel_rfl
theorem und4 : Try.prog.underlying 4 = some .bool := by kernel_rfl
theorem und26 : Try.prog.underlying 26 = some (.slice 42) := by kernel_rfl
theorem cells42 : Try.prog.cellsOf 42 = 3 := by kernel_rfl
theorem und25 : isStrB Try.prog 25 = true := by kernel_rfl

theorem all3 {us : List TypeId} (h : us.all (· == 3) = true) : ∀ u ∈ us, Try.prog.underlying u = some (.int .i64) := by
  intro u hu
  have := List.all_eq_true.1 h u hu
  rw [beq_iff_eq] at this
  subst this
  exact und3

theorem list6 {l : List Int} (h : l.length = 6) : ∃ a b c d e f, l = [a, b, c, d, e, f] := by
  match l, h with
  | [a, b, c, d, e, f], _ => exact ⟨a, b, c, d, e, f, rfl⟩

abbrev malt6 (a b c d e f : Int) : Value := .agg ([a, b, c, d, e, f].map (Value.int .i64)).toArray

theorem malt6_rel (R : Rn) (a b c d e f : Int) : VRel R (.agg [I a, I b, I c, I d, I e, I f]) (malt6 a b c d e f) := ⟨_, vrel_nums [a, b, c, d, e, f], rfl⟩

/-- The three numbers of a row. -/
abbrev row3 (W : World) (ad : Addr) (k : Nat) : Int → Int := fun i => rdI W (ad.add (i.toNat * 3 + k))

theorem row3_ok {W : World} {R : Rn} {ad : Addr} {len : Nat} (hbl : 0 < len → ad.block < W.heap.size ∧ ad.spot = none)
    (hcell : ∀ i, i < len → ∀ k, k < 3 → W.cell? (ad.add (i * 3 + k)) = some (.int .i64 (rdI W (ad.add (i * 3 + k))))) : ArrOk W R ad 3 (fun _ i => 0 ≤ i ∧ i < (len : Int)) (gS (row3 W ad 0) (row3 W ad 1) (row3 W ad 2)) := by
  intro ix i hi
  obtain ⟨hb1, hb2⟩ := hbl (by omega)
  have hi' : i.toNat < len := by omega
  refine ⟨hi.1, hb1, hb2, [.int .i64 (row3 W ad 0 i), .int .i64 (row3 W ad 1 i), .int .i64 (row3 W ad 2 i)], vrel_nums [row3 W ad 0 i, row3 W ad 1 i, row3 W ad 2 i], rfl, fun k x hk => ?_⟩
  match k, hk with
  | 0, hk => simp at hk; subst hk; exact hcell i.toNat hi' 0 (by decide)
  | 1, hk => simp at hk; subst hk; exact hcell i.toNat hi' 1 (by decide)
  | 2, hk => simp at hk; subst hk; exact hcell i.toNat hi' 2 (by decide)
  | k + 3, hk => simp at hk

theorem add_zero (a : Addr) : a.add 0 = a := rfl

end Go.Proofs.Ytdfbhoejljidfaa
