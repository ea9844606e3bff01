import Derived.Test.YtdfbhoejljidfaaSxJ
import Derived.Test.YtdfbhoejljidfaaHB
/- malt: lots of barley and remainders at a row's arguments. -/

namespace Go.Sx.Grs
open Go Go.Sx Go.Proofs Go.ChangeShapes Go.WideShapes Go.RowKit
set_option maxRecDepth 100000

theorem leaves66 : leavesT Try.prog 5 66 = some [3, 3, 3, 3, 3, 3] := by kernel_rfl
theorem leaves40 : leavesT Try.prog 5 40 = some [40] := by kernel_rfl
theorem und3 : Try.prog.underlying 3 = some (.int .i64) := by kernel_rfl
theorem und40 : Try.prog.underlying 40 = some (.int .u32) := by kernel_rfl
theorem und36 : Try.prog.underlying 36 = some (.slice 40) := by kernel_rfl
theorem und59 : Try.prog.underlying 59 = some (.slice 66) := by kernel_rfl
theorem und55 : Try.prog.underlying 55 = some (.int .u16) := by kernel_rfl
theorem und66 : isStrB Try.prog 66 = true := by kernel_rfl
theorem cells66 : Try.prog.cellsOf 66 = 6 := by kernel_rfl
theorem cells40 : Try.prog.cellsOf 40 = 1 := by kernel_rfl

theorem all3 {us : List TypeId} (h : us.all (· == 3) = true) : ∀ u ∈ us, Try.prog.underlying u = some (.int .i64) := by
  intro u hu
  have := List.all_eq_true.1 h u hu
  rw [beq_iff_eq] at this
  subst this
  exact und3
theorem all40 : ∀ u ∈ [(40 : TypeId)], Try.prog.underlying u = some (.int .u32) := by
  intro u hu
  simp only [List.mem_singleton] at hu
  subst hu
  exact und40

def mkBy (x : List Int) : By := ⟨x.getD 0 0, x.getD 1 0, x.getD 2 0, x.getD 3 0, x.getD 4 0, x.getD 5 0⟩
theorem list6 {l : List Int} (h : l.length = 6) : ∃ a b c d e f, l = [a, b, c, d, e, f] := by
  match l, h with
  | [a, b, c, d, e, f], _ => exact ⟨a, b, c, d, e, f, rfl⟩

theorem getD_map {α β : Type} {f : α → β} {l : List α} {j : Nat} {a : α} {b : β} (h : j < l.length) : (l.map f).getD j b = f (l.getD j a) := by
  rw [List.getD_eq_getElem?_getD, List.getElem?_map, List.getElem?_eq_getElem h, List.getD_eq_getElem?_getD, List.getElem?_eq_getElem h]
  rfl
theorem getD_mem {α : Type} {l : List α} {j : Nat} {a : α} (h : j < l.length) : l.getD j a ∈ l := by
  rw [List.getD_eq_getElem?_getD, List.getElem?_eq_getElem h]
  exact List.getElem_mem _

section
variable {W : World} {H : Type} {enc : TypeId × Value → H} {b0 base : Nat} {spare : Nat → Bool} {held : Bool} {v : Value} {d : DataW H} {p : List MemPlace}

theorem lots_in (s : Value.okWide Try.prog W .any b0 59 v) (h : DataW.Trod enc Try.prog W base spare held 59 v d p) : ∃ l : List By, VRel (dataR W) (byD l) v := by
  obtain ⟨l0, r0, _, w0⟩ := tl_of_rows (s := 6) (by decide) (open_rows und59 leaves66 cells66 (by decide) (all3 rfl) s h)
  refine ⟨l0.map mkBy, ?_⟩
  unfold byD
  rw [List.length_map]
  refine tl_congr (fun j hj => ?_) r0
  obtain ⟨w1, _⟩ := w0 _ (getD_mem (a := []) hj)
  unfold byG
  rw [getD_map (a := []) hj]
  obtain ⟨a, b, c, d, e, f, hx⟩ := list6 w1
  rw [hx]
  rfl

theorem rem_in (s : Value.okWide Try.prog W .any b0 36 v) (h : DataW.Trod enc Try.prog W base spare held 36 v d p) : ∃ B : List Int, VRel (dataR W) (uD B) v ∧ ∀ j, 0 ≤ B.getD j 0 ∧ B.getD j 0 < 4294967296 := by
  obtain ⟨l0, r0, _, w0⟩ := tl_of_rows (s := 1) (by decide) (open_rows und36 leaves40 cells40 (by decide) all40 s h)
  refine ⟨l0.map fun x => x.getD 0 0, ?_, fun j => ?_⟩
  · unfold uD
    rw [List.length_map]
    refine tl_congr (fun j hj => ?_) r0
    obtain ⟨w1, _⟩ := w0 _ (getD_mem (a := []) hj)
    unfold uG
    rw [getD_map (a := []) hj]
    obtain ⟨a, hx⟩ : ∃ a, l0.getD j [] = [a] := by
      match l0.getD j [], w1 with
      | [a], _ => exact ⟨a, rfl⟩
    rw [hx]
    rfl
  · by_cases hj : j < l0.length
    · obtain ⟨w1, w2⟩ := w0 _ (getD_mem (a := []) hj)
      rw [getD_map (a := []) hj]
      obtain ⟨a, hx⟩ : ∃ a, l0.getD j [] = [a] := by
        match l0.getD j [], w1 with
        | [a], _ => exact ⟨a, rfl⟩
      rw [hx] at w2 ⊢
      have := u32_range (w2 a (by simp))
      exact ⟨this.1, by show a < _; omega⟩
    · rw [List.getD_eq_getElem?_getD, List.getElem?_eq_none (by rw [List.length_map]; omega)]
      decide

def lotV (m : By) : Value := .agg ([m.wl, m.wh, m.nl, m.nh, m.r, m.p].map (Value.int .i64)).toArray
theorem lotV_rel (R : Rn) (m : By) : VRel R (.agg (byL m)) (lotV m) := ⟨_, vrel_nums [m.wl, m.wh, m.nl, m.nh, m.r, m.p], rfl⟩
theorem lot_in (s : Value.okWide Try.prog W .any b0 66 v) (h : DataW.Trod enc Try.prog W base spare held 66 v d p) : ∃ m : By, v = lotV m := by
  obtain ⟨ns, hnl, rfl, hnr⟩ := open_nums und66 leaves66 (all3 rfl) s h
  obtain ⟨a, b, c, d, e, f, rfl⟩ := list6 hnl
  exact ⟨⟨a, b, c, d, e, f⟩, rfl⟩
end
end Go.Sx.Grs
