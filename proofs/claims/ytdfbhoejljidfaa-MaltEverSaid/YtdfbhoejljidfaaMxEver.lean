/- For all mills and minutes, the law MaltEver returns true, and its arguments read as they did. No condition. -/
import Derived.Test.YtdfbhoejljidfaaMxr
import Derived.Test.YtdfbhoejljidfaaMdF

namespace Go.Proofs.Ytdfbhoejljidfaa
open Go Go.Sx Go.Sx.Malt Go.ChangeShapes Go.WideShapes Go.RowKit

theorem leaves50 : leavesT Try.prog 5 50 = some [3, 3, 3, 3] := by kernel_rfl
theorem und50 : isStrB Try.prog 50 = true := by kernel_rfl

theorem und55 : Try.prog.underlying 55 = some (.int .u16) := by kernel_rfl

theorem list4 {l : List Int} (h : l.length = 4) : ∃ a b c d, l = [a, b, c, d] := by
  match l, h with
  | [a, b, c, d], _ => exact ⟨a, b, c, d, rfl⟩

abbrev mill4 (a b c d : Int) : Value := .agg ([a, b, c, d].map (Value.int .i64)).toArray

theorem mill4_rel (R : Rn) (a b c d : Int) : VRel R (.agg [I a, I b, I c, I d]) (mill4 a b c d) := ⟨_, vrel_nums [a, b, c, d], rfl⟩

theorem ever_calls (W : World) (a b c d u : Int) (hu : 0 ≤ u ∧ u ≤ 65535) :
    Calls Try.prog 8 #[mill4 a b c d, .int .u16 u] W fun e W' => e = .returned (.bool true) ∧ Below W.heap.size W W' := by
  obtain ⟨h', hc⟩ := law6_v a b c d u hu
  exact calls_row (xs := [mill4 a b c d, .int .u16 u]) (R := noR) hc (emb_none (fun _ => rfl)) ⟨_, _, mill4_rel _ a b c d, ⟨_, _, rfl, rfl, rfl⟩, rfl⟩ none_not_live

set_option maxRecDepth 100000 in
theorem maltEver_lifted (os : Os) (started : os.Started) (H : Type) (enc : TypeId × Value → H) :
    ReturnsInHanded {} Try.checked os 8 .any (Rows.maltEverSpec.pre6 enc Try.prog Try.f8 Rows.maltEverRow.domain false) (Rows.maltEverSpec.post enc Try.prog Try.f8 false true false false) := by
  refine returnsInHanded_of_change (C := Try.checked) ownKnobTry started (by kernel_rfl) Try.func8
    (ChangeSpec.witness6 (enc := enc) (C := Try.checked) false ⟨#[], #[.agg #[.int .i64 0, .int .i64 0, .int .i64 0, .int .i64 0], .int .u16 0], []⟩ 8 (by kernel_rfl) (by kernel_rfl) (by kernel_rfl) (by kernel_rfl)) ?_
  intro W base args ds gs before hval0 hW _ _
  have hval : ∀ (j : Nat) t v, Try.f8.params[j]? = some t → args[j]? = some v → Value.okWide Try.prog W .any base t v := hval0
  have hW' := hW
  obtain ⟨p, q, hA0, hV, rfl, hfz, hnd⟩ := hW
  have hA : DataW.TrodAll enc Try.prog W 0 (fun _ => true) true Try.f8.params.toList args.toList ds p := hA0
  rw [Try.params8] at hA hval
  obtain ⟨v0, v1, d0, d1, p0, p1, rfl, rfl, rfl, h0, h1⟩ := trodAll_two hA
  obtain ⟨rfl, rfl⟩ := trodVars_none hV
  have fin : ∀ (e : Ending) (W' : World), (e = .returned (.bool true) ∧ Below W.heap.size W W') → ∃ v, e = .returned v ∧ Rows.maltEverSpec.post enc Try.prog Try.f8 false true false false W #[v0, v1] v W' :=
    fun e W' h => ⟨_, h.1, post_true laidTry (by kernel_rfl) (tb := 4) (by kernel_rfl) und4 rfl hW' rfl h.2⟩
  have main : Calls Try.prog 8 #[v0, v1] W fun e W' => e = .returned (.bool true) ∧ Below W.heap.size W W' := by
    clear fin hW' hA hV
    obtain ⟨ns, hnl, rfl, hnr⟩ := open_nums und50 leaves50 (all3 rfl) (hval 0 50 v0 rfl rfl) h0
    obtain ⟨a, b, c, d, rfl⟩ := list4 hnl
    obtain ⟨u, rfl, _, _, w1⟩ := open_int und55 (hval 1 55 v1 rfl rfl) h1
    exact ever_calls W a b c d u (u16_range w1)
  exact main.mono fin

theorem maltEver_holds : Rows.MaltEverSaid :=
  OpenClaim.holds_of_wide 8 Try.f8 rfl rfl rfl rfl rfl rfl rfl ⟨rfl, rfl, rfl, rfl, rfl⟩ rfl rfl rfl rfl rfl (by kernel_rfl) Try.func8 (by kernel_rfl)
    (of_decide_eq_true (by kernel_rfl)) (by unfold Func.isWrapper; rw [if_neg (of_decide_eq_false (by kernel_rfl))]; exact ⟨rfl, rfl⟩)
    (fun os started H enc _ => maltEver_lifted os started H enc)

end Go.Proofs.Ytdfbhoejljidfaa
#print axioms Go.Proofs.Ytdfbhoejljidfaa.maltEver_holds
