import Derived.Test.YtnfkbbcbehnnkaaRows
import Derived.Test.YtnfkbbcbehnnkaaWW1
import Derived.Test.YtnfkbbcbehnnkaaWW5
/- For all panels, the law NoseGroups returns true, and its arguments read as they did. No condition. -/

namespace Go.Proofs.Ytnfkbbcbehnnkaa
open Go Go.Sx Go.Sx.Nod Go.ChangeShapes Go.WideShapes Go.RowKit

theorem ownKnobTry : ownKnob Try.prog.godebug = none := by kernel_rfl
theorem laidTry : laidOutB Try.prog = true := by kernel_rfl
theorem undB : Try.prog.underlying 4 = some .bool := by kernel_rfl

theorem trodAll_n {P : Program} {w : World} {H : Type} {enc : TypeId × Value → H} {base : Nat} {spare : Nat → Bool} {held : Bool} {t0 : TypeId} {args : Array Value} {ds : List (DataW H)} {ps : List MemPlace} (h : DataW.TrodAll enc P w base spare held [t0] args.toList ds ps) :
    ∃ v0 d0 p0, args = #[v0] ∧ ds = [d0] ∧ ps = p0 ∧ DataW.Trod enc P w base spare held t0 v0 d0 p0 := by
  obtain ⟨v0, vs0, d0, ds0, p0, q0, hargs, rfl, rfl, hd0, hr0⟩ := trodAll_cons h
  obtain ⟨rfl, rfl, rfl⟩ := trodAll_nil hr0
  exact ⟨v0, d0, p0, by cases args; simp_all, rfl, by simp, hd0⟩

set_option maxRecDepth 100000 in
theorem law_main (W : World) {H : Type} {enc : TypeId × Value → H} {b0 base : Nat} {spare : Nat → Bool} {held : Bool} {v0 : Value} {d0 : DataW H} {p0 : List MemPlace}
    (s0 : Value.okWide Try.prog W .any b0 26 v0)
    (h0 : DataW.Trod enc Try.prog W base spare held 26 v0 d0 p0) :
    Calls Try.prog 11 #[v0] W fun e W' => e = .returned (.bool true) ∧ Below W.heap.size W W' := by
  obtain ⟨p, hP, _⟩ := Nos.read_pn s0 h0
  obtain ⟨h', hc⟩ := groups_v (p := p)
  exact row_data (xs := [v0]) hc ⟨_, _, pn_data hP, rfl, rfl⟩

set_option maxRecDepth 100000 in
theorem noseGroups_lifted (os : Os) (started : os.Started) (H : Type) (enc : TypeId × Value → H) :
    ReturnsInHanded {} Try.checked os 11 .any (Rows.noseGroupsSpec.pre6 enc Try.prog Try.f11 Rows.noseGroupsRow.domain false) (Rows.noseGroupsSpec.post enc Try.prog Try.f11 false true false false) := by
  refine returnsInHanded_of_change (C := Try.checked) ownKnobTry started (by kernel_rfl) Try.func11
    (ChangeSpec.witness6 (enc := enc) (C := Try.checked) false ⟨#[], #[.agg #[.slice none 0 0, .slice none 0 0, .slice none 0 0]], []⟩ 8 (by kernel_rfl) (by kernel_rfl) (by kernel_rfl) (by kernel_rfl)) ?_
  intro W base args ds gs before hval0 hW _ _
  have hval : ∀ (j : Nat) t v, Try.f11.params[j]? = some t → args[j]? = some v → Value.okWide Try.prog W .any base t v := hval0
  have hW' := hW
  obtain ⟨p, q, hA0, hV, rfl, hfz, hnd⟩ := hW
  have hA : DataW.TrodAll enc Try.prog W 0 (fun _ => true) true Try.f11.params.toList args.toList ds p := hA0
  rw [Try.params11] at hA hval
  obtain ⟨v0, d0, p0, rfl, rfl, rfl, h0⟩ := trodAll_n hA
  obtain ⟨rfl, rfl⟩ := trodVars_none hV
  have fin : ∀ (e : Ending) (W' : World), (e = .returned (.bool true) ∧ Below W.heap.size W W') → ∃ v, e = .returned v ∧ Rows.noseGroupsSpec.post enc Try.prog Try.f11 false true false false W #[v0] v W' :=
    fun e W' h => ⟨_, h.1, post_true laidTry (by kernel_rfl) (tb := 4) (by kernel_rfl) undB rfl hW' rfl h.2⟩
  exact (law_main W (hval 0 26 v0 rfl rfl) h0).mono fin

theorem noseGroups_holds : Rows.NoseGroupsSaid :=
  OpenClaim.holds_of_wide 11 Try.f11 rfl rfl rfl rfl rfl rfl rfl ⟨rfl, rfl, rfl, rfl, rfl⟩ rfl rfl rfl rfl rfl (by kernel_rfl) Try.func11 (by kernel_rfl)
    (of_decide_eq_true (by kernel_rfl)) (by unfold Func.isWrapper; rw [if_neg (of_decide_eq_false (by kernel_rfl))]; exact ⟨rfl, rfl⟩)
    (fun os started H enc _ => noseGroups_lifted os started H enc)

end Go.Proofs.Ytnfkbbcbehnnkaa
#print axioms Go.Proofs.Ytnfkbbcbehnnkaa.noseGroups_holds
