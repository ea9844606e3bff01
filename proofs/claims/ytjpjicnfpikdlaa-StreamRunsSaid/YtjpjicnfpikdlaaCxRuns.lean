import Derived.Test.YtjpjicnfpikdlaaRows
import Derived.Test.YtjpjicnfpikdlaaSxJ
import Derived.Test.YtjpjicnfpikdlaaWW1
import Derived.Test.YtjpjicnfpikdlaaWW4
/- For all rooms and runs the law StreamRuns returns true, and its arguments read as they did. No condition. -/

namespace Go.Proofs.Ytjpjicnfpikdlaa
open Go Go.Sx Go.Sx.Srn Go.ChangeShapes Go.WideShapes Go.RowKit

theorem ownKnobTry : ownKnob Try.prog.godebug = none := by kernel_rfl
theorem laidTry : laidOutB Try.prog = true := by kernel_rfl
theorem undB : Try.prog.underlying 4 = some .bool := by kernel_rfl

theorem trodAll_n {P : Program} {w : World} {H : Type} {enc : TypeId × Value → H} {base : Nat} {spare : Nat → Bool} {held : Bool} {t0 t1 : TypeId} {args : Array Value} {ds : List (DataW H)} {ps : List MemPlace} (h : DataW.TrodAll enc P w base spare held [t0, t1] args.toList ds ps) :
    ∃ v0 v1 d0 d1 p0 p1, args = #[v0, v1] ∧ ds = [d0, d1] ∧ ps = p0 ++ p1 ∧ DataW.Trod enc P w base spare held t0 v0 d0 p0 ∧ DataW.Trod enc P w base spare held t1 v1 d1 p1 := by
  obtain ⟨v0, vs0, d0, ds0, p0, q0, hargs, rfl, rfl, hd0, hr0⟩ := trodAll_cons h
  obtain ⟨v1, vs1, d1, ds1, p1, q1, rfl, rfl, rfl, hd1, hr1⟩ := trodAll_cons hr0
  obtain ⟨rfl, rfl, rfl⟩ := trodAll_nil hr1
  exact ⟨v0, v1, d0, d1, p0, p1, by cases args; simp_all, rfl, by simp, hd0, hd1⟩

set_option maxRecDepth 100000 in
theorem law_main (W : World) {H : Type} {enc : TypeId × Value → H} {b0 base : Nat} {spare : Nat → Bool} {held : Bool} {v0 v1 : Value} {d0 d1 : DataW H} {p0 p1 : List MemPlace}
    (s0 : Value.okWide Try.prog W .any b0 33 v0) (s1 : Value.okWide Try.prog W .any b0 42 v1)
    (h0 : DataW.Trod enc Try.prog W base spare held 33 v0 d0 p0) (h1 : DataW.Trod enc Try.prog W base spare held 42 v1 d1 p1) :
    Calls Try.prog 5 #[v0, v1] W fun e W' => e = .returned (.bool true) ∧ Below W.heap.size W W' := by
  obtain ⟨R, r0⟩ := rooms_in s0 h0
  obtain ⟨l, r1⟩ := runs_in s1 h1
  obtain ⟨h', hc⟩ := runs_law (R := R) (l := l)
  exact row_data (xs := [v0, v1]) hc ⟨_, _, r0, ⟨_, _, r1, rfl, rfl⟩, rfl⟩

set_option maxRecDepth 100000 in
theorem streamRuns_lifted (os : Os) (started : os.Started) (H : Type) (enc : TypeId × Value → H) :
    ReturnsInHanded {} Try.checked os 5 .any (Rows.streamRunsSpec.pre6 enc Try.prog Try.f5 Rows.streamRunsRow.domain false) (Rows.streamRunsSpec.post enc Try.prog Try.f5 false true false false) := by
  refine returnsInHanded_of_change (C := Try.checked) ownKnobTry started (by kernel_rfl) Try.func5
    (ChangeSpec.witness6 (enc := enc) (C := Try.checked) false ⟨#[], #[.slice none 0 0, .slice none 0 0], []⟩ 8 (by kernel_rfl) (by kernel_rfl) (by kernel_rfl) (by kernel_rfl)) ?_
  intro W base args ds gs before hval0 hW _ _
  have hval : ∀ (j : Nat) t v, Try.f5.params[j]? = some t → args[j]? = some v → Value.okWide Try.prog W .any base t v := hval0
  have hW' := hW
  obtain ⟨p, q, hA0, hV, rfl, hfz, hnd⟩ := hW
  have hA : DataW.TrodAll enc Try.prog W 0 (fun _ => true) true Try.f5.params.toList args.toList ds p := hA0
  rw [Try.params5] at hA hval
  obtain ⟨v0, v1, d0, d1, p0, p1, rfl, rfl, rfl, h0, h1⟩ := trodAll_n hA
  obtain ⟨rfl, rfl⟩ := trodVars_none hV
  have fin : ∀ (e : Ending) (W' : World), (e = .returned (.bool true) ∧ Below W.heap.size W W') → ∃ v, e = .returned v ∧ Rows.streamRunsSpec.post enc Try.prog Try.f5 false true false false W #[v0, v1] v W' :=
    fun e W' h => ⟨_, h.1, post_true laidTry (by kernel_rfl) (tb := 4) (by kernel_rfl) undB rfl hW' rfl h.2⟩
  exact (law_main W (hval 0 33 v0 rfl rfl) (hval 1 42 v1 rfl rfl) h0 h1).mono fin

theorem streamRuns_holds : Rows.StreamRunsSaid :=
  OpenClaim.holds_of_wide 5 Try.f5 rfl rfl rfl rfl rfl rfl rfl ⟨rfl, rfl, rfl, rfl, rfl⟩ rfl rfl rfl rfl rfl (by kernel_rfl) Try.func5 (by kernel_rfl)
    (of_decide_eq_true (by kernel_rfl)) (by unfold Func.isWrapper; rw [if_neg (of_decide_eq_false (by kernel_rfl))]; exact ⟨rfl, rfl⟩)
    (fun os started H enc _ => streamRuns_lifted os started H enc)

end Go.Proofs.Ytjpjicnfpikdlaa
#print axioms Go.Proofs.Ytjpjicnfpikdlaa.streamRuns_holds
