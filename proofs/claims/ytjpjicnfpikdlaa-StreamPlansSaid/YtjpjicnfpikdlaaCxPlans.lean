import Derived.Test.YtjpjicnfpikdlaaRows
import Derived.Test.YtjpjicnfpikdlaaSxJ
import Derived.Test.YtjpjicnfpikdlaaWW1
import Derived.Test.YtjpjicnfpikdlaaWW2
import Derived.Test.YtjpjicnfpikdlaaWW5
/- For all rooms, runs, bytes, hours and rooms more the law StreamPlans returns true, and its arguments read as they did. No condition. -/

namespace Go.Proofs.Ytjpjicnfpikdlaa
open Go Go.Sx Go.Sx.Srn Go.ChangeShapes Go.WideShapes Go.RowKit

theorem ownKnobTry : ownKnob Try.prog.godebug = none := by kernel_rfl
theorem laidTry : laidOutB Try.prog = true := by kernel_rfl
theorem undB : Try.prog.underlying 4 = some .bool := by kernel_rfl

theorem trodAll_n {P : Program} {w : World} {H : Type} {enc : TypeId × Value → H} {base : Nat} {spare : Nat → Bool} {held : Bool} {t0 t1 t2 t3 t4 : TypeId} {args : Array Value} {ds : List (DataW H)} {ps : List MemPlace} (h : DataW.TrodAll enc P w base spare held [t0, t1, t2, t3, t4] args.toList ds ps) :
    ∃ v0 v1 v2 v3 v4 d0 d1 d2 d3 d4 p0 p1 p2 p3 p4, args = #[v0, v1, v2, v3, v4] ∧ ds = [d0, d1, d2, d3, d4] ∧ ps = p0 ++ p1 ++ p2 ++ p3 ++ p4 ∧ DataW.Trod enc P w base spare held t0 v0 d0 p0 ∧ DataW.Trod enc P w base spare held t1 v1 d1 p1 ∧ DataW.Trod enc P w base spare held t2 v2 d2 p2 ∧ DataW.Trod enc P w base spare held t3 v3 d3 p3 ∧ DataW.Trod enc P w base spare held t4 v4 d4 p4 := by
  obtain ⟨v0, vs0, d0, ds0, p0, q0, hargs, rfl, rfl, hd0, hr0⟩ := trodAll_cons h
  obtain ⟨v1, vs1, d1, ds1, p1, q1, rfl, rfl, rfl, hd1, hr1⟩ := trodAll_cons hr0
  obtain ⟨v2, vs2, d2, ds2, p2, q2, rfl, rfl, rfl, hd2, hr2⟩ := trodAll_cons hr1
  obtain ⟨v3, vs3, d3, ds3, p3, q3, rfl, rfl, rfl, hd3, hr3⟩ := trodAll_cons hr2
  obtain ⟨v4, vs4, d4, ds4, p4, q4, rfl, rfl, rfl, hd4, hr4⟩ := trodAll_cons hr3
  obtain ⟨rfl, rfl, rfl⟩ := trodAll_nil hr4
  exact ⟨v0, v1, v2, v3, v4, d0, d1, d2, d3, d4, p0, p1, p2, p3, p4, by cases args; simp_all, rfl, by simp, hd0, hd1, hd2, hd3, hd4⟩

set_option maxRecDepth 100000 in
theorem law_main (W : World) {H : Type} {enc : TypeId × Value → H} {b0 base : Nat} {spare : Nat → Bool} {held : Bool} {v0 v1 v2 v3 v4 : Value} {d0 d1 d2 d3 d4 : DataW H} {p0 p1 p2 p3 p4 : List MemPlace}
    (s0 : Value.okWide Try.prog W .any b0 33 v0) (s1 : Value.okWide Try.prog W .any b0 42 v1) (s2 : Value.okWide Try.prog W .any b0 63 v2) (s3 : Value.okWide Try.prog W .any b0 5 v3) (s4 : Value.okWide Try.prog W .any b0 48 v4)
    (h0 : DataW.Trod enc Try.prog W base spare held 33 v0 d0 p0) (h1 : DataW.Trod enc Try.prog W base spare held 42 v1 d1 p1) (h2 : DataW.Trod enc Try.prog W base spare held 63 v2 d2 p2) (h3 : DataW.Trod enc Try.prog W base spare held 5 v3 d3 p3) (h4 : DataW.Trod enc Try.prog W base spare held 48 v4 d4 p4) :
    Calls Try.prog 10 #[v0, v1, v2, v3, v4] W fun e W' => e = .returned (.bool true) ∧ Below W.heap.size W W' := by
  obtain ⟨R, r0⟩ := rooms_in s0 h0
  obtain ⟨l, r1⟩ := runs_in s1 h1
  obtain ⟨B, r2, hB⟩ := bytes_in s2 h2
  obtain ⟨hour, rfl, _, _, w3⟩ := open_int undP5 s3 h3
  obtain ⟨more, rfl, _, _, w4⟩ := open_int undP48 s4 h4
  obtain ⟨h', hc⟩ := plans_law5 (R := R) (l := l) hB (wfU8 w3) (wfU32 w4)
  exact row_data (xs := [v0, v1, v2, .int .u8 hour, .int .u32 more]) hc ⟨_, _, r0, ⟨_, _, r1, ⟨_, _, r2, ⟨_, _, rfl, ⟨_, _, rfl, rfl, rfl⟩, rfl⟩, rfl⟩, rfl⟩, rfl⟩

set_option maxRecDepth 100000 in
theorem streamPlans_lifted (os : Os) (started : os.Started) (H : Type) (enc : TypeId × Value → H) :
    ReturnsInHanded {} Try.checked os 10 .any (Rows.streamPlansSpec.pre6 enc Try.prog Try.f10 Rows.streamPlansRow.domain false) (Rows.streamPlansSpec.post enc Try.prog Try.f10 false true false false) := by
  refine returnsInHanded_of_change (C := Try.checked) ownKnobTry started (by kernel_rfl) Try.func10
    (ChangeSpec.witness6 (enc := enc) (C := Try.checked) false ⟨#[], #[.slice none 0 0, .slice none 0 0, .slice none 0 0, .int .u8 0, .int .u32 0], []⟩ 8 (by kernel_rfl) (by kernel_rfl) (by kernel_rfl) (by kernel_rfl)) ?_
  intro W base args ds gs before hval0 hW _ _
  have hval : ∀ (j : Nat) t v, Try.f10.params[j]? = some t → args[j]? = some v → Value.okWide Try.prog W .any base t v := hval0
  have hW' := hW
  obtain ⟨p, q, hA0, hV, rfl, hfz, hnd⟩ := hW
  have hA : DataW.TrodAll enc Try.prog W 0 (fun _ => true) true Try.f10.params.toList args.toList ds p := hA0
  rw [Try.params10] at hA hval
  obtain ⟨v0, v1, v2, v3, v4, d0, d1, d2, d3, d4, p0, p1, p2, p3, p4, rfl, rfl, rfl, h0, h1, h2, h3, h4⟩ := trodAll_n hA
  obtain ⟨rfl, rfl⟩ := trodVars_none hV
  have fin : ∀ (e : Ending) (W' : World), (e = .returned (.bool true) ∧ Below W.heap.size W W') → ∃ v, e = .returned v ∧ Rows.streamPlansSpec.post enc Try.prog Try.f10 false true false false W #[v0, v1, v2, v3, v4] v W' :=
    fun e W' h => ⟨_, h.1, post_true laidTry (by kernel_rfl) (tb := 4) (by kernel_rfl) undB rfl hW' rfl h.2⟩
  exact (law_main W (hval 0 33 v0 rfl rfl) (hval 1 42 v1 rfl rfl) (hval 2 63 v2 rfl rfl) (hval 3 5 v3 rfl rfl) (hval 4 48 v4 rfl rfl) h0 h1 h2 h3 h4).mono fin

theorem streamPlans_holds : Rows.StreamPlansSaid :=
  OpenClaim.holds_of_wide 10 Try.f10 rfl rfl rfl rfl rfl rfl rfl ⟨rfl, rfl, rfl, rfl, rfl⟩ rfl rfl rfl rfl rfl (by kernel_rfl) Try.func10 (by kernel_rfl)
    (of_decide_eq_true (by kernel_rfl)) (by unfold Func.isWrapper; rw [if_neg (of_decide_eq_false (by kernel_rfl))]; exact ⟨rfl, rfl⟩)
    (fun os started H enc _ => streamPlans_lifted os started H enc)

end Go.Proofs.Ytjpjicnfpikdlaa
#print axioms Go.Proofs.Ytjpjicnfpikdlaa.streamPlans_holds
