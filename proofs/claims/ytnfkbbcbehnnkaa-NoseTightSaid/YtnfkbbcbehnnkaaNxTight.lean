import Derived.Test.YtnfkbbcbehnnkaaRows
import Derived.Test.YtnfkbbcbehnnkaaNR
import Derived.Test.YtnfkbbcbehnnkaaNM
/- For all panels and numbers, the law NoseTight returns true, and its arguments read as they did. No condition. -/

namespace Go.Proofs.Ytnfkbbcbehnnkaa
open Go Go.Sx Go.Sx.Nos Go.ChangeShapes Go.WideShapes Go.RowKit

theorem ownKnobTry : ownKnob Try.prog.godebug = none := by kernel_rfl
theorem laidTry : laidOutB Try.prog = true := by kernel_rfl

theorem trodAll_n {P : Program} {w : World} {H : Type} {enc : TypeId × Value → H} {base : Nat} {spare : Nat → Bool} {held : Bool} {t0 t1 t2 : TypeId} {args : Array Value} {ds : List (DataW H)} {ps : List MemPlace} (h : DataW.TrodAll enc P w base spare held [t0, t1, t2] args.toList ds ps) :
    ∃ v0 v1 v2 d0 d1 d2 p0 p1 p2, args = #[v0, v1, v2] ∧ ds = [d0, d1, d2] ∧ ps = p0 ++ p1 ++ p2 ∧ DataW.Trod enc P w base spare held t0 v0 d0 p0 ∧ DataW.Trod enc P w base spare held t1 v1 d1 p1 ∧ DataW.Trod enc P w base spare held t2 v2 d2 p2 := by
  obtain ⟨v0, vs0, d0, ds0, p0, q0, hargs, rfl, rfl, hd0, hr0⟩ := trodAll_cons h
  obtain ⟨v1, vs1, d1, ds1, p1, q1, rfl, rfl, rfl, hd1, hr1⟩ := trodAll_cons hr0
  obtain ⟨v2, vs2, d2, ds2, p2, q2, rfl, rfl, rfl, hd2, hr2⟩ := trodAll_cons hr1
  obtain ⟨rfl, rfl, rfl⟩ := trodAll_nil hr2
  exact ⟨v0, v1, v2, d0, d1, d2, p0, p1, p2, by cases args; simp_all, rfl, by simp, hd0, hd1, hd2⟩

set_option maxRecDepth 100000 in
theorem law_main (W : World) {H : Type} {enc : TypeId × Value → H} {b0 base : Nat} {spare : Nat → Bool} {held : Bool} {v0 v1 v2 : Value} {d0 d1 d2 : DataW H} {p0 p1 p2 : List MemPlace}
    (s0 : Value.okWide Try.prog W .any b0 26 v0) (s1 : Value.okWide Try.prog W .any b0 5 v1) (s2 : Value.okWide Try.prog W .any b0 5 v2)
    (h0 : DataW.Trod enc Try.prog W base spare held 26 v0 d0 p0) (h1 : DataW.Trod enc Try.prog W base spare held 5 v1 d1 p1) (h2 : DataW.Trod enc Try.prog W base spare held 5 v2 d2 p2) :
    Calls Try.prog 5 #[v0, v1, v2] W fun e W' => e = .returned (.bool true) ∧ Below W.heap.size W W' := by
  obtain ⟨p, hP, _⟩ := read_pn s0 h0
  obtain ⟨a, rfl, _, _, w1⟩ := open_int und5 s1 h1
  obtain ⟨b, rfl, _, _, w2⟩ := open_int und5 s2 h2
  refine row_pn (ags := [.v (.int .u8 a), .v (.int .u8 b)]) (xs := [.int .u8 a, .int .u8 b]) (fun c1 c2 c3 cs => ?_) hP ⟨_, _, rfl, fun R => rfl, _, _, rfl, fun R => rfl, rfl⟩
  match cs with
  | [] => exact tight_v (u8_range w1) (u8_range w2)
  | _ :: _ => exact tight_v (u8_range w1) (u8_range w2)

set_option maxRecDepth 100000 in
theorem noseTight_lifted (os : Os) (started : os.Started) (H : Type) (enc : TypeId × Value → H) :
    ReturnsInHanded {} Try.checked os 5 .any (Rows.noseTightSpec.pre6 enc Try.prog Try.f5 Rows.noseTightRow.domain false) (Rows.noseTightSpec.post enc Try.prog Try.f5 false true false false) := by
  refine returnsInHanded_of_change (C := Try.checked) ownKnobTry started (by kernel_rfl) Try.func5
    (ChangeSpec.witness6 (enc := enc) (C := Try.checked) false ⟨#[], #[.agg #[.slice none 0 0, .slice none 0 0, .slice none 0 0], .int .u8 0, .int .u8 0], []⟩ 8 (by kernel_rfl) (by kernel_rfl) (by kernel_rfl) (by kernel_rfl)) ?_
  intro W base args ds gs before hval0 hW _ _
  have hval : ∀ (j : Nat) t v, Try.f5.params[j]? = some t → args[j]? = some v → Value.okWide Try.prog W .any base t v := hval0
  have hW' := hW
  obtain ⟨p, q, hA0, hV, rfl, hfz, hnd⟩ := hW
  have hA : DataW.TrodAll enc Try.prog W 0 (fun _ => true) true Try.f5.params.toList args.toList ds p := hA0
  rw [Try.params5] at hA hval
  obtain ⟨v0, v1, v2, d0, d1, d2, p0, p1, p2, rfl, rfl, rfl, h0, h1, h2⟩ := trodAll_n hA
  obtain ⟨rfl, rfl⟩ := trodVars_none hV
  have fin : ∀ (e : Ending) (W' : World), (e = .returned (.bool true) ∧ Below W.heap.size W W') → ∃ v, e = .returned v ∧ Rows.noseTightSpec.post enc Try.prog Try.f5 false true false false W #[v0, v1, v2] v W' :=
    fun e W' h => ⟨_, h.1, post_true laidTry (by kernel_rfl) (tb := 4) (by kernel_rfl) und4 rfl hW' rfl h.2⟩
  exact (law_main W (hval 0 26 v0 rfl rfl) (hval 1 5 v1 rfl rfl) (hval 2 5 v2 rfl rfl) h0 h1 h2).mono fin

theorem noseTight_holds : Rows.NoseTightSaid :=
  OpenClaim.holds_of_wide 5 Try.f5 rfl rfl rfl rfl rfl rfl rfl ⟨rfl, rfl, rfl, rfl, rfl⟩ rfl rfl rfl rfl rfl (by kernel_rfl) Try.func5 (by kernel_rfl)
    (of_decide_eq_true (by kernel_rfl)) (by unfold Func.isWrapper; rw [if_neg (of_decide_eq_false (by kernel_rfl))]; exact ⟨rfl, rfl⟩)
    (fun os started H enc _ => noseTight_lifted os started H enc)

end Go.Proofs.Ytnfkbbcbehnnkaa
#print axioms Go.Proofs.Ytnfkbbcbehnnkaa.noseTight_holds
