import Derived.Test.YtlboglkgbhjpeaaRows
import Derived.Test.YtlboglkgbhjpeaaSxJ
import Derived.Test.YtlboglkgbhjpeaaWW2
import Derived.Test.YtlboglkgbhjpeaaWW7
/- For all stocks, tastes and paths the law BlendOwns returns true, and its arguments read as they did. No condition. -/

namespace Go.Proofs.Ytlboglkgbhjpeaa
open Go Go.Sx Go.Sx.Bln Go.ChangeShapes Go.WideShapes Go.RowKit

theorem ownKnobTry : ownKnob Try.prog.godebug = none := by kernel_rfl
theorem laidTry : laidOutB Try.prog = true := by kernel_rfl
theorem undB : Try.prog.underlying 4 = some .bool := by kernel_rfl

theorem trodAll_n {P : Program} {w : World} {H : Type} {enc : TypeId × Value → H} {base : Nat} {spare : Nat → Bool} {held : Bool} {t0 t1 t2 : TypeId} {args : Array Value} {ds : List (DataW H)} {ps : List MemPlace} (h : DataW.TrodAll enc P w base spare held [t0, t1, t2] args.toList ds ps) :
    ∃ v0 v1 v2 d0 d1 d2 p0 p1 p2, args = #[v0, v1, v2] ∧ ds = [d0, d1, d2] ∧ ps = p0 ++ p1 ++ p2 ∧ DataW.Trod enc P w base spare held t0 v0 d0 p0 ∧ DataW.Trod enc P w base spare held t1 v1 d1 p1 ∧ DataW.Trod enc P w base spare held t2 v2 d2 p2 := by
  obtain ⟨v0, vs0, d0, ds0, p0, q0, hargs, rfl, rfl, hd0, hr0⟩ := trodAll_cons h
  obtain ⟨v1, vs1, d1, ds1, p1, q1, rfl, rfl, rfl, hd1, hr1⟩ := trodAll_cons hr0
  obtain ⟨v2, vs2, d2, ds2, p2, q2, rfl, rfl, rfl, hd2, hr2⟩ := trodAll_cons hr1
  obtain ⟨rfl, rfl, rfl⟩ := trodAll_nil hr2
  exact ⟨v0, v1, v2, d0, d1, d2, p0, p1, p2, by cases args; simp_all, rfl, by simp, hd0, hd1, hd2⟩

set_option maxRecDepth 100000 in
theorem law_main (W : World) {H : Type} {enc : TypeId × Value → H} {b0 base : Nat} {spare : Nat → Bool} {held : Bool} {v0 v1 v2 : Value} {d0 d1 d2 : DataW H} {p0 p1 p2 : List MemPlace}
    (s0 : Value.okWide Try.prog W .any b0 22 v0) (s1 : Value.okWide Try.prog W .any b0 25 v1) (s2 : Value.okWide Try.prog W .any b0 26 v2)
    (h0 : DataW.Trod enc Try.prog W base spare held 22 v0 d0 p0) (h1 : DataW.Trod enc Try.prog W base spare held 25 v1 d1 p1) (h2 : DataW.Trod enc Try.prog W base spare held 26 v2 d2 p2) :
    Calls Try.prog 3 #[v0, v1, v2] W fun e W' => e = .returned (.bool true) ∧ Below W.heap.size W W' := by
  obtain ⟨l, r0⟩ := stocks_in s0 h0
  obtain ⟨t, r1⟩ := taste_in s1 h1
  obtain ⟨p, r2⟩ := paths_in s2 h2
  obtain ⟨h', hc⟩ := owns_v (l := l) (t := t) (p := p) (G := fun _ _ => 0)
  exact row_bun (xs := [v0, v1, v2]) hc ⟨_, _, r0, ⟨_, _, r1, ⟨_, _, r2, rfl, rfl⟩, rfl⟩, rfl⟩

set_option maxRecDepth 100000 in
theorem blendOwns_lifted (os : Os) (started : os.Started) (H : Type) (enc : TypeId × Value → H) :
    ReturnsInHanded {} Try.checked os 3 .any (Rows.blendOwnsSpec.pre6 enc Try.prog Try.f3 Rows.blendOwnsRow.domain false) (Rows.blendOwnsSpec.post enc Try.prog Try.f3 false true false false) := by
  refine returnsInHanded_of_change (C := Try.checked) ownKnobTry started (by kernel_rfl) Try.func3
    (ChangeSpec.witness6 (enc := enc) (C := Try.checked) false ⟨#[], #[.slice none 0 0, .agg #[.slice none 0 0, .int .i64 0, .int .i64 0], .slice none 0 0], []⟩ 8 (by kernel_rfl) (by kernel_rfl) (by kernel_rfl) (by kernel_rfl)) ?_
  intro W base args ds gs before hval0 hW _ _
  have hval : ∀ (j : Nat) t v, Try.f3.params[j]? = some t → args[j]? = some v → Value.okWide Try.prog W .any base t v := hval0
  have hW' := hW
  obtain ⟨p, q, hA0, hV, rfl, hfz, hnd⟩ := hW
  have hA : DataW.TrodAll enc Try.prog W 0 (fun _ => true) true Try.f3.params.toList args.toList ds p := hA0
  rw [Try.params3] at hA hval
  obtain ⟨v0, v1, v2, d0, d1, d2, p0, p1, p2, rfl, rfl, rfl, h0, h1, h2⟩ := trodAll_n hA
  obtain ⟨rfl, rfl⟩ := trodVars_none hV
  have fin : ∀ (e : Ending) (W' : World), (e = .returned (.bool true) ∧ Below W.heap.size W W') → ∃ v, e = .returned v ∧ Rows.blendOwnsSpec.post enc Try.prog Try.f3 false true false false W #[v0, v1, v2] v W' :=
    fun e W' h => ⟨_, h.1, post_true laidTry (by kernel_rfl) (tb := 4) (by kernel_rfl) undB rfl hW' rfl h.2⟩
  exact (law_main W (hval 0 22 v0 rfl rfl) (hval 1 25 v1 rfl rfl) (hval 2 26 v2 rfl rfl) h0 h1 h2).mono fin

theorem blendOwns_holds : Rows.BlendOwnsSaid :=
  OpenClaim.holds_of_wide 3 Try.f3 rfl rfl rfl rfl rfl rfl rfl ⟨rfl, rfl, rfl, rfl, rfl⟩ rfl rfl rfl rfl rfl (by kernel_rfl) Try.func3 (by kernel_rfl)
    (of_decide_eq_true (by kernel_rfl)) (by unfold Func.isWrapper; rw [if_neg (of_decide_eq_false (by kernel_rfl))]; exact ⟨rfl, rfl⟩)
    (fun os started H enc _ => blendOwns_lifted os started H enc)

end Go.Proofs.Ytlboglkgbhjpeaa
#print axioms Go.Proofs.Ytlboglkgbhjpeaa.blendOwns_holds
