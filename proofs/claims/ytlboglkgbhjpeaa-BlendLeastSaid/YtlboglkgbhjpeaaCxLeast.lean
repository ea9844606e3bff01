import Derived.Test.YtlboglkgbhjpeaaRows
import Derived.Test.YtlboglkgbhjpeaaSxJ
import Derived.Test.YtlboglkgbhjpeaaWW2
import Derived.Test.YtlboglkgbhjpeaaWW4
import Derived.Test.YtlboglkgbhjpeaaWW5
/- For all stocks, tastes, years, needs and remainders the law BlendLeast returns true, and its arguments read as they did. No condition. -/

namespace Go.Proofs.Ytlboglkgbhjpeaa
open Go Go.Sx Go.Sx.Bln Go.ChangeShapes Go.WideShapes Go.RowKit

theorem ownKnobTry : ownKnob Try.prog.godebug = none := by kernel_rfl
theorem laidTry : laidOutB Try.prog = true := by kernel_rfl
theorem undB : Try.prog.underlying 4 = some .bool := by kernel_rfl

theorem trodAll_n {P : Program} {w : World} {H : Type} {enc : TypeId × Value → H} {base : Nat} {spare : Nat → Bool} {held : Bool} {t0 t1 t2 t3 t4 t5 t6 : TypeId} {args : Array Value} {ds : List (DataW H)} {ps : List MemPlace} (h : DataW.TrodAll enc P w base spare held [t0, t1, t2, t3, t4, t5, t6] args.toList ds ps) :
    ∃ v0 v1 v2 v3 v4 v5 v6 d0 d1 d2 d3 d4 d5 d6 p0 p1 p2 p3 p4 p5 p6, args = #[v0, v1, v2, v3, v4, v5, v6] ∧ ds = [d0, d1, d2, d3, d4, d5, d6] ∧ ps = p0 ++ p1 ++ p2 ++ p3 ++ p4 ++ p5 ++ p6 ∧ DataW.Trod enc P w base spare held t0 v0 d0 p0 ∧ DataW.Trod enc P w base spare held t1 v1 d1 p1 ∧ DataW.Trod enc P w base spare held t2 v2 d2 p2 ∧ DataW.Trod enc P w base spare held t3 v3 d3 p3 ∧ DataW.Trod enc P w base spare held t4 v4 d4 p4 ∧ DataW.Trod enc P w base spare held t5 v5 d5 p5 ∧ DataW.Trod enc P w base spare held t6 v6 d6 p6 := by
  obtain ⟨v0, vs0, d0, ds0, p0, q0, hargs, rfl, rfl, hd0, hr0⟩ := trodAll_cons h
  obtain ⟨v1, vs1, d1, ds1, p1, q1, rfl, rfl, rfl, hd1, hr1⟩ := trodAll_cons hr0
  obtain ⟨v2, vs2, d2, ds2, p2, q2, rfl, rfl, rfl, hd2, hr2⟩ := trodAll_cons hr1
  obtain ⟨v3, vs3, d3, ds3, p3, q3, rfl, rfl, rfl, hd3, hr3⟩ := trodAll_cons hr2
  obtain ⟨v4, vs4, d4, ds4, p4, q4, rfl, rfl, rfl, hd4, hr4⟩ := trodAll_cons hr3
  obtain ⟨v5, vs5, d5, ds5, p5, q5, rfl, rfl, rfl, hd5, hr5⟩ := trodAll_cons hr4
  obtain ⟨v6, vs6, d6, ds6, p6, q6, rfl, rfl, rfl, hd6, hr6⟩ := trodAll_cons hr5
  obtain ⟨rfl, rfl, rfl⟩ := trodAll_nil hr6
  exact ⟨v0, v1, v2, v3, v4, v5, v6, d0, d1, d2, d3, d4, d5, d6, p0, p1, p2, p3, p4, p5, p6, by cases args; simp_all, rfl, by simp, hd0, hd1, hd2, hd3, hd4, hd5, hd6⟩

set_option maxRecDepth 100000 in
theorem law_main (W : World) {H : Type} {enc : TypeId × Value → H} {b0 base : Nat} {spare : Nat → Bool} {held : Bool} {v0 v1 v2 v3 v4 v5 v6 : Value} {d0 d1 d2 d3 d4 d5 d6 : DataW H} {p0 p1 p2 p3 p4 p5 p6 : List MemPlace}
    (s0 : Value.okWide Try.prog W .any b0 22 v0) (s1 : Value.okWide Try.prog W .any b0 25 v1) (s2 : Value.okWide Try.prog W .any b0 3 v2) (s3 : Value.okWide Try.prog W .any b0 3 v3) (s4 : Value.okWide Try.prog W .any b0 3 v4) (s5 : Value.okWide Try.prog W .any b0 5 v5) (s6 : Value.okWide Try.prog W .any b0 61 v6)
    (h0 : DataW.Trod enc Try.prog W base spare held 22 v0 d0 p0) (h1 : DataW.Trod enc Try.prog W base spare held 25 v1 d1 p1) (h2 : DataW.Trod enc Try.prog W base spare held 3 v2 d2 p2) (h3 : DataW.Trod enc Try.prog W base spare held 3 v3 d3 p3) (h4 : DataW.Trod enc Try.prog W base spare held 3 v4 d4 p4) (h5 : DataW.Trod enc Try.prog W base spare held 5 v5 d5 p5) (h6 : DataW.Trod enc Try.prog W base spare held 61 v6 d6 p6) :
    Calls Try.prog 8 #[v0, v1, v2, v3, v4, v5, v6] W fun e W' => e = .returned (.bool true) ∧ Below W.heap.size W W' := by
  obtain ⟨l, r0⟩ := stocks_in s0 h0
  obtain ⟨t, r1⟩ := taste_in s1 h1
  obtain ⟨y, rfl, _, _, _⟩ := open_int undP3 s2 h2
  obtain ⟨m, rfl, _, _, _⟩ := open_int undP3 s3 h3
  obtain ⟨more, rfl, _, _, _⟩ := open_int undP3 s4 h4
  obtain ⟨wh, rfl, _, _, hwf⟩ := open_int undP5 s5 h5
  have hw : 0 ≤ wh ∧ wh ≤ 255 := by
    simp only [Lit.wf, Bool.and_eq_true, decide_eq_true_eq] at hwf
    exact hwf
  obtain ⟨B, r6, hB⟩ := bytes_in s6 h6
  obtain ⟨h', hc⟩ := least_v (l := l) (t := t) (y := y) (m := m) (more := more) hB hw
  exact row_data (xs := [v0, v1, .int .i64 y, .int .i64 m, .int .i64 more, .int .u8 wh, v6]) hc ⟨_, _, r0, ⟨_, _, r1, ⟨_, _, rfl, ⟨_, _, rfl, ⟨_, _, rfl, ⟨_, _, rfl, ⟨_, _, r6, rfl, rfl⟩, rfl⟩, rfl⟩, rfl⟩, rfl⟩, rfl⟩, rfl⟩

set_option maxRecDepth 100000 in
theorem blendLeast_lifted (os : Os) (started : os.Started) (H : Type) (enc : TypeId × Value → H) :
    ReturnsInHanded {} Try.checked os 8 .any (Rows.blendLeastSpec.pre6 enc Try.prog Try.f8 Rows.blendLeastRow.domain false) (Rows.blendLeastSpec.post enc Try.prog Try.f8 false true false false) := by
  refine returnsInHanded_of_change (C := Try.checked) ownKnobTry started (by kernel_rfl) Try.func8
    (ChangeSpec.witness6 (enc := enc) (C := Try.checked) false ⟨#[], #[.slice none 0 0, .agg #[.slice none 0 0, .int .i64 0, .int .i64 0], .int .i64 0, .int .i64 0, .int .i64 0, .int .u8 0, .slice none 0 0], []⟩ 8 (by kernel_rfl) (by kernel_rfl) (by kernel_rfl) (by kernel_rfl)) ?_
  intro W base args ds gs before hval0 hW _ _
  have hval : ∀ (j : Nat) t v, Try.f8.params[j]? = some t → args[j]? = some v → Value.okWide Try.prog W .any base t v := hval0
  have hW' := hW
  obtain ⟨p, q, hA0, hV, rfl, hfz, hnd⟩ := hW
  have hA : DataW.TrodAll enc Try.prog W 0 (fun _ => true) true Try.f8.params.toList args.toList ds p := hA0
  rw [Try.params8] at hA hval
  obtain ⟨v0, v1, v2, v3, v4, v5, v6, d0, d1, d2, d3, d4, d5, d6, p0, p1, p2, p3, p4, p5, p6, rfl, rfl, rfl, h0, h1, h2, h3, h4, h5, h6⟩ := trodAll_n hA
  obtain ⟨rfl, rfl⟩ := trodVars_none hV
  have fin : ∀ (e : Ending) (W' : World), (e = .returned (.bool true) ∧ Below W.heap.size W W') → ∃ v, e = .returned v ∧ Rows.blendLeastSpec.post enc Try.prog Try.f8 false true false false W #[v0, v1, v2, v3, v4, v5, v6] v W' :=
    fun e W' h => ⟨_, h.1, post_true laidTry (by kernel_rfl) (tb := 4) (by kernel_rfl) undB rfl hW' rfl h.2⟩
  exact (law_main W (hval 0 22 v0 rfl rfl) (hval 1 25 v1 rfl rfl) (hval 2 3 v2 rfl rfl) (hval 3 3 v3 rfl rfl) (hval 4 3 v4 rfl rfl) (hval 5 5 v5 rfl rfl) (hval 6 61 v6 rfl rfl) h0 h1 h2 h3 h4 h5 h6).mono fin

theorem blendLeast_holds : Rows.BlendLeastSaid :=
  OpenClaim.holds_of_wide 8 Try.f8 rfl rfl rfl rfl rfl rfl rfl ⟨rfl, rfl, rfl, rfl, rfl⟩ rfl rfl rfl rfl rfl (by kernel_rfl) Try.func8 (by kernel_rfl)
    (of_decide_eq_true (by kernel_rfl)) (by unfold Func.isWrapper; rw [if_neg (of_decide_eq_false (by kernel_rfl))]; exact ⟨rfl, rfl⟩)
    (fun os started H enc _ => blendLeast_lifted os started H enc)

end Go.Proofs.Ytlboglkgbhjpeaa
#print axioms Go.Proofs.Ytlboglkgbhjpeaa.blendLeast_holds
