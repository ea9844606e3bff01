import Derived.Test.YtaaaialjieojlaaRows
import Derived.Test.YtaaaialjieojlaaWW3
/- For all panels, values, remainders, stocks, tastes and needs, the law TopTasted returns true, and its arguments read as they did. No condition. -/

namespace Go.Proofs.Ytaaaialjieojlaa
open Go Go.Sx Go.Sx.Top Go.ChangeShapes Go.WideShapes Go.RowKit

theorem ownKnobTry : ownKnob Try.prog.godebug = none := by kernel_rfl
theorem laidTry : laidOutB Try.prog = true := by kernel_rfl
theorem undB : Try.prog.underlying 4 = some .bool := by kernel_rfl

theorem trodAll_n {P : Program} {w : World} {H : Type} {enc : TypeId × Value → H} {base : Nat} {spare : Nat → Bool} {held : Bool} {t0 t1 t2 t3 t4 t5 : TypeId} {args : Array Value} {ds : List (DataW H)} {ps : List MemPlace} (h : DataW.TrodAll enc P w base spare held [t0, t1, t2, t3, t4, t5] args.toList ds ps) :
    ∃ v0 v1 v2 v3 v4 v5 d0 d1 d2 d3 d4 d5 p0 p1 p2 p3 p4 p5, args = #[v0, v1, v2, v3, v4, v5] ∧ ds = [d0, d1, d2, d3, d4, d5] ∧ ps = p0 ++ p1 ++ p2 ++ p3 ++ p4 ++ p5 ∧ DataW.Trod enc P w base spare held t0 v0 d0 p0 ∧ DataW.Trod enc P w base spare held t1 v1 d1 p1 ∧ DataW.Trod enc P w base spare held t2 v2 d2 p2 ∧ DataW.Trod enc P w base spare held t3 v3 d3 p3 ∧ DataW.Trod enc P w base spare held t4 v4 d4 p4 ∧ DataW.Trod enc P w base spare held t5 v5 d5 p5 := by
  obtain ⟨v0, vs0, d0, ds0, p0, q0, hargs, rfl, rfl, hd0, hr0⟩ := trodAll_cons h
  obtain ⟨v1, vs1, d1, ds1, p1, q1, rfl, rfl, rfl, hd1, hr1⟩ := trodAll_cons hr0
  obtain ⟨v2, vs2, d2, ds2, p2, q2, rfl, rfl, rfl, hd2, hr2⟩ := trodAll_cons hr1
  obtain ⟨v3, vs3, d3, ds3, p3, q3, rfl, rfl, rfl, hd3, hr3⟩ := trodAll_cons hr2
  obtain ⟨v4, vs4, d4, ds4, p4, q4, rfl, rfl, rfl, hd4, hr4⟩ := trodAll_cons hr3
  obtain ⟨v5, vs5, d5, ds5, p5, q5, rfl, rfl, rfl, hd5, hr5⟩ := trodAll_cons hr4
  obtain ⟨rfl, rfl, rfl⟩ := trodAll_nil hr5
  exact ⟨v0, v1, v2, v3, v4, v5, d0, d1, d2, d3, d4, d5, p0, p1, p2, p3, p4, p5, by cases args; simp_all, rfl, by simp, hd0, hd1, hd2, hd3, hd4, hd5⟩

set_option maxRecDepth 100000 in
theorem law_main (W : World) {H : Type} {enc : TypeId × Value → H} {b0 base : Nat} {spare : Nat → Bool} {held : Bool} {v0 v1 v2 v3 v4 v5 : Value} {d0 d1 d2 d3 d4 d5 : DataW H} {p0 p1 p2 p3 p4 p5 : List MemPlace}
    (s0 : Value.okWide Try.prog W .any b0 26 v0) (s1 : Value.okWide Try.prog W .any b0 28 v1) (s2 : Value.okWide Try.prog W .any b0 29 v2) (s3 : Value.okWide Try.prog W .any b0 30 v3) (s4 : Value.okWide Try.prog W .any b0 32 v4) (s5 : Value.okWide Try.prog W .any b0 3 v5)
    (h0 : DataW.Trod enc Try.prog W base spare held 26 v0 d0 p0) (h1 : DataW.Trod enc Try.prog W base spare held 28 v1 d1 p1) (h2 : DataW.Trod enc Try.prog W base spare held 29 v2 d2 p2) (h3 : DataW.Trod enc Try.prog W base spare held 30 v3 d3 p3) (h4 : DataW.Trod enc Try.prog W base spare held 32 v4 d4 p4) (h5 : DataW.Trod enc Try.prog W base spare held 3 v5 d5 p5) :
    Calls Try.prog 3 #[v0, v1, v2, v3, v4, v5] W fun e W' => e = .returned (.bool true) ∧ Below W.heap.size W W' := by
  obtain ⟨p, r0⟩ := panel_in s0 h0
  obtain ⟨u, r1, vb⟩ := vals_in s1 h1
  obtain ⟨b, r2, bb⟩ := by_in s2 h2
  obtain ⟨l, r3⟩ := stocks_in s3 h3
  obtain ⟨t, r4⟩ := taste_in s4 h4
  obtain ⟨m, rfl, _, _, _⟩ := open_int und3 s5 h5
  obtain ⟨h', hc⟩ := tasted_v (p := p) (v := u) (b := b) (l := l) (t := t) (m := m) bb vb
  exact row_data (xs := [v0, v1, v2, v3, v4, .int .i64 m]) hc ⟨_, _, r0, ⟨_, _, r1, ⟨_, _, r2, ⟨_, _, r3, ⟨_, _, r4, ⟨_, _, rfl, rfl, rfl⟩, rfl⟩, rfl⟩, rfl⟩, rfl⟩, rfl⟩

set_option maxRecDepth 100000 in
theorem topTasted_lifted (os : Os) (started : os.Started) (H : Type) (enc : TypeId × Value → H) :
    ReturnsInHanded {} Try.checked os 3 .any (Rows.topTastedSpec.pre6 enc Try.prog Try.f3 Rows.topTastedRow.domain false) (Rows.topTastedSpec.post enc Try.prog Try.f3 false true false false) := by
  refine returnsInHanded_of_change (C := Try.checked) ownKnobTry started (by kernel_rfl) Try.func3
    (ChangeSpec.witness6 (enc := enc) (C := Try.checked) false ⟨#[], #[.agg #[.slice none 0 0, .slice none 0 0, .slice none 0 0], .agg #[.int .u16 0, .int .u16 0, .int .u16 0, .int .u16 0, .int .u16 0, .int .u16 0, .int .u16 0, .int .u16 0, .int .u16 0, .int .u16 0, .int .u16 0, .int .u16 0, .int .u16 0, .int .u16 0, .int .u16 0, .int .u16 0], .slice none 0 0, .slice none 0 0, .agg #[.slice none 0 0, .int .i64 0, .int .i64 0], .int .i64 0], []⟩ 8 (by kernel_rfl) (by kernel_rfl) (by kernel_rfl) (by kernel_rfl)) ?_
  intro W base args ds gs before hval0 hW _ _
  have hval : ∀ (j : Nat) t v, Try.f3.params[j]? = some t → args[j]? = some v → Value.okWide Try.prog W .any base t v := hval0
  have hW' := hW
  obtain ⟨p, q, hA0, hV, rfl, hfz, hnd⟩ := hW
  have hA : DataW.TrodAll enc Try.prog W 0 (fun _ => true) true Try.f3.params.toList args.toList ds p := hA0
  rw [Try.params3] at hA hval
  obtain ⟨v0, v1, v2, v3, v4, v5, d0, d1, d2, d3, d4, d5, p0, p1, p2, p3, p4, p5, rfl, rfl, rfl, h0, h1, h2, h3, h4, h5⟩ := trodAll_n hA
  obtain ⟨rfl, rfl⟩ := trodVars_none hV
  have fin : ∀ (e : Ending) (W' : World), (e = .returned (.bool true) ∧ Below W.heap.size W W') → ∃ v, e = .returned v ∧ Rows.topTastedSpec.post enc Try.prog Try.f3 false true false false W #[v0, v1, v2, v3, v4, v5] v W' :=
    fun e W' h => ⟨_, h.1, post_true laidTry (by kernel_rfl) (tb := 4) (by kernel_rfl) undB rfl hW' rfl h.2⟩
  exact (law_main W (hval 0 26 v0 rfl rfl) (hval 1 28 v1 rfl rfl) (hval 2 29 v2 rfl rfl) (hval 3 30 v3 rfl rfl) (hval 4 32 v4 rfl rfl) (hval 5 3 v5 rfl rfl) h0 h1 h2 h3 h4 h5).mono fin

theorem topTasted_holds : Rows.TopTastedSaid :=
  OpenClaim.holds_of_wide 3 Try.f3 rfl rfl rfl rfl rfl rfl rfl ⟨rfl, rfl, rfl, rfl, rfl⟩ rfl rfl rfl rfl rfl (by kernel_rfl) Try.func3 (by kernel_rfl)
    (of_decide_eq_true (by kernel_rfl)) (by unfold Func.isWrapper; rw [if_neg (of_decide_eq_false (by kernel_rfl))]; exact ⟨rfl, rfl⟩)
    (fun os started H enc _ => topTasted_lifted os started H enc)

end Go.Proofs.Ytaaaialjieojlaa
#print axioms Go.Proofs.Ytaaaialjieojlaa.topTasted_holds
