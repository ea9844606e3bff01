import Derived.Test.YtoionnljbacmkaaRows
import Derived.Test.YtoionnljbacmkaaGM
import Derived.Test.YtoionnljbacmkaaGN
/- For all suspects, lists of sources, numbers and shares, the law GenuineEnds returns true, and its arguments read as they did. No condition. -/

namespace Go.Proofs.Ytoionnljbacmkaa
open Go Go.Sx Go.Sx.Gen Go.ChangeShapes Go.WideShapes Go.RowKit

theorem ownKnobTry : ownKnob Try.prog.godebug = none := by kernel_rfl
theorem laidTry : laidOutB Try.prog = true := by kernel_rfl

theorem trodAll_five {P : Program} {w : World} {H : Type} {enc : TypeId × Value → H} {base : Nat} {spare : Nat → Bool} {held : Bool} {t t' t'' t3 t4 : TypeId} {args : Array Value} {ds : List (DataW H)} {ps : List MemPlace} (h : DataW.TrodAll enc P w base spare held [t, t', t'', t3, t4] args.toList ds ps) :
    ∃ v v' v'' v3 v4 d d' d'' d3 d4 p p' p'' p3 p4, args = #[v, v', v'', v3, v4] ∧ ds = [d, d', d'', d3, d4] ∧ ps = p ++ p' ++ p'' ++ p3 ++ p4 ∧ DataW.Trod enc P w base spare held t v d p ∧ DataW.Trod enc P w base spare held t' v' d' p' ∧ DataW.Trod enc P w base spare held t'' v'' d'' p'' ∧ DataW.Trod enc P w base spare held t3 v3 d3 p3 ∧ DataW.Trod enc P w base spare held t4 v4 d4 p4 := by
  obtain ⟨v, vs, d, ds', p, q, hargs, rfl, rfl, hd, hrest⟩ := trodAll_cons h
  obtain ⟨v', vs', d', ds'', p', q', rfl, rfl, rfl, hd', hrest'⟩ := trodAll_cons hrest
  obtain ⟨v'', vs'', d'', ds''', p'', q'', rfl, rfl, rfl, hd'', hrest''⟩ := trodAll_cons hrest'
  obtain ⟨v3, vs3, d3, ds3, p3, q3, rfl, rfl, rfl, hd3, hrest3⟩ := trodAll_cons hrest''
  obtain ⟨v4, vs4, d4, ds4, p4, q4, rfl, rfl, rfl, hd4, hrest4⟩ := trodAll_cons hrest3
  obtain ⟨rfl, rfl, rfl⟩ := trodAll_nil hrest4
  exact ⟨v, v', v'', v3, v4, d, d', d'', d3, d4, p, p', p'', p3, p4, by cases args; simp_all, rfl, by simp, hd, hd', hd'', hd3, hd4⟩

theorem und47 : Try.prog.underlying 47 = some (.int .u16) := by kernel_rfl

theorem ends_main (W : World) {H : Type} {enc : TypeId × Value → H} {b0 base : Nat} {spare : Nat → Bool} {held : Bool} {v0 v1 v2 v3 v4 : Value} {d0 d1 d4 : DataW H} {p0 p1 p4 : List MemPlace}
    (s0 : Value.okWide Try.prog W .any b0 26 v0) (s1 : ∃ a n c, v1 = .slice a n c) (s2 : ∃ k, v2 = .int .i64 k) (s3 : ∃ k, v3 = .int .i64 k) (s4 : Value.okWide Try.prog W .any b0 47 v4) (h0 : DataW.Trod enc Try.prog W base spare held 26 v0 d0 p0) (h1 : DataW.Trod enc Try.prog W base spare held 27 v1 d1 p1) (h4 : DataW.Trod enc Try.prog W base spare held 47 v4 d4 p4) :
    Calls Try.prog 6 #[v0, v1, v2, v3, v4] W fun e W' => e = .returned (.bool true) ∧ Below W.heap.size W W' := by
  obtain ⟨b, sv, ab, rfl, hb⟩ := read_sus s0 h0
  obtain ⟨a0, l0, c0, rfl⟩ := s1
  obtain ⟨k, rfl⟩ := s2
  obtain ⟨k2, rfl⟩ := s3
  obtain ⟨u, rfl, _, _, w4⟩ := open_int und47 s4 h4
  obtain ⟨f0, g0⟩ := h1
  obtain ⟨n, cap, l, a, av, hs⟩ := read_srcs (v := .slice a0 l0 c0) (by simpa [Value.cells] using g0)
  obtain ⟨h', hc⟩ := law6_v (cap := cap) (k := k) (m := k2) (wf_in hs hb) (u16_range w4)
  exact calls_row (xs := [_, .slice a0 l0 c0, .int .i64 k, .int .i64 k2, .int .u16 u]) hc (emb3 hs hb) ⟨_, _, sus_rel hb, ⟨_, _, srcs_rel hs, ⟨_, _, rfl, ⟨_, _, rfl, ⟨_, _, rfl, rfl, rfl⟩, rfl⟩, rfl⟩, rfl⟩, rfl⟩ bH_no

set_option maxRecDepth 100000 in
theorem genuineEnds_lifted (os : Os) (started : os.Started) (H : Type) (enc : TypeId × Value → H) :
    ReturnsInHanded {} Try.checked os 6 .any (Rows.genuineEndsSpec.pre6 enc Try.prog Try.f6 Rows.genuineEndsRow.domain false) (Rows.genuineEndsSpec.post enc Try.prog Try.f6 false true false false) := by
  refine returnsInHanded_of_change (C := Try.checked) ownKnobTry started (by kernel_rfl) Try.func6
    (ChangeSpec.witness6 (enc := enc) (C := Try.checked) false ⟨#[], #[.agg #[.int .i64 0, .int .i64 0, .int .i64 0, .int .i64 0, .slice none 0 0], .slice none 0 0, .int .i64 0, .int .i64 0, .int .u16 0], []⟩ 8 (by kernel_rfl) (by kernel_rfl) (by kernel_rfl) (by kernel_rfl)) ?_
  intro W base args ds gs before hval0 hW _ _
  have hval : ∀ (j : Nat) t v, Try.f6.params[j]? = some t → args[j]? = some v → Value.okWide Try.prog W .any base t v := hval0
  have hW' := hW
  obtain ⟨p, q, hA0, hV, rfl, hfz, hnd⟩ := hW
  have hA : DataW.TrodAll enc Try.prog W 0 (fun _ => true) true Try.f6.params.toList args.toList ds p := hA0
  rw [Try.params6] at hA hval
  obtain ⟨v0, v1, v2, v3, v4, d0, d1, d2, d3, d4, p0, p1, p2, p3, p4, rfl, rfl, rfl, h0, h1, h2, h3, h4⟩ := trodAll_five hA
  obtain ⟨rfl, rfl⟩ := trodVars_none hV
  have fin : ∀ (e : Ending) (W' : World), (e = .returned (.bool true) ∧ Below W.heap.size W W') → ∃ v, e = .returned v ∧ Rows.genuineEndsSpec.post enc Try.prog Try.f6 false true false false W #[v0, v1, v2, v3, v4] v W' :=
    fun e W' h => ⟨_, h.1, post_true laidTry (by kernel_rfl) (tb := 4) (by kernel_rfl) und4 rfl hW' rfl h.2⟩
  refine (ends_main W (hval 0 26 v0 rfl rfl) (okWide_slice und27 (hval 1 27 v1 rfl rfl)) (okWide_int und3 (hval 2 3 v2 rfl rfl)) (okWide_int und3 (hval 3 3 v3 rfl rfl)) (hval 4 47 v4 rfl rfl) h0 h1 h4).mono fin

theorem genuineEnds_holds : Rows.GenuineEndsSaid :=
  OpenClaim.holds_of_wide 6 Try.f6 rfl rfl rfl rfl rfl rfl rfl ⟨rfl, rfl, rfl, rfl, rfl⟩ rfl rfl rfl rfl rfl (by kernel_rfl) Try.func6 (by kernel_rfl)
    (of_decide_eq_true (by kernel_rfl)) (by unfold Func.isWrapper; rw [if_neg (of_decide_eq_false (by kernel_rfl))]; exact ⟨rfl, rfl⟩)
    (fun os started H enc _ => genuineEnds_lifted os started H enc)

end Go.Proofs.Ytoionnljbacmkaa
#print axioms Go.Proofs.Ytoionnljbacmkaa.genuineEnds_holds
