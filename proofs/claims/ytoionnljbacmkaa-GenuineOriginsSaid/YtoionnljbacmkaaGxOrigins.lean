import Derived.Test.YtoionnljbacmkaaRows
import Derived.Test.YtoionnljbacmkaaGM
/- For all suspects, lists of sources and numbers, the law GenuineOrigins returns true, and its arguments read as they did. No condition. -/

namespace Go.Proofs.Ytoionnljbacmkaa
open Go Go.Sx Go.Sx.Gen Go.ChangeShapes Go.WideShapes Go.RowKit

theorem ownKnobTry : ownKnob Try.prog.godebug = none := by kernel_rfl
theorem laidTry : laidOutB Try.prog = true := by kernel_rfl

theorem origins_main (W : World) {H : Type} {enc : TypeId × Value → H} {b0 base : Nat} {spare : Nat → Bool} {held : Bool} {v0 v1 v2 v3 : Value} {d0 d1 : DataW H} {p0 p1 : List MemPlace}
    (s0 : Value.okWide Try.prog W .any b0 26 v0) (s1 : ∃ a n c, v1 = .slice a n c) (s2 : ∃ k, v2 = .int .i64 k) (s3 : ∃ k, v3 = .int .i64 k) (h0 : DataW.Trod enc Try.prog W base spare held 26 v0 d0 p0) (h1 : DataW.Trod enc Try.prog W base spare held 27 v1 d1 p1) :
    Calls Try.prog 3 #[v0, v1, v2, v3] W fun e W' => e = .returned (.bool true) ∧ Below W.heap.size W W' := by
  obtain ⟨b, sv, ab, rfl, hb⟩ := read_sus s0 h0
  obtain ⟨a0, l0, c0, rfl⟩ := s1
  obtain ⟨k, rfl⟩ := s2
  obtain ⟨k2, rfl⟩ := s3
  obtain ⟨f0, g0⟩ := h1
  obtain ⟨n, cap, l, a, av, hs⟩ := read_srcs (v := .slice a0 l0 c0) (by simpa [Value.cells] using g0)
  obtain ⟨h', hc⟩ := law3_v (cap := cap) (wf_in hs hb) k k2
  exact calls_row (xs := [_, .slice a0 l0 c0, .int .i64 k, .int .i64 k2]) hc (emb3 hs hb) ⟨_, _, sus_rel hb, ⟨_, _, srcs_rel hs, ⟨_, _, rfl, ⟨_, _, rfl, rfl, rfl⟩, rfl⟩, rfl⟩, rfl⟩ bH_no

set_option maxRecDepth 100000 in
theorem genuineOrigins_lifted (os : Os) (started : os.Started) (H : Type) (enc : TypeId × Value → H) :
    ReturnsInHanded {} Try.checked os 3 .any (Rows.genuineOriginsSpec.pre6 enc Try.prog Try.f3 Rows.genuineOriginsRow.domain false) (Rows.genuineOriginsSpec.post enc Try.prog Try.f3 false true false false) := by
  refine returnsInHanded_of_change (C := Try.checked) ownKnobTry started (by kernel_rfl) Try.func3
    (ChangeSpec.witness6 (enc := enc) (C := Try.checked) false ⟨#[], #[.agg #[.int .i64 0, .int .i64 0, .int .i64 0, .int .i64 0, .slice none 0 0], .slice none 0 0, .int .i64 0, .int .i64 0], []⟩ 8 (by kernel_rfl) (by kernel_rfl) (by kernel_rfl) (by kernel_rfl)) ?_
  intro W base args ds gs before hval0 hW _ _
  have hval : ∀ (j : Nat) t v, Try.f3.params[j]? = some t → args[j]? = some v → Value.okWide Try.prog W .any base t v := hval0
  have hW' := hW
  obtain ⟨p, q, hA0, hV, rfl, hfz, hnd⟩ := hW
  have hA : DataW.TrodAll enc Try.prog W 0 (fun _ => true) true Try.f3.params.toList args.toList ds p := hA0
  rw [Try.params3] at hA hval
  obtain ⟨v0, v1, v2, v3, d0, d1, d2, d3, p0, p1, p2, p3, rfl, rfl, rfl, h0, h1, h2, h3⟩ := trodAll_four hA
  obtain ⟨rfl, rfl⟩ := trodVars_none hV
  have fin : ∀ (e : Ending) (W' : World), (e = .returned (.bool true) ∧ Below W.heap.size W W') → ∃ v, e = .returned v ∧ Rows.genuineOriginsSpec.post enc Try.prog Try.f3 false true false false W #[v0, v1, v2, v3] v W' :=
    fun e W' h => ⟨_, h.1, post_true laidTry (by kernel_rfl) (tb := 4) (by kernel_rfl) und4 rfl hW' rfl h.2⟩
  refine (origins_main W (hval 0 26 v0 rfl rfl) (okWide_slice und27 (hval 1 27 v1 rfl rfl)) (okWide_int und3 (hval 2 3 v2 rfl rfl)) (okWide_int und3 (hval 3 3 v3 rfl rfl)) h0 h1).mono fin

theorem genuineOrigins_holds : Rows.GenuineOriginsSaid :=
  OpenClaim.holds_of_wide 3 Try.f3 rfl rfl rfl rfl rfl rfl rfl ⟨rfl, rfl, rfl, rfl, rfl⟩ rfl rfl rfl rfl rfl (by kernel_rfl) Try.func3 (by kernel_rfl)
    (of_decide_eq_true (by kernel_rfl)) (by unfold Func.isWrapper; rw [if_neg (of_decide_eq_false (by kernel_rfl))]; exact ⟨rfl, rfl⟩)
    (fun os started H enc _ => genuineOrigins_lifted os started H enc)

end Go.Proofs.Ytoionnljbacmkaa
#print axioms Go.Proofs.Ytoionnljbacmkaa.genuineOrigins_holds
