/- For all lists of sources and all widths, the law GenuineApart returns true, and its arguments read as they did. No condition. -/
import Derived.Test.YtoionnljbacmkaaRows
import Derived.Test.YtoionnljbacmkaaGc1
import Derived.Test.YtoionnljbacmkaaGd2

namespace Go.Proofs.Ytoionnljbacmkaa
open Go Go.Sx Go.Sx.Gen Go.ChangeShapes Go.WideShapes Go.RowKit

theorem ownKnobTry : ownKnob Try.prog.godebug = none := by kernel_rfl
theorem laidTry : laidOutB Try.prog = true := by kernel_rfl

theorem apart_main (W : World) {H : Type} {enc : TypeId × Value → H} {base : Nat} {spare : Nat → Bool} {held : Bool} {v0 v1 v2 : Value} {d0 : DataW H} {p0 : List MemPlace}
    (s0 : ∃ a n c, v0 = .slice a n c) (s1 : ∃ k, v1 = .int .i64 k) (s2 : ∃ k, v2 = .int .i64 k) (h0 : DataW.Trod enc Try.prog W base spare held 27 v0 d0 p0) :
    Calls Try.prog 8 #[v0, v1, v2] W fun e W' => e = .returned (.bool true) ∧ Below W.heap.size W W' := by
  obtain ⟨a0, l0, c0, rfl⟩ := s0
  obtain ⟨k, rfl⟩ := s1
  obtain ⟨k2, rfl⟩ := s2
  obtain ⟨f0, g0⟩ := h0
  obtain ⟨n, cap, l, a, av, hs⟩ := read_srcs (v := .slice a0 l0 c0) (by simpa [Value.cells] using g0)
  have hb : SpansIn W (.slice none 0 0) 0 0 (fun _ => 0) (fun _ => 0) ⟨0, 0, none⟩ := ⟨.inr ⟨rfl, rfl, rfl⟩, Nat.le_refl _, Nat.zero_le _, fun j hj => by omega⟩
  obtain ⟨h', hc⟩ := law8_v (b := ⟨0, 0, 0, 0, 0, 0, fun _ => 0, fun _ => 0⟩) (wf_in hs hb) hs.le k k2
  exact calls_row (xs := [.slice a0 l0 c0, .int .i64 k, .int .i64 k2]) hc (emb3 hs hb) ⟨_, _, srcs_rel hs, ⟨_, _, rfl, ⟨_, _, rfl, rfl, rfl⟩, rfl⟩, rfl⟩ bH_no

set_option maxRecDepth 100000 in
theorem genuineApart_lifted (os : Os) (started : os.Started) (H : Type) (enc : TypeId × Value → H) :
    ReturnsInHanded {} Try.checked os 8 .any (Rows.genuineApartSpec.pre6 enc Try.prog Try.f8 Rows.genuineApartRow.domain false) (Rows.genuineApartSpec.post enc Try.prog Try.f8 false true false false) := by
  refine returnsInHanded_of_change (C := Try.checked) ownKnobTry started (by kernel_rfl) Try.func8
    (ChangeSpec.witness6 (enc := enc) (C := Try.checked) false ⟨#[], #[.slice none 0 0, .int .i64 0, .int .i64 0], []⟩ 8 (by kernel_rfl) (by kernel_rfl) (by kernel_rfl) (by kernel_rfl)) ?_
  intro W base args ds gs before hval0 hW _ _
  have hval : ∀ (j : Nat) t v, Try.f8.params[j]? = some t → args[j]? = some v → Value.okWide Try.prog W .any base t v := hval0
  have hW' := hW
  obtain ⟨p, q, hA0, hV, rfl, hfz, hnd⟩ := hW
  have hA : DataW.TrodAll enc Try.prog W 0 (fun _ => true) true Try.f8.params.toList args.toList ds p := hA0
  rw [Try.params8] at hA hval
  obtain ⟨v0, v1, v2, d0, d1, d2, p0, p1, p2, rfl, rfl, rfl, h0, h1, h2⟩ := trodAll_three hA
  obtain ⟨rfl, rfl⟩ := trodVars_none hV
  have fin : ∀ (e : Ending) (W' : World), (e = .returned (.bool true) ∧ Below W.heap.size W W') → ∃ v, e = .returned v ∧ Rows.genuineApartSpec.post enc Try.prog Try.f8 false true false false W #[v0, v1, v2] v W' :=
    fun e W' h => ⟨_, h.1, post_true laidTry (by kernel_rfl) (tb := 4) (by kernel_rfl) und4 rfl hW' rfl h.2⟩
  refine (apart_main W (okWide_slice und27 (hval 0 27 v0 rfl rfl)) (okWide_int und3 (hval 1 3 v1 rfl rfl)) (okWide_int und3 (hval 2 3 v2 rfl rfl)) h0).mono fin

theorem genuineApart_holds : Rows.GenuineApartSaid :=
  OpenClaim.holds_of_wide 8 Try.f8 rfl rfl rfl rfl rfl rfl rfl ⟨rfl, rfl, rfl, rfl, rfl⟩ rfl rfl rfl rfl rfl (by kernel_rfl) Try.func8 (by kernel_rfl)
    (of_decide_eq_true (by kernel_rfl)) (by unfold Func.isWrapper; rw [if_neg (of_decide_eq_false (by kernel_rfl))]; exact ⟨rfl, rfl⟩)
    (fun os started H enc _ => genuineApart_lifted os started H enc)

end Go.Proofs.Ytoionnljbacmkaa
#print axioms Go.Proofs.Ytoionnljbacmkaa.genuineApart_holds
