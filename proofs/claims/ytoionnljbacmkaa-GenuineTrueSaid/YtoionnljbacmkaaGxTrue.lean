import Derived.Test.YtoionnljbacmkaaRows
import Derived.Test.YtoionnljbacmkaaGQ
/- For all lists of sources, numbers, shares and lists of drawn numbers, the law GenuineTrue returns true, and its arguments read as they did. No condition. -/

namespace Go.Proofs.Ytoionnljbacmkaa
open Go Go.Sx Go.Sx.Gen Go.ChangeShapes Go.WideShapes Go.RowKit

theorem ownKnobTry : ownKnob Try.prog.godebug = none := by kernel_rfl
theorem laidTry : laidOutB Try.prog = true := by kernel_rfl

theorem trodAll_five {P : Program} {w : World} {H : Type} {enc : TypeId × Value → H} {base : Nat} {spare : Nat → Bool} {held : Bool} {t t' t'' t3 t4 : TypeId} {args : Array Value} {ds : List (DataW H)} {ps : List MemPlace} (h : DataW.TrodAll enc P w base spare held [t, t', t'', t3, t4] args.toList ds ps) :
    ∃ v v' v'' v3 v4 d d' d'' d3 d4 p p' p'' p3 p4, args = #[v, v', v'', v3, v4] ∧ ds = [d, d', d'', d3, d4] ∧ ps = p ++ p' ++ p'' ++ p3 ++ p4 ∧ DataW.Trod enc P w base spare held t v d p ∧ DataW.Trod enc P w base spare held t' v' d' p' ∧ DataW.Trod enc P w base spare held t'' v'' d'' p'' ∧ DataW.Trod enc P w base spare held t3 v3 d3 p3 ∧ DataW.Trod enc P w base spare held t4 v4 d4 p4 := by
  obtain ⟨v, vs, d, ds', p, q, hargs, rfl, rfl, hd, hrest⟩ := trodAll_cons h
  obtain ⟨v', vs', d', ds'', p', q', rfl, rfl, rfl, hd', hrest'⟩ := trodAll_cons hrest
  obtain ⟨v'', vs'', d'', ds''', p'', q'', rfl, rfl, rfl, hd'', hrest''⟩ := trodAll_cons hrest'
  obtain ⟨v3, vs3, d3, ds3, p3, q3, rfl, rfl, rfl, hd3, hrest3⟩ := trodAll_cons hrest''
  obtain ⟨v4, vs4, d4, ds4, p4, q4, rfl, rfl, rfl, hd4, hrest4⟩ := trodAll_cons hrest3
  obtain ⟨rfl, rfl, rfl⟩ := trodAll_nil hrest4
  exact ⟨v, v', v'', v3, v4, d, d', d'', d3, d4, p, p', p'', p3, p4, by cases args; simp_all, rfl, by simp, hd, hd', hd'', hd3, hd4⟩

theorem und47 : Try.prog.underlying 47 = some (.int .u16) := by kernel_rfl

theorem hT_at (n : Nat) (l : Int → Src) (m : Nat) (f : Int → Int) (c : Sus) (k : Nat) : (k = 0 ∧ (hT n l m f).at k = srcA n l) ∨ (k = 1 ∧ (hT n l m f).at k = valA n l) ∨ (k = 2 ∧ (hT n l m f).at k = seenA bT0) ∨ (k = 3 ∧ (hT n l m f).at k = byA m f) ∨ (k = 4 ∧ (hT n l m f).at k = seenA c) ∨ (hT n l m f).at k = .free := by
  by_cases hm : k < 4
  · have : k = 0 ∨ k = 1 ∨ k = 2 ∨ k = 3 := by omega
    rcases this with rfl | rfl | rfl | rfl
    · exact .inl ⟨rfl, rfl⟩
    · exact .inr (.inl ⟨rfl, rfl⟩)
    · exact .inr (.inr (.inl ⟨rfl, rfl⟩))
    · exact .inr (.inr (.inr (.inl ⟨rfl, rfl⟩)))
  · exact .inr (.inr (.inr (.inr (.inr (at_ge hm)))))

theorem hT_no {R : Rn} {n : Nat} {l : Int → Src} {m : Nat} {f : Int → Int} (j k : Nat) : R.ow j ((hT n l m f).at j) ≠ some k := by
  intro h
  rcases hT_at n l m f bT0 j with ⟨_, h1⟩ | ⟨_, h1⟩ | ⟨_, h1⟩ | ⟨_, h1⟩ | ⟨_, h1⟩ | h1 <;> rw [h1] at h <;> cases h

theorem true_main (W : World) {H : Type} {enc : TypeId × Value → H} {b0 base : Nat} {spare : Nat → Bool} {held : Bool} {v0 v1 v2 v3 v4 : Value} {d0 d1 d2 d3 d4 : DataW H} {p0 p1 p2 p3 p4 : List MemPlace}
    (s0 : ∃ a n c, v0 = .slice a n c) (s1 : Value.okWide Try.prog W .any b0 5 v1) (s2 : Value.okWide Try.prog W .any b0 5 v2) (s3 : Value.okWide Try.prog W .any b0 47 v3) (s4 : ∃ a n c, v4 = .slice a n c) (h0 : DataW.Trod enc Try.prog W base spare held 27 v0 d0 p0) (h1 : DataW.Trod enc Try.prog W base spare held 5 v1 d1 p1) (h2 : DataW.Trod enc Try.prog W base spare held 5 v2 d2 p2) (h3 : DataW.Trod enc Try.prog W base spare held 47 v3 d3 p3) (h4 : DataW.Trod enc Try.prog W base spare held 48 v4 d4 p4) :
    Calls Try.prog 5 #[v0, v1, v2, v3, v4] W fun e W' => e = .returned (.bool true) ∧ Below W.heap.size W W' := by
  obtain ⟨a0, l0, c0, rfl⟩ := s0
  obtain ⟨a4, l4, c4, rfl⟩ := s4
  obtain ⟨u, rfl, _, _, w1⟩ := open_int und5 s1 h1
  obtain ⟨v, rfl, _, _, w2⟩ := open_int und5 s2 h2
  obtain ⟨s, rfl, _, _, w3⟩ := open_int und47 s3 h3
  have hu := u8_range w1
  have hv := u8_range w2
  obtain ⟨f0, g0⟩ := h0
  obtain ⟨f4, g4⟩ := h4
  obtain ⟨n, cap, l, a, av, hs⟩ := read_srcs (v := .slice a0 l0 c0) (by simpa [Value.cells] using g0)
  obtain ⟨m, cm, f, ay, hy⟩ := read_by (v := .slice a4 l4 c4) (by simpa [Value.cells] using g4)
  have hb : SpansIn W (.slice none 0 0) 0 0 (fun _ => 0) (fun _ => 0) ⟨0, 0, none⟩ := ⟨.inr ⟨rfl, rfl, rfl⟩, Nat.le_refl _, Nat.zero_le _, fun j hj => by omega⟩
  have hm : m ≤ maxI := by have := hy.le; have := hy.max; simp only [maxLen] at this; unfold maxI; omega
  have hf : ∀ q : Int, 0 ≤ q → q < m → 0 ≤ f q ∧ f q ≤ 4294967295 := fun q q0 q1 => by
    obtain ⟨_, _, _, g⟩ := hy.cell q.toNat (by omega)
    rw [show ((q.toNat : Nat) : Int) = q by omega] at g
    exact g
  by_cases hn : n = 0
  · subst hn
    have hs' : SrcsIn W (.slice a0 l0 c0) 0 cap (fun _ => ⟨0, 0, 0, 0, 0, 0, fun _ => 0, fun _ => 0⟩) a av := ⟨hs.val, hs.le, hs.max, fun j hj => by omega⟩
    obtain ⟨h', hc⟩ := law5_v (cap := cap) (cm := cm) (wf_in (b := bT0) hs' hb) (Nat.zero_le _) hm hf hu hv (u16_range w3)
    exact calls_row (xs := [.slice a0 l0 c0, .int .u8 u, .int .u8 v, .int .u16 s, .slice a4 l4 c4]) hc (emb5 (b := bT0) (c := bT0) hs' hb hy hb (hT_at _ _ _ _ _)) ⟨_, _, srcs_rel5 hs', ⟨_, _, rfl, ⟨_, _, rfl, ⟨_, _, rfl, ⟨_, _, by_rel5 hy, rfl, rfl⟩, rfl⟩, rfl⟩, rfl⟩, rfl⟩ hT_no
  · have hw := wf_in (b := bT0) hs hb
    have r1 := rem_in (u := u) (k := n) hu.1 (by omega)
    obtain ⟨h', hc⟩ := law5_v (cap := cap) (cm := cm) hw (hw.hl _ (by omega) (by omega)) hm hf hu hv (u16_range w3)
    exact calls_row (xs := [.slice a0 l0 c0, .int .u8 u, .int .u8 v, .int .u16 s, .slice a4 l4 c4]) hc (emb5 (b := bT0) (c := bT0) hs hb hy hb (hT_at _ _ _ _ _)) ⟨_, _, srcs_rel5 hs, ⟨_, _, rfl, ⟨_, _, rfl, ⟨_, _, rfl, ⟨_, _, by_rel5 hy, rfl, rfl⟩, rfl⟩, rfl⟩, rfl⟩, rfl⟩ hT_no

set_option maxRecDepth 100000 in
theorem genuineTrue_lifted (os : Os) (started : os.Started) (H : Type) (enc : TypeId × Value → H) :
    ReturnsInHanded {} Try.checked os 5 .any (Rows.genuineTrueSpec.pre6 enc Try.prog Try.f5 Rows.genuineTrueRow.domain false) (Rows.genuineTrueSpec.post enc Try.prog Try.f5 false true false false) := by
  refine returnsInHanded_of_change (C := Try.checked) ownKnobTry started (by kernel_rfl) Try.func5
    (ChangeSpec.witness6 (enc := enc) (C := Try.checked) false ⟨#[], #[.slice none 0 0, .int .u8 0, .int .u8 0, .int .u16 0, .slice none 0 0], []⟩ 8 (by kernel_rfl) (by kernel_rfl) (by kernel_rfl) (by kernel_rfl)) ?_
  intro W base args ds gs before hval0 hW _ _
  have hval : ∀ (j : Nat) t v, Try.f5.params[j]? = some t → args[j]? = some v → Value.okWide Try.prog W .any base t v := hval0
  have hW' := hW
  obtain ⟨p, q, hA0, hV, rfl, hfz, hnd⟩ := hW
  have hA : DataW.TrodAll enc Try.prog W 0 (fun _ => true) true Try.f5.params.toList args.toList ds p := hA0
  rw [Try.params5] at hA hval
  obtain ⟨v0, v1, v2, v3, v4, d0, d1, d2, d3, d4, p0, p1, p2, p3, p4, rfl, rfl, rfl, h0, h1, h2, h3, h4⟩ := trodAll_five hA
  obtain ⟨rfl, rfl⟩ := trodVars_none hV
  have fin : ∀ (e : Ending) (W' : World), (e = .returned (.bool true) ∧ Below W.heap.size W W') → ∃ v, e = .returned v ∧ Rows.genuineTrueSpec.post enc Try.prog Try.f5 false true false false W #[v0, v1, v2, v3, v4] v W' :=
    fun e W' h => ⟨_, h.1, post_true laidTry (by kernel_rfl) (tb := 4) (by kernel_rfl) und4 rfl hW' rfl h.2⟩
  refine (true_main W (okWide_slice und27 (hval 0 27 v0 rfl rfl)) (hval 1 5 v1 rfl rfl) (hval 2 5 v2 rfl rfl) (hval 3 47 v3 rfl rfl) (okWide_slice und48 (hval 4 48 v4 rfl rfl)) h0 h1 h2 h3 h4).mono fin

theorem genuineTrue_holds : Rows.GenuineTrueSaid :=
  OpenClaim.holds_of_wide 5 Try.f5 rfl rfl rfl rfl rfl rfl rfl ⟨rfl, rfl, rfl, rfl, rfl⟩ rfl rfl rfl rfl rfl (by kernel_rfl) Try.func5 (by kernel_rfl)
    (of_decide_eq_true (by kernel_rfl)) (by unfold Func.isWrapper; rw [if_neg (of_decide_eq_false (by kernel_rfl))]; exact ⟨rfl, rfl⟩)
    (fun os started H enc _ => genuineTrue_lifted os started H enc)

end Go.Proofs.Ytoionnljbacmkaa
#print axioms Go.Proofs.Ytoionnljbacmkaa.genuineTrue_holds
