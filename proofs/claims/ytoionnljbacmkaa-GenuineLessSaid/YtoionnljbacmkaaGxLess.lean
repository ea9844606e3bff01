import Derived.Test.YtoionnljbacmkaaRows
import Derived.Test.YtoionnljbacmkaaGR
import Derived.Test.YtoionnljbacmkaaGS
/- For all suspects, lists of sources, sources and lists of drawn numbers, the law GenuineLess returns true, and its arguments read as they did. No condition. -/

namespace Go.Proofs.Ytoionnljbacmkaa
open Go Go.Sx Go.Sx.Gen Go.ChangeShapes Go.WideShapes Go.RowKit

theorem ownKnobTry : ownKnob Try.prog.godebug = none := by kernel_rfl
theorem laidTry : laidOutB Try.prog = true := by kernel_rfl
theorem str51 : isStrB Try.prog 51 = true := by kernel_rfl

theorem trodAll_4 {P : Program} {w : World} {H : Type} {enc : TypeId × Value → H} {base : Nat} {spare : Nat → Bool} {held : Bool} {t t' t'' t3 : TypeId} {args : Array Value} {ds : List (DataW H)} {ps : List MemPlace} (h : DataW.TrodAll enc P w base spare held [t, t', t'', t3] args.toList ds ps) :
    ∃ v v' v'' v3 d d' d'' d3 p p' p'' p3, args = #[v, v', v'', v3] ∧ ds = [d, d', d'', d3] ∧ ps = p ++ p' ++ p'' ++ p3 ∧ DataW.Trod enc P w base spare held t v d p ∧ DataW.Trod enc P w base spare held t' v' d' p' ∧ DataW.Trod enc P w base spare held t'' v'' d'' p'' ∧ DataW.Trod enc P w base spare held t3 v3 d3 p3 := by
  obtain ⟨v, vs, d, ds', p, q, hargs, rfl, rfl, hd, hrest⟩ := trodAll_cons h
  obtain ⟨v', vs', d', ds'', p', q', rfl, rfl, rfl, hd', hrest'⟩ := trodAll_cons hrest
  obtain ⟨v'', vs'', d'', ds''', p'', q'', rfl, rfl, rfl, hd'', hrest''⟩ := trodAll_cons hrest'
  obtain ⟨v3, vs3, d3, ds3, p3, q3, rfl, rfl, rfl, hd3, hrest3⟩ := trodAll_cons hrest''
  obtain ⟨rfl, rfl, rfl⟩ := trodAll_nil hrest3
  exact ⟨v, v', v'', v3, d, d', d'', d3, p, p', p'', p3, by cases args; simp_all, rfl, by simp, hd, hd', hd'', hd3⟩

theorem read_mo {H : Type} {enc : TypeId × Value → H} {W : World} {base : Nat} {spare : Nat → Bool} {held : Bool} {r : Go.Reach} {b0 : Nat} {v : Value} {d : DataW H} {ps : List MemPlace} (hval : Value.okWide Try.prog W r b0 51 v) (hd : DataW.Trod enc Try.prog W base spare held 51 v d ps) :
    ∃ (x : Src) (sv : Value) (ab : Addr), v = .agg #[.int .i64 x.cask, .int .i64 x.drawn, .int .i64 x.slo, .int .i64 x.shi, sv] ∧ SpansIn W sv x.vl x.vc x.lo x.hi ab := by
  obtain ⟨fs, ht⟩ := isStr_of str51
  obtain ⟨cs, rfl⟩ := okWide_agg ht hval
  obtain ⟨fuel, hf⟩ := hd
  obtain ⟨hl, hg⟩ := leaves_trod _ _ _ leaves51 _ _ _ hf
  obtain ⟨m0, v0, y0, g0, k0⟩ := hg 0 3 rfl
  obtain ⟨m1, v1, y1, g1, k1⟩ := hg 1 3 rfl
  obtain ⟨m2, v2, y2, g2, k2⟩ := hg 2 3 rfl
  obtain ⟨m3, v3, y3, g3, k3⟩ := hg 3 3 rfl
  obtain ⟨m4, v4, y4, g4, k4⟩ := hg 4 24 rfl
  obtain ⟨n0, rfl, _⟩ := leaf_int und3 k0
  obtain ⟨n1, rfl, _⟩ := leaf_int und3 k1
  obtain ⟨n2, rfl, _⟩ := leaf_int und3 k2
  obtain ⟨n3, rfl, _⟩ := leaf_int und3 k3
  obtain ⟨vl, vc, lo, hi, a', hs⟩ := read_spans k4
  refine ⟨⟨n0, n1, n2, n3, vl, vc, lo, hi⟩, v4, a', ?_, hs⟩
  congr 1
  apply Array.ext'
  have hc : (Value.cells (.agg cs)).toList = cs.toList := by simp [Value.cells]
  rw [hc] at hl g0 g1 g2 g3 g4
  obtain ⟨l⟩ := cs
  match l, hl with
  | [c0, c1, c2, c3, c4], _ =>
    simp at g0 g1 g2 g3 g4
    subst g0 g1 g2 g3 g4
    rfl

theorem hLe_at (n : Nat) (l : Int → Src) (b : Sus) (m : Nat) (f : Int → Int) (mo : Src) (k : Nat) : (k = 0 ∧ (hLe n l b m f mo).at k = srcA n l) ∨ (k = 1 ∧ (hLe n l b m f mo).at k = valA n l) ∨ (k = 2 ∧ (hLe n l b m f mo).at k = seenA b) ∨ (k = 3 ∧ (hLe n l b m f mo).at k = byA m f) ∨ (k = 4 ∧ (hLe n l b m f mo).at k = seenA (moS mo)) ∨ (hLe n l b m f mo).at k = .free := by
  by_cases hm : k < 5
  · have : k = 0 ∨ k = 1 ∨ k = 2 ∨ k = 3 ∨ k = 4 := by omega
    rcases this with rfl | rfl | rfl | rfl | rfl
    · exact .inl ⟨rfl, rfl⟩
    · exact .inr (.inl ⟨rfl, rfl⟩)
    · exact .inr (.inr (.inl ⟨rfl, rfl⟩))
    · exact .inr (.inr (.inr (.inl ⟨rfl, rfl⟩)))
    · exact .inr (.inr (.inr (.inr (.inl ⟨rfl, rfl⟩))))
  · exact .inr (.inr (.inr (.inr (.inr (at_ge hm)))))

theorem hLe_no {R : Rn} {n : Nat} {l : Int → Src} {b : Sus} {m : Nat} {f : Int → Int} {mo : Src} (j k : Nat) : R.ow j ((hLe n l b m f mo).at j) ≠ some k := by
  intro h
  rcases hLe_at n l b m f mo j with ⟨_, h1⟩ | ⟨_, h1⟩ | ⟨_, h1⟩ | ⟨_, h1⟩ | ⟨_, h1⟩ | h1 <;> rw [h1] at h <;> cases h

theorem less_main (W : World) {H : Type} {enc : TypeId × Value → H} {b0 base : Nat} {spare : Nat → Bool} {held : Bool} {v0 v1 v2 v3 : Value} {d0 d1 d2 d3 : DataW H} {p0 p1 p2 p3 : List MemPlace}
    (s0 : Value.okWide Try.prog W .any b0 26 v0) (s1 : ∃ a n c, v1 = .slice a n c) (s2 : Value.okWide Try.prog W .any b0 51 v2) (s3 : ∃ a n c, v3 = .slice a n c) (h0 : DataW.Trod enc Try.prog W base spare held 26 v0 d0 p0) (h1 : DataW.Trod enc Try.prog W base spare held 27 v1 d1 p1) (h2 : DataW.Trod enc Try.prog W base spare held 51 v2 d2 p2) (h3 : DataW.Trod enc Try.prog W base spare held 48 v3 d3 p3) :
    Calls Try.prog 7 #[v0, v1, v2, v3] W fun e W' => e = .returned (.bool true) ∧ Below W.heap.size W W' := by
  obtain ⟨b, sv, ab, rfl, hb⟩ := read_sus s0 h0
  obtain ⟨a1, l1, c1, rfl⟩ := s1
  obtain ⟨mo, mv, am, rfl, hmo⟩ := read_mo s2 h2
  obtain ⟨a3, l3, c3, rfl⟩ := s3
  obtain ⟨f1, g1⟩ := h1
  obtain ⟨f3, g3⟩ := h3
  obtain ⟨n, cap, l, a, av, hs⟩ := read_srcs (v := .slice a1 l1 c1) (by simpa [Value.cells] using g1)
  obtain ⟨m, cm, f, ay, hy⟩ := read_by (v := .slice a3 l3 c3) (by simpa [Value.cells] using g3)
  have hm : m ≤ maxI := by have := hy.le; have := hy.max; simp only [maxLen] at this; unfold maxI; omega
  have hv : mo.vl ≤ maxI := by have := hmo.le; have := hmo.max; simp only [maxLen] at this; unfold maxI; omega
  have hf : ∀ q : Int, 0 ≤ q → q < m → 0 ≤ f q ∧ f q ≤ 4294967295 := fun q q0 q1 => by
    obtain ⟨_, _, _, g⟩ := hy.cell q.toNat (by omega)
    rw [show ((q.toNat : Nat) : Int) = q by omega] at g
    exact g
  obtain ⟨h', hc⟩ := law7_v (cap := cap) (cm := cm) (wf_in hs hb) hv hm hf
  exact calls_row (xs := [_, .slice a1 l1 c1, _, .slice a3 l3 c3]) hc (emb5 (b := b) (c := moS mo) hs hb hy hmo (hLe_at _ _ _ _ _ _))
    ⟨_, _, ⟨[_, _, _, _, sv], ⟨_, _, rfl, ⟨_, _, rfl, ⟨_, _, rfl, ⟨_, _, rfl, ⟨_, _, spans_rel hb rfl, rfl, rfl⟩, rfl⟩, rfl⟩, rfl⟩, rfl⟩, rfl⟩, ⟨_, _, srcs_rel5 hs, ⟨_, _, ⟨[_, _, _, _, mv], ⟨_, _, rfl, ⟨_, _, rfl, ⟨_, _, rfl, ⟨_, _, rfl, ⟨_, _, spans_rel hmo rfl, rfl, rfl⟩, rfl⟩, rfl⟩, rfl⟩, rfl⟩, rfl⟩, ⟨_, _, by_rel5 hy, rfl, rfl⟩, rfl⟩, rfl⟩, rfl⟩ hLe_no

set_option maxRecDepth 100000 in
theorem genuineLess_lifted (os : Os) (started : os.Started) (H : Type) (enc : TypeId × Value → H) :
    ReturnsInHanded {} Try.checked os 7 .any (Rows.genuineLessSpec.pre6 enc Try.prog Try.f7 Rows.genuineLessRow.domain false) (Rows.genuineLessSpec.post enc Try.prog Try.f7 false true false false) := by
  refine returnsInHanded_of_change (C := Try.checked) ownKnobTry started (by kernel_rfl) Try.func7
    (ChangeSpec.witness6 (enc := enc) (C := Try.checked) false ⟨#[], #[.agg #[.int .i64 0, .int .i64 0, .int .i64 0, .int .i64 0, .slice none 0 0], .slice none 0 0, .agg #[.int .i64 0, .int .i64 0, .int .i64 0, .int .i64 0, .slice none 0 0], .slice none 0 0], []⟩ 8 (by kernel_rfl) (by kernel_rfl) (by kernel_rfl) (by kernel_rfl)) ?_
  intro W base args ds gs before hval0 hW _ _
  have hval : ∀ (j : Nat) t v, Try.f7.params[j]? = some t → args[j]? = some v → Value.okWide Try.prog W .any base t v := hval0
  have hW' := hW
  obtain ⟨p, q, hA0, hV, rfl, hfz, hnd⟩ := hW
  have hA : DataW.TrodAll enc Try.prog W 0 (fun _ => true) true Try.f7.params.toList args.toList ds p := hA0
  rw [Try.params7] at hA hval
  obtain ⟨v0, v1, v2, v3, d0, d1, d2, d3, p0, p1, p2, p3, rfl, rfl, rfl, h0, h1, h2, h3⟩ := trodAll_4 hA
  obtain ⟨rfl, rfl⟩ := trodVars_none hV
  have fin : ∀ (e : Ending) (W' : World), (e = .returned (.bool true) ∧ Below W.heap.size W W') → ∃ v, e = .returned v ∧ Rows.genuineLessSpec.post enc Try.prog Try.f7 false true false false W #[v0, v1, v2, v3] v W' :=
    fun e W' h => ⟨_, h.1, post_true laidTry (by kernel_rfl) (tb := 4) (by kernel_rfl) und4 rfl hW' rfl h.2⟩
  refine (less_main W (hval 0 26 v0 rfl rfl) (okWide_slice und27 (hval 1 27 v1 rfl rfl)) (hval 2 51 v2 rfl rfl) (okWide_slice und48 (hval 3 48 v3 rfl rfl)) h0 h1 h2 h3).mono fin

theorem genuineLess_holds : Rows.GenuineLessSaid :=
  OpenClaim.holds_of_wide 7 Try.f7 rfl rfl rfl rfl rfl rfl rfl ⟨rfl, rfl, rfl, rfl, rfl⟩ rfl rfl rfl rfl rfl (by kernel_rfl) Try.func7 (by kernel_rfl)
    (of_decide_eq_true (by kernel_rfl)) (by unfold Func.isWrapper; rw [if_neg (of_decide_eq_false (by kernel_rfl))]; exact ⟨rfl, rfl⟩)
    (fun os started H enc _ => genuineLess_lifted os started H enc)

end Go.Proofs.Ytoionnljbacmkaa
#print axioms Go.Proofs.Ytoionnljbacmkaa.genuineLess_holds
