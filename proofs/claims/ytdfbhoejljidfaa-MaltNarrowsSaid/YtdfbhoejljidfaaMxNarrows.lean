/- For all malts, lists of steps and remainders, the law MaltNarrows returns true, and its arguments read as they did. No condition. -/
import Derived.Test.YtdfbhoejljidfaaMxr
import Derived.Test.YtdfbhoejljidfaaMn3

namespace Go.Proofs.Ytdfbhoejljidfaa
open Go Go.Sx Go.Sx.Malt Go.ChangeShapes Go.WideShapes Go.RowKit

theorem und40 : Try.prog.underlying 40 = some (.int .u32) := by kernel_rfl
theorem und5 : Try.prog.underlying 5 = some (.int .u8) := by kernel_rfl

theorem narrows_calls (W : World) (a b c d e f by1 cut : Int) (hby : 0 ≤ by1 ∧ by1 ≤ 4294967295) (hcut : 0 ≤ cut ∧ cut ≤ 255) (vl : Value) (hl : vl = .slice none 0 0 ∨ ∃ ad len cap, vl = .slice (some ad) len cap ∧ len ≤ cap ∧ cap ≤ maxLen ∧ (0 < len → ad.block < W.heap.size ∧ ad.spot = none) ∧
      ∀ i, i < len → ∀ k, k < 3 → W.cell? (ad.add (i * 3 + k)) = some (.int .i64 (rdI W (ad.add (i * 3 + k)))) ∧ (Lit.int .i64 (rdI W (ad.add (i * 3 + k)))).wf = true) :
    Calls Try.prog 5 #[malt6 a b c d e f, vl, .int .u32 by1, .int .u8 cut] W fun e W' => e = .returned (.bool true) ∧ Below W.heap.size W W' := by
  rcases hl with rfl | ⟨ad, len, cap, rfl, hlc, _, hbl, hcell⟩
  · obtain ⟨h', hc⟩ := law3n_v hby hcut a b c d e f
    exact calls_row (xs := [malt6 a b c d e f, .slice none 0 0, .int .u32 by1, .int .u8 cut]) (R := noR) hc (emb_none (fun _ => rfl)) ⟨_, _, malt6_rel _ a b c d e f, ⟨_, _, rfl, ⟨_, _, rfl, ⟨_, _, rfl, rfl, rfl⟩, rfl⟩, rfl⟩, rfl⟩ none_not_live
  · obtain ⟨h', hc⟩ := law3_v (fun _ i => 0 ≤ i ∧ i < (len : Int)) (row3 W ad 0) (row3 W ad 1) (row3 W ad 2) len cap hlc (fun j h1 h2 => ⟨h1, h2⟩) hby hcut a b c d e f
    exact calls_row (xs := [malt6 a b c d e f, .slice (some ad) len cap, .int .u32 by1, .int .u8 cut]) (R := oneR ad 3) hc (emb_one (row3_ok hbl (fun i hi k hk => (hcell i hi k hk).1))) ⟨_, _, malt6_rel _ a b c d e f, ⟨_, _, ⟨hlc, ad, .inr rfl, rfl⟩, ⟨_, _, rfl, ⟨_, _, rfl, rfl, rfl⟩, rfl⟩, rfl⟩, rfl⟩ one_not_live

set_option maxRecDepth 100000 in
theorem maltNarrows_lifted (os : Os) (started : os.Started) (H : Type) (enc : TypeId × Value → H) :
    ReturnsInHanded {} Try.checked os 5 .any (Rows.maltNarrowsSpec.pre6 enc Try.prog Try.f5 Rows.maltNarrowsRow.domain false) (Rows.maltNarrowsSpec.post enc Try.prog Try.f5 false true false false) := by
  refine returnsInHanded_of_change (C := Try.checked) ownKnobTry started (by kernel_rfl) Try.func5
    (ChangeSpec.witness6 (enc := enc) (C := Try.checked) false ⟨#[], #[.agg #[.int .i64 0, .int .i64 0, .int .i64 0, .int .i64 0, .int .i64 0, .int .i64 0], .slice none 0 0, .int .u32 0, .int .u8 0], []⟩ 8 (by kernel_rfl) (by kernel_rfl) (by kernel_rfl) (by kernel_rfl)) ?_
  intro W base args ds gs before hval0 hW _ _
  have hval : ∀ (j : Nat) t v, Try.f5.params[j]? = some t → args[j]? = some v → Value.okWide Try.prog W .any base t v := hval0
  have hW' := hW
  obtain ⟨p, q, hA0, hV, rfl, hfz, hnd⟩ := hW
  have hA : DataW.TrodAll enc Try.prog W 0 (fun _ => true) true Try.f5.params.toList args.toList ds p := hA0
  rw [Try.params5] at hA hval
  obtain ⟨v0, v1, v2, v3, d0, d1, d2, d3, p0, p1, p2, p3, rfl, rfl, rfl, h0, h1, h2, h3⟩ := trodAll_four hA
  obtain ⟨rfl, rfl⟩ := trodVars_none hV
  have fin : ∀ (e : Ending) (W' : World), (e = .returned (.bool true) ∧ Below W.heap.size W W') → ∃ v, e = .returned v ∧ Rows.maltNarrowsSpec.post enc Try.prog Try.f5 false true false false W #[v0, v1, v2, v3] v W' :=
    fun e W' h => ⟨_, h.1, post_true laidTry (by kernel_rfl) (tb := 4) (by kernel_rfl) und4 rfl hW' rfl h.2⟩
  have main : Calls Try.prog 5 #[v0, v1, v2, v3] W fun e W' => e = .returned (.bool true) ∧ Below W.heap.size W W' := by
    clear fin hW' hA hV
    obtain ⟨ns, hnl, rfl, hnr⟩ := open_nums und25 leaves25 (all3 rfl) (hval 0 25 v0 rfl rfl) h0
    obtain ⟨a, b, c, d, e, f, rfl⟩ := list6 hnl
    obtain ⟨by1, rfl, _, _, w2⟩ := open_int und40 (hval 2 40 v2 rfl rfl) h2
    obtain ⟨cut, rfl, _, _, w3⟩ := open_int und5 (hval 3 5 v3 rfl rfl) h3
    exact narrows_calls W a b c d e f by1 cut (u32_range w2) (u8_range w3) v1 (open_rows und26 leaves42 cells42 (by decide) (all3 rfl) (hval 1 26 v1 rfl rfl) h1)
  exact main.mono fin

theorem maltNarrows_holds : Rows.MaltNarrowsSaid :=
  OpenClaim.holds_of_wide 5 Try.f5 rfl rfl rfl rfl rfl rfl rfl ⟨rfl, rfl, rfl, rfl, rfl⟩ rfl rfl rfl rfl rfl (by kernel_rfl) Try.func5 (by kernel_rfl)
    (of_decide_eq_true (by kernel_rfl)) (by unfold Func.isWrapper; rw [if_neg (of_decide_eq_false (by kernel_rfl))]; exact ⟨rfl, rfl⟩)
    (fun os started H enc _ => maltNarrows_lifted os started H enc)

end Go.Proofs.Ytdfbhoejljidfaa
#print axioms Go.Proofs.Ytdfbhoejljidfaa.maltNarrows_holds
