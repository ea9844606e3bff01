/- For all malts, lists of steps and remainders, the law MaltConserves returns true, and its arguments read as they did. No condition. -/
import Derived.Test.YtdfbhoejljidfaaMxr
import Derived.Test.YtdfbhoejljidfaaMc5

namespace Go.Proofs.Ytdfbhoejljidfaa
open Go Go.Sx Go.Sx.Malt Go.ChangeShapes Go.WideShapes Go.RowKit

theorem leaves40 : leavesT Try.prog 5 40 = some [40] := by kernel_rfl
theorem und40 : Try.prog.underlying 40 = some (.int .u32) := by kernel_rfl
theorem und36 : Try.prog.underlying 36 = some (.slice 40) := by kernel_rfl
theorem cells40 : Try.prog.cellsOf 40 = 1 := by kernel_rfl

theorem all40 : ∀ u ∈ [(40 : TypeId)], Try.prog.underlying u = some (.int .u32) := by
  intro u hu
  simp only [List.mem_singleton] at hu
  subst hu
  exact und40

abbrev row1 (W : World) (ad : Addr) : Int → Int := fun i => rdI W (ad.add (i.toNat * 1 + 0))

theorem row1_ok {W : World} {R : Rn} {ad : Addr} {len : Nat} (hbl : 0 < len → ad.block < W.heap.size ∧ ad.spot = none)
    (hcell : ∀ i, i < len → ∀ k, k < 1 → W.cell? (ad.add (i * 1 + k)) = some (.int .u32 (rdI W (ad.add (i * 1 + k)))) ∧ (Lit.int .u32 (rdI W (ad.add (i * 1 + k)))).wf = true) : ArrOk W R ad 1 (fun _ i => 0 ≤ i ∧ i < (len : Int)) (gB (row1 W ad)) := by
  intro ix i hi
  obtain ⟨hb1, hb2⟩ := hbl (by omega)
  have hi' : i.toNat < len := by omega
  refine ⟨hi.1, hb1, hb2, [.int .u32 (row1 W ad i)], ⟨_, _, rfl, rfl, rfl⟩, rfl, fun k x hk => ?_⟩
  match k, hk with
  | 0, hk => simp at hk; subst hk; exact (hcell i.toNat hi' 0 (by decide)).1
  | k + 1, hk => simp at hk

theorem conserves_calls (W : World) (a b c d e f : Int) (vl vb : Value) (hl : vl = .slice none 0 0 ∨ ∃ ad len cap, vl = .slice (some ad) len cap ∧ len ≤ cap ∧ cap ≤ maxLen ∧ (0 < len → ad.block < W.heap.size ∧ ad.spot = none) ∧
      ∀ i, i < len → ∀ k, k < 3 → W.cell? (ad.add (i * 3 + k)) = some (.int .i64 (rdI W (ad.add (i * 3 + k)))) ∧ (Lit.int .i64 (rdI W (ad.add (i * 3 + k)))).wf = true)
    (hb : vb = .slice none 0 0 ∨ ∃ ad len cap, vb = .slice (some ad) len cap ∧ len ≤ cap ∧ cap ≤ maxLen ∧ (0 < len → ad.block < W.heap.size ∧ ad.spot = none) ∧
      ∀ i, i < len → ∀ k, k < 1 → W.cell? (ad.add (i * 1 + k)) = some (.int .u32 (rdI W (ad.add (i * 1 + k)))) ∧ (Lit.int .u32 (rdI W (ad.add (i * 1 + k)))).wf = true) :
    Calls Try.prog 4 #[malt6 a b c d e f, vl, vb] W fun e W' => e = .returned (.bool true) ∧ Below W.heap.size W W' := by
  rcases hl with rfl | ⟨ad, len, cap, rfl, hlc, _, hbl, hcell⟩
  · rcases hb with rfl | ⟨ae, ne, ce, rfl, hle, _, hbe, hcelle⟩
    · obtain ⟨h', hc⟩ := law2nb_v (fun _ _ => False) (fun _ _ => False) (fun _ => 0) (fun _ => 0) (fun _ => 0) (fun _ => 0) a b c d e f
      exact calls_row (xs := [malt6 a b c d e f, .slice none 0 0, .slice none 0 0]) (R := twoR ⟨0, 0, none⟩ ⟨0, 0, none⟩ 3 1) hc (emb_two arrOk_none arrOk_none) ⟨_, _, malt6_rel _ a b c d e f, ⟨_, _, rfl, ⟨_, _, rfl, rfl, rfl⟩, rfl⟩, rfl⟩ two_not_live
    · obtain ⟨h', hc⟩ := law2n_v (fun _ _ => False) (fun _ i => 0 ≤ i ∧ i < (ne : Int)) (fun _ => 0) (fun _ => 0) (fun _ => 0) (row1 W ae) ne ce (fun j h1 h2 => ⟨⟨h1, h2⟩, u32_range (hcelle j.toNat (by omega) 0 (by decide)).2⟩) a b c d e f
      exact calls_row (xs := [malt6 a b c d e f, .slice none 0 0, .slice (some ae) ne ce]) (R := twoR ⟨0, 0, none⟩ ae 3 1) hc (emb_two arrOk_none (row1_ok hbe hcelle)) ⟨_, _, malt6_rel _ a b c d e f, ⟨_, _, rfl, ⟨_, _, ⟨hle, ae, .inr rfl, rfl⟩, rfl, rfl⟩, rfl⟩, rfl⟩ two_not_live
  · rcases hb with rfl | ⟨ae, ne, ce, rfl, hle, _, hbe, hcelle⟩
    · obtain ⟨h', hc⟩ := law2b_v (fun _ i => 0 ≤ i ∧ i < (len : Int)) (fun _ _ => False) (row3 W ad 0) (row3 W ad 1) (row3 W ad 2) (fun _ => 0) len cap a b c d e f
      exact calls_row (xs := [malt6 a b c d e f, .slice (some ad) len cap, .slice none 0 0]) (R := twoR ad ⟨0, 0, none⟩ 3 1) hc (emb_two (row3_ok hbl (fun i hi k hk => (hcell i hi k hk).1)) arrOk_none) ⟨_, _, malt6_rel _ a b c d e f, ⟨_, _, ⟨hlc, ad, .inr rfl, rfl⟩, ⟨_, _, rfl, rfl, rfl⟩, rfl⟩, rfl⟩ two_not_live
    · obtain ⟨h', hc⟩ := law2_v (fun _ i => 0 ≤ i ∧ i < (len : Int)) (fun _ i => 0 ≤ i ∧ i < (ne : Int)) (row3 W ad 0) (row3 W ad 1) (row3 W ad 2) (row1 W ae) len cap ne ce (fun j h1 h2 => ⟨h1, h2⟩) (fun j h1 h2 => ⟨⟨h1, h2⟩, u32_range (hcelle j.toNat (by omega) 0 (by decide)).2⟩) a b c d e f
      exact calls_row (xs := [malt6 a b c d e f, .slice (some ad) len cap, .slice (some ae) ne ce]) (R := twoR ad ae 3 1) hc (emb_two (row3_ok hbl (fun i hi k hk => (hcell i hi k hk).1)) (row1_ok hbe hcelle)) ⟨_, _, malt6_rel _ a b c d e f, ⟨_, _, ⟨hlc, ad, .inr rfl, rfl⟩, ⟨_, _, ⟨hle, ae, .inr rfl, rfl⟩, rfl, rfl⟩, rfl⟩, rfl⟩ two_not_live

set_option maxRecDepth 100000 in
theorem maltConserves_lifted (os : Os) (started : os.Started) (H : Type) (enc : TypeId × Value → H) :
    ReturnsInHanded {} Try.checked os 4 .any (Rows.maltConservesSpec.pre6 enc Try.prog Try.f4 Rows.maltConservesRow.domain false) (Rows.maltConservesSpec.post enc Try.prog Try.f4 false true false false) := by
  refine returnsInHanded_of_change (C := Try.checked) ownKnobTry started (by kernel_rfl) Try.func4
    (ChangeSpec.witness6 (enc := enc) (C := Try.checked) false ⟨#[], #[.agg #[.int .i64 0, .int .i64 0, .int .i64 0, .int .i64 0, .int .i64 0, .int .i64 0], .slice none 0 0, .slice none 0 0], []⟩ 8 (by kernel_rfl) (by kernel_rfl) (by kernel_rfl) (by kernel_rfl)) ?_
  intro W base args ds gs before hval0 hW _ _
  have hval : ∀ (j : Nat) t v, Try.f4.params[j]? = some t → args[j]? = some v → Value.okWide Try.prog W .any base t v := hval0
  have hW' := hW
  obtain ⟨p, q, hA0, hV, rfl, hfz, hnd⟩ := hW
  have hA : DataW.TrodAll enc Try.prog W 0 (fun _ => true) true Try.f4.params.toList args.toList ds p := hA0
  rw [Try.params4] at hA hval
  obtain ⟨v0, v1, v2, d0, d1, d2, p0, p1, p2, rfl, rfl, rfl, h0, h1, h2⟩ := trodAll_three hA
  obtain ⟨rfl, rfl⟩ := trodVars_none hV
  have fin : ∀ (e : Ending) (W' : World), (e = .returned (.bool true) ∧ Below W.heap.size W W') → ∃ v, e = .returned v ∧ Rows.maltConservesSpec.post enc Try.prog Try.f4 false true false false W #[v0, v1, v2] v W' :=
    fun e W' h => ⟨_, h.1, post_true laidTry (by kernel_rfl) (tb := 4) (by kernel_rfl) und4 rfl hW' rfl h.2⟩
  have main : Calls Try.prog 4 #[v0, v1, v2] W fun e W' => e = .returned (.bool true) ∧ Below W.heap.size W W' := by
    clear fin hW' hA hV
    obtain ⟨ns, hnl, rfl, hnr⟩ := open_nums und25 leaves25 (all3 rfl) (hval 0 25 v0 rfl rfl) h0
    obtain ⟨a, b, c, d, e, f, rfl⟩ := list6 hnl
    exact conserves_calls W a b c d e f v1 v2 (open_rows und26 leaves42 cells42 (by decide) (all3 rfl) (hval 1 26 v1 rfl rfl) h1) (open_rows und36 leaves40 cells40 (by decide) all40 (hval 2 36 v2 rfl rfl) h2)
  exact main.mono fin

theorem maltConserves_holds : Rows.MaltConservesSaid :=
  OpenClaim.holds_of_wide 4 Try.f4 rfl rfl rfl rfl rfl rfl rfl ⟨rfl, rfl, rfl, rfl, rfl⟩ rfl rfl rfl rfl rfl (by kernel_rfl) Try.func4 (by kernel_rfl)
    (of_decide_eq_true (by kernel_rfl)) (by unfold Func.isWrapper; rw [if_neg (of_decide_eq_false (by kernel_rfl))]; exact ⟨rfl, rfl⟩)
    (fun os started H enc _ => maltConserves_lifted os started H enc)

end Go.Proofs.Ytdfbhoejljidfaa
#print axioms Go.Proofs.Ytdfbhoejljidfaa.maltConserves_holds
