/- For all malts and all lists of steps, the law MaltPlays returns true, and its arguments read as they did. No condition. -/
import Derived.Test.YtdfbhoejljidfaaRows
import Derived.Test.YtdfbhoejljidfaaMxh
import Derived.Test.YtdfbhoejljidfaaSxQ

namespace Go.Proofs.Ytdfbhoejljidfaa
open Go Go.Sx Go.Sx.Malt Go.ChangeShapes Go.WideShapes Go.RowKit

theorem ownKnobTry : ownKnob Try.prog.godebug = none := by kernel_rfl
theorem laidTry : laidOutB Try.prog = true := by kernel_rfl

theorem leaves25 : leavesT Try.prog 5 25 = some [3, 3, 3, 3, 3, 3] := by kernel_rfl
theorem leaves42 : leavesT Try.prog 5 42 = some [3, 3, 3] := by kernel_rfl
theorem und3 : Try.prog.underlying 3 = some (.int .i64) := by kernel_rfl
theorem und4 : Try.prog.underlying 4 = some .bool := by kernel_rfl
theorem und26 : Try.prog.underlying 26 = some (.slice 42) := by kernel_rfl
theorem cells42 : Try.prog.cellsOf 42 = 3 := by kernel_rfl
theorem und25 : isStrB Try.prog 25 = true := by kernel_rfl

theorem all3 {us : List TypeId} (h : us.all (· == 3) = true) : ∀ u ∈ us, Try.prog.underlying u = some (.int .i64) := by
  intro u hu
  have := List.all_eq_true.1 h u hu
  rw [beq_iff_eq] at this
  subst this
  exact und3

theorem list6 {l : List Int} (h : l.length = 6) : ∃ a b c d e f, l = [a, b, c, d, e, f] := by
  match l, h with
  | [a, b, c, d, e, f], _ => exact ⟨a, b, c, d, e, f, rfl⟩

abbrev malt6 (a b c d e f : Int) : Value := .agg ([a, b, c, d, e, f].map (Value.int .i64)).toArray

theorem malt6_rel (R : Rn) (a b c d e f : Int) : VRel R (.agg [I a, I b, I c, I d, I e, I f]) (malt6 a b c d e f) := ⟨_, vrel_nums [a, b, c, d, e, f], rfl⟩

theorem plays_nil (W : World) (a b c d e f : Int) : Calls Try.prog 3 #[malt6 a b c d e f, .slice none 0 0] W fun e W' => e = .returned (.bool true) ∧ Below W.heap.size W W' := by
  obtain ⟨h', hc⟩ := law1n_v a b c d e f
  exact calls_row (xs := [malt6 a b c d e f, .slice none 0 0]) (R := noR) hc (emb_none (fun _ => rfl)) ⟨_, _, malt6_rel _ a b c d e f, ⟨_, _, rfl, rfl, rfl⟩, rfl⟩ none_not_live

/-- The three numbers of a row. -/
abbrev row3 (W : World) (ad : Addr) (k : Nat) : Int → Int := fun i => rdI W (ad.add (i.toNat * 3 + k))

theorem plays_some (W : World) (ad : Addr) (len cap : Nat) (hlc : len ≤ cap) (hbl : 0 < len → ad.block < W.heap.size ∧ ad.spot = none)
    (hcell : ∀ i, i < len → ∀ k, k < 3 → W.cell? (ad.add (i * 3 + k)) = some (.int .i64 (rdI W (ad.add (i * 3 + k))))) (a b c d e f : Int) :
    Calls Try.prog 3 #[malt6 a b c d e f, .slice (some ad) len cap] W fun e W' => e = .returned (.bool true) ∧ Below W.heap.size W W' := by
  obtain ⟨h', hc⟩ := law1_v (fun _ i => 0 ≤ i ∧ i < (len : Int)) (row3 W ad 0) (row3 W ad 1) (row3 W ad 2) len cap (fun j h1 h2 => ⟨h1, h2⟩) a b c d e f
  refine calls_row (xs := [malt6 a b c d e f, .slice (some ad) len cap]) (R := oneR ad 3) hc (emb_one (fun ix i hi => ?_)) ⟨_, _, malt6_rel _ a b c d e f, ⟨_, _, ⟨hlc, ad, .inr (show ad = ad.add _ from ?_), rfl⟩, rfl, rfl⟩, rfl⟩ one_not_live
  · obtain ⟨hb1, hb2⟩ := hbl (by omega)
    have hi' : i.toNat < len := by omega
    refine ⟨hi.1, hb1, hb2, [.int .i64 (row3 W ad 0 i), .int .i64 (row3 W ad 1 i), .int .i64 (row3 W ad 2 i)], vrel_nums [row3 W ad 0 i, row3 W ad 1 i, row3 W ad 2 i], rfl, fun k x hk => ?_⟩
    match k, hk with
    | 0, hk => simp at hk; subst hk; exact hcell i.toNat hi' 0 (by decide)
    | 1, hk => simp at hk; subst hk; exact hcell i.toNat hi' 1 (by decide)
    | 2, hk => simp at hk; subst hk; exact hcell i.toNat hi' 2 (by decide)
    | k + 3, hk => simp at hk
  · simp [Addr.add, oneR]

set_option maxRecDepth 100000 in
theorem maltPlays_lifted (os : Os) (started : os.Started) (H : Type) (enc : TypeId × Value → H) :
    ReturnsInHanded {} Try.checked os 3 .any (Rows.maltPlaysSpec.pre6 enc Try.prog Try.f3 Rows.maltPlaysRow.domain false) (Rows.maltPlaysSpec.post enc Try.prog Try.f3 false true false false) := by
  refine returnsInHanded_of_change (C := Try.checked) ownKnobTry started (by kernel_rfl) Try.func3
    (ChangeSpec.witness6 (enc := enc) (C := Try.checked) false ⟨#[], #[.agg #[.int .i64 0, .int .i64 0, .int .i64 0, .int .i64 0, .int .i64 0, .int .i64 0], .slice none 0 0], []⟩ 8 (by kernel_rfl) (by kernel_rfl) (by kernel_rfl) (by kernel_rfl)) ?_
  intro W base args ds gs before hval0 hW _ _
  have hval : ∀ (j : Nat) t v, Try.f3.params[j]? = some t → args[j]? = some v → Value.okWide Try.prog W .any base t v := hval0
  have hW' := hW
  obtain ⟨p, q, hA0, hV, rfl, hfz, hnd⟩ := hW
  have hA : DataW.TrodAll enc Try.prog W 0 (fun _ => true) true Try.f3.params.toList args.toList ds p := hA0
  rw [Try.params3] at hA hval
  obtain ⟨v0, v1, d0, d1, p0, p1, rfl, rfl, rfl, h0, h1⟩ := trodAll_two hA
  obtain ⟨rfl, rfl⟩ := trodVars_none hV
  have fin : ∀ (e : Ending) (W' : World), (e = .returned (.bool true) ∧ Below W.heap.size W W') → ∃ v, e = .returned v ∧ Rows.maltPlaysSpec.post enc Try.prog Try.f3 false true false false W #[v0, v1] v W' :=
    fun e W' h => ⟨_, h.1, post_true laidTry (by kernel_rfl) (tb := 4) (by kernel_rfl) und4 rfl hW' rfl h.2⟩
  have main : Calls Try.prog 3 #[v0, v1] W fun e W' => e = .returned (.bool true) ∧ Below W.heap.size W W' := by
    clear fin hW' hA hV
    obtain ⟨ns, hnl, rfl, hnr⟩ := open_nums und25 leaves25 (all3 rfl) (hval 0 25 v0 rfl rfl) h0
    obtain ⟨a, b, c, d, e, f, rfl⟩ := list6 hnl
    rcases open_rows und26 leaves42 cells42 (by decide) (all3 rfl) (hval 1 26 v1 rfl rfl) h1 with rfl | ⟨ad, len, cap, rfl, hlc, hcm, hbl, hcell⟩
    · exact plays_nil W a b c d e f
    · exact plays_some W ad len cap hlc hbl (fun i hi k hk => (hcell i hi k hk).1) a b c d e f
  exact main.mono fin

theorem maltPlays_holds : Rows.MaltPlaysSaid :=
  OpenClaim.holds_of_wide 3 Try.f3 rfl rfl rfl rfl rfl rfl rfl ⟨rfl, rfl, rfl, rfl, rfl⟩ rfl rfl rfl rfl rfl (by kernel_rfl) Try.func3 (by kernel_rfl)
    (of_decide_eq_true (by kernel_rfl)) (by unfold Func.isWrapper; rw [if_neg (of_decide_eq_false (by kernel_rfl))]; exact ⟨rfl, rfl⟩)
    (fun os started H enc _ => maltPlays_lifted os started H enc)

end Go.Proofs.Ytdfbhoejljidfaa
#print axioms Go.Proofs.Ytdfbhoejljidfaa.maltPlays_holds
