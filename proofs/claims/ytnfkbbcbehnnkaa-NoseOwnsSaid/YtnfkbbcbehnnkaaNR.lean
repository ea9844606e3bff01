import Derived.Test.YtnfkbbcbehnnkaaNB
import Derived.Test.YtnfkbbcbehnnkaaSxP
import Derived.Test.YtnfkbbcbehnnkaaRows
/- nose: a panel, read. -/

namespace Go.Sx.Nos
open Go Go.Sx Go.Proofs Go.ChangeShapes Go.WideShapes Go.RowKit
set_option maxRecDepth 100000

theorem leaves26 : leavesT Try.prog 5 26 = some [22, 23, 24] := by kernel_rfl
theorem leaves3 : leavesT Try.prog 5 3 = some [3] := by kernel_rfl
theorem leaves32 : leavesT Try.prog 5 32 = some [3, 3, 3, 3, 3] := by kernel_rfl
theorem leaves36 : leavesT Try.prog 5 36 = some [3, 3, 3] := by kernel_rfl
theorem und3 : Try.prog.underlying 3 = some (.int .i64) := by kernel_rfl
theorem und4 : Try.prog.underlying 4 = some .bool := by kernel_rfl
theorem und22 : Try.prog.underlying 22 = some (.slice 3) := by kernel_rfl
theorem und23 : Try.prog.underlying 23 = some (.slice 32) := by kernel_rfl
theorem und24 : Try.prog.underlying 24 = some (.slice 36) := by kernel_rfl
theorem und5 : Try.prog.underlying 5 = some (.int .u8) := by kernel_rfl
theorem und27 : Try.prog.underlying 27 = some (.int .i16) := by kernel_rfl
theorem i16_range {n : Int} (h : (Lit.int .i16 n).wf = true) : -32768 ≤ n ∧ n ≤ 32767 := by
  have h' : (decide ((-32768 : Int) ≤ n) && decide (n ≤ 32767)) = true := h
  simpa using h'
theorem cells3 : Try.prog.cellsOf 3 = 1 := by kernel_rfl
theorem cells32 : Try.prog.cellsOf 32 = 5 := by kernel_rfl
theorem cells36 : Try.prog.cellsOf 36 = 3 := by kernel_rfl
theorem str26 : isStrB Try.prog 26 = true := by kernel_rfl
theorem str32 : isStrB Try.prog 32 = true := by kernel_rfl
theorem str36 : isStrB Try.prog 36 = true := by kernel_rfl

theorem all3 {us : List TypeId} (h : us.all (· == 3) = true) : ∀ u ∈ us, Try.prog.underlying u = some (.int .i64) := by
  intro u hu
  have := List.all_eq_true.1 h u hu
  rw [beq_iff_eq] at this
  subst this
  exact und3

/-- A number of the machine. -/
def i64B (n : Int) : Prop := -9223372036854775808 ≤ n ∧ n ≤ 9223372036854775807

structure TsB (t : Ts) : Prop where
  j : i64B t.j
  s : i64B t.s
  p : i64B t.p
  c : i64B t.c
  o : i64B t.o
structure SdB (x : Sd) : Prop where
  s : i64B x.s
  lo : i64B x.lo
  hi : i64B x.hi
structure PnB (p : Pn) : Prop where
  d : ∀ x ∈ p.D, i64B x
  t : ∀ t ∈ p.T, TsB t
  s : ∀ s ∈ p.S, SdB s

theorem list1 {l : List Int} (h : l.length = 1) : ∃ a, l = [a] := by
  match l, h with
  | [a], _ => exact ⟨a, rfl⟩
theorem list3 {l : List Int} (h : l.length = 3) : ∃ a b c, l = [a, b, c] := by
  match l, h with
  | [a, b, c], _ => exact ⟨a, b, c, rfl⟩
theorem list5 {l : List Int} (h : l.length = 5) : ∃ a b c d e, l = [a, b, c, d, e] := by
  match l, h with
  | [a, b, c, d, e], _ => exact ⟨a, b, c, d, e, rfl⟩
theorem vals3 {l : List Value} (h : l.length = 3) : ∃ a b c, l = [a, b, c] := by
  match l, h with
  | [a, b, c], _ => exact ⟨a, b, c, rfl⟩

def d1 (l : List Int) : Int := l.getD 0 0
def ts5 (l : List Int) : Ts := ⟨l.getD 0 0, l.getD 1 0, l.getD 2 0, l.getD 3 0, l.getD 4 0⟩
def sd3 (l : List Int) : Sd := ⟨l.getD 0 0, l.getD 1 0, l.getD 2 0⟩

section
variable {H : Type} {enc : TypeId × Value → H} {W : World} {base : Nat} {spare : Nat → Bool} {held : Bool} {r : Go.Reach} {b0 : Nat} {v : Value} {d : DataW H} {ps : List MemPlace} {m : Nat} {y : DataW H × List MemPlace}

theorem rowIn_of {L s cap : Nat} {g g' : Nat → List VV} {q : Addr} {L' : Nat} (h : RowIn W v L s cap g q) (hL : L' = L) (hg : ∀ j, j < L → g' j = g j) : RowIn W v L' s cap g' q := by
  subst hL
  refine ⟨h.val, h.le, fun j hj => ?_⟩
  have := h.cell j hj
  rwa [← hg j hj] at this

theorem read_D (hd : DataW.trod enc Try.prog W base spare held m 22 [v] = some y) : ∃ (D : List Int) (cap : Nat) (q : Addr), RowIn W v D.length 1 cap (dG D) q ∧ ∀ x ∈ D, i64B x := by
  obtain ⟨l, cap, q, h1, _, h3⟩ := rows_in und22 leaves3 cells3 (by decide) (all3 rfl) hd
  refine ⟨l.map d1, cap, q, rowIn_of h1 (by simp) fun j hj => ?_, fun x hx => ?_⟩
  · have hm : l.getD j [] ∈ l := by rw [List.getD_eq_getElem?_getD, List.getElem?_eq_getElem hj]; exact List.getElem_mem hj
    obtain ⟨a, ha⟩ := list1 (h3 _ hm).1
    have e : (l.map d1).getD j 0 = d1 (l.getD j []) := by simp [List.getD_eq_getElem?_getD, hj]
    unfold dG
    rw [e, ha]
    rfl
  · obtain ⟨z, hz, rfl⟩ := List.mem_map.1 hx
    obtain ⟨a, rfl⟩ := list1 (h3 z hz).1
    exact i64_range ((h3 _ hz).2 a (by simp))

theorem read_T (hd : DataW.trod enc Try.prog W base spare held m 23 [v] = some y) : ∃ (T : List Ts) (cap : Nat) (q : Addr), RowIn W v T.length 5 cap (tG T) q ∧ ∀ t ∈ T, TsB t := by
  obtain ⟨l, cap, q, h1, _, h3⟩ := rows_in und23 leaves32 cells32 (by decide) (all3 rfl) hd
  refine ⟨l.map ts5, cap, q, rowIn_of h1 (by simp) fun j hj => ?_, fun x hx => ?_⟩
  · have hm : l.getD j [] ∈ l := by rw [List.getD_eq_getElem?_getD, List.getElem?_eq_getElem hj]; exact List.getElem_mem hj
    obtain ⟨a, b, c, e, f, ha⟩ := list5 (h3 _ hm).1
    have e : (l.map ts5).getD j t0 = ts5 (l.getD j []) := by simp [List.getD_eq_getElem?_getD, hj]
    unfold tG
    rw [e, ha]
    rfl
  · obtain ⟨z, hz, rfl⟩ := List.mem_map.1 hx
    obtain ⟨a, b, c, e, f, rfl⟩ := list5 (h3 z hz).1
    have g := (h3 _ hz).2
    exact ⟨i64_range (g a (by simp)), i64_range (g b (by simp)), i64_range (g c (by simp)), i64_range (g e (by simp)), i64_range (g f (by simp))⟩

theorem read_S (hd : DataW.trod enc Try.prog W base spare held m 24 [v] = some y) : ∃ (S : List Sd) (cap : Nat) (q : Addr), RowIn W v S.length 3 cap (sG S) q ∧ ∀ s ∈ S, SdB s := by
  obtain ⟨l, cap, q, h1, _, h3⟩ := rows_in und24 leaves36 cells36 (by decide) (all3 rfl) hd
  refine ⟨l.map sd3, cap, q, rowIn_of h1 (by simp) fun j hj => ?_, fun x hx => ?_⟩
  · have hm : l.getD j [] ∈ l := by rw [List.getD_eq_getElem?_getD, List.getElem?_eq_getElem hj]; exact List.getElem_mem hj
    obtain ⟨a, b, c, ha⟩ := list3 (h3 _ hm).1
    have e : (l.map sd3).getD j s0 = sd3 (l.getD j []) := by simp [List.getD_eq_getElem?_getD, hj]
    unfold sG
    rw [e, ha]
    rfl
  · obtain ⟨z, hz, rfl⟩ := List.mem_map.1 hx
    obtain ⟨a, b, c, rfl⟩ := list3 (h3 z hz).1
    have g := (h3 _ hz).2
    exact ⟨i64_range (g a (by simp)), i64_range (g b (by simp)), i64_range (g c (by simp))⟩

/-- A panel lies in the world. -/
def PnIn (W : World) (v : Value) (p : Pn) : Prop := ∃ vD vT vS c1 q1 c2 q2 c3 q3, v = .agg #[vD, vT, vS] ∧ RowIn W vD p.D.length 1 c1 (dG p.D) q1 ∧ RowIn W vT p.T.length 5 c2 (tG p.T) q2 ∧ RowIn W vS p.S.length 3 c3 (sG p.S) q3

theorem read_pn (hval : Value.okWide Try.prog W r b0 26 v) (hd : DataW.Trod enc Try.prog W base spare held 26 v d ps) : ∃ p : Pn, PnIn W v p ∧ PnB p := by
  obtain ⟨cs, rfl, hl, hg⟩ := fields_in str26 leaves26 hval hd
  obtain ⟨vD, vT, vS, rfl⟩ := vals3 hl
  obtain ⟨_, _, _, e0, h0⟩ := hg 0 22 rfl
  obtain ⟨_, _, _, e1, h1⟩ := hg 1 23 rfl
  obtain ⟨_, _, _, e2, h2⟩ := hg 2 24 rfl
  cases e0; cases e1; cases e2
  obtain ⟨D, c1, q1, r1, b1⟩ := read_D h0
  obtain ⟨T, c2, q2, r2, b2⟩ := read_T h1
  obtain ⟨S, c3, q3, r3, b3⟩ := read_S h2
  exact ⟨⟨D, T, S⟩, ⟨_, _, _, _, _, _, _, _, _, rfl, r1, r2, r3⟩, b1, b2, b3⟩

/-- The flat arguments, the first three put together. -/
def mkP : List VV → List VV
  | a :: b :: c :: r => .agg [a, b, c] :: r
  | l => l

/-- A law of a panel and lists or numbers, at a row's arguments. -/
theorem row_pn {f : FuncId} {p : Pn} {ags : List Ag} {xs : List Value} (hs : ∀ c1 c2 c3 cs, ∃ h', CallsV Try.prog f (.agg (pnV p c1 c2 c3) :: agArgs 3 ags cs) (agH (pnA p ++ ags)) (.ret (.bool true)) h') (hp : PnIn W v p) (ha : agIn W ags xs) :
    Calls Try.prog f (v :: xs).toArray W fun e W' => e = .returned (.bool true) ∧ Below W.heap.size W W' := by
  obtain ⟨vD, vT, vS, c1, q1, c2, q2, c3, q3, rfl, r1, r2, r3⟩ := hp
  refine row_mk (ags := pnA p ++ ags) (xs := vD :: vT :: vS :: xs) mkP (fun cs => ?_) (fun R vs hv => ?_) ⟨_, _, c1, q1, rfl, r1, _, _, c2, q2, rfl, r2, _, _, c3, q3, rfl, r3, ha⟩
  · have e : ∃ c1 c2 c3 cs', mkP (agArgs 0 (pnA p ++ ags) cs) = .agg (pnV p c1 c2 c3) :: agArgs 3 ags cs' := by
      match cs with
      | [] => exact ⟨0, 0, 0, [], rfl⟩
      | [c1] => exact ⟨c1, 0, 0, [], rfl⟩
      | [c1, c2] => exact ⟨c1, c2, 0, [], rfl⟩
      | c1 :: c2 :: c3 :: cs => exact ⟨c1, c2, c3, cs, rfl⟩
    obtain ⟨c1, c2, c3, cs', e⟩ := e
    obtain ⟨h', hc⟩ := hs c1 c2 c3 cs'
    exact ⟨h', by rw [e]; exact hc⟩
  · match vs, hv with
    | [a, b, c], ⟨_, _, h1, ⟨_, _, h2, ⟨_, _, h3, h4, rfl⟩, rfl⟩, e⟩ => cases e; exact ⟨_, _, ⟨_, ⟨_, _, h1, ⟨_, _, h2, ⟨_, _, h3, rfl, rfl⟩, rfl⟩, rfl⟩, rfl⟩, h4, rfl⟩
    | a :: b :: c :: u :: r, ⟨_, _, h1, ⟨_, _, h2, ⟨_, _, h3, h4, rfl⟩, rfl⟩, e⟩ => cases e; exact ⟨_, _, ⟨_, ⟨_, _, h1, ⟨_, _, h2, ⟨_, _, h3, rfl, rfl⟩, rfl⟩, rfl⟩, rfl⟩, h4, rfl⟩
    | [], hv => cases hv
    | [_], ⟨_, _, _, h, e⟩ => cases h; cases e
    | [_, _], ⟨_, _, _, ⟨_, _, _, h, e1⟩, e⟩ => cases h; cases e1; cases e
end
end Go.Sx.Nos
