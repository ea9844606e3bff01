import Derived.Test.YtnfkbbcbehnnkaaNR
import Derived.Test.YtnfkbbcbehnnkaaNU
import Derived.OpenShut
/- nose: a story, and a list of small numbers, read. -/

namespace Go.Sx.Nos
open Go Go.Sx Go.Proofs Go.ChangeShapes Go.WideShapes Go.RowKit
set_option maxRecDepth 100000

theorem str61 : isStrB Try.prog 61 = true := by kernel_rfl
theorem und62 : Try.prog.underlying 62 = some (.slice 96) := by kernel_rfl
theorem und96 : Try.prog.underlying 96 = some (.int .u16) := by kernel_rfl
theorem leaves96 : leavesT Try.prog 5 96 = some [96] := by kernel_rfl
theorem cells96 : Try.prog.cellsOf 96 = 1 := by kernel_rfl
theorem und56 : Try.prog.underlying 56 = some (.array 16 27) := by kernel_rfl
theorem und57 : Try.prog.underlying 57 = some (.array 8 27) := by kernel_rfl
theorem und59 : Try.prog.underlying 59 = some (.array 8 58) := by kernel_rfl
theorem und58 : Try.prog.underlying 58 = some (.int .i8) := by kernel_rfl
theorem cells27 : Try.prog.cellsOf 27 = 1 := by kernel_rfl
theorem cells58 : Try.prog.cellsOf 58 = 1 := by kernel_rfl
theorem cells56 : Try.prog.cellsOf 56 = 16 := by kernel_rfl
theorem cells57 : Try.prog.cellsOf 57 = 8 := by kernel_rfl
theorem cells59 : Try.prog.cellsOf 59 = 8 := by kernel_rfl
theorem cells61 : Try.prog.cellsOf 61 = 32 := by kernel_rfl
def isSt61 : Option TypeDesc → Bool
  | some (.struct fs) => match fs.toList with
    | [a, b, c] => Nat.beq a.type 56 && Nat.beq a.offset 0 && Nat.beq b.type 57 && Nat.beq b.offset 16 && Nat.beq c.type 59 && Nat.beq c.offset 24
    | _ => false
  | _ => false
theorem st61 : isSt61 (Try.prog.underlying 61) = true := by kernel_rfl

def intOf : Value → Int
  | .int _ n => n
  | _ => 0

section
variable {H : Type} {enc : TypeId × Value → H} {W : World} {base : Nat} {spare : Nat → Bool} {held : Bool} {r : Go.Reach} {b0 : Nat} {v : Value} {d : DataW H} {ps : List MemPlace} {m : Nat} {y : DataW H × List MemPlace}

/-- An array of numbers, read. -/
theorem arr_ints {t e : TypeId} {n : Nat} {k : IntKind} {cs : List Value} (ht : Try.prog.underlying t = some (.array n e)) (he : Try.prog.underlying e = some (.int k)) (h1 : Try.prog.cellsOf e = 1) (hn : Try.prog.cellsOf t = n)
    (hd : DataW.trod enc Try.prog W base spare held m t cs = some y) : ∃ ns : List Int, cs = ns.map (Value.int k) ∧ ns.length = n ∧ ∀ x ∈ ns, (Lit.int k x).wf = true := by
  obtain ⟨xs, m', _, _, hl, hxl, hg⟩ := DataW.trod_array ht hd
  rw [hn] at hl
  have key : ∀ i, i < n → ∃ z, cs[i]? = some (.int k z) ∧ (Lit.int k z).wf = true := by
    intro i hi
    have h2 := hg i hi
    rw [h1, Nat.mul_one] at h2
    have hc : (cs.drop i).take 1 = [cs[i]'(by omega)] := by
      rw [List.drop_eq_getElem_cons (by omega)]
      rfl
    rw [hc, List.getElem?_eq_getElem (by omega)] at h2
    obtain ⟨z, hz, hw⟩ := leaf_int he h2
    exact ⟨z, by rw [List.getElem?_eq_getElem (by omega), hz], hw⟩
  refine ⟨cs.map intOf, ?_, by rw [List.length_map, hl], fun x hx => ?_⟩
  · rw [List.map_map]
    refine (List.map_id cs).symm.trans (List.map_congr_left fun a ha => ?_)
    obtain ⟨i, hi, rfl⟩ := List.mem_iff_getElem.1 ha
    obtain ⟨z, hz, _⟩ := key i (by omega)
    rw [List.getElem?_eq_getElem hi] at hz
    have hz := Option.some.inj hz
    rw [hz]
    rfl
  · obtain ⟨a, ha, rfl⟩ := List.mem_map.1 hx
    obtain ⟨i, hi, rfl⟩ := List.mem_iff_getElem.1 ha
    obtain ⟨z, hz, hw⟩ := key i (by omega)
    rw [List.getElem?_eq_getElem hi] at hz
    have hz := Option.some.inj hz
    rw [hz]
    exact hw

theorem list8 {l : List Int} (h : l.length = 8) : ∃ a b c d e f g i, l = [a, b, c, d, e, f, g, i] := by
  match l, h with
  | [a, b, c, d, e, f, g, i], _ => exact ⟨a, b, c, d, e, f, g, i, rfl⟩
theorem list16 {l : List Int} (h : l.length = 16) : ∃ a b c d e f g i a' b' c' d' e' f' g' i', l = [a, b, c, d, e, f, g, i, a', b', c', d', e', f', g', i'] := by
  match l, h with
  | [a, b, c, d, e, f, g, i, a', b', c', d', e', f', g', i'], _ => exact ⟨a, b, c, d, e, f, g, i, a', b', c', d', e', f', g', i', rfl⟩

theorem stC_eq {l1 l2 l3 : List Int} (h1 : l1.length = 16) (h2 : l2.length = 8) (h3 : l3.length = 8) : stC (fun i => (l1 ++ l2 ++ l3).getD i 0) = l1.map (VV.int .i16) ++ l2.map (VV.int .i16) ++ l3.map (VV.int .i8) := by
  obtain ⟨a, b, c, d, e, f, g, i, a', b', c', d', e', f', g', i', rfl⟩ := list16 h1
  obtain ⟨_, _, _, _, _, _, _, _, rfl⟩ := list8 h2
  obtain ⟨_, _, _, _, _, _, _, _, rfl⟩ := list8 h3
  rfl

theorem read_st (hval : Value.okWide Try.prog W r b0 61 v) (hd : DataW.Trod enc Try.prog W base spare held 61 v d ps) : ∃ s : Nat → Int, (∀ R, VRel R (.agg (stC s)) v) ∧ SOk s := by
  obtain ⟨fs, ht⟩ := isStr_of str61
  have hst := st61
  rw [ht] at hst
  obtain ⟨cs, rfl⟩ := okWide_agg ht hval
  obtain ⟨fuel, hf⟩ := hd
  obtain ⟨xs, n, _, _, hl, hxl, hg⟩ := DataW.trod_struct ht hf
  have hcs : (Value.agg cs).cells.toList = cs.toList := rfl
  rw [hcs] at hl hg
  rw [cells61] at hl
  unfold isSt61 at hst
  dsimp only at hst
  split at hst
  · rename_i a b c hfs
    simp only [Bool.and_eq_true, Nat.beq_eq] at hst
    obtain ⟨⟨⟨⟨⟨a1, a2⟩, b1⟩, b2⟩, c1⟩, c2⟩ := hst
    have hsz : fs.size = 3 := by rw [← Array.length_toList, hfs]; rfl
    have e0 : fs[0]? = some a := by rw [← Array.getElem?_toList, hfs]; rfl
    have e1 : fs[1]? = some b := by rw [← Array.getElem?_toList, hfs]; rfl
    have e2 : fs[2]? = some c := by rw [← Array.getElem?_toList, hfs]; rfl
    have g0 := hg 0 a e0
    have g1 := hg 1 b e1
    have g2 := hg 2 c e2
    rw [a1, a2, cells56, List.getElem?_eq_getElem (by omega)] at g0
    rw [b1, b2, cells57, List.getElem?_eq_getElem (by omega)] at g1
    rw [c1, c2, cells59, List.getElem?_eq_getElem (by omega)] at g2
    obtain ⟨l1, k1, n1, w1⟩ := arr_ints und56 und27 cells27 cells56 g0
    obtain ⟨l2, k2, n2, w2⟩ := arr_ints und57 und27 cells27 cells57 g1
    obtain ⟨l3, k3, n3, w3⟩ := arr_ints und59 und58 cells58 cells59 g2
    have hall : cs.toList = l1.map (Value.int .i16) ++ l2.map (Value.int .i16) ++ l3.map (Value.int .i8) := by
      rw [← k1, ← k2, ← k3, List.drop_zero]
      have t1 : (cs.toList.drop 24).take 8 = cs.toList.drop 24 := List.take_of_length_le (by rw [List.length_drop]; omega)
      have t2 : cs.toList.drop 24 = (cs.toList.drop 16).drop 8 := by rw [List.drop_drop]
      rw [t1, t2, List.append_assoc, List.take_append_drop, List.take_append_drop]
    refine ⟨fun i => (l1 ++ l2 ++ l3).getD i 0, fun R => ⟨cs.toList, ?_, by rw [Array.toArray_toList]⟩, fun i => ?_⟩
    · rw [stC_eq n1 n2 n3, hall]
      exact ((vrel_ints l1).append (vrel_ints l2)).append (vrel_ints l3)
    · refine bd_getD (fun x hx => ?_) i
      rcases List.mem_append.1 hx with hx | hx
      · rcases List.mem_append.1 hx with hx | hx
        · exact i16_range (w1 x hx)
        · exact i16_range (w2 x hx)
      · have h' : (decide ((-128 : Int) ≤ x) && decide (x ≤ 127)) = true := w3 x hx
        simp only [Bool.and_eq_true, decide_eq_true_eq] at h'
        omega
  · cases hst

theorem read_B (hval : Value.okWide Try.prog W r b0 62 v) (hd : DataW.Trod enc Try.prog W base spare held 62 v d ps) : ∃ (B : List Int) (cap : Nat) (q : Addr), RowIn W v B.length 1 cap (fun j => [.int .u16 (B.getD j 0)]) q ∧ ∀ x ∈ B, 0 ≤ x ∧ x ≤ 65535 := by
  obtain ⟨a0, l0, c0, rfl⟩ := Go.WideShapes.okWide_slice und62 hval
  obtain ⟨fuel, hd⟩ := hd
  rw [show (Value.slice a0 l0 c0).cells.toList = [.slice a0 l0 c0] from rfl] at hd
  obtain ⟨l, cap, q, h1, _, h3⟩ := rows_in und62 leaves96 cells96 (by decide) (fun u hu => by
    rw [List.mem_singleton.1 hu]; exact und96) hd
  refine ⟨l.map d1, cap, q, rowIn_of h1 (by simp) fun j hj => ?_, fun x hx => ?_⟩
  · have hm : l.getD j [] ∈ l := by rw [List.getD_eq_getElem?_getD, List.getElem?_eq_getElem hj]; exact List.getElem_mem hj
    obtain ⟨a, ha⟩ := list1 (h3 _ hm).1
    have e : (l.map d1).getD j 0 = d1 (l.getD j []) := by simp [List.getD_eq_getElem?_getD, hj]
    rw [e, ha]
    rfl
  · obtain ⟨z, hz, rfl⟩ := List.mem_map.1 hx
    obtain ⟨a, rfl⟩ := list1 (h3 z hz).1
    have h' : (decide ((0 : Int) ≤ a) && decide (a ≤ 65535)) = true := (h3 _ hz).2 a (by simp)
    simp only [Bool.and_eq_true, decide_eq_true_eq] at h'
    exact h'
end
end Go.Sx.Nos
