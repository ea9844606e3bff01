/- genuine: lists of spans as rows. -/
import Derived.Test.YtoionnljbacmkaaGa6

namespace Go.Sx.Gen
open Go Go.Sx Go.Proofs
set_option maxRecDepth 100000

/-- A list of spans is valid: values of a source, what is seen. -/
def valT (f : FuncId) (n : Nat) (l : Int → Src) (b : Sus) : FuncId × Spec1 := (f, fun _ args h K => match args with
  | [.slice (.el 1 [i] 0 0) len _] => (h.at 1 = valA n l ∧ 0 ≤ i ∧ i < n ∧ len = (l i).vl) ∧ K (.ret (.bool (spansB (l i).vl (l i).lo (l i).hi))) h
  | [.slice (.el 2 [] 0 0) len _] => (h.at 2 = seenA b ∧ len = b.sl) ∧ K (.ret (.bool (spansB b.sl b.lo b.hi))) h
  | _ => False)

/-- What is known of the sizes. -/
structure Wf (n : Nat) (l : Int → Src) (b : Sus) : Prop where
  hn : n ≤ maxI
  hl : ∀ i : Int, 0 ≤ i → i < n → (l i).vl ≤ maxI
  hb : b.sl ≤ maxI

theorem valT_ok {f : FuncId} {n : Nat} {l : Int → Src} {b : Sus} (hw : Wf n l b) (hf : ∀ {ok : List Int → Int → Prop} {lo hi : List Int → Int → Int} {ix : List Int} {len cap : Nat}, (∀ j : Int, 0 ≤ j → j < len → ok ix j) → len ≤ maxI →
      CallsV Try.prog f [.slice (.el 0 ix 0 0) len cap] ⟨1, [(0, spanA ok lo hi)]⟩ (.ret (.bool (spansB len (lo ix) (hi ix)))) ⟨1, [(0, spanA ok lo hi)]⟩) : SpOk Try.prog (valT f n l b).1 (valT f n l b).2 := by
  intro lock args h K hK
  simp only [valT] at hK
  split at hK
  · rename_i i len cap
    obtain ⟨⟨h1, h2, h3, rfl⟩, hK⟩ := hK
    refine ⟨_, h, hK, lockP_refl _ _, ?_⟩
    have hc := hf (ok := fun ix j => ∃ i, ix = [i] ∧ 0 ≤ i ∧ i < n ∧ 0 ≤ j ∧ j < (l i).vl) (lo := at1 fun i => (l i).lo) (hi := at1 fun i => (l i).hi) (ix := [i]) (len := (l i).vl) (cap := cap) (fun j g1 g2 => ⟨i, rfl, h2, h3, g1, g2⟩) (hw.hl i h2 h3)
    exact calls_view hc onlyArr1 rfl (fun B R w xs em hx => ⟨_, _, view1 em h1 (fun _ _ _ => rfl), hx⟩)
  · rename_i len cap
    obtain ⟨⟨h1, rfl⟩, hK⟩ := hK
    refine ⟨_, h, hK, lockP_refl _ _, ?_⟩
    have hc := hf (ok := fun ix j => ix = [] ∧ 0 ≤ j ∧ j < b.sl) (lo := fun _ => b.lo) (hi := fun _ => b.hi) (ix := []) (len := b.sl) (cap := cap) (fun j g1 g2 => ⟨rfl, g1, g2⟩) hw.hb
    exact calls_view hc onlyArr1 rfl (fun B R w xs em hx => ⟨_, _, view1 em h1 (fun _ _ _ => rfl), hx⟩)
  · exact hK.elim

theorem valT45_ok {n : Nat} {l : Int → Src} {b : Sus} (hw : Wf n l b) : SpOk Try.prog (valT 45 n l b).1 (valT 45 n l b).2 := valT_ok hw (fun h1 h2 => values_v h1 h2)
theorem valT42_ok {n : Nat} {l : Int → Src} {b : Sus} (hw : Wf n l b) : SpOk Try.prog (valT 42 n l b).1 (valT 42 n l b).2 := valT_ok hw (fun h1 _ => spans_v h1)

def t1 (n : Nat) (l : Int → Src) (b : Sus) : List (FuncId × Spec1) := valT 45 n l b :: valT 42 n l b :: numT

theorem t1_ok {n : Nat} {l : Int → Src} {b : Sus} (hw : Wf n l b) : ∀ x ∈ t1 n l b, SpOk Try.prog x.1 x.2 := by
  intro x hx
  simp only [t1, List.mem_cons] at hx
  rcases hx with rfl | rfl | hx
  · exact valT45_ok hw
  · exact valT42_ok hw
  · exact numT_ok x (by simpa using hx)
end Go.Sx.Gen
