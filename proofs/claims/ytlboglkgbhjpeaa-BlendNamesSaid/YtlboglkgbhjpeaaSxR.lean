/- The row: from the reading of the arguments to named arrays, and back. -/
import Derived.Test.YtlboglkgbhjpeaaSxG
import Derived.ProofKit
import Derived.Deep.Slices

namespace Go.Sx
open Go Go.RowKit

section
variable {H : Type} {enc : TypeId × Value → H} {P : Program}

theorem calls_row {f : FuncId} {vs : List VV} {xs : List Value} {W : World} {R : Rn} {h h' : VH} (hc : CallsV P f vs h (.ret (.bool true)) h') (em : Emb W.heap.size R h.at W) (hx : VRelL R vs xs) (hnl : ∀ n b, R.ow n (h.at n) ≠ some b) :
    Calls P f xs.toArray W fun e W' => e = .returned (.bool true) ∧ Below W.heap.size W W' := by
  refine (hc _ _ _ _ em hx).mono ?_
  rintro e w' ⟨R', n1, _, x, hv, rfl⟩
  simp only [VRel] at hv
  subst hv
  exact ⟨rfl, ⟨n1.os, n1.tape, n1.output, n1.size, fun k hk => n1.frame k hk (fun n hl => hnl n k hl)⟩⟩

theorem trodAll_stays (hl : laidOutB P = true) {W W' : World} (hB : Below W.heap.size W W') : ∀ {ts : List TypeId} {vs : List Value} {ds : List (DataW H)} {ps : List MemPlace},
    (ts.all fun t => P.readableRec t && decide (t < P.types.size)) = true → DataW.TrodAll enc P W 0 (fun _ => true) true ts vs ds ps → (∀ x ∈ ps, x.block < W.heap.size) →
    DataW.TrodAll enc P W' 0 (fun b => decide (b < W.heap.size)) true ts vs ds ps
  | [], [], [], _, _, h, _ => h
  | t :: ts, v :: vs, d :: ds, _, hr, ⟨p, q, h1, h2, rfl⟩, hlt => by
    simp only [List.all_cons, Bool.and_eq_true, decide_eq_true_eq] at hr
    exact ⟨p, q, Below.trod hl hr.1.1 hr.1.2 h1 hB (fun x hx => hlt x (List.mem_append_left _ hx)), trodAll_stays hl hB hr.2 h2 (fun x hx => hlt x (List.mem_append_right _ hx)), rfl⟩
  | [], _ :: _, _, _, _, h, _ => h.elim
  | [], [], _ :: _, _, _, h, _ => h.elim
  | _ :: _, [], _, _, _, h, _ => h.elim
  | _ :: _, _ :: _, [], _, _, h, _ => h.elim

theorem post_true {fn : Func} {s : ChangeSpec} {W W' : World} {args : Array Value} {ds gs : List (DataW H)} {before : List MemPlace} {tb : TypeId} (hl : laidOutB P = true)
    (hr : (fn.params.toList.all fun t => P.readableRec t && decide (t < P.types.size)) = true) (hrt : fn.resultTypes = #[tb]) (hb : P.underlying tb = some .bool) (hv : s.vars = [])
    (hW : DataW.Whole enc P fn.params.toList s.vars false W args.toList ds gs before) (hs : s.fn H (ds ++ gs) = { results := [.lit (.bool true)], args := ds }) (hB : Below W.heap.size W W') :
    s.post enc P fn false true false false W args (.bool true) W' := by
  have hW' := hW
  obtain ⟨p, q, h1, h2, rfl, hz, hn⟩ := hW
  rw [hv] at h2
  cases gs with
  | cons _ _ => exact h2.elim
  | nil =>
    simp only [DataW.TrodVars] at h2
    subst h2
    refine ⟨ds, [], p ++ [], [], p, [], hW', ?_, ?_, ?_, hB.frame _, fun h => by cases h⟩
    · rw [hs, hrt]
      exact ⟨[], [], ⟨1, by simp [DataW.trod, Value.cells, hb]⟩, rfl, rfl⟩
    · rw [hs]
      exact trodAll_stays hl hB hr h1 (fun x hx => hW'.lt x (List.mem_append_left _ hx))
    · rw [hs, hv]; rfl

variable {w : World} {base : Nat} {spare : Nat → Bool} {held : Bool}

/-- All of a world's cells, as data. -/
def Wfr (w : World) (b : Nat) : Option (List Value) := match w.heap[b]? with
  | some (.cells xs _ _) => some xs.toList
  | _ => none

theorem wfr_ok {w : World} {b : Nat} {xs : List Value} (h : Wfr w b = some xs) : b < w.heap.size ∧ ∀ k x, xs[k]? = some x → w.cell? ⟨b, k, none⟩ = some x := by
  unfold Wfr at h
  split at h
  · rename_i ys t z hb
    cases h
    exact ⟨(Array.getElem?_eq_some_iff.1 hb).1, fun k x hx => by simp [World.cell?, hb, ← Array.getElem?_toList, hx]⟩
  · cases h

theorem emb_args {W : World} {R : Rn} {η : Nat → VB} (hblk : ∀ n, R.blk n = none) (hvec : ∀ n L, R.vec n L = none) (hnl : ∀ n, (∃ s ok g, η n = .arr s ok g) ∨ η n = .gone ∨ η n = .free)
    (harr : ∀ n s ok g, η n = .arr s ok g → R.str n = s ∧ ∀ ix i, ok ix i → 0 ≤ i ∧ (R.arr n ix).block < W.heap.size ∧ (R.arr n ix).spot = none ∧
      ∃ xs, VRelL R.no (g ix i) xs ∧ xs.length = s ∧ ∀ k x, xs[k]? = some x → W.cell? ((R.arr n ix).add (i.toNat * s + k)) = some x) (hfz : ∀ b xs, R.frz b = some xs → b < W.heap.size ∧ ∀ (k : Nat) (x : Value), xs[k]? = some x → W.cell? ⟨b, k, none⟩ = some x := by intro _ _ h; cases h) : Emb W.heap.size R η W := by
  have how : ∀ n b, R.ow n (η n) ≠ some b := fun n b h => by
    rcases hnl n with ⟨s, ok, g, h1⟩ | h1 | h1 <;> rw [h1] at h <;> cases h
  have hno : ∀ n b, η n = b → (∀ s ok g, b ≠ .arr s ok g) → b ≠ .gone → b ≠ .free → False := fun n b h h1 h2 h3 => by
    rcases hnl n with ⟨s, ok, g, h4⟩ | h4 | h4
    · exact h1 _ _ _ (h.symm.trans h4)
    · exact h2 (h.symm.trans h4)
    · exact h3 (h.symm.trans h4)
  exact ⟨Nat.le_refl _, fun n cs t h => (hno n _ rfl (by intro s ok g e; rw [e] at h; simp at h) (by intro e; rw [e] at h; simp at h) (by intro e; rw [e] at h; simp at h)).elim, fun n m b h _ => (how n b h).elim, harr, fun n _ => hblk n, fun n st pd t m ps as bd h => (hno n _ h (by simp) (by simp) (by simp)).elim, fun n L g s t h => (hno n _ h (by simp) (by simp) (by simp)).elim, fun n _ L => hvec n L, fun n ks vk es h => (hno n _ h (by simp) (by simp) (by simp)).elim, fun b xs h => ⟨(hfz b xs h).1, fun n => how n b, (hfz b xs h).2⟩⟩

end
end Go.Sx
