/- Arguments of numbers, and slices of them. -/
import Derived.Test.YtlboglkgbhjpeaaSxR

namespace Go.Sx
open Go Go.RowKit

section
variable {H : Type} {enc : TypeId × Value → H} {P : Program} {w : World} {base : Nat} {spare : Nat → Bool} {held : Bool}

def isStrB (P : Program) (t : TypeId) : Bool := match P.underlying t with
  | some (.struct _) => true
  | _ => false

theorem isStr_of {t : TypeId} (h : isStrB P t = true) : ∃ fs, P.underlying t = some (.struct fs) := by
  unfold isStrB at h
  split at h
  · rename_i fs hf; exact ⟨fs, hf⟩
  · cases h

theorem okWide_agg {r : Go.Reach} {b0 : Nat} {t : TypeId} {fs : Array Field} {v : Value} (ht : P.underlying t = some (.struct fs)) (h : Value.okWide P w r b0 t v) : ∃ cs, v = .agg cs := by
  unfold Value.okWide at h
  rw [ht] at h
  obtain ⟨cs, h1, _⟩ := h
  exact ⟨cs, h1⟩

theorem ints_of {us : List TypeId} {cs : List Value} (hl : cs.length = us.length) (hg : ∀ (i : Nat) u, us[i]? = some u → ∃ m v, ∃ y : DataW H × List MemPlace, cs[i]? = some v ∧ DataW.trod enc P w base spare held m u [v] = some y)
    (hi : ∀ u ∈ us, P.underlying u = some (.int .i64)) : ∃ ns : List Int, ns.length = us.length ∧ cs = ns.map (Value.int .i64) ∧ ∀ n ∈ ns, -9223372036854775808 ≤ n ∧ n ≤ 9223372036854775807 := by
  induction us generalizing cs with
  | nil =>
    have : cs = [] := by simpa using hl
    subst this
    exact ⟨[], rfl, rfl, by simp⟩
  | cons u us ih =>
    cases cs with
    | nil => simp at hl
    | cons c cs =>
      obtain ⟨m, v, y, h1, h2⟩ := hg 0 u (by simp)
      simp at h1
      subst h1
      obtain ⟨n, rfl, hw⟩ := leaf_int (hi u (by simp)) h2
      obtain ⟨ns, h3, h4, h5⟩ := ih (by simpa using hl) (fun i u hu => by
        obtain ⟨m, v, y, h6, h7⟩ := hg (i + 1) u (by simpa using hu)
        exact ⟨m, v, y, by simpa using h6, h7⟩) (fun u hu => hi u (by simp [hu]))
      refine ⟨n :: ns, by simp [h3], by simp [h4], fun x hx => ?_⟩
      rcases List.mem_cons.1 hx with rfl | hx
      · exact i64_range hw
      · exact h5 x hx

/-- A struct of numbers. -/
theorem open_nums {r : Go.Reach} {b0 : Nat} {t : TypeId} {v : Value} {d : DataW H} {ps : List MemPlace} {us : List TypeId} {k : Nat} (hst : isStrB P t = true) (hus : leavesT P k t = some us) (hi : ∀ u ∈ us, P.underlying u = some (.int .i64))
    (hval : Value.okWide P w r b0 t v) (hd : DataW.Trod enc P w base spare held t v d ps) : ∃ ns : List Int, ns.length = us.length ∧ v = .agg (ns.map (Value.int .i64)).toArray ∧ ∀ n ∈ ns, -9223372036854775808 ≤ n ∧ n ≤ 9223372036854775807 := by
  obtain ⟨fs, ht⟩ := isStr_of hst
  obtain ⟨cs, rfl⟩ := okWide_agg ht hval
  obtain ⟨fuel, hf⟩ := hd
  obtain ⟨hl, hg⟩ := leaves_trod _ _ _ hus _ _ _ hf
  obtain ⟨ns, h1, h2, h3⟩ := ints_of hl hg hi
  refine ⟨ns, h1, ?_, h3⟩
  congr 1
  apply Array.ext'
  simpa [Value.cells] using h2

theorem vrel_nums {R : Rn} : ∀ ns : List Int, VRelL R (ns.map fun n => VV.int .i64 n) (ns.map (Value.int .i64))
  | [] => rfl
  | _ :: ns => ⟨_, _, rfl, vrel_nums ns, rfl⟩

/-- A slice of structs of numbers. -/
theorem open_rows {r : Go.Reach} {b0 : Nat} {t e : TypeId} {us : List TypeId} {k : Nat} {v : Value} {d : DataW H} {ps : List MemPlace} {ki : IntKind} (ht : P.underlying t = some (.slice e)) (hus : leavesT P k e = some us) (hsz : P.cellsOf e = us.length) (hpos : 0 < us.length) (hi : ∀ u ∈ us, P.underlying u = some (.int ki))
    (hval : Value.okWide P w r b0 t v) (hd : DataW.Trod enc P w base spare held t v d ps) :
    v = .slice none 0 0 ∨ ∃ a len cap, v = .slice (some a) len cap ∧ len ≤ cap ∧ cap ≤ maxLen ∧ (0 < len → a.block < w.heap.size ∧ a.spot = none) ∧
      ∀ i, i < len → ∀ k, k < us.length → w.cell? (a.add (i * us.length + k)) = some (.int ki (rdI w (a.add (i * us.length + k)))) ∧ (Lit.int ki (rdI w (a.add (i * us.length + k)))).wf = true := by
  obtain ⟨a0, l0, c0, rfl⟩ := Go.WideShapes.okWide_slice ht hval
  obtain ⟨fuel, hf⟩ := hd
  rcases leaf_slice ht hus hsz (v := .slice a0 l0 c0) (by simpa [Value.cells] using hf) with h | ⟨a, len, cap, h, hl, hm, hg⟩
  · exact .inl h
  · right
    have hc : ∀ i, i < len → ∀ k, k < us.length → w.cell? (a.add (i * us.length + k)) = some (.int ki (rdI w (a.add (i * us.length + k)))) ∧ (Lit.int ki (rdI w (a.add (i * us.length + k)))).wf = true := by
      intro i hi' k hk
      obtain ⟨m, v, y, h1, h2⟩ := hg i hi' k us[k] (List.getElem?_eq_getElem hk)
      obtain ⟨n, rfl, hw⟩ := leaf_int (hi _ (List.getElem_mem hk)) h2
      rw [rdI_of h1]
      exact ⟨h1, hw⟩
    refine ⟨a, len, cap, h, hl, hm, fun h0 => ?_, hc⟩
    have := (hc 0 h0 0 hpos).1
    rw [show (0 * us.length + 0) = 0 from by simp, show a.add 0 = a from by simp [Addr.add]] at this
    exact ⟨cell_block this, cell_spot this⟩

/-- One read-only array. -/
def oneR (a : Addr) (s : Nat) : Rn := ⟨fun _ => none, fun _ _ => a, fun _ => s, fun _ _ => none, fun _ => none⟩

theorem emb_one {a : Addr} {s : Nat} {ok : List Int → Int → Prop} {g : List Int → Int → List VV}
    (h : ∀ ix i, ok ix i → 0 ≤ i ∧ a.block < w.heap.size ∧ a.spot = none ∧ ∃ xs, VRelL (oneR a s).no (g ix i) xs ∧ xs.length = s ∧ ∀ k x, xs[k]? = some x → w.cell? (a.add (i.toNat * s + k)) = some x) :
    Emb w.heap.size (oneR a s) (VH.mk 1 [(0, .arr s ok g)]).at w := by
  have hat : ∀ n, (VH.mk 1 [(0, .arr s ok g)]).at n = .arr s ok g ∨ (VH.mk 1 [(0, .arr s ok g)]).at n = .free := by
    intro n
    by_cases hn : n < 1
    · have : n = 0 := by omega
      subst this
      exact .inl rfl
    · exact .inr (at_ge hn)
  refine emb_args (fun _ => rfl) (fun _ _ => rfl) (fun n => ?_) (fun n s' ok' g' hn => ?_)
  · exact (hat n).elim (fun h => .inl ⟨_, _, _, h⟩) (fun h => .inr (.inr h))
  · rcases hat n with h1 | h1
    · rw [h1] at hn
      cases hn
      exact ⟨rfl, h⟩
    · rw [h1] at hn; cases hn

theorem one_not_live {R : Rn} {s : Nat} {ok : List Int → Int → Prop} {g : List Int → Int → List VV} (n b : Nat) : R.ow n ((VH.mk 1 [(0, .arr s ok g)]).at n) ≠ some b := by
  intro hl
  by_cases hn : n < 1
  · have : n = 0 := by omega
    subst this
    cases hl
  · rw [at_ge hn] at hl; cases hl

theorem emb_none {W : World} {R : Rn} (hR : ∀ n, R.blk n = none) (hv : ∀ n L, R.vec n L = none) (hfz : ∀ b xs, R.frz b = some xs → b < W.heap.size ∧ ∀ (k : Nat) (x : Value), xs[k]? = some x → W.cell? ⟨b, k, none⟩ = some x := by intro _ _ h; cases h) : Emb W.heap.size R (VH.mk 0 []).at W :=
  emb_args hR hv (fun n => .inr (.inr (at_ge (by omega)))) (fun n s ok g hn => by rw [at_ge (by omega)] at hn; cases hn) hfz

theorem none_not_live {R : Rn} (n b : Nat) : R.ow n ((VH.mk 0 []).at n) ≠ some b := fun hl => by rw [at_ge (by omega)] at hl; cases hl

/-- What a read-only array has to hold. -/
def ArrOk (w : World) (R : Rn) (a : Addr) (s : Nat) (ok : List Int → Int → Prop) (g : List Int → Int → List VV) : Prop :=
  ∀ ix i, ok ix i → 0 ≤ i ∧ a.block < w.heap.size ∧ a.spot = none ∧ ∃ xs, VRelL R.no (g ix i) xs ∧ xs.length = s ∧ ∀ k x, xs[k]? = some x → w.cell? (a.add (i.toNat * s + k)) = some x

theorem arrOk_none {R : Rn} {a : Addr} {s : Nat} {g : List Int → Int → List VV} : ArrOk w R a s (fun _ _ => False) g := fun _ _ h => h.elim

/-- Two read-only arrays. -/
def twoR (a b : Addr) (s r : Nat) : Rn := ⟨fun _ => none, fun n _ => bif Nat.beq n 0 then a else b, fun n => bif Nat.beq n 0 then s else r, fun _ _ => none, fun _ => none⟩

theorem two_at {s r : Nat} {ok ok1 : List Int → Int → Prop} {g g1 : List Int → Int → List VV} (n : Nat) :
    (n = 0 ∧ (VH.mk 2 [(0, .arr s ok g), (1, .arr r ok1 g1)]).at n = .arr s ok g) ∨ (n = 1 ∧ (VH.mk 2 [(0, .arr s ok g), (1, .arr r ok1 g1)]).at n = .arr r ok1 g1) ∨ (VH.mk 2 [(0, .arr s ok g), (1, .arr r ok1 g1)]).at n = .free := by
  by_cases hn : n < 2
  · have : n = 0 ∨ n = 1 := by omega
    rcases this with rfl | rfl
    · exact .inl ⟨rfl, rfl⟩
    · exact .inr (.inl ⟨rfl, rfl⟩)
  · exact .inr (.inr (at_ge hn))

theorem emb_two {a b : Addr} {s r : Nat} {ok ok1 : List Int → Int → Prop} {g g1 : List Int → Int → List VV} (h : ArrOk w (twoR a b s r) a s ok g) (h1 : ArrOk w (twoR a b s r) b r ok1 g1) :
    Emb w.heap.size (twoR a b s r) (VH.mk 2 [(0, .arr s ok g), (1, .arr r ok1 g1)]).at w := by
  refine emb_args (fun _ => rfl) (fun _ _ => rfl) (fun n => ?_) (fun n s' ok' g' hn => ?_)
  · rcases two_at (s := s) (r := r) (ok := ok) (ok1 := ok1) (g := g) (g1 := g1) n with ⟨_, h2⟩ | ⟨_, h2⟩ | h2
    · exact .inl ⟨_, _, _, h2⟩
    · exact .inl ⟨_, _, _, h2⟩
    · exact .inr (.inr h2)
  · rcases two_at (s := s) (r := r) (ok := ok) (ok1 := ok1) (g := g) (g1 := g1) n with ⟨rfl, h2⟩ | ⟨rfl, h2⟩ | h2
    · rw [h2] at hn
      cases hn
      exact ⟨rfl, h⟩
    · rw [h2] at hn
      cases hn
      exact ⟨rfl, h1⟩
    · rw [h2] at hn; cases hn

theorem two_not_live {R : Rn} {s r : Nat} {ok ok1 : List Int → Int → Prop} {g g1 : List Int → Int → List VV} (n b : Nat) : R.ow n ((VH.mk 2 [(0, .arr s ok g), (1, .arr r ok1 g1)]).at n) ≠ some b := by
  intro hl
  rcases two_at (s := s) (r := r) (ok := ok) (ok1 := ok1) (g := g) (g1 := g1) n with ⟨_, h2⟩ | ⟨_, h2⟩ | h2 <;> rw [h2] at hl <;> cases hl

def noR : Rn := ⟨fun _ => none, fun _ _ => ⟨0, 0, none⟩, fun _ => 0, fun _ _ => none, fun _ => none⟩
end
end Go.Sx
