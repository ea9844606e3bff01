/- Forgetting, and contracts on a part of the heap. -/
import Derived.Test.YtdfbhoejljidfaaSxBb

namespace Go.Sx
open Go

/-- The slots of the first list are those of the second. -/
def fitS : Slots → Slots → Prop
  | [], _ => True
  | (d, v) :: r, t => look t d = v ∧ fitS r t

def fitB : List (Nat × VB) → VH → Prop
  | [], _ => True
  | (n, b) :: r, h => h.at n = b ∧ fitB r h

def belB (k : Nat) : List (Nat × VB) → Bool
  | [] => true
  | (_, b) :: r => b.bel k && belB k r

theorem fitS_look {t : Slots} : ∀ {t2 : Slots}, fitS t2 t → ∀ d, look t2 d = .any ∨ look t2 d = look t d
  | [], _, d => .inl rfl
  | (m, v) :: r, h, d => by
    rw [look_cons]
    by_cases hm : m = d
    · subst hm; rw [if_pos rfl]; exact .inr h.1.symm
    · rw [if_neg hm]; exact fitS_look h.2 d

theorem fitB_look {h : VH} : ∀ {bs : List (Nat × VB)}, fitB bs h → ∀ n, lookB bs n = .gone ∨ lookB bs n = h.at n
  | [], _, n => .inl rfl
  | (m, b) :: r, hf, n => by
    simp only [lookB]
    by_cases hm : m = n
    · subst hm; rw [beq_t rfl]; exact .inr hf.1.symm
    · rw [beq_f hm]; exact fitB_look hf.2 n

theorem belB_look {k : Nat} : ∀ {bs : List (Nat × VB)}, belB k bs = true → ∀ n, (lookB bs n).bel k = true
  | [], _, n => rfl
  | (m, b) :: r, hf, n => by
    simp only [belB, Bool.and_eq_true] at hf
    simp only [lookB]
    by_cases hm : m = n
    · subst hm; rw [beq_t rfl]; exact hf.1
    · rw [beq_f hm]; exact belB_look hf.2 n

theorem weak_law {B : Nat} {η : Nat → VB} {R R' : Rn} {w w' : World} {h' : VH} {k : Nat} {bs : List (Nat × VB)} (hk : ∀ n, η n ≠ .free → n < k) (hf : fitB bs h') (hb : belB k bs = true)
    (e : Emb B R' h'.at w') (n1 : Nxt η R w h'.at R' w') : Emb B (R'.cut k) (VH.mk k bs).at w' ∧ Nxt η R w (VH.mk k bs).at (R'.cut k) w' ∧ Agree k R' (R'.cut k) := by
  have hat : ∀ n, n < k → (VH.mk k bs).at n = lookB bs n := fun n hn => by
    show (bif Nat.blt n k then lookB bs n else .free) = _
    rw [blt_t hn]; rfl
  have hfr : ∀ n, ¬ n < k → (VH.mk k bs).at n = .free := fun n hn => by
    show (bif Nat.blt n k then lookB bs n else .free) = _
    rw [blt_f hn]; rfl
  have hsame : ∀ n b, (VH.mk k bs).at n = b → b ≠ .gone → b ≠ .free → n < k ∧ h'.at n = b := by
    intro n b hn h1 h2
    by_cases hnk : n < k
    · rw [hat n hnk] at hn
      rcases fitB_look hf n with h3 | h3
      · rw [h3] at hn; exact (h1 hn.symm).elim
      · exact ⟨hnk, by rw [← h3]; exact hn⟩
    · rw [hfr n hnk] at hn; exact (h2 hn.symm).elim
  have hlive : ∀ n, ((VH.mk k bs).at n).live → n < k ∧ (h'.at n).live := by
    intro n hl
    obtain ⟨h1, h2⟩ := hsame n _ rfl (fun e => by rw [e] at hl; exact hl) (fun e => by rw [e] at hl; exact hl)
    exact ⟨h1, by rw [h2]; exact hl⟩
  have hag : Agree k R' (R'.cut k) := ⟨fun n hn => by simp [Rn.cut, hn], rfl, rfl⟩
  refine ⟨⟨e.base, fun n cs t hn => ?_, fun n m b hn hm h1 h2 => ?_, fun n s ok g hn => ?_, fun n hn => ?_, fun n st pd t m ps as bd hn => ?_⟩, ⟨fun n hn => ?_, fun n hn => ?_, fun n b hn hb => ?_, n1.arr, n1.str, fun n hn hl => ?_, n1.size, n1.frame, n1.os, n1.tape, n1.output⟩, hag⟩
  · obtain ⟨h1, h2⟩ := hsame n _ hn (by simp) (by simp)
    obtain ⟨b, xs, g1, g2, g3, g4⟩ := e.own n cs t h2
    refine ⟨b, xs, by simp [Rn.cut, h1, g1], g2, bel_L hag cs xs ?_ g3, g4⟩
    have := belB_look hb n
    rw [← hat n h1, hn] at this
    exact this
  · obtain ⟨a1, a2⟩ := hlive n hn
    obtain ⟨b1, b2⟩ := hlive m hm
    simp only [Rn.cut, a1, b1, if_true] at h1 h2
    exact e.inj n m b a2 b2 h1 h2
  · obtain ⟨h1, h2⟩ := hsame n _ hn (by simp) (by simp)
    exact e.arr n s ok g h2
  · by_cases hnk : n < k
    · rw [hat n hnk] at hn
      rcases fitB_look hf n with h3 | h3
      · rw [h3] at hn; cases hn
      · rw [h3] at hn; simp [Rn.cut, hnk, e.fresh n hn]
    · simp [Rn.cut, hnk]
  · obtain ⟨h1, h2⟩ := hsame n _ hn (by simp) (by simp)
    obtain ⟨b, r, g1, g2, g3, g4⟩ := e.lp n st pd t m ps as bd h2
    refine ⟨b, r, by simp [Rn.cut, h1, g1], g2, g3, g4.bel hag ?_⟩
    have := belB_look hb n
    rw [← hat n h1, hn] at this
    exact this
  · have hnk := hk n hn
    rw [hat n hnk]
    rcases fitB_look hf n with h3 | h3
    · rw [h3]; simp
    · rw [h3]; exact n1.keep n hn
  · simp only [Rn.cut, hk n hn, if_true]; exact n1.old n hn
  · simp only [Rn.cut] at hb
    split at hb
    · exact n1.new n b hn hb
    · cases hb
  · exact n1.live n hn (hlive n hl).2

section
variable {P : Program}

theorem sem_weak {pl : Bool} {c : Code} {n : Nat} {t t' t2 : Slots} {h h' : VH} {e : VEx} {k : Nat} {bs : List (Nat × VB)} (hs : SemC P pl c n t h e t' h') (hk : h.nx ≤ k) (hf : fitB bs h') (hb : belB k bs = true) (ht : fitS t2 t') (htb : belS k t2 = true)
    (he : ∀ v, e = .panic v → v.bel k = true) : SemC P pl c n t h e t2 ⟨k, bs⟩ := by
  intro F hF hp B ds R a w em tr hn hds
  refine wpIn_mono (hs F hF hp B ds R a w em tr hn hds) ?_
  rintro ex a' w' ⟨R', rs, n1, e1, t1, s1, d1, m1, q1, z1, x⟩
  obtain ⟨e2, n2, hag⟩ := weak_law (fun m hm => by
    rcases Nat.lt_or_ge m h.nx with h1 | h1
    · omega
    · exfalso; apply hm; show (bif Nat.blt m h.nx then lookB h.bs m else .free) = _; rw [blt_f (by omega)]; rfl) hf hb e1 n1
  refine ⟨R'.cut k, rs, n2, e2, fun d => ?_, s1, d1, ⟨m1.nodup, fun r hr => ⟨(m1.blk r hr).1, fun q hl hq => ?_⟩⟩, q1, z1, ?_⟩
  · rcases fitS_look ht d with h1 | h1
    · rw [h1]; trivial
    · have := look_bel htb d
      rw [h1] at this ⊢
      exact bel_V hag _ _ this (t1 d)
  · have hqk : q < k := by
      rcases Nat.lt_or_ge q k with h1 | h1
      · exact h1
      · exfalso
        have : (VH.mk k bs).at q = .free := by
          show (bif Nat.blt q k then lookB bs q else .free) = _
          rw [blt_f (by omega)]; rfl
        rw [this] at hl; exact hl
    have hl' : (h'.at q).live := by
      have h1 : (VH.mk k bs).at q = lookB bs q := by
        show (bif Nat.blt q k then lookB bs q else .free) = _
        rw [blt_t hqk]; rfl
      rw [h1] at hl
      rcases fitB_look hf q with h2 | h2
      · rw [h2] at hl; exact hl.elim
      · rw [h2] at hl; exact hl
    simp only [Rn.cut, hqk, if_true] at hq
    exact (m1.blk r hr).2 q hl' hq
  · cases e with
    | panic v => obtain ⟨y, hy, hx⟩ := x; exact ⟨y, bel_V hag v y (he v rfl) hy, hx⟩
    | _ => exact x

def VRes.bel (k : Nat) : VRes → Bool
  | .ret v => v.bel k
  | .panic v => v.bel k

theorem res_bel {k : Nat} {R R' : Rn} (h : Agree k R R') {r : VRes} (hb : r.bel k = true) {e : Ending} (hr : ResRel R r e) : ResRel R' r e := by
  cases r with
  | ret v => obtain ⟨x, hx, he⟩ := hr; exact ⟨x, bel_V h v x hb hx, he⟩
  | panic v => obtain ⟨x, hx, he⟩ := hr; exact ⟨x, bel_V h v x hb hx, he⟩

theorem calls_weak {f : FuncId} {args : List VV} {h h' : VH} {r : VRes} {k : Nat} {bs : List (Nat × VB)} (hs : CallsV P f args h r h') (hk : h.nx ≤ k) (hf : fitB bs h') (hb : belB k bs = true) (hr : r.bel k = true) : CallsV P f args h r ⟨k, bs⟩ := by
  intro B R w xs em hx
  refine (hs B R w xs em hx).mono ?_
  rintro e w' ⟨R', n1, e1, x⟩
  obtain ⟨e2, n2, hag⟩ := weak_law (fun m hm => by
    rcases Nat.lt_or_ge m h.nx with h1 | h1
    · omega
    · exfalso; apply hm; show (bif Nat.blt m h.nx then lookB h.bs m else .free) = _; rw [blt_f (by omega)]; rfl) hf hb e1 n1
  exact ⟨R'.cut k, n2, e2, res_bel hag hr x⟩

/-- A contract over a part of the heap is one over the whole. -/
theorem calls_lift {f : FuncId} {args : List VV} {hm hm' h : VH} {r : VRes} (hs : CallsV P f args hm r hm') (hat : ∀ n, n < hm.nx → h.at n = hm.at n) (hsame : ∀ n, n < hm.nx → hm'.at n = hm.at n)
    (hnf : ∀ n, n < hm.nx → hm.at n ≠ .free) (hb : ∀ n, n < hm.nx → (hm.at n).bel hm.nx = true) (ha : belL hm.nx args = true) (hr : r.bel hm.nx = true) : CallsV P f args h r h := by
  intro B R w xs em hx
  have hag : Agree hm.nx R (R.cut hm.nx) := ⟨fun n hn => by simp [Rn.cut, hn], rfl, rfl⟩
  have hfr : ∀ n, ¬ n < hm.nx → hm.at n = .free := fun n hn => by
    show (bif Nat.blt n hm.nx then lookB hm.bs n else .free) = _
    rw [blt_f hn]; rfl
  have hem : Emb B (R.cut hm.nx) hm.at w := by
    refine ⟨em.base, fun n cs t hn => ?_, fun n m b hn hm1 h1 h2 => ?_, fun n s ok g hn => ?_, fun n hn => ?_, fun n st pd t m ps as bd hn => ?_⟩
    · by_cases hnk : n < hm.nx
      · obtain ⟨b, ys, g1, g2, g3, g4⟩ := em.own n cs t (by rw [hat n hnk]; exact hn)
        refine ⟨b, ys, by simp [Rn.cut, hnk, g1], g2, bel_L hag cs ys ?_ g3, g4⟩
        have := hb n hnk
        rw [hn] at this
        exact this
      · rw [hfr n hnk] at hn; cases hn
    · have hl : ∀ q, (hm.at q).live → q < hm.nx := fun q hq => by
        by_cases hqk : q < hm.nx
        · exact hqk
        · rw [hfr q hqk] at hq; exact hq.elim
      have a1 := hl n hn
      have a2 := hl m hm1
      simp only [Rn.cut, a1, a2, if_true] at h1 h2
      exact em.inj n m b (by rw [hat n a1]; exact hn) (by rw [hat m a2]; exact hm1) h1 h2
    · by_cases hnk : n < hm.nx
      · exact em.arr n s ok g (by rw [hat n hnk]; exact hn)
      · rw [hfr n hnk] at hn; cases hn
    · by_cases hnk : n < hm.nx
      · exact (hnf n hnk hn).elim
      · simp [Rn.cut, hnk]
    · by_cases hnk : n < hm.nx
      · obtain ⟨b, r, g1, g2, g3, g4⟩ := em.lp n st pd t m ps as bd (by rw [hat n hnk]; exact hn)
        refine ⟨b, r, by simp [Rn.cut, hnk, g1], g2, g3, g4.bel hag ?_⟩
        have := hb n hnk
        rw [hn] at this
        exact this
      · rw [hfr n hnk] at hn; cases hn
  refine (hs B (R.cut hm.nx) w xs hem (bel_L hag args xs ha hx)).mono ?_
  rintro e w' ⟨R', n1, e1, x⟩
  have hblk : ∀ n, n < hm.nx → R'.blk n = R.blk n := fun n hn => by rw [n1.old n (hnf n hn)]; simp [Rn.cut, hn]
  have hag2 : Agree hm.nx R' R := ⟨fun n hn => (hblk n hn).symm, n1.arr.symm, n1.str.symm⟩
  have hframe : ∀ b, b < w.heap.size → (∀ n, n < hm.nx → (hm.at n).live → R.blk n ≠ some b) → w'.heap[b]? = w.heap[b]? := by
    intro b hb1 hn
    refine n1.frame b hb1 (fun n hl hbn => ?_)
    by_cases hnk : n < hm.nx
    · simp only [Rn.cut, hnk, if_true] at hbn
      exact hn n hnk hl hbn
    · rw [hfr n hnk] at hl; exact hl
  have hEmb : Emb B R h.at w' := by
    refine ⟨Nat.le_trans em.base n1.size, fun n cs t hn => ?_, em.inj, fun n s ok g hn => ?_, em.fresh, fun n st pd t q ps as bd hn => ?_⟩
    · by_cases hnk : n < hm.nx
      · rw [hat n hnk] at hn
        obtain ⟨b, ys, g1, g2, g3, g4⟩ := e1.own n cs t (by rw [hsame n hnk]; exact hn)
        refine ⟨b, ys, by rw [← hblk n hnk]; exact g1, g2, bel_L hag2 cs ys ?_ g3, g4⟩
        have := hb n hnk
        rw [hn] at this
        exact this
      · obtain ⟨b, ys, g1, g2, g3, g4⟩ := em.own n cs t hn
        refine ⟨b, ys, g1, g2, g3, ?_⟩
        rw [hframe b (em.lt (by rw [hn]; trivial) g1) (fun m hm1 hl hbm => ?_)]
        · exact g4
        · have := em.inj n m b (by rw [hn]; trivial) (by rw [hat m hm1]; exact hl) g1 hbm
          omega
    · obtain ⟨g1, g2⟩ := em.arr n s ok g hn
      refine ⟨g1, fun ix i hi => ?_⟩
      obtain ⟨g3, g4, g5, ys, g6, g7, g8⟩ := g2 ix i hi
      refine ⟨g3, g4, g5, ys, g6, g7, fun q y hq => ?_⟩
      have hblk2 : ((R.arr n ix).add (i.toNat * s + q)).block = (R.arr n ix).block := by unfold Addr.add; split <;> rfl
      rw [cell_same (w := w)]
      · exact g8 q y hq
      · rw [hblk2]
        refine hframe _ (Nat.lt_of_lt_of_le g4 em.base) (fun m hm1 hl hbm => ?_)
        cases hc : hm.at m with
        | cells cs t =>
          obtain ⟨b, zs, q1, q2, _, _⟩ := em.own m cs t (by rw [hat m hm1]; exact hc)
          rw [hbm] at q1; cases q1; omega
        | loop st pd t q ps as bd =>
          obtain ⟨b, r, q1, q2, _, _⟩ := em.lp m st pd t q ps as bd (by rw [hat m hm1]; exact hc)
          rw [hbm] at q1; cases q1; omega
        | _ => rw [hc] at hl; exact hl
    · by_cases hnk : n < hm.nx
      · rw [hat n hnk] at hn
        obtain ⟨b, r, g1, g2, g3, g4⟩ := e1.lp n st pd t q ps as bd (by rw [hsame n hnk]; exact hn)
        refine ⟨b, r, by rw [← hblk n hnk]; exact g1, g2, g3, g4.bel hag2 ?_⟩
        have := hb n hnk
        rw [hn] at this
        exact this
      · obtain ⟨b, r, g1, g2, g3, g4⟩ := em.lp n st pd t q ps as bd hn
        refine ⟨b, r, g1, g2, ?_, g4⟩
        rw [hframe b (em.lt (by rw [hn]; trivial) g1) (fun m hm1 hl hbm => ?_)]
        · exact g3
        · have := em.inj n m b (by rw [hn]; trivial) (by rw [hat m hm1]; exact hl) g1 hbm
          omega
  refine ⟨R, ⟨fun _ hn => hn, fun _ _ => rfl, (fun n b hn hbn => by rw [em.fresh n hn] at hbn; cases hbn), rfl, rfl, fun _ _ hl => hl, n1.size, fun b hb1 hn => hframe b hb1 (fun m hm1 hl => hn m (by rw [hat m hm1]; exact hl)), n1.os, n1.tape, n1.output⟩, hEmb, res_bel hag2 hr x⟩

/-- A function of values alone. -/
theorem calls_lift0 {f : FuncId} {args : List VV} {hm' h : VH} {r : VRes} (hs : CallsV P f args ⟨0, []⟩ r hm') (ha : belL 0 args = true) (hr : r.bel 0 = true) : CallsV P f args h r h :=
  calls_lift hs (fun n hn => by simp at hn) (fun n hn => by simp at hn) (fun n hn => by simp at hn) (fun n hn => by simp at hn) ha hr
end
end Go.Sx
