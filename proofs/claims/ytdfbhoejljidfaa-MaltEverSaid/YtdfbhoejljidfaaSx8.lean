/- An operation that is run on a part of the heap. -/
import Derived.Test.YtdfbhoejljidfaaSx7

namespace Go.Sx
open Go

def memN : List Nat → Nat → Bool
  | [], _ => false
  | m :: r, n => Nat.beq m n || memN r n

theorem memN_iff {l : List Nat} {n : Nat} : memN l n = true ↔ n ∈ l := by
  induction l with
  | nil => simp [memN]
  | cons m r ih =>
    simp only [memN, Bool.or_eq_true, ih, List.mem_cons]
    constructor
    · rintro (h | h)
      · exact .inl (Nat.eq_of_beq_eq_true h).symm
      · exact .inr h
    · rintro (h | h)
      · exact .inl (beq_t h.symm)
      · exact .inr h

/-- The blocks that are named. -/
def maskL (h : VH) : List Nat → List (Nat × VB)
  | [] => []
  | n :: r => (n, h.at n) :: maskL h r

def maskH (fp : List Nat) (h : VH) : VH := ⟨h.nx, maskL h fp⟩

theorem lookB_mask (h : VH) (n : Nat) : ∀ fp : List Nat, lookB (maskL h fp) n = if n ∈ fp then h.at n else .gone
  | [] => by simp [maskL, lookB]
  | m :: r => by
    simp only [maskL, lookB]
    by_cases hm : m = n
    · subst hm; rw [beq_t rfl]; simp
    · rw [beq_f hm, cond_false, lookB_mask h n r]
      have : n ≠ m := fun e => hm e.symm
      simp [this]

theorem mask_at {fp : List Nat} {h : VH} {n : Nat} (hn : n < h.nx) : (maskH fp h).at n = if n ∈ fp then h.at n else .gone := by
  show (bif Nat.blt n h.nx then lookB (maskL h fp) n else .free) = _
  rw [blt_t hn, cond_true]
  exact lookB_mask h n fp

theorem mask_free {fp : List Nat} {h : VH} {n : Nat} (hn : ¬ n < h.nx) : (maskH fp h).at n = .free := by
  unfold VH.at maskH
  simp only [blt_f hn, cond_false]

def Rn.cut (R : Rn) (k : Nat) : Rn := ⟨fun n => if n < k then R.blk n else none, R.arr, R.str⟩

mutual
theorem bel_up {k k' : Nat} (h : k ≤ k') : ∀ v : VV, v.bel k = true → v.bel k' = true
  | .bool _, _ => rfl
  | .int _ _, _ => rfl
  | .nilp, _ => rfl
  | .ptr (.own _ _), hb => blt_t (Nat.lt_of_lt_of_le (ltb hb) h)
  | .ptr (.el _ _ _ _), _ => rfl
  | .nils, _ => rfl
  | .slice (.own _ _) _ _, hb => blt_t (Nat.lt_of_lt_of_le (ltb hb) h)
  | .slice (.el _ _ _ _) _ _, _ => rfl
  | .func _ a b, hb => by
    simp only [VV.bel, Bool.and_eq_true] at hb ⊢
    exact ⟨belL_up h a hb.1, belL_up h b hb.2⟩
  | .nilf, _ => rfl
  | .iface _ v, hb => bel_up h v hb
  | .niff, _ => rfl
  | .agg cs, hb => belL_up h cs hb
  | .tup vs, hb => belL_up h vs hb
  | .opq _, _ => rfl
  | .any, _ => rfl
  | .yld _, hb => blt_t (Nat.lt_of_lt_of_le (ltb hb) h)
theorem belL_up {k k' : Nat} (h : k ≤ k') : ∀ l : List VV, belL k l = true → belL k' l = true
  | [], _ => rfl
  | c :: cs, hb => by
    simp only [belL, Bool.and_eq_true] at hb ⊢
    exact ⟨bel_up h c hb.1, belL_up h cs hb.2⟩
end

theorem belS_up {k k' : Nat} (h : k ≤ k') : ∀ t : Slots, belS k t = true → belS k' t = true
  | [], _ => rfl
  | (d, v) :: r, hb => by
    simp only [belS, Bool.and_eq_true] at hb ⊢
    exact ⟨bel_up h v hb.1, belS_up h r hb.2⟩

theorem VB.bel_up {k k' : Nat} (h : k ≤ k') {b : VB} (hb : b.bel k = true) : b.bel k' = true := by
  cases b with
  | cells cs t => exact belL_up h cs hb
  | loop st pd t m ps as bd => exact belS_up h t hb
  | _ => rfl

section

theorem cell_same {w w' : World} {p : Addr} (h : w'.heap[p.block]? = w.heap[p.block]?) : w'.cell? p = w.cell? p := by
  unfold World.cell?
  rw [h]

/-- The general law of one operation on a part of the heap: 'po' is what it writes; 'nw': it makes one block that is kept. -/
theorem mask_law {h h1 : VH} {fp : List Nat} {po : List (Nat × VB)} {nw : Bool} {v : VV}
    (hfp : ∀ n ∈ fp, n < h.nx) (hnf : ∀ n ∈ fp, h.at n ≠ .free)
    (hpo : ∀ p ∈ po, (p.1 ∈ fp ∧ p.2 = h1.at p.1) ∨ (nw = true ∧ p.1 = h.nx ∧ p.2 = h1.at h.nx))
    (hpl : ∀ p ∈ po, p.2.live) (hpb : ∀ p ∈ po, p.2.bel (if nw then h.nx + 1 else h.nx) = true)
    (hkeep : ∀ n ∈ fp, (∀ p ∈ po, p.1 ≠ n) → h1.at n = h.at n) (hkb : ∀ n ∈ fp, (h.at n).bel h.nx = true)
    (hv : v.bel (if nw then h.nx + 1 else h.nx) = true)
    {B : Nat} {R R0' : Rn} {w w' : World} {η : Nat → VB} {x : Value} (he : Emb B R η w) (hη : ∀ n ∈ fp, η n = h.at n) (hηn : nw = true → η h.nx = .free)
    (hnew : nw = true → ∃ p ∈ po, p.1 = h.nx)
    (n1 : Nxt (maskH fp h).at (R.cut h.nx) w h1.at R0' w') (e1 : Emb B R0' h1.at w') (hx : VRel R0' v x) :
    ∃ R', Nxt η R w (ov po η) R' w' ∧ Emb B R' (ov po η) w' ∧ VRel R' v x := by
  let R' : Rn := ⟨fun m => if nw = true ∧ m = h.nx then R0'.blk m else R.blk m, R.arr, R.str⟩
  have hmask : ∀ m, m < h.nx → (maskH fp h).at m ≠ .free := by
    intro m hm
    rw [mask_at hm]
    by_cases hmf : m ∈ fp
    · rw [if_pos hmf]; exact hnf m hmf
    · rw [if_neg hmf]; simp
  have hblk0 : ∀ m, m < h.nx → R0'.blk m = R.blk m := by
    intro m hm
    rw [n1.old m (hmask m hm)]
    simp [Rn.cut, hm]
  have hfr : nw = true → R.blk h.nx = none := fun hw => he.fresh _ (hηn hw)
  have hpe : ∀ (n : Nat), (∃ p ∈ po, p.1 = n) → ov po η n = h1.at n := by
    intro n hn
    have key : ∀ (po : List (Nat × VB)), (∀ p ∈ po, p.2 = h1.at p.1) → (∃ p ∈ po, p.1 = n) → ov po η n = h1.at n := by
      intro po
      induction po with
      | nil => intro _ ⟨p, hp, _⟩; cases hp
      | cons q po ih =>
        intro hq ⟨p, hp, hpn⟩
        obtain ⟨m, b⟩ := q
        simp only [ov, upd]
        by_cases hm : n = m
        · subst hm; simpa using hq (n, b) (by simp)
        · rw [if_neg hm]
          rcases List.mem_cons.1 hp with rfl | hp
          · exact (hm hpn.symm).elim
          · exact ih (fun p hp => hq p (by simp [hp])) ⟨p, hp, hpn⟩
    refine key po (fun p hp => ?_) hn
    rcases hpo p hp with ⟨_, h2⟩ | ⟨_, h2, h3⟩
    · exact h2
    · rw [h3, h2]
  have hag : Agree (if nw then h.nx + 1 else h.nx) R0' R' := by
    refine ⟨fun n hn => ?_, by rw [n1.arr]; rfl, by rw [n1.str]; rfl⟩
    show (if nw = true ∧ n = h.nx then R0'.blk n else R.blk n) = R0'.blk n
    by_cases hc : nw = true ∧ n = h.nx
    · rw [if_pos hc]
    · rw [if_neg hc]
      refine (hblk0 n ?_).symm
      cases nw
      · simpa using hn
      · simp only [if_true] at hn
        have : n ≠ h.nx := fun e => hc ⟨rfl, e⟩
        omega
  have hle : R.le R' := by
    refine ⟨fun n b hb => ?_, rfl, rfl⟩
    show (if nw = true ∧ n = h.nx then R0'.blk n else R.blk n) = some b
    by_cases hc : nw = true ∧ n = h.nx
    · exfalso
      rw [hc.2, hfr hc.1] at hb
      cases hb
    · rw [if_neg hc]; exact hb
  have hframe : ∀ (m b : Nat), m ∉ fp → (η m).live → R.blk m = some b → w'.heap[b]? = w.heap[b]? := by
    intro m b hm hl hb
    refine n1.frame b (he.lt hl hb) (fun n hn hbn => ?_)
    by_cases hnx : n < h.nx
    · rw [mask_at hnx] at hn
      by_cases hnf' : n ∈ fp
      · rw [if_pos hnf', ← hη n hnf'] at hn
        simp only [Rn.cut, hnx, if_true] at hbn
        have := he.inj m n b hl hn hb hbn
        exact hm (this ▸ hnf')
      · rw [if_neg hnf'] at hn; exact hn
    · rw [mask_free hnx] at hn; exact hn
  have hfp_or : ∀ m, (m ∈ fp ∧ ov po η m = h1.at m) ∨ (nw = true ∧ m = h.nx ∧ ov po η m = h1.at m) ∨ (m ∉ fp ∧ (∀ p ∈ po, p.1 ≠ m) ∧ ov po η m = η m) := by
    intro m
    by_cases hin : ∃ p ∈ po, p.1 = m
    · have h2 := hpe m hin
      obtain ⟨p, hp, rfl⟩ := hin
      rcases hpo p hp with ⟨h3, _⟩ | ⟨h3, h4, _⟩
      · exact .inl ⟨h3, h2⟩
      · exact .inr (.inl ⟨h3, h4, h2⟩)
    · have hout : ∀ p ∈ po, p.1 ≠ m := fun p hp e => hin ⟨p, hp, e⟩
      by_cases hmf : m ∈ fp
      · left
        refine ⟨hmf, ?_⟩
        rw [ov_out hout, hη m hmf, hkeep m hmf hout]
      · exact .inr (.inr ⟨hmf, hout, ov_out hout⟩)
  have hbelow : ∀ m ∈ fp, (h1.at m).bel (if nw then h.nx + 1 else h.nx) = true := by
    intro m hm
    by_cases hin : ∃ p ∈ po, p.1 = m
    · obtain ⟨p, hp, rfl⟩ := hin
      have h2 := hpb p hp
      rcases hpo p hp with ⟨_, h4⟩ | ⟨_, h4, h5⟩
      · rw [h4] at h2; exact h2
      · have := hfp _ hm; omega
    · rw [hkeep m hm (fun p hp e => hin ⟨p, hp, e⟩)]
      exact VB.bel_up (by cases nw <;> simp) (hkb m hm)
  have hrelIn : ∀ (m : Nat) (cs : List VV) (t : TypeId), m ∈ fp → h1.at m = .cells cs t → ∃ b xs, R'.blk m = some b ∧ B ≤ b ∧ VRelL R' cs xs ∧ w'.heap[b]? = some (.cells xs.toArray t (0, 0)) := by
    intro m cs t hm hc
    obtain ⟨b, xs, g1, g2, g3, g4⟩ := e1.own m cs t hc
    have hmx := hfp m hm
    refine ⟨b, xs, ?_, g2, ?_, g4⟩
    · show (if nw = true ∧ m = h.nx then R0'.blk m else R.blk m) = some b
      rw [if_neg (by omega), ← hblk0 m hmx]; exact g1
    · refine bel_L hag cs xs ?_ g3
      have := hbelow m hm
      rw [hc] at this; exact this
  have hnewb : nw = true → (h1.at h.nx).bel (if nw then h.nx + 1 else h.nx) = true := by
    intro h2
    obtain ⟨p, hp, hpn⟩ := hnew h2
    have h5 := hpb p hp
    rcases hpo p hp with ⟨h6, _⟩ | ⟨_, _, h6⟩
    · have := hfp _ h6; omega
    · rw [h6] at h5; exact h5
  have hNxtnew : ∀ b, nw = true → R0'.blk h.nx = some b → w.heap.size ≤ b := fun b _ hb => n1.new h.nx b (mask_free (by omega)) hb
  refine ⟨R', ⟨?_, ?_, ?_, rfl, rfl, ?_, n1.size, ?_, n1.os, n1.tape, n1.output⟩, ⟨?_, ?_, ?_, ?_, ?_, ?_⟩, bel_V hag v x hv hx⟩
  · intro n hn
    by_cases hin : ∃ p ∈ po, p.1 = n
    · have h2 := hpe n hin
      obtain ⟨p, hp, rfl⟩ := hin
      rw [h2]
      have h3 := hpl p hp
      rcases hpo p hp with ⟨_, h4⟩ | ⟨_, h4, h5⟩
      · rw [h4] at h3; exact VB.live_not_free h3
      · rw [h5] at h3; rw [h4]; exact VB.live_not_free h3
    · rw [ov_out (fun p hp e => hin ⟨p, hp, e⟩)]; exact hn
  · intro n hn
    show (if nw = true ∧ n = h.nx then R0'.blk n else R.blk n) = R.blk n
    rw [if_neg]
    rintro ⟨h2, h3⟩
    rw [h3] at hn
    exact hn (hηn h2)
  · intro n b hn hb
    have hb : (if nw = true ∧ n = h.nx then R0'.blk n else R.blk n) = some b := hb
    by_cases hc : nw = true ∧ n = h.nx
    · rw [if_pos hc, hc.2] at hb
      exact hNxtnew b hc.1 hb
    · rw [if_neg hc, he.fresh n hn] at hb; cases hb
  · intro n hn hl
    rcases hfp_or n with ⟨h2, h3⟩ | ⟨h2, h3, _⟩ | ⟨_, _, h3⟩
    · rw [h3] at hl
      have h4 := n1.live n (hmask n (hfp n h2)) hl
      rw [mask_at (hfp n h2), if_pos h2, ← hη n h2] at h4
      exact h4
    · rw [h3] at hn; exact (hn (hηn h2)).elim
    · rw [h3] at hl; exact hl
  · intro b hb hn
    refine n1.frame b hb (fun n hl hbn => ?_)
    by_cases hnx : n < h.nx
    · rw [mask_at hnx] at hl
      by_cases hnf' : n ∈ fp
      · rw [if_pos hnf', ← hη n hnf'] at hl
        simp only [Rn.cut, hnx, if_true] at hbn
        exact hn n hl hbn
      · rw [if_neg hnf'] at hl; exact hl
    · rw [mask_free hnx] at hl; exact hl
  · exact Nat.le_trans he.base n1.size
  · intro m cs t hm
    rcases hfp_or m with ⟨h2, h3⟩ | ⟨h2, h3, h4⟩ | ⟨h2, h3, h4⟩
    · rw [h3] at hm; exact hrelIn m cs t h2 hm
    · rw [h4] at hm
      obtain ⟨b, xs, g1, g2, g3, g4⟩ := e1.own m cs t hm
      refine ⟨b, xs, ?_, g2, ?_, g4⟩
      · show (if nw = true ∧ m = h.nx then R0'.blk m else R.blk m) = some b
        rw [if_pos ⟨h2, h3⟩]; exact g1
      · refine bel_L hag cs xs ?_ g3
        have h5 := hnewb h2
        rw [← h3, hm] at h5
        rw [← h3]
        exact h5
    · rw [h4] at hm
      obtain ⟨b, xs, g1, g2, g3, g4⟩ := he.own m cs t hm
      refine ⟨b, xs, hle.1 m b g1, g2, g3.mono hle, ?_⟩
      rw [hframe m b h2 (by rw [hm]; trivial) g1]; exact g4
  · intro n m b hn hm hbn hbm
    have hbn : (if nw = true ∧ n = h.nx then R0'.blk n else R.blk n) = some b := hbn
    have hbm : (if nw = true ∧ m = h.nx then R0'.blk m else R.blk m) = some b := hbm
    have hold : ∀ q, (ov po η q).live → ¬ (nw = true ∧ q = h.nx) → (η q).live := by
      intro q hq hc
      rcases hfp_or q with ⟨h2, h3⟩ | ⟨h2, h3, _⟩ | ⟨_, _, h3⟩
      · rw [h3] at hq
        have h4 := n1.live q (hmask q (hfp q h2)) hq
        rw [mask_at (hfp q h2), if_pos h2, ← hη q h2] at h4
        exact h4
      · exact (hc ⟨h2, h3⟩).elim
      · rw [h3] at hq; exact hq
    by_cases c1 : nw = true ∧ n = h.nx <;> by_cases c2 : nw = true ∧ m = h.nx
    · rw [c1.2, c2.2]
    · rw [if_pos c1, c1.2] at hbn
      rw [if_neg c2] at hbm
      have := hNxtnew b c1.1 hbn
      have := he.lt (hold m hm c2) hbm
      omega
    · rw [if_neg c1] at hbn
      rw [if_pos c2, c2.2] at hbm
      have := hNxtnew b c2.1 hbm
      have := he.lt (hold n hn c1) hbn
      omega
    · rw [if_neg c1] at hbn
      rw [if_neg c2] at hbm
      exact he.inj n m b (hold n hn c1) (hold m hm c2) hbn hbm
  · intro m s ok g hm
    have hout : ∀ p ∈ po, p.1 ≠ m := by
      intro p hp e
      have h2 := hpe m ⟨p, hp, e⟩
      have h3 := hpl p hp
      rcases hpo p hp with ⟨_, h4⟩ | ⟨_, h4, h5⟩
      · rw [h4, e, ← h2, hm] at h3; exact h3
      · rw [h5, ← h4, e, ← h2, hm] at h3; exact h3
    rw [ov_out hout] at hm
    obtain ⟨g1, g2⟩ := he.arr m s ok g hm
    refine ⟨g1, fun ix i hi => ?_⟩
    obtain ⟨g3, g4, g5, xs, g6, g7, g8⟩ := g2 ix i hi
    refine ⟨g3, g4, g5, xs, g6, g7, fun k y hk => ?_⟩
    have hblk : ((R.arr m ix).add (i.toNat * s + k)).block = (R.arr m ix).block := by unfold Addr.add; split <;> rfl
    show w'.cell? ((R.arr m ix).add (i.toNat * s + k)) = some y
    rw [cell_same (w := w)]
    · exact g8 k y hk
    · rw [hblk]
      refine n1.frame _ (Nat.lt_of_lt_of_le g4 he.base) (fun n hl hbn => ?_)
      by_cases hnx : n < h.nx
      · rw [mask_at hnx] at hl
        by_cases hnf' : n ∈ fp
        · rw [if_pos hnf', ← hη n hnf'] at hl
          simp only [Rn.cut, hnx, if_true] at hbn
          cases hc : η n with
          | cells cs t =>
            obtain ⟨b, ys, q1, q2, _, _⟩ := he.own n cs t hc
            rw [hbn] at q1; cases q1; omega
          | loop st pd t q ps as bd =>
            obtain ⟨b, r, q1, q2, _, _⟩ := he.lp n st pd t q ps as bd hc
            rw [hbn] at q1; cases q1; omega
          | _ => rw [hc] at hl; exact hl
        · rw [if_neg hnf'] at hl; exact hl
      · rw [mask_free hnx] at hl; exact hl
  · intro n hn
    show (if nw = true ∧ n = h.nx then R0'.blk n else R.blk n) = none
    have hout : ∀ p ∈ po, p.1 ≠ n := by
      intro p hp e
      have h2 := hpe n ⟨p, hp, e⟩
      have h3 := hpl p hp
      rcases hpo p hp with ⟨_, h4⟩ | ⟨_, h4, h5⟩
      · rw [h4, e, ← h2, hn] at h3; exact h3
      · rw [h5, ← h4, e, ← h2, hn] at h3; exact h3
    rw [ov_out hout] at hn
    by_cases hc : nw = true ∧ n = h.nx
    · obtain ⟨p, hp, hpn⟩ := hnew hc.1
      exact (hout p hp (by rw [hpn, hc.2])).elim
    · rw [if_neg hc]; exact he.fresh n hn
  · intro m st pd t q ps as bd hm
    rcases hfp_or m with ⟨h2, h3⟩ | ⟨h2, h3, h4⟩ | ⟨h2, h3, h4⟩
    · rw [h3] at hm
      obtain ⟨b, r, g1, g2, g3, g4⟩ := e1.lp m st pd t q ps as bd hm
      have hmx := hfp m h2
      refine ⟨b, r, ?_, g2, g3, ?_⟩
      · show (if nw = true ∧ m = h.nx then R0'.blk m else R.blk m) = some b
        rw [if_neg (by omega), ← hblk0 m hmx]; exact g1
      · have := hbelow m h2
        rw [hm] at this
        exact g4.bel hag this
    · rw [h4] at hm
      obtain ⟨b, r, g1, g2, g3, g4⟩ := e1.lp m st pd t q ps as bd hm
      refine ⟨b, r, ?_, g2, g3, ?_⟩
      · show (if nw = true ∧ m = h.nx then R0'.blk m else R.blk m) = some b
        rw [if_pos ⟨h2, h3⟩]; exact g1
      · have h5 := hnewb h2
        rw [← h3, hm] at h5
        exact g4.bel hag (by rw [← h3]; exact h5)
    · rw [h4] at hm
      obtain ⟨b, r, g1, g2, g3, g4⟩ := he.lp m st pd t q ps as bd hm
      refine ⟨b, r, hle.1 m b g1, g2, ?_, g4.mono hle⟩
      rw [hframe m b h2 (by rw [hm]; trivial) g1]; exact g3

/-- The masked heap lies in the world. -/
theorem mask_emb {h : VH} {fp : List Nat} (hnf : ∀ n ∈ fp, h.at n ≠ .free) (hkb : ∀ n ∈ fp, (h.at n).bel h.nx = true)
    {B : Nat} {R : Rn} {w : World} {η : Nat → VB} (he : Emb B R η w) (hη : ∀ n ∈ fp, η n = h.at n) : Emb B (R.cut h.nx) (maskH fp h).at w := by
  have hag : Agree h.nx R (R.cut h.nx) := ⟨fun n hn => by simp [Rn.cut, hn], rfl, rfl⟩
  have hin : ∀ n b, (maskH fp h).at n = b → b ≠ .gone → b ≠ .free → n ∈ fp ∧ η n = b ∧ n < h.nx := by
    intro n b hn h1 h2
    by_cases hnx : n < h.nx
    · rw [mask_at hnx] at hn
      by_cases hnf' : n ∈ fp
      · rw [if_pos hnf'] at hn
        exact ⟨hnf', by rw [hη n hnf']; exact hn, hnx⟩
      · rw [if_neg hnf'] at hn; exact (h1 hn.symm).elim
    · rw [mask_free hnx] at hn; exact (h2 hn.symm).elim
  refine ⟨he.base, fun n cs t hn => ?_, fun n m b hn hm h1 h2 => ?_, fun n s ok g hn => ?_, fun n hn => ?_, fun n st pd t q ps as bd hn => ?_⟩
  · obtain ⟨h1, h2, h3⟩ := hin n _ hn (by simp) (by simp)
    obtain ⟨b, xs, g1, g2, g3, g4⟩ := he.own n cs t h2
    refine ⟨b, xs, by simp [Rn.cut, h3, g1], g2, bel_L hag cs xs ?_ g3, g4⟩
    have := hkb n h1
    rw [← hη n h1, h2] at this
    exact this
  · have hl : ∀ q, ((maskH fp h).at q).live → (η q).live ∧ q < h.nx := by
      intro q hq
      cases hc : (maskH fp h).at q with
      | cells cs t =>
        obtain ⟨h1, h2, h3⟩ := hin q _ hc (by simp) (by simp)
        rw [h2]; exact ⟨trivial, h3⟩
      | loop st pd t m ps as bd =>
        obtain ⟨h1, h2, h3⟩ := hin q _ hc (by simp) (by simp)
        rw [h2]; exact ⟨trivial, h3⟩
      | _ => rw [hc] at hq; exact hq.elim
    obtain ⟨a1, a2⟩ := hl n hn
    obtain ⟨b1, b2⟩ := hl m hm
    simp only [Rn.cut, a2, b2, if_true] at h1 h2
    exact he.inj n m b a1 b1 h1 h2
  · obtain ⟨h1, h2, h3⟩ := hin n _ hn (by simp) (by simp)
    exact he.arr n s ok g h2
  · by_cases hnx : n < h.nx
    · exfalso
      rw [mask_at hnx] at hn
      by_cases hnf' : n ∈ fp
      · rw [if_pos hnf'] at hn
        exact hnf n hnf' hn
      · rw [if_neg hnf'] at hn; cases hn
    · simp [Rn.cut, hnx]
  · obtain ⟨h1, h2, h3⟩ := hin n _ hn (by simp) (by simp)
    obtain ⟨b, r, g1, g2, g3, g4⟩ := he.lp n st pd t q ps as bd h2
    refine ⟨b, r, by simp [Rn.cut, h3, g1], g2, g3, g4.bel hag ?_⟩
    have := hkb n h1
    rw [← hη n h1, h2] at this
    exact this
end
end Go.Sx
