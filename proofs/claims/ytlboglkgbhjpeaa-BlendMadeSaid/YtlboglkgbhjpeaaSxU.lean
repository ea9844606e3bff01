/- A call that writes: what it does not see stays as it is. -/
import Derived.Test.YtlboglkgbhjpeaaSxC

namespace Go.Sx
open Go
section
variable {P : Program}

theorem calls_frame {f : FuncId} {args : List VV} {h0 h0' h h1 : VH} {r : VRes} (hs : CallsV P f args h0 r h0') (hat : ∀ n, h0.at n = h.at n ∨ h0.at n = .gone) (h1at : ∀ n, (h0.at n = .gone ∧ h1.at n = h.at n) ∨ (h0.at n ≠ .gone ∧ h1.at n = h0'.at n)) : CallsV P f args h r h1 := by
  intro B R w xs em hx
  have hsame : ∀ n, h0.at n ≠ .gone → h0.at n = h.at n := fun n hn => (hat n).resolve_right hn
  have how0 : ∀ n b, R.ow n (h0.at n) = some b → R.ow n (h.at n) = some b ∧ h0.at n ≠ .gone := fun n b hb => by
    rcases hat n with hh | hh
    · refine ⟨by rw [← hh]; exact hb, fun hg => ?_⟩
      rw [hg] at hb; cases hb
    · rw [hh] at hb; cases hb
  have e0 : Emb B R h0.at w := by
    refine ⟨em.base, fun n cs t hn => ?_, fun n m b g1 g2 => em.inj n m b (how0 n b g1).1 (how0 m b g2).1, fun n s ok g hn => ?_, fun n hn => ?_, fun n st pd t m ps as bd hn => ?_, fun n L g s t hn => ?_, fun n hn L => ?_, fun n ks vk es hn => ?_, fun b xs hb => ⟨(em.frz b xs hb).1, fun n hn => (em.frz b xs hb).2.1 n (how0 n b hn).1, (em.frz b xs hb).2.2⟩⟩
    · exact em.ownC n cs t (by rw [← hsame n (by intro e; rw [e] at hn; simp at hn)]; exact hn)
    · exact em.arr n s ok g (by rw [← hsame n (by rw [hn]; simp)]; exact hn)
    · exact em.fresh n (by rw [← hsame n (by rw [hn]; simp)]; exact hn)
    · exact em.lp n st pd t m ps as bd (by rw [← hsame n (by rw [hn]; simp)]; exact hn)
    · exact em.vec n L g s t (by rw [← hsame n (by rw [hn]; simp)]; exact hn)
    · exact em.fvec n (by rw [← hsame n (by rw [hn]; simp)]; exact hn) L
    · exact em.map n ks vk es (by rw [← hsame n (by rw [hn]; simp)]; exact hn)
  refine (hs B R w xs e0 hx).mono ?_
  rintro e w' ⟨R1, n1, e1, x⟩
  have hle := n1.le e0
  have hgf : ∀ n, h0.at n = .gone → h0.at n ≠ .free := fun n hn hf => by rw [hn] at hf; cases hf
  have hblk : ∀ n, h0.at n = .gone → R1.blk n = R.blk n := fun n hn => n1.old n (hgf n hn)
  have hvec : ∀ n, h0.at n = .gone → R1.vec n = R.vec n := fun n hn => by
    funext L
    cases hv : R.vec n L with
    | some v => exact n1.vold n L v hv
    | none =>
      cases hv2 : R1.vec n L with
      | none => rfl
      | some v =>
        rcases n1.vnew n L v hv hv2 with h2 | ⟨L0, g, s, t, h2, _⟩ <;> rw [hn] at h2 <;> cases h2
  have how : ∀ n, h0.at n = .gone → ∀ b, R1.ow n b = R.ow n b := fun n hn b => by
    cases b with
    | cells cs t => exact hblk n hn
    | fam _ _ _ _ => exact hblk n hn
    | map _ _ _ => exact hblk n hn
    | loop st pd t m ps as bd => exact hblk n hn
    | vec L g s t => show (R1.vec n L).bind _ = (R.vec n L).bind _; rw [hvec n hn]
    | _ => rfl
  have hframe : ∀ n, h0.at n = .gone → ∀ b, R.ow n (h.at n) = some b → w'.heap[b]? = w.heap[b]? := fun n hn b hb =>
    n1.frame b (em.lt hb) (fun m hbm => by
      obtain ⟨g1, g2⟩ := how0 m b hbm
      have := em.inj n m b hb g1
      subst this
      exact g2 hn)
  have hno : R.no.le R1.no := hle.no
  refine ⟨R1, ⟨fun n hn => ?_, fun n hn => ?_, n1.arr, n1.str, n1.vold, fun n L v g1 g2 => ?_, fun n L g s t hn => ?_, fun n b hb => ?_, n1.size, fun b hb hn => n1.frame b hb (fun m hbm => hn m (how0 m b hbm).1), n1.os, n1.tape, n1.output, n1.fmono, fun b xs hb => (n1.fnew b xs hb).imp id (fun h => h.imp (fun ⟨n, hn⟩ => ⟨n, (how0 n b hn).1⟩) id)⟩,
    ⟨Nat.le_trans em.base n1.size, fun n cs t hn => ?_, fun n m b g1 g2 => ?_, fun n s ok g hn => ?_, fun n hn => ?_, fun n st pd t q ps as bd hn => ?_, fun n L g s t hn => ?_, fun n hn L => ?_, fun n ks vk es hn => ?_, fun b xs hb => ⟨(e1.frz b xs hb).1, fun n hn => ?_, (e1.frz b xs hb).2.2⟩⟩, x⟩
  · rcases h1at n with ⟨a1, a2⟩ | ⟨a1, a2⟩
    · rw [a2]; exact hn
    · rw [a2]; exact n1.keep n (by rw [hsame n a1]; exact hn)
  · rcases hat n with hh | hh
    · exact n1.old n (by rw [hh]; exact hn)
    · exact hblk n hh
  · rcases n1.vnew n L v g1 g2 with h2 | ⟨L0, g, s, t, h2, h3⟩
    · exact .inl (by rw [← hsame n (by rw [h2]; simp)]; exact h2)
    · exact .inr ⟨L0, g, s, t, by rw [← hsame n (by rw [h2]; simp)]; exact h2, h3⟩
  · rcases h1at n with ⟨a1, a2⟩ | ⟨a1, a2⟩
    · rw [a2] at hn; exact .inr ⟨L, g, s, t, hn, Nat.le_refl _⟩
    · rw [a2] at hn
      have := n1.vmono n L g s t hn
      rw [hsame n a1] at this
      exact this
  · rcases h1at n with ⟨a1, a2⟩ | ⟨a1, a2⟩
    · rw [a2, how n a1] at hb; exact .inl hb
    · rw [a2] at hb
      have := n1.own n b hb
      rw [hsame n a1] at this
      exact this
  · rcases h1at n with ⟨a1, a2⟩ | ⟨a1, a2⟩
    · rw [a2] at hn
      obtain ⟨b, ys, g1, g2, g3, g4⟩ := em.ownC n cs t hn
      exact ⟨b, ys, hle.blk n b g1, g2, g3.mono hle, by rw [hframe n a1 b (by rw [ow_cs hn]; exact g1)]; exact g4⟩
    · rw [a2] at hn
      exact e1.ownC n cs t hn
  · have cross : ∀ n m, h0.at n = .gone → h0.at m ≠ .gone → R.ow n (h.at n) = some b → R1.ow m (h0'.at m) = some b → n = m := fun n m a1 a2 k1 k2 => by
      rcases n1.own m b k2 with k3 | k3
      · exact em.inj n m b k1 (how0 m b k3).1
      · have := em.lt k1
        omega
    rcases h1at n with ⟨a1, a2⟩ | ⟨a1, a2⟩ <;> rcases h1at m with ⟨c1, c2⟩ | ⟨c1, c2⟩
    · rw [a2, how n a1] at g1
      rw [c2, how m c1] at g2
      exact em.inj n m b g1 g2
    · rw [a2, how n a1] at g1
      rw [c2] at g2
      exact cross n m a1 c1 g1 g2
    · rw [a2] at g1
      rw [c2, how m c1] at g2
      exact (cross m n c1 a1 g2 g1).symm
    · rw [a2] at g1
      rw [c2] at g2
      exact e1.inj n m b g1 g2
  · rcases h1at n with ⟨a1, a2⟩ | ⟨a1, a2⟩
    · rw [a2] at hn
      obtain ⟨g1, g2⟩ := em.arr n s ok g hn
      refine ⟨by rw [n1.str]; exact g1, fun ix i hi => ?_⟩
      obtain ⟨g3, g4, g5, ys, g6, g7, g8⟩ := g2 ix i hi
      rw [n1.arr]
      refine ⟨g3, g4, g5, ys, g6.mono hno, g7, fun q y hq => ?_⟩
      have hblk2 : ((R.arr n ix).add (i.toNat * s + q)).block = (R.arr n ix).block := by unfold Addr.add; split <;> rfl
      rw [cell_same (w := w)]
      · exact g8 q y hq
      · rw [hblk2]
        refine n1.frame _ (Nat.lt_of_lt_of_le g4 em.base) (fun m hbm => ?_)
        have := (em.own_lt (how0 m _ hbm).1).1
        omega
    · rw [a2] at hn
      exact e1.arr n s ok g hn
  · rcases h1at n with ⟨a1, a2⟩ | ⟨a1, a2⟩
    · rw [a2] at hn
      rw [hblk n a1]; exact em.fresh n hn
    · rw [a2] at hn
      exact e1.fresh n hn
  · rcases h1at n with ⟨a1, a2⟩ | ⟨a1, a2⟩
    · rw [a2] at hn
      obtain ⟨b, r', g1, g2, g3, g4⟩ := em.lp n st pd t q ps as bd hn
      exact ⟨b, r', hle.blk n b g1, g2, by rw [hframe n a1 b (by rw [hn]; exact g1)]; exact g3, g4.mono hle⟩
    · rw [a2] at hn
      exact e1.lp n st pd t q ps as bd hn
  · rcases h1at n with ⟨a1, a2⟩ | ⟨a1, a2⟩
    · rw [a2] at hn
      exact (em.vec n L g s t hn).frame (hvec n a1) hno (fun b hb => hframe n a1 b (by rw [hn]; exact hb))
    · rw [a2] at hn
      exact e1.vec n L g s t hn
  · rcases h1at n with ⟨a1, a2⟩ | ⟨a1, a2⟩
    · rw [a2] at hn
      rw [hvec n a1]; exact em.fvec n hn L
    · rw [a2] at hn
      exact e1.fvec n hn L
  · rcases h1at n with ⟨a1, a2⟩ | ⟨a1, a2⟩
    · rw [a2] at hn
      exact (em.map n ks vk es hn).frame (hblk n a1) (fun b hb => hframe n a1 b (by rw [hn]; exact hb))
    · rw [a2] at hn
      exact e1.map n ks vk es hn
  · rcases h1at n with ⟨a1, a2⟩ | ⟨a1, a2⟩
    · rw [a2, how n a1] at hn
      rcases n1.fnew b xs hb with k1 | ⟨m, k1⟩ | k1
      · exact (em.frz b xs k1).2.1 n hn
      · obtain ⟨k2, k3⟩ := how0 m b k1
        have := em.inj n m b hn k2
        subst this
        exact k3 a1
      · have := em.lt hn; omega
    · rw [a2] at hn
      exact (e1.frz b xs hb).2.1 n hn
end
end Go.Sx
