/- Weaker beginnings; small laws on trees. -/
import Derived.Test.YtdfbhoejljidfaaSxF

namespace Go.Sx
open Go

section
variable {P : Program}

theorem at_lt {k : Nat} {bs : List (Nat × VB)} {n : Nat} (h : n < k) : (VH.mk k bs).at n = lookB bs n := by
  show (bif Nat.blt n k then lookB bs n else .free) = _
  rw [blt_t h]; rfl

theorem at_ge {k : Nat} {bs : List (Nat × VB)} {n : Nat} (h : ¬ n < k) : (VH.mk k bs).at n = .free := by
  show (bif Nat.blt n k then lookB bs n else .free) = _
  rw [blt_f h]; rfl

theorem pre_at {h : VH} {bs : List (Nat × VB)} (hf : fitB bs h) (n : Nat) : ((VH.mk h.nx bs).at n = .gone ∧ n < h.nx) ∨ (VH.mk h.nx bs).at n = h.at n := by
  by_cases hn : n < h.nx
  · rw [at_lt hn]
    rcases fitB_look hf n with h1 | h1
    · exact .inl ⟨h1, hn⟩
    · exact .inr h1
  · right
    rw [at_ge hn]
    cases h
    rw [at_ge hn]

theorem pre_emb {B : Nat} {R : Rn} {w : World} {h : VH} {bs : List (Nat × VB)} (hf : fitB bs h) (e : Emb B R h.at w) : Emb B R (VH.mk h.nx bs).at w := by
  have same : ∀ n b, (VH.mk h.nx bs).at n = b → b ≠ .gone → h.at n = b := by
    intro n b hn hb
    rcases pre_at hf n with h1 | h1
    · rw [h1.1] at hn; exact (hb hn.symm).elim
    · rw [← h1]; exact hn
  have hl : ∀ n, ((VH.mk h.nx bs).at n).live → (h.at n).live := by
    intro n hn
    rcases pre_at hf n with h1 | h1
    · rw [h1.1] at hn; exact hn.elim
    · rw [← h1]; exact hn
  exact ⟨e.base, fun n cs t hn => e.own n cs t (same n _ hn (by simp)), fun n m b hn hm => e.inj n m b (hl n hn) (hl m hm), fun n s ok g hn => e.arr n s ok g (same n _ hn (by simp)), fun n hn => e.fresh n (same n _ hn (by simp)), fun n st pd t m ps as bd hn => e.lp n st pd t m ps as bd (same n _ hn (by simp))⟩

theorem pre_nxt {B : Nat} {R R' : Rn} {w w' : World} {h : VH} {bs : List (Nat × VB)} {η' : Nat → VB} (hf : fitB bs h) (e : Emb B R h.at w) (n1 : Nxt (VH.mk h.nx bs).at R w η' R' w') : Nxt h.at R w η' R' w' := by
  have nf : ∀ n, h.at n ≠ .free → (VH.mk h.nx bs).at n ≠ .free := by
    intro n hn
    rcases pre_at hf n with h1 | h1
    · rw [h1.1]; simp
    · rw [h1]; exact hn
  refine ⟨fun n hn => n1.keep n (nf n hn), fun n hn => n1.old n (nf n hn), fun n b hn hb => ?_, n1.arr, n1.str, fun n hn hl => ?_, n1.size, fun b hb hn => n1.frame b hb (fun n hl => hn n ?_), n1.os, n1.tape, n1.output⟩
  · rcases pre_at hf n with h1 | h1
    · rw [n1.old n (by rw [h1.1]; simp), e.fresh n hn] at hb; cases hb
    · exact n1.new n b (by rw [h1]; exact hn) hb
  · have := n1.live n (nf n hn) hl
    rcases pre_at hf n with h1 | h1
    · rw [h1.1] at this; exact this.elim
    · rw [h1] at this; exact this
  · rcases pre_at hf n with h1 | h1
    · rw [h1.1] at hl; exact hl.elim
    · rw [h1] at hl; exact hl

theorem sem_pre {pl : Bool} {c : Code} {n : Nat} {t t2 t' : Slots} {h h' : VH} {e : VEx} {bs : List (Nat × VB)} (hs : SemC P pl c n t2 ⟨h.nx, bs⟩ e t' h') (hf : fitB bs h) (ht : fitS t2 t) : SemC P pl c n t h e t' h' := by
  intro F hF hp B ds R a w em tr hn hds
  refine wpIn_mono (hs F hF hp B ds R a w (pre_emb hf em) (fun d => ?_) hn hds) ?_
  · rcases fitS_look ht d with h1 | h1
    · rw [h1]; trivial
    · rw [h1]; exact tr d
  · rintro ex a' w' ⟨R', rs, n1, e1, t1, s1, d1, m1, q1, z1, x⟩
    exact ⟨R', rs, pre_nxt hf em n1, e1, t1, s1, d1, m1, q1, z1, x⟩

theorem calls_pre {f : FuncId} {args : List VV} {h h' : VH} {r : VRes} {bs : List (Nat × VB)} (hs : CallsV P f args ⟨h.nx, bs⟩ r h') (hf : fitB bs h) : CallsV P f args h r h' := by
  intro B R w xs em hx
  refine (hs B R w xs (pre_emb hf em) hx).mono ?_
  rintro e w' ⟨R', n1, e1, x⟩
  exact ⟨R', pre_nxt hf em n1, e1, x⟩

theorem code_of (hmix : P.follows .mixedOrders = true) {call : CallT} (hg : Good P call) {un n : Nat} {c : Code} {t : Slots} {h : VH} {K : CK} (hK : codeE P call (fun _ => none) true un n 0 c t h K) : ∃ e t' h', K e t' h' ∧ SemC P true c n t h e t' h' := by
  obtain ⟨e, t', h', h1, _, h2⟩ := code_sound (pl := true) hmix hg c t h K (fun _ _ hT => by cases hT) hK
  exact ⟨e, t', h', h1, h2⟩
end

theorem cond_i {b : Bool} {p q : Prop} (h1 : b = true → p) (h2 : b = false → q) : (bif b then p else q) := by
  cases b
  · exact h2 rfl
  · exact h1 rfl

theorem cond_k {b : Bool} {p q : Prop} (hb : b = true) (h : p) : (bif b then p else q) := by rw [hb]; exact h

theorem cond_d {c : Prop} [Decidable c] {p q : Prop} (h1 : c → p) (h2 : ¬ c → q) : (bif decide c then p else q) := by
  by_cases hc : c
  · simp only [hc, decide_true, cond_true]; exact h1 hc
  · simp only [hc, decide_false, cond_false]; exact h2 hc

theorem cond_nd {c : Prop} [Decidable c] {p q : Prop} (h1 : ¬ c → p) (h2 : c → q) : (bif !decide c then p else q) := by
  by_cases hc : c
  · simp only [hc, decide_true, Bool.not_true, cond_false]; exact h2 hc
  · simp only [hc, decide_false, Bool.not_false, cond_true]; exact h1 hc

theorem cond_dk {c : Prop} [Decidable c] {p q : Prop} (hc : c) (h : p) : (bif decide c then p else q) := by
  simp only [hc, decide_true, cond_true]; exact h

theorem cond_r {n : Int} {p q : Prop} (hc : -9223372036854775808 ≤ n ∧ n ≤ 9223372036854775807) (h : p) : (bif inK .i64 n then p else q) :=
  cond_k (inK_64.2 hc) h

end Go.Sx
