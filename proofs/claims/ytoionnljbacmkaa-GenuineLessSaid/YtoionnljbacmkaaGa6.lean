/- genuine: lists of spans. -/
import Derived.Test.YtoionnljbacmkaaGa5

namespace Go.Sx.Gen
open Go Go.Sx Go.Proofs
set_option maxRecDepth 100000

theorem allB_step {p : Int → Bool} {len : Nat} {i : Int} (h0 : 0 ≤ i) (h : i < len) : allB p (len - i).toNat i = (p i && allB p (len - (i + 1)).toNat (i + 1)) := by
  rw [show ((len : Int) - i).toNat = ((len : Int) - (i + 1)).toNat + 1 by omega]
  rfl

theorem allB_end {p : Int → Bool} {len : Nat} {i : Int} (h : ¬ i < len) : allB p (len - i).toNat i = true := by
  rw [show ((len : Int) - i).toNat = 0 by omega]
  rfl

def maxI : Nat := 9223372036854775807

section
variable {ok : List Int → Int → Prop} {lo hi : List Int → Int → Int} {ix : List Int} {len cap : Nat}

def O57 (ok : List Int → Int → Prop) (lo hi : List Int → Int → Int) (ix : List Int) (len cap : Nat) (i : Int) (e : VEx) (vs : List VV) (bs : List VB) : Prop :=
  bs = [spanA ok lo hi] ∧ ((e = .exit 0 ∧ allB (spB1 (lo ix) (hi ix)) (len - i).toNat i = true ∧ vs = V57 ix len cap len) ∨
    (e = .ret ∧ allB (spB1 (lo ix) (hi ix)) (len - i).toNat i = false ∧ ∃ j : Int, 0 ≤ j ∧ vs = [I j, I len, .slice (.el 0 ix 0 0) len cap, .func 54 [] [], I j]))

theorem L57_ok (hok : ∀ j : Int, 0 ≤ j → j < len → ok ix j) (hlen : len ≤ maxI) : LSound Try.prog true (.block 0 (.loop (loopB 0 (bodyOf Try.prog 57)))) 19 (L57 ok lo hi ix len cap) := by
  refine loop_row hmix goodN (un := 10) (ds := [8, 7, 0, 1, 4]) (ns := [0]) (nx := 1) (V57 ix len cap) (fun _ => [spanA ok lo hi]) (fun i => 0 ≤ i ∧ i ≤ len) (fun i => (len - i).toNat) (O57 ok lo hi ix len cap) noL_ok ?_ ?_
  · rintro i ⟨h0, h1⟩
    rw [idx57_ev]
    unfold maxI at hlen
    by_cases hlt : i < len
    · refine cond_dk hlt (cond_dk ⟨h0, hlt⟩ ⟨hok _ (by omega) (by omega), ?_⟩)
      simp only [Int.zero_add]
      have hst := allB_step (p := spB1 (lo ix) (hi ix)) h0 hlt
      cases hp : spanB (lo ix i) (hi ix i) 1048576 with
      | false =>
        refine ⟨rfl, .inr ⟨rfl, ?_, i, h0, rfl⟩⟩
        rw [hst]; simp [spB1, hp]
      | true =>
        refine cond_r (by omega) ⟨i + 1, ⟨by omega, by omega⟩, by dsimp only; omega, rfl, ⟨rfl, trivial⟩, fun e vs bs ho => ?_⟩
        rw [O57, hst]
        simpa [spB1, hp, O57] using ho
    · refine cond_d (fun h => absurd h hlt) (fun _ => ?_)
      refine ⟨rfl, .inl ⟨rfl, allB_end hlt, ?_⟩⟩
      have : i = len := by omega
      subst this
      rfl
  · rintro lock t h K ⟨hf, h1, h2⟩
    refine ⟨0, hf, ⟨by omega, by omega⟩, ?_⟩
    rintro e vs bs ⟨rfl, ⟨rfl, ha, rfl⟩ | ⟨rfl, ha, j, hj, rfl⟩⟩
    · exact h1 (by simpa using ha)
    · exact h2 (by simpa using ha) j hj

def O42 (ok : List Int → Int → Prop) (lo hi : List Int → Int → Int) (ix : List Int) (len cap : Nat) (i : Int) (e : VEx) (vs : List VV) (bs : List VB) : Prop :=
  bs = [spanA ok lo hi] ∧ ((e = .exit 0 ∧ (len ≤ 12 → allB (spB1 (lo ix) (hi ix)) (len - i).toNat i = true) ∧ ∃ j, vs = V42 ix len cap j) ∨
    (e = .ret ∧ allB (spB1 (lo ix) (hi ix)) (len - i).toNat i = false ∧ ∃ j : Int, vs = V42 ix len cap j))

theorem L42_ok (hok : ∀ j : Int, 0 ≤ j → j < len → ok ix j) : LSound Try.prog true (.block 0 (.loop (loopB 0 (bodyOf Try.prog 42)))) 23 (L42 ok lo hi ix len cap) := by
  refine loop_row hmix goodN (un := 10) (ds := [3, 0, 2]) (ns := [0]) (nx := 1) (V42 ix len cap) (fun _ => [spanA ok lo hi]) (fun i => 0 ≤ i ∧ i ≤ len) (fun i => (len - i).toNat) (O42 ok lo hi ix len cap) noL_ok ?_ ?_
  · rintro i ⟨h0, h1⟩
    rw [spans42_ev]
    by_cases hlt : i < len
    · have hst := allB_step (p := spB1 (lo ix) (hi ix)) h0 hlt
      refine cond_dk hlt (cond_d (fun h12 => cond_dk ⟨h0, hlt⟩ ⟨hok _ (by omega) (by omega), ?_⟩) (fun h12 => ⟨rfl, .inl ⟨rfl, fun h => by omega, i, rfl⟩⟩))
      simp only [Int.zero_add]
      cases hp : spanB (lo ix i) (hi ix i) 1048576 with
      | false =>
        refine ⟨rfl, .inr ⟨rfl, ?_, i, rfl⟩⟩
        rw [hst]; simp [spB1, hp]
      | true =>
        refine cond_r (by omega) ⟨i + 1, ⟨by omega, by omega⟩, by dsimp only; omega, rfl, ⟨rfl, trivial⟩, fun e vs bs ho => ?_⟩
        rw [O42, hst]
        simpa [spB1, hp, O42] using ho
    · refine cond_d (fun h => absurd h hlt) (fun _ => ?_)
      exact ⟨rfl, .inl ⟨rfl, fun _ => allB_end hlt, i, rfl⟩⟩
  · rintro lock t h K ⟨hf, h1, h2⟩
    refine ⟨0, hf, ⟨by omega, by omega⟩, ?_⟩
    rintro e vs bs ⟨rfl, ⟨rfl, ha, j, rfl⟩ | ⟨rfl, ha, j, rfl⟩⟩
    · exact h1 (by simpa using ha) j
    · exact h2 (by simpa using ha) j

theorem lo_one {f : FuncId} {id : Nat} {T : LT} (hb : blocksOf id (bodyOf Try.prog f) = [.loop (loopB id (bodyOf Try.prog f))]) (hs : LSound Try.prog true (.block id (.loop (loopB id (bodyOf Try.prog f)))) (ntOf Try.prog f) T) : LoopsOk Try.prog f [(id, T)] := by
  intro x hx
  simp only [List.mem_singleton] at hx
  subst hx
  exact ⟨hb, hs⟩

theorem one_keep (n : Nat) (hn : n < 1) {A : VB} (hA : A.bel 1 = true) : ((VH.mk 1 [(0, A)]).at n).bel 1 = true := by
  obtain rfl : n = 0 := by omega
  exact hA

theorem i57_ok (hok : ∀ j : Int, 0 ≤ j → j < len → ok ix j) (hlen : len ≤ maxI) : SpOk Try.prog (i57T ok lo hi ix len cap).1 (i57T ok lo hi ix len cap).2 := by
  intro lock args h K hK
  obtain ⟨⟨rfl, rfl⟩, h1, h2⟩ := hK
  have hsp := spBL_ok hmix (tabs_ok numT_ok) (f := 57) (lo_one (by kernel_rfl) (L57_ok (ok := ok) (lo := lo) (hi := hi) (ix := ix) (len := len) (cap := cap) hok hlen)) (un := 10) (fu := 20)
  obtain ⟨r, h', hQ, hc⟩ := of_sp hsp (args := [.slice (.el 0 ix 0 0) len cap, .func 54 [] []]) (h := ⟨1, [(0, spanA ok lo hi)]⟩) (K := fun r h' => h' = ⟨1, [(0, spanA ok lo hi)]⟩ ∧ ((allB (spB1 (lo ix) (hi ix)) len 0 = true ∧ r = .ret (I (-1))) ∨ (allB (spB1 (lo ix) (hi ix)) len 0 = false ∧ ∃ j : Int, 0 ≤ j ∧ r = .ret (I j))))
    (by
      rw [f57_ev]
      exact ⟨⟨⟨rfl, rfl, VB.fit_refl _, trivial⟩, rfl, rfl, rfl, rfl, rfl, trivial⟩, fun h => ⟨rfl, .inl ⟨h, rfl⟩⟩, fun h j hj => ⟨rfl, .inr ⟨h, j, hj, rfl⟩⟩⟩)
  obtain ⟨rfl, ⟨ha, rfl⟩ | ⟨ha, j, hj, rfl⟩⟩ := hQ
  · exact ⟨_, _, h1 ha, lockP_refl _ _, hc⟩
  · exact ⟨_, _, h2 ha j hj, lockP_refl _ _, hc⟩

theorem values_v (hok : ∀ j : Int, 0 ≤ j → j < len → ok ix j) (hlen : len ≤ maxI) : CallsV Try.prog 45 [.slice (.el 0 ix 0 0) len cap] ⟨1, [(0, spanA ok lo hi)]⟩ (.ret (.bool (spansB len (lo ix) (hi ix)))) ⟨1, [(0, spanA ok lo hi)]⟩ := by
  obtain ⟨r, h', hQ, hc⟩ := of_callN (tab_good hmix (l := [i57T ok lo hi ix len cap]) (by
      intro x hx
      simp only [List.mem_singleton] at hx
      subst hx
      exact i57_ok hok hlen) 20) (f := 45) (args := [.slice (.el 0 ix 0 0) len cap]) (h := ⟨1, [(0, spanA ok lo hi)]⟩) (K := fun r h' => h' = ⟨1, [(0, spanA ok lo hi)]⟩ ∧ r = .ret (.bool (spansB len (lo ix) (hi ix))))
    (by
      rw [f45_ev]
      have hsp : spansB len (lo ix) (hi ix) = (decide ((len : Int) ≤ 12) && allB (spB1 (lo ix) (hi ix)) len 0) := rfl
      rw [hsp]
      refine cond_d (fun h => ⟨⟨rfl, rfl⟩, fun ha => ⟨rfl, ?_⟩, fun ha j hj => ⟨rfl, ?_⟩⟩) (fun h => ⟨rfl, ?_⟩)
      · simp [h, ha]
      · simp [h, ha, hj]
      · simp [h])
  obtain ⟨rfl, rfl⟩ := hQ
  exact hc

theorem spans_v (hok : ∀ j : Int, 0 ≤ j → j < len → ok ix j) : CallsV Try.prog 42 [.slice (.el 0 ix 0 0) len cap] ⟨1, [(0, spanA ok lo hi)]⟩ (.ret (.bool (spansB len (lo ix) (hi ix)))) ⟨1, [(0, spanA ok lo hi)]⟩ := by
  have hsp := spBL_ok hmix (tabs_ok numT_ok) (f := 42) (lo_one (by kernel_rfl) (L42_ok (ok := ok) (lo := lo) (hi := hi) (ix := ix) (len := len) (cap := cap) hok)) (un := 10) (fu := 20)
  obtain ⟨r, h', hQ, hc⟩ := of_sp hsp (args := [.slice (.el 0 ix 0 0) len cap]) (h := ⟨1, [(0, spanA ok lo hi)]⟩) (K := fun r h' => h' = ⟨1, [(0, spanA ok lo hi)]⟩ ∧ r = .ret (.bool (spansB len (lo ix) (hi ix))))
    (by
      rw [f42_ev]
      have hsp : spansB len (lo ix) (hi ix) = (decide ((len : Int) ≤ 12) && allB (spB1 (lo ix) (hi ix)) len 0) := rfl
      rw [hsp]
      refine ⟨⟨⟨rfl, rfl, VB.fit_refl _, trivial⟩, rfl, rfl, rfl, trivial⟩, fun h j => ⟨rfl, ?_⟩, fun h j => ⟨rfl, ?_⟩⟩
      · by_cases h12 : (len : Int) ≤ 12
        · simp [h12, h (by omega)]
        · simp [h12]
      · simp [h])
  obtain ⟨rfl, rfl⟩ := hQ
  exact hc
end
end Go.Sx.Gen
