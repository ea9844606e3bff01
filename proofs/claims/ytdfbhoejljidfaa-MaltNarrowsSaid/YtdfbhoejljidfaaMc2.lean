/- malt: the loop of MaltConserves. -/
import Derived.Test.YtdfbhoejljidfaaMc1

namespace Go.Sx.Malt
open Go Go.Sx Go.Proofs
set_option maxRecDepth 100000

theorem pick_v {lo hi z : Int} (hp : PkOk lo hi z) (h : VH) : CallsV Try.prog 19 [I lo, I hi, .int .u32 z] h (.ret (bif decide (lo ≤ hi) then .tup [I (pk lo hi z), .bool true] else .tup [I 0, .bool false])) h := by
  have hb : (VRes.ret (bif decide (lo ≤ hi) then .tup [I (pk lo hi z), .bool true] else .tup [I 0, .bool false])).bel 0 = true := by cases decide (lo ≤ hi) <;> rfl
  refine pure_v ?_ rfl hb h
  obtain ⟨h1, h2, h3⟩ := hp
  rw [pick_ev lo hi z (fun x => x = _)]
  by_cases hl : lo ≤ hi
  · rw [decide_eq_true hl]
    have e : remZ z (hi - lo + 1) = z % (hi - lo + 1) := remZ_nn h1.1
    have e1 := Int.emod_nonneg z (show hi - lo + 1 ≠ 0 by omega)
    have e2 := Int.emod_lt_of_pos z (show 0 < hi - lo + 1 by omega)
    rw [e]
    generalize hm : z % (hi - lo + 1) = m at *
    have hpk : lo + m = pk lo hi z := by rw [← hm]; rfl
    repeat' first
      | refine cond_r (by omega) ?_
      | (refine cond_d (fun _ => ?_) (fun _ => ?_) <;> try (exfalso; omega))
    all_goals (rw [hpk]; rfl)
  · rw [decide_eq_false hl]
    repeat' first
      | refine cond_r (by omega) ?_
      | (refine cond_d (fun _ => ?_) (fun _ => ?_) <;> try (exfalso; omega))
    all_goals rfl

theorem pickT_ok : SpOk Try.prog pickT.1 pickT.2 := by
  intro lock args h K hK
  simp only [pickT] at hK
  split at hK
  · rename_i lo hi z
    obtain ⟨hp, hK⟩ := hK
    refine ⟨_, h, ?_, lockP_refl _ _, pick_v hp h⟩
    cases hd : decide (lo ≤ hi) <;> rw [hd] at hK <;> exact hK
  · exact hK.elim

theorem ctab_ok : ∀ x ∈ [((20 : FuncId), stepT stB), awT, pickT], SpOk Try.prog x.1 x.2 := by
  intro x hx
  simp only [List.mem_cons, List.not_mem_nil, or_false] at hx
  rcases hx with rfl | rfl | rfl
  · intro lock args h K hK
    simp only [stepT] at hK
    split at hK
    · exact ⟨_, h, hK, lockP_refl _ _, rstep_v _ _ _ h⟩
    · exact hK.elim
  · exact awT_ok
  · exact pickT_ok

noncomputable abbrev cBody : Code := loopB 0 (bodyOf Try.prog 4)

theorem blocks4 : blocksOf 0 (bodyOf Try.prog 4) = [.loop (loopB 0 (bodyOf Try.prog 4))] := by kernel_rfl
theorem nt4 : ntOf Try.prog 4 = 401 := by kernel_rfl

section
variable (ok ok1 : List Int → Int → Prop) (kf af bf zf : Int → Int) (w : Vat)

abbrev cH : VH := ⟨5, cBs (.arr 3 ok (gS kf af bf)) (.arr 1 ok1 (gB zf)) (.cells (vat6 w) 25) (.cells (vat8 w) 29)⟩

theorem inv_b {first : Int} {v : Vat} {x : Tru} (hv : VOk v) (h : Inv first v x) : (0 ≤ x.dry ∧ x.dry ≤ 1099511627776) ∧ (0 ≤ x.water ∧ x.water ≤ 1099511627776) ∧ (0 ≤ x.phenol ∧ x.phenol ≤ 1099511627776) ∧ (0 ≤ x.taken ∧ x.taken ≤ 1099511627776) ∧
    (0 ≤ x.gas ∧ x.gas ≤ 1099511627776) ∧ (0 ≤ x.roots ∧ x.roots ≤ 1099511627776) ∧ (0 ≤ x.steam ∧ x.steam ≤ 1099511627776) := by
  simp only [VOk, Inv] at hv h
  omega

/-- Behind a round. -/
def CNext (n c nb cb : Nat) (first i : Int) (v : Vat) (vs : List VV) : Prop :=
  ∃ y : Tru, Inv first v y ∧ vs = [.slice (.el 0 [] 0 0) n c, .slice (.el 1 [] 0 0) nb cb, .ptr (.own 3 0), .ptr (.own 4 0), I y.dry, I y.water, I y.phenol, I first, I y.taken, I y.gas, I y.roots, I y.steam, I (i + 1)]

theorem c_tree {n c nb cb : Nat} {first i : Int} {v : Vat} {x : Tru} (hv : VOk v) (hx : Inv first v x) (hd : doE v (kf i) (af i) (bf i) = 0) (h0 : 0 ≤ i) (hi : i < n) (hn : n ≤ 256) (hok : ok [] i) (hnb : 0 < nb)
    (hok1 : ∀ j : Int, 0 ≤ j → j < (nb : Int) → ok1 [] j ∧ 0 ≤ zf j ∧ zf j ≤ 4294967295) :
    codeE Try.prog (callN Try.prog (tabS [(20, stepT stB), awT, pickT]) noL 10 20) (fun _ => none) true 10 401 0 (loopB 0 (bodyOf Try.prog 4)) (cT n c nb cb first i x) (cH ok ok1 kf af bf zf w)
      (cK (fun bs vs => bs = [.arr 3 ok (gS kf af bf), .arr 1 ok1 (gB zf), .cells (vat6 w) 25, .cells (vat8 w) 29] ∧ CNext n c nb cb first i (doV v (kf i) (af i) (bf i)) vs) (fun r => r = .bool true) (fun _ _ _ => False)) := by
  obtain ⟨hs, _, _⟩ := of_doE hd
  have hv' := doV_ok hv hd
  have hr : remZ (i + 3) nb = (i + 3) % nb := remZ_nn (by omega)
  have hr1 := Int.emod_nonneg (i + 3) (show (nb : Int) ≠ 0 by omega)
  have hr2 := Int.emod_lt_of_pos (i + 3) (show 0 < (nb : Int) by omega)
  rw [cround_ev]
  simp only [Int.zero_add]
  rw [hr]
  obtain ⟨hz1, hz2, hz3⟩ := hok1 _ hr1 hr2
  generalize (i + 3) % (nb : Int) = ix at *
  generalize zf ix = z at *
  have hb := inv_b hv hx
  have hi2 : (0 : Int) ≤ i ∧ i < (n : Int) := ⟨h0, hi⟩
  refine cond_dk hi (cond_dk hi2 ⟨hok, ?_⟩)
  rw [hs]
  refine cond_r (by omega) (cond_d (fun h => by omega) (fun _ => cond_dk ⟨hr1, hr2⟩ ⟨hz1, ?_⟩))
  clear hok1 hok hr
  generalize kf i = k at *
  generalize af i = a at *
  generalize bf i = b at *
  obtain ⟨hk, ha, hab, hb0, hb1, hb2, hb3⟩ := st_cases hs
  obtain ⟨b1, b2, b3, b4, b5, b6, b7⟩ := hb
  have g3 := hv.1
  have hdh := hx.2.1
  have mab : a * x.dry ≤ b * x.dry := Int.mul_le_mul_of_nonneg_right hab b1.1
  obtain ⟨p1, p2, p3, p4⟩ := tru_prods hv hx hs
  rcases hk with rfl | rfl | rfl | rfl | rfl | rfl
  · have hp := pk_in (z := z) hab
    have hf := inv_0 hx hp.1 hp.2
    have hb' := inv_b hv' hf
    generalize pk a b z = c at *
    simp only at hb'
    repeat' first
      | refine cond_r (by omega) ?_
      | refine ⟨⟨⟨by omega, by omega⟩, ⟨by omega, by omega⟩, ⟨by omega, by omega⟩⟩, ?_⟩
      | (refine cond_d (fun _ => ?_) (fun _ => ?_) <;> try (exfalso; omega))
    all_goals exact ⟨rfl, _, hf, rfl⟩
  · have hq := prods hv hs (by omega)
    have q1 : quoZ (a * x.dry + 9999) 10000 = (a * x.dry + 9999) / 10000 := quoZ_nn (by omega)
    have q2 : quoZ (b * x.dry) 10000 = b * x.dry / 10000 := quoZ_nn p4
    rw [q1, q2]
    by_cases hle : (a * x.dry + 9999) / 10000 ≤ b * x.dry / 10000
    · have hp := pk_in (z := z) hle
      have hf := inv_1 hv hx hs hp.1 hp.2
      have hb' := inv_b hv' hf
      generalize pk ((a * x.dry + 9999) / 10000) (b * x.dry / 10000) z = c at *
      simp only at hb'
      repeat' first
        | refine cond_r (by omega) ?_
        | refine ⟨⟨⟨by omega, by omega⟩, ⟨by omega, by omega⟩, ⟨by omega, by omega⟩⟩, ?_⟩
        | (refine cond_d (fun _ => ?_) (fun _ => ?_) <;> try (exfalso; omega))
      all_goals exact ⟨rfl, _, hf, rfl⟩
    · repeat' first
        | refine cond_r (by omega) ?_
        | refine ⟨⟨⟨by omega, by omega⟩, ⟨by omega, by omega⟩, ⟨by omega, by omega⟩⟩, ?_⟩
        | (refine cond_d (fun _ => ?_) (fun _ => ?_) <;> try (exfalso; omega))
      all_goals first | trivial | rfl
  · have hq := prods hv hs (by omega)
    have q1 : quoZ (a * x.dry + 9999) 10000 = (a * x.dry + 9999) / 10000 := quoZ_nn (by omega)
    have q2 : quoZ (b * x.dry) 10000 = b * x.dry / 10000 := quoZ_nn p4
    rw [q1, q2]
    by_cases hle : (a * x.dry + 9999) / 10000 ≤ min (b * x.dry / 10000) x.water
    · have hp := pk_in (z := z) hle
      have hf := inv_2 hv hx hs hp.1 hp.2
      have hb' := inv_b hv' hf
      generalize pk ((a * x.dry + 9999) / 10000) (min (b * x.dry / 10000) x.water) z = c at *
      simp only at hb'
      repeat' first
        | refine cond_r (by omega) ?_
        | refine ⟨⟨⟨by omega, by omega⟩, ⟨by omega, by omega⟩, ⟨by omega, by omega⟩⟩, ?_⟩
        | (refine cond_d (fun _ => ?_) (fun _ => ?_) <;> try (exfalso; omega))
      all_goals exact ⟨rfl, _, hf, rfl⟩
    · repeat' first
        | refine cond_r (by omega) ?_
        | refine ⟨⟨⟨by omega, by omega⟩, ⟨by omega, by omega⟩, ⟨by omega, by omega⟩⟩, ?_⟩
        | (refine cond_d (fun _ => ?_) (fun _ => ?_) <;> try (exfalso; omega))
      all_goals first | trivial | rfl
  · have hq := prods hv hs (by omega)
    have q1 : quoZ (a * x.dry + 999) 1000 = (a * x.dry + 999) / 1000 := quoZ_nn (by omega)
    have q2 : quoZ (b * x.dry) 1000 = b * x.dry / 1000 := quoZ_nn p4
    rw [q1, q2]
    by_cases hle : (a * x.dry + 999) / 1000 ≤ b * x.dry / 1000
    · have hp := pk_in (z := z) hle
      have hf := inv_3 hv hx hs hp.1 hp.2
      have hb' := inv_b hv' hf
      generalize pk ((a * x.dry + 999) / 1000) (b * x.dry / 1000) z = c at *
      simp only at hb'
      repeat' first
        | refine cond_r (by omega) ?_
        | refine ⟨⟨⟨by omega, by omega⟩, ⟨by omega, by omega⟩, ⟨by omega, by omega⟩⟩, ?_⟩
        | (refine cond_d (fun _ => ?_) (fun _ => ?_) <;> try (exfalso; omega))
      all_goals exact ⟨rfl, _, hf, rfl⟩
    · repeat' first
        | refine cond_r (by omega) ?_
        | refine ⟨⟨⟨by omega, by omega⟩, ⟨by omega, by omega⟩, ⟨by omega, by omega⟩⟩, ?_⟩
        | (refine cond_d (fun _ => ?_) (fun _ => ?_) <;> try (exfalso; omega))
      all_goals first | trivial | rfl
  · by_cases hle : a ≤ min b x.dry
    · have hp := pk_in (z := z) hle
      have hf := inv_4 hv hx hp.1 hp.2
      have hb' := inv_b hv' hf
      generalize pk a (min b x.dry) z = c at *
      simp only at hb'
      repeat' first
        | refine cond_r (by omega) ?_
        | refine ⟨⟨⟨by omega, by omega⟩, ⟨by omega, by omega⟩, ⟨by omega, by omega⟩⟩, ?_⟩
        | (refine cond_d (fun _ => ?_) (fun _ => ?_) <;> try (exfalso; omega))
      all_goals exact ⟨rfl, _, hf, rfl⟩
    · repeat' first
        | refine cond_r (by omega) ?_
        | refine ⟨⟨⟨by omega, by omega⟩, ⟨by omega, by omega⟩, ⟨by omega, by omega⟩⟩, ?_⟩
        | (refine cond_d (fun _ => ?_) (fun _ => ?_) <;> try (exfalso; omega))
      all_goals first | trivial | rfl
  · repeat' first
      | refine cond_r (by omega) ?_
      | (refine cond_d (fun _ => ?_) (fun _ => ?_) <;> try (exfalso; omega))
      | (refine cond_nd (fun _ => ?_) (fun _ => ?_) <;> try (exfalso; omega))
    all_goals first
      | trivial
      | rfl
      | exact ⟨rfl, _, inv_5 hx (by omega) (by omega), rfl⟩

theorem c_round {n c nb cb : Nat} {first i : Int} {v : Vat} {x : Tru} (hv : VOk v) (hx : Inv first v x) (hd : doE v (kf i) (af i) (bf i) = 0) (h0 : 0 ≤ i) (hi : i < n) (hn : n ≤ 256) (hok : ok [] i) (hnb : 0 < nb)
    (hok1 : ∀ j : Int, 0 ≤ j → j < (nb : Int) → ok1 [] j ∧ 0 ≤ zf j ∧ zf j ≤ 4294967295) :
    (∃ y, Inv first (doV v (kf i) (af i) (bf i)) y ∧ SemC Try.prog true cBody 401 (cT n c nb cb first i x) (cH ok ok1 kf af bf zf w) .normal (cT n c nb cb first (i + 1) y) (cH ok ok1 kf af bf zf w)) ∨
    SemC Try.prog true cBody 401 (cT n c nb cb first i x) (cH ok ok1 kf af bf zf w) .ret [(6, .bool true)] ⟨5, []⟩ := by
  obtain ⟨e, t', h', h1, h2⟩ := code_of hmix (tab_good hmix ctab_ok 20) (un := 10) (n := 401) (c := cBody) (t := cT n c nb cb first i x) (h := cH ok ok1 kf af bf zf w) (c_tree ok ok1 kf af bf zf w hv hx hd h0 hi hn hok hnb hok1)
  unfold cK at h1
  split at h1
  · obtain ⟨hb, y, hy, hs⟩ := h1
    simp only [List.cons.injEq] at hb hs
    obtain ⟨b1, b2, b3, b4, _⟩ := hb
    obtain ⟨s1, s2, s3, s4, s5, s6, s7, s8, s9, s10, s11, s12, s13, _⟩ := hs
    exact .inl ⟨y, hy, sem_weak h2 (Nat.le_refl 5) ⟨b1, b2, b3, b4, trivial⟩ rfl ⟨s1, s2, s3, s4, s5, s6, s7, s8, s9, s10, s11, s12, s13, trivial⟩ rfl (fun v hv => by cases hv)⟩
  · exact .inr (sem_weak h2 (Nat.le_refl 5) trivial rfl ⟨h1, trivial⟩ rfl (fun v hv => by cases hv))
  · exact h1.elim
  · exact h1.elim

theorem c_end {n c nb cb : Nat} {first i : Int} {x : Tru} (hi : i = n) :
    SemC Try.prog true cBody 401 (cT n c nb cb first i x) (cH ok ok1 kf af bf zf w) (.exit 0) (cT n c nb cb first i x) (cH ok ok1 kf af bf zf w) := by
  obtain ⟨e, t', h', h1, h2⟩ := code_of hmix (tab_good hmix ctab_ok 20) (un := 10) (n := 401) (c := cBody) (t := cT n c nb cb first i x) (h := cH ok ok1 kf af bf zf w)
    (K := cK (fun _ _ => False) (fun _ => False) (fun id bs vs => id = 0 ∧ bs = [.arr 3 ok (gS kf af bf), .arr 1 ok1 (gB zf), .cells (vat6 w) 25, .cells (vat8 w) 29] ∧ vs = [.slice (.el 0 [] 0 0) n c, .slice (.el 1 [] 0 0) nb cb, .ptr (.own 3 0), .ptr (.own 4 0), I x.dry, I x.water, I x.phenol, I first, I x.taken, I x.gas, I x.roots, I x.steam, I i]))
    (by
      rw [cround_ev]
      refine cond_d (fun h => ?_) (fun _ => ⟨rfl, rfl, rfl⟩)
      omega)
  unfold cK at h1
  split at h1
  · exact h1.elim
  · exact h1.elim
  · obtain ⟨rfl, hb, hs⟩ := h1
    simp only [List.cons.injEq] at hb hs
    obtain ⟨b1, b2, b3, b4, _⟩ := hb
    obtain ⟨s1, s2, s3, s4, s5, s6, s7, s8, s9, s10, s11, s12, s13, _⟩ := hs
    exact sem_weak h2 (Nat.le_refl 5) ⟨b1, b2, b3, b4, trivial⟩ rfl ⟨s1, s2, s3, s4, s5, s6, s7, s8, s9, s10, s11, s12, s13, trivial⟩ rfl (fun v hv => by cases hv)
  · exact h1.elim

theorem c_loop {n c nb cb : Nat} {first : Int} {v0 : Vat} (hv0 : ∀ i : Nat, i ≤ n → VOk (vatA kf af bf i v0)) (hd : ∀ i : Nat, i < n → doE (vatA kf af bf i v0) (kf i) (af i) (bf i) = 0) (hn : n ≤ 256) (hok : ∀ j : Int, 0 ≤ j → j < (n : Int) → ok [] j) (hnb : 0 < nb)
    (hok1 : ∀ j : Int, 0 ≤ j → j < (nb : Int) → ok1 [] j ∧ 0 ≤ zf j ∧ zf j ≤ 4294967295) : ∀ (m i : Nat) (x : Tru), i + m = n → Inv first (vatA kf af bf i v0) x →
    (∃ y, Inv first (vatA kf af bf n v0) y ∧ LoopTo Try.prog true cBody 401 (cT n c nb cb first i x) (cH ok ok1 kf af bf zf w) (.exit 0) (cT n c nb cb first n y) (cH ok ok1 kf af bf zf w)) ∨
    LoopTo Try.prog true cBody 401 (cT n c nb cb first i x) (cH ok ok1 kf af bf zf w) .ret [(6, .bool true)] ⟨5, []⟩
  | 0, i, x, hi, hx => by
    have : i = n := by omega
    subst this
    exact .inl ⟨x, hx, .last (c_end ok ok1 kf af bf zf w rfl) (by simp)⟩
  | m + 1, i, x, hi, hx => by
    rcases c_round ok ok1 kf af bf zf w (c := c) (cb := cb) (hv0 i (by omega)) hx (hd i (by omega)) (by omega) (by omega) hn (hok i (by omega) (by omega)) hnb hok1 with ⟨y, hy, hs⟩ | hs
    · rcases c_loop hv0 hd hn hok hnb hok1 m (i + 1) y (by omega) hy with ⟨z, hz, hl⟩ | hl
      · exact .inl ⟨z, hz, .next hs hl⟩
      · exact .inr (.next hs hl)
    · exact .inr (.last hs (by simp))

/-- The loop as a row. -/
def conB (G : Prop) (n c nb cb : Nat) (v0 : Vat) : LT := fun lock t h K =>
  match look t 11, look t 13, look t 15, look t 17 with
  | .int .i64 dry, .int .i64 water, .int .i64 phenol, .int .i64 first =>
    ((G ∧ FitP lock h t (cH ok ok1 kf af bf zf w) (cT n c nb cb first 0 ⟨dry, water, phenol, 0, 0, 0, 0⟩)) ∧ Inv first v0 ⟨dry, water, phenol, 0, 0, 0, 0⟩) ∧
      (∀ x : Tru, Inv first w x → K .normal (cT n c nb cb first n x) (cH ok ok1 kf af bf zf w)) ∧ K .ret [(6, .bool true)] ⟨5, []⟩
  | _, _, _, _ => False

/-- All steps go through. -/
def AllOk (n : Nat) (v0 : Vat) : Prop := (∀ i : Nat, i ≤ n → VOk (vatA kf af bf i v0)) ∧ (∀ i : Nat, i < n → doE (vatA kf af bf i v0) (kf i) (af i) (bf i) = 0) ∧ n ≤ 256 ∧ w = vatA kf af bf n v0

theorem conB_ok {n c nb cb : Nat} {v0 : Vat} (hok : ∀ j : Int, 0 ≤ j → j < (n : Int) → ok [] j)
    (hok1 : ∀ j : Int, 0 ≤ j → j < (nb : Int) → ok1 [] j ∧ 0 ≤ zf j ∧ zf j ≤ 4294967295) : LSound Try.prog true (.block 0 (.loop cBody)) 401 (conB ok ok1 kf af bf zf w (AllOk kf af bf w n v0 ∧ 0 < nb) n c nb cb v0) := by
  intro lock t h K hK
  unfold conB at hK
  split at hK
  · obtain ⟨⟨⟨⟨⟨hv0, hd, hn, hw⟩, hnb⟩, hf⟩, hx⟩, hK, hR⟩ := hK
    obtain rfl := hf.1.1
    rcases c_loop ok ok1 kf af bf zf w (c := c) (cb := cb) hv0 hd hn hok hnb hok1 n 0 _ (by omega) hx with ⟨y, hy, hl⟩ | hl
    · exact ⟨_, _, _, hK y (by rw [hw]; exact hy), lock0 _ _, sem_fit hf (block_sound (loopTo_sound hl) (.inl ⟨rfl, rfl⟩))⟩
    · exact ⟨_, _, _, hR, lock0 _ _, sem_fit hf (block_sound (loopTo_sound hl) (.inr ⟨by simp, rfl⟩))⟩
  · exact hK.elim
end
end Go.Sx.Malt
