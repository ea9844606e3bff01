/- stream: Ld4 Ld5, in one text. -/
import Derived.Test.YtlboglkgbhjpeaaWW5
/- blend: the outer loops of the law BlendFirst (printed by ld4.py). -/

namespace Go.Sx.Bln
open Go Go.Sx Go.Proofs
set_option maxRecDepth 1000000

theorem getD_drop {L : List Int} {k i : Nat} : (L.drop k).getD i 0 = L.getD (k + i) 0 := by
  rw [List.getD_eq_getElem?_getD, List.getElem?_drop, ← List.getD_eq_getElem?_getD]
theorem fi_tab : ∀ f T, tabS [someT, lmT, alT] f = some T → SpOk Try.prog f T := tab_ok _ (fun x hx => by
  simp only [List.mem_cons, List.not_mem_nil, or_false] at hx
  rcases hx with rfl | rfl | rfl
  · exact someT_ok
  · exact lmT_ok
  · exact alT_ok)
theorem fi_good : Good Try.prog (callN Try.prog (tabS [someT, lmT, alT]) noL 10 20) := noL_good fi_tab

section
variable {l : List Stk} {t : Tst} {d B : List Int} {x : Rsl}

theorem lsp_lF0 : ∀ id T, tabB [(2, lG0 l t d B x)] id = some T → ∀ b' ∈ blocksOf id (loopB 0 (bodyOf Try.prog 10)), LSound Try.prog true (.block id b') (ntOf Try.prog 10) T := by
  intro id T hT b' hb
  simp only [tabB] at hT
  cases hid : Nat.beq id 2 with
  | false => rw [hid] at hT; cases hT
  | true =>
    rw [hid] at hT
    have := Nat.eq_of_beq_eq_true hid
    subst this
    cases hT
    have h2 : blocksOf 2 (loopB 0 (bodyOf Try.prog 10)) = [.loop (loopB 2 (bodyOf Try.prog 10))] := by kernel_rfl
    rw [h2] at hb
    simp only [List.mem_singleton] at hb
    subst hb
    exact lG0_ok

theorem lF0_ok : LSound Try.prog true (.block 0 (.loop (loopB 0 (bodyOf Try.prog 10)))) (ntOf Try.prog 10) (lF0 l t d B x) := by
  rintro lock tt h K ⟨hf, ⟨⟨ho, hp, hB⟩, hx⟩, k1, k2⟩
  obtain ⟨hl, _, ht, _⟩ := okAll_l ho
  have hl6 := hl.1
  have hm0 : leftB l (mostF l) := most_left hl
  have hd4 : d.length ≤ 4 := (paths_of hp).2.1.2
  have hrow : LSound Try.prog true (.block 0 (.loop (loopB 0 (bodyOf Try.prog 10)))) (ntOf Try.prog 10) (fun lock tt h K => FitP lock h tt ⟨3, [0, 1, 2].zip (BFo l (csL l (mostF l)) t)⟩ (dsF.zip (VFo l t d B 0 (plnD l.length 1 d.length x) false 0 false false)) ∧ (∀ (y : Nat) (a : Nat → Int) (bf af : Bool), K .ret (dsF.zip (VFo l t d B 0 (plnD l.length 1 d.length x) true y bf af)) ⟨3, [0, 1, 2].zip (BFo l (csL l a) t)⟩) ∧ ∀ (y : Nat) (a : Nat → Int) (af : Bool), K .normal (dsF.zip (VFo l t d B 0 (plnD l.length 1 d.length x) false y false af)) ⟨3, [0, 1, 2].zip (BFo l (csL l a) t)⟩) := by
    refine loop_row hmix fi_good (un := 10) (ds := dsF) (ns := [0, 1, 2]) (nx := 3) (lsp := tabB [(2, lG0 l t d B x)]) (fun s : Nat × (Nat → Nat → Int) × Bool × Bool => VFo l t d B 0 (plnD l.length 1 d.length x) false s.1 s.2.2.1 s.2.2.2) (fun s => BFo l (csL l (aF (mostF l) s.2.1 s.1)) t) (fun s : Nat × (Nat → Nat → Int) × Bool × Bool => s.1 ≤ d.length ∧ chV l t d (mostF l) s.2.1 s.1 ∧ leftB l (aF (mostF l) s.2.1 s.1) ∧ flI l.length (x 0) s.2.1 s.1 s.2.2.1 s.2.2.2) (fun s => d.length - s.1) (fun _ ex vs bs => (ex = .ret ∧ ∃ (y : Nat) (a : Nat → Int) (bf af : Bool), bs = BFo l (csL l a) t ∧ vs = VFo l t d B 0 (plnD l.length 1 d.length x) true y bf af) ∨ (ex = .exit 0 ∧ ∃ (y : Nat) (a : Nat → Int) (af : Bool), bs = BFo l (csL l a) t ∧ vs = VFo l t d B 0 (plnD l.length 1 d.length x) false y false af)) lsp_lF0 ?_ ?_
    · rintro ⟨y, cs, bf, af⟩ ⟨h0, hch, hL, hfi⟩
      dsimp only at h0 hch hL hfi
      refine cast (lfo_ev l (csL l (aF (mostF l) cs y)) t d B x y bf af _).symm ?_
      by_cases hlt : y < d.length
      · have hr : 0 ≤ remZ (y : Int) B.length ∧ remZ (y : Int) B.length < B.length := by
          have := hB.1
          rw [remZ_nn (by omega)]
          exact ⟨Int.emod_nonneg _ (by omega), Int.emod_lt_of_pos _ (by omega)⟩
        have hB1 := hB.1
        have hB' : u8B (B.drop (remZ (y : Int) B.length).toNat) := ⟨by rw [List.length_drop]; omega, fun i => by rw [getD_drop]; exact hB.2 _⟩
        have hlf : lB (csL l (aF (mostF l) cs y)) := csL_lB hl hL.1
        have hof : (csL l (aF (mostF l) cs y)).length = l.length := csL_len
        generalize hown : someF (csL l (aF (mostF l) cs y)) (B.drop (remZ (y : Int) B.length).toNat) = own
        have ho1 : ∀ i, i < l.length → 0 ≤ own i ∧ own i ≤ aF (mostF l) cs y i := fun i hi => by
          have := some_bd hlf hB' (i := i) (by rw [hof]; exact hi)
          rw [hown, csL_get hi] at this
          exact this
        have ho2 : ∀ i, l.length ≤ i → own i = 0 := fun i hi => by
          rw [← hown]
          exact some_ge (by rw [hof]; exact hi)
        have hmem : own ∈ allC (aF (mostF l) cs y) l.length := (all_mem (fun i hi => (hL.1 i hi).1)).2 ⟨ho1, ho2⟩
        have hty : (1 : Nat) = Try.prog.types[5].size := by kernel_rfl
        refine cond_dk (by omega) (cond_dk ⟨by omega, by omega⟩ (cond_d (fun h => by omega) (fun _ => cond_dk ⟨by omega, by omega, by omega⟩ ⟨csL l (aF (mostF l) cs y), B.drop (remZ (y : Int) B.length).toNat, ⟨by rw [hof]; omega, by decide, _, _, rfl, fun _ _ => rfl⟩, ⟨by rw [List.length_drop]; omega, hty, fun j _ => by unfold bG; rw [getD_drop]⟩, ⟨hlf, hB'⟩, csL l (aF (mostF l) cs y), t, dC (csL l (aF (mostF l) cs y)) own, ⟨by rw [hof]; omega, by decide, _, _, rfl, fun _ _ => rfl⟩, isD_t, isD_own (by rw [hown]; rfl), cond_i (fun _ => .inl ⟨rfl, y, _, bf, af, rfl, rfl⟩) (fun hm => ?_)⟩)))
        have hm : lmF (csL l (aF (mostF l) cs y)) t y (d.getD y 0) (dC (csL l (aF (mostF l) cs y)) own) = true := by
          rw [show (y : Int).toNat = y by omega] at hm
          simpa using hm
        have hmt := lm_cs ho2 hm
        have hcs : ∀ y', y' < y → cs y' = (fun y' => if y' = y then own else cs y') y' := fun y' h => by dsimp only; rw [if_neg (by omega)]
        have haF : aF (mostF l) (fun y' => if y' = y then own else cs y') y = aF (mostF l) cs y := (aF_congr hcs).symm
        have hch' : chV l t d (mostF l) (fun y' => if y' = y then own else cs y') (y + 1) := fun y' hy' => by
          by_cases e : y' = y
          · subst e
            rw [haF]
            dsimp only
            rw [if_pos rfl]
            exact ⟨hmem, hmt⟩
          · have e2 : aF (mostF l) (fun y' => if y' = y then own else cs y') y' = aF (mostF l) cs y' := (aF_congr (fun z hz => hcs z (by omega))).symm
            rw [e2]
            dsimp only
            rw [if_neg e]
            exact hch y' (by omega)
        have hnew : aF (mostF l) (fun y' => if y' = y then own else cs y') (y + 1) = lsF (aF (mostF l) cs y) own 6 := by
          show lsF (aF (mostF l) (fun y' => if y' = y then own else cs y') y) (if y = y then own else cs y) 6 = _
          rw [haF, if_pos rfl]
        have hL' : leftB l (aF (mostF l) (fun y' => if y' = y then own else cs y') (y + 1)) := by
          rw [hnew]
          exact (left_less hL hmem hl6).1
        have hblk : csL l (lsN (aF (mostF l) cs y) own (csL l (aF (mostF l) cs y)).length) = csL l (aF (mostF l) (fun y' => if y' = y then own else cs y') (y + 1)) := by
          rw [hnew]
          refine csL_congr (fun i hi => ?_)
          unfold lsN lsF
          rw [if_pos (by rw [hof]; exact hi), if_pos (by omega)]
        refine ⟨y, d.getD y 0, (csL l (aF (mostF l) cs y)).length, aF (mostF l) cs y, own, bf, af, ⟨⟨rfl, rfl, VB.fit_refl _, VB.fit_refl _, VB.fit_refl _, by rw [hown]; exact VB.fit_refl _, trivial⟩, rfl, rfl, rfl, rfl, rfl, rfl, rfl, rfl, rfl, rfl, rfl, rfl, rfl, rfl, rfl, rfl, rfl, rfl, rfl, rfl, trivial⟩, ⟨⟨hof, hl6, hL.1, fun i hi => by have := ho1 i hi; have := hL.1 i hi; omega⟩, hlt⟩, fun bf' af' hfl => cond_r (by omega) ⟨(y + 1, fun y' => if y' = y then own else cs y', bf', af'), ⟨by dsimp only; omega, hch', hL', ?_⟩, by dsimp only; omega, rfl, ?_, fun _ _ _ h => h⟩⟩
        · dsimp only
          refine flI_step (flI_congr (fun y' hy' => by rw [if_neg (by omega)]) hfi) ?_
          rw [if_pos rfl]
          rw [hfl, csL_len]
        · dsimp only
          rw [← hblk]
          exact fitBs_refl _
      · obtain rfl : y = d.length := by omega
        refine cond_d (fun h => by omega) (fun _ => .inr ⟨rfl, d.length, _, af, rfl, ?_⟩)
        obtain rfl := flI_end hl6 hch hm0 hx hfi
        rfl
    · rintro lock tt h K ⟨hf, k1, k2⟩
      refine ⟨(0, fun _ _ => 0, false, false), hf, ⟨Nat.zero_le _, fun y' h => by dsimp only at h; omega, hm0, .inl ⟨rfl, rfl, fun y' h => by dsimp only at h; omega⟩⟩, ?_⟩
      rintro ex vs bs (⟨rfl, y, a, bf, af, rfl, rfl⟩ | ⟨rfl, y, a, af, rfl, rfl⟩)
      · exact k1 y a bf af
      · exact k2 y a af
  exact hrow lock tt h K ⟨hf, k1, k2⟩

theorem lsp_lF4 : ∀ id T, tabB [(2, lG4 l t d B)] id = some T → ∀ b' ∈ blocksOf id (loopB 0 (bodyOf Try.prog 10)), LSound Try.prog true (.block id b') (ntOf Try.prog 10) T := by
  intro id T hT b' hb
  simp only [tabB] at hT
  cases hid : Nat.beq id 2 with
  | false => rw [hid] at hT; cases hT
  | true =>
    rw [hid] at hT
    have := Nat.eq_of_beq_eq_true hid
    subst this
    cases hT
    have h2 : blocksOf 2 (loopB 0 (bodyOf Try.prog 10)) = [.loop (loopB 2 (bodyOf Try.prog 10))] := by kernel_rfl
    rw [h2] at hb
    simp only [List.mem_singleton] at hb
    subst hb
    exact lG4_ok

theorem lF4_ok : LSound Try.prog true (.block 0 (.loop (loopB 0 (bodyOf Try.prog 10)))) (ntOf Try.prog 10) (lF4 l t d B) := by
  rintro lock tt h K ⟨hf, ⟨⟨ho, hp, hB⟩, hx⟩, k1⟩
  obtain ⟨hl, _, ht, _⟩ := okAll_l ho
  have hl6 := hl.1
  have hm0 : leftB l (mostF l) := most_left hl
  have hd4 : d.length ≤ 4 := (paths_of hp).2.1.2
  have hrow : LSound Try.prog true (.block 0 (.loop (loopB 0 (bodyOf Try.prog 10)))) (ntOf Try.prog 10) (fun lock tt h K => FitP lock h tt ⟨3, [0, 1, 2].zip (BFo l (csL l (mostF l)) t)⟩ (dsF.zip (VFo l t d B 4 .nils false 0 false false)) ∧ ∀ (y : Nat) (a : Nat → Int) (bf af : Bool), K .ret (dsF.zip (VFo l t d B 4 .nils true y bf af)) ⟨3, [0, 1, 2].zip (BFo l (csL l a) t)⟩) := by
    refine loop_row hmix fi_good (un := 10) (ds := dsF) (ns := [0, 1, 2]) (nx := 3) (lsp := tabB [(2, lG4 l t d B)]) (fun s : Nat × (Nat → Nat → Int) × Bool × Bool => VFo l t d B 4 .nils false s.1 s.2.2.1 s.2.2.2) (fun s => BFo l (csL l (aF (mostF l) s.2.1 s.1)) t) (fun s : Nat × (Nat → Nat → Int) × Bool × Bool => s.1 ≤ d.length ∧ chV l t d (mostF l) s.2.1 s.1 ∧ leftB l (aF (mostF l) s.2.1 s.1)) (fun s => d.length - s.1) (fun _ ex vs bs => (ex = .ret ∧ ∃ (y : Nat) (a : Nat → Int) (bf af : Bool), bs = BFo l (csL l a) t ∧ vs = VFo l t d B 4 .nils true y bf af)) lsp_lF4 ?_ ?_
    · rintro ⟨y, cs, bf, af⟩ ⟨h0, hch, hL⟩
      dsimp only at h0 hch hL
      refine cast (lfp_ev l (csL l (aF (mostF l) cs y)) t d B y bf af _).symm ?_
      by_cases hlt : y < d.length
      · have hr : 0 ≤ remZ (y : Int) B.length ∧ remZ (y : Int) B.length < B.length := by
          have := hB.1
          rw [remZ_nn (by omega)]
          exact ⟨Int.emod_nonneg _ (by omega), Int.emod_lt_of_pos _ (by omega)⟩
        have hB1 := hB.1
        have hB' : u8B (B.drop (remZ (y : Int) B.length).toNat) := ⟨by rw [List.length_drop]; omega, fun i => by rw [getD_drop]; exact hB.2 _⟩
        have hlf : lB (csL l (aF (mostF l) cs y)) := csL_lB hl hL.1
        have hof : (csL l (aF (mostF l) cs y)).length = l.length := csL_len
        generalize hown : someF (csL l (aF (mostF l) cs y)) (B.drop (remZ (y : Int) B.length).toNat) = own
        have ho1 : ∀ i, i < l.length → 0 ≤ own i ∧ own i ≤ aF (mostF l) cs y i := fun i hi => by
          have := some_bd hlf hB' (i := i) (by rw [hof]; exact hi)
          rw [hown, csL_get hi] at this
          exact this
        have ho2 : ∀ i, l.length ≤ i → own i = 0 := fun i hi => by
          rw [← hown]
          exact some_ge (by rw [hof]; exact hi)
        have hmem : own ∈ allC (aF (mostF l) cs y) l.length := (all_mem (fun i hi => (hL.1 i hi).1)).2 ⟨ho1, ho2⟩
        have hty : (1 : Nat) = Try.prog.types[5].size := by kernel_rfl
        refine cond_dk (by omega) (cond_dk ⟨by omega, by omega⟩ (cond_d (fun h => by omega) (fun _ => cond_dk ⟨by omega, by omega, by omega⟩ ⟨csL l (aF (mostF l) cs y), B.drop (remZ (y : Int) B.length).toNat, ⟨by rw [hof]; omega, by decide, _, _, rfl, fun _ _ => rfl⟩, ⟨by rw [List.length_drop]; omega, hty, fun j _ => by unfold bG; rw [getD_drop]⟩, ⟨hlf, hB'⟩, csL l (aF (mostF l) cs y), t, dC (csL l (aF (mostF l) cs y)) own, ⟨by rw [hof]; omega, by decide, _, _, rfl, fun _ _ => rfl⟩, isD_t, isD_own (by rw [hown]; rfl), cond_i (fun _ => ⟨rfl, y, _, bf, af, rfl, rfl⟩) (fun hm => ?_)⟩)))
        have hm : lmF (csL l (aF (mostF l) cs y)) t y (d.getD y 0) (dC (csL l (aF (mostF l) cs y)) own) = true := by
          rw [show (y : Int).toNat = y by omega] at hm
          simpa using hm
        have hmt := lm_cs ho2 hm
        have hcs : ∀ y', y' < y → cs y' = (fun y' => if y' = y then own else cs y') y' := fun y' h => by dsimp only; rw [if_neg (by omega)]
        have haF : aF (mostF l) (fun y' => if y' = y then own else cs y') y = aF (mostF l) cs y := (aF_congr hcs).symm
        have hch' : chV l t d (mostF l) (fun y' => if y' = y then own else cs y') (y + 1) := fun y' hy' => by
          by_cases e : y' = y
          · subst e
            rw [haF]
            dsimp only
            rw [if_pos rfl]
            exact ⟨hmem, hmt⟩
          · have e2 : aF (mostF l) (fun y' => if y' = y then own else cs y') y' = aF (mostF l) cs y' := (aF_congr (fun z hz => hcs z (by omega))).symm
            rw [e2]
            dsimp only
            rw [if_neg e]
            exact hch y' (by omega)
        have hnew : aF (mostF l) (fun y' => if y' = y then own else cs y') (y + 1) = lsF (aF (mostF l) cs y) own 6 := by
          show lsF (aF (mostF l) (fun y' => if y' = y then own else cs y') y) (if y = y then own else cs y) 6 = _
          rw [haF, if_pos rfl]
        have hL' : leftB l (aF (mostF l) (fun y' => if y' = y then own else cs y') (y + 1)) := by
          rw [hnew]
          exact (left_less hL hmem hl6).1
        have hblk : csL l (lsN (aF (mostF l) cs y) own (csL l (aF (mostF l) cs y)).length) = csL l (aF (mostF l) (fun y' => if y' = y then own else cs y') (y + 1)) := by
          rw [hnew]
          refine csL_congr (fun i hi => ?_)
          unfold lsN lsF
          rw [if_pos (by rw [hof]; exact hi), if_pos (by omega)]
        refine ⟨y, d.getD y 0, (csL l (aF (mostF l) cs y)).length, aF (mostF l) cs y, own, bf, af, ⟨⟨rfl, rfl, VB.fit_refl _, VB.fit_refl _, VB.fit_refl _, by rw [hown]; exact VB.fit_refl _, trivial⟩, rfl, rfl, rfl, rfl, rfl, rfl, rfl, rfl, rfl, rfl, rfl, rfl, rfl, rfl, rfl, rfl, rfl, rfl, rfl, rfl, trivial⟩, ⟨⟨hof, hl6, hL.1, fun i hi => by have := ho1 i hi; have := hL.1 i hi; omega⟩, hlt⟩, cond_r (by omega) ⟨(y + 1, fun y' => if y' = y then own else cs y', bf, af), ⟨by dsimp only; omega, hch', hL'⟩, by dsimp only; omega, rfl, ?_, fun _ _ _ h => h⟩⟩
        · dsimp only
          rw [← hblk]
          exact fitBs_refl _
      · obtain rfl : y = d.length := by omega
        refine cond_d (fun h => by omega) (fun _ => ?_)
        exfalso
        have hex := ch_ex (Y := d.length) hch (k := d.length) (Nat.le_refl _)
        rw [Nat.sub_self] at hex
        have := (planF_ex (l := l) (t := t) (d := d) (Y := d.length) (k := d.length) (a := mostF l) (Nat.le_refl _)).2 (by rw [Nat.sub_self]; exact hex)
        rw [hx] at this
        cases this
    · rintro lock tt h K ⟨hf, k1⟩
      refine ⟨(0, fun _ _ => 0, false, false), hf, ⟨Nat.zero_le _, fun y' h => by dsimp only at h; omega, hm0⟩, ?_⟩
      rintro ex vs bs ⟨rfl, y, a, bf, af, rfl, rfl⟩
      exact k1 y a bf af
  exact hrow lock tt h K ⟨hf, k1⟩
end
end Go.Sx.Bln

/- blend: the law BlendFirst holds. -/

namespace Go.Sx.Bln
open Go Go.Sx Go.Proofs
set_option maxRecDepth 1000000

theorem rsYF_ok (l : List Stk) (t : Tst) : SpOk Try.prog (rsYF l t).1 (rsYF l t).2 := by
  intro lock args h K hK
  simp only [rsYF] at hK
  split at hK
  · obtain ⟨h1, h2, ⟨h3, h4, h5⟩, hK⟩ := hK
    exact rsT_ok lock _ h K ⟨l, t, h1, h2, ⟨h3, h4⟩, by rw [h5]; exact hK⟩
  · exact hK.elim
theorem plF_ok {l : List Stk} {t : Tst} {d : List Int} {E : Int} {P : Prop} {R : VV} (hR : ∀ r h', CallsV Try.prog 17 [stD l, .agg (tsL t), pthD [d]] ⟨0, []⟩ r h' → plE l t [d] = E → P → ((plE l t [d] ≠ 0 ∧ r = .ret (.tup [.nils, I (plE l t [d])])) ∨ (plE l t [d] = 0 ∧ ∃ x, planF l t [d] d.length d.length 1 (mostF l) = some x ∧ r = .ret (.tup [plnD l.length 1 d.length x, I 0]))) → r = .ret R) (hb : R.bel 0 = true) : SpOk Try.prog (plF l t d E P (.ret R)).1 (plF l t d E P (.ret R)).2 := by
  intro lock args h K hK
  simp only [plF] at hK
  split at hK
  · rename_i a b m L nx bs
    obtain ⟨rfl, rfl, ⟨rfl, rfl, g, ty, hm, hg⟩, ⟨hd, he, hP⟩, hK⟩ := hK
    obtain ⟨r, h', hc, ho⟩ := plnO_v (l := l) (t := t) hd
    obtain rfl := hR r h' hc he hP ho
    have hc3 : CallsV Try.prog 17 [stD l, .agg (tsL t), pthD [d]] ⟨nx, (m, .gone) :: bs⟩ (.ret R) ⟨nx, (m, .gone) :: bs⟩ := calls_lift0 hc rfl hb
    have hc4 : CallsV Try.prog 17 [stD l, .agg (tsL t), .tl 1 1 g] ⟨nx, (m, .gone) :: bs⟩ (.ret R) ⟨nx, (m, .gone) :: bs⟩ := calls_args hc3 (fun R xs hx => by
      obtain ⟨y0, _, k0, ⟨y1, _, k1, ⟨y2, _, k2, k3, rfl⟩, rfl⟩, rfl⟩ := hx
      obtain ⟨_, _, u1, _, e1⟩ := (tl_weak (L := 1) (L' := 1) (s := 1) (g := g) (g' := pthG [d]) rfl (fun i hi => by
        obtain rfl : i = 0 := by omega
        rw [hg]
        exact wkL_refl _)).1 R [y2] ⟨y2, [], k2, rfl, rfl⟩
      cases e1
      exact ⟨_, _, k0, ⟨_, _, k1, ⟨_, _, u1, k3, rfl⟩, rfl⟩, rfl⟩)
    refine ⟨_, _, hK, lock0 _ _, calls_told (h := ⟨nx, bs⟩) (m := m) (L := 1) (s := 1) (g := g) (t := ty) hc4 hm (fun R R' xs hle hv hxs => ?_)⟩
    obtain ⟨y0, _, k0, ⟨y1, _, k1, ⟨y2, _, k2, k3, rfl⟩, rfl⟩, rfl⟩ := hxs
    exact ⟨_, _, VRel.mono hle _ _ k0, ⟨_, _, VRel.mono hle _ _ k1, ⟨_, _, hv y2 k2, VRelL.mono hle _ _ k3, rfl⟩, rfl⟩, rfl⟩
  · exact hK.elim
theorem roomF6 : ∀ n : Nat, n < 7 → roomB (0 + n) 56 = true := by decide
theorem plE_vals {l : List Stk} {t : Tst} {d : List Int} : plE l t [d] = 1 ∨ plE l t [d] = 2 ∨ (okAll l t = true ∧ okPaths [d] = true ∧ ((plE l t [d] = 4 ∧ planF l t [d] d.length d.length 1 (mostF l) = none) ∨ (plE l t [d] = 0 ∧ ∃ x, planF l t [d] d.length d.length 1 (mostF l) = some x))) := by
  cases ho : okAll l t with
  | false => exact .inl (plE_1 ho)
  | true =>
    cases hp : okPaths [d] with
    | false => exact .inr (.inl (plE_2 ho hp))
    | true =>
      refine .inr (.inr ⟨rfl, rfl, ?_⟩)
      cases hx : planF l t [d] d.length d.length 1 (mostF l) with
      | none => exact .inl ⟨plE_n ho hp hx, rfl⟩
      | some x => exact .inr ⟨plE_s ho hp hx, x, rfl⟩

theorem fi_g {l : List Stk} {t : Tst} {d B : List Int} (hg : greatF l t 64 = true) : ∃ h', CallsV Try.prog 10 [stD l, .agg (tsL t), inD d, byD B] ⟨0, []⟩ (.ret (.bool true)) h' := by
  have htab : ∀ f T, tabS [grY l t true, alT] f = some T → SpOk Try.prog f T := tab_ok _ (fun x hx => by
    simp only [List.mem_cons, List.not_mem_nil, or_false] at hx
    rcases hx with rfl | rfl
    · exact grY_ok l t true
    · exact alT_ok)
  obtain ⟨r, h', rfl, hc⟩ := of_callN (noL_good htab) (f := 10) (args := [stD l, .agg (tsL t), inD d, byD B]) (h := ⟨0, []⟩) (K := fun r _ => r = .ret (.bool true)) (by
    refine cast (lfg_ev l t d B _).symm ⟨isD_l, isD_t, hg, ?_⟩
    rfl)
  exact ⟨h', hc⟩

theorem fi_1 {l : List Stk} {t : Tst} {d B : List Int} (hg : greatF l t 64 = false) (he : plE l t [d] = 1) : ∃ h', CallsV Try.prog 10 [stD l, .agg (tsL t), inD d, byD B] ⟨0, []⟩ (.ret (.bool true)) h' := by
  have htab : ∀ f T, tabS [grY l t false, plF l t d 1 True (.ret (.tup [.nils, I 1])), alT] f = some T → SpOk Try.prog f T := tab_ok _ (fun x hx => by
    simp only [List.mem_cons, List.not_mem_nil, or_false] at hx
    rcases hx with rfl | rfl | rfl
    · exact grY_ok l t false
    · exact plF_ok (fun r h' _ he _ ho => ho.elim (fun ⟨_, hr⟩ => by rw [hr, he]) (fun ⟨h0, _⟩ => absurd (he.symm.trans h0) (by decide))) rfl
    · exact alT_ok)
  obtain ⟨r, h', rfl, hc⟩ := of_callN (noL_good htab) (f := 10) (args := [stD l, .agg (tsL t), inD d, byD B]) (h := ⟨0, []⟩) (K := fun r _ => r = .ret (.bool true)) (by
    refine cast (lf1_ev l t d B _).symm ⟨isD_l, isD_t, hg, ?_⟩
    refine cond_d (fun _ => rfl) (fun hd6 => cond_d (fun _ => rfl) (fun hB0 => ⟨rfl, rfl, ⟨rfl, rfl, _, _, rfl, rfl⟩, ⟨by omega, he, trivial⟩, rfl⟩)))
  exact ⟨h', hc⟩

theorem fi_2 {l : List Stk} {t : Tst} {d B : List Int} (hg : greatF l t 64 = false) (he : plE l t [d] = 2) : ∃ h', CallsV Try.prog 10 [stD l, .agg (tsL t), inD d, byD B] ⟨0, []⟩ (.ret (.bool true)) h' := by
  have htab : ∀ f T, tabS [grY l t false, plF l t d 2 True (.ret (.tup [.nils, I 2])), alT] f = some T → SpOk Try.prog f T := tab_ok _ (fun x hx => by
    simp only [List.mem_cons, List.not_mem_nil, or_false] at hx
    rcases hx with rfl | rfl | rfl
    · exact grY_ok l t false
    · exact plF_ok (fun r h' _ he _ ho => ho.elim (fun ⟨_, hr⟩ => by rw [hr, he]) (fun ⟨h0, _⟩ => absurd (he.symm.trans h0) (by decide))) rfl
    · exact alT_ok)
  obtain ⟨r, h', rfl, hc⟩ := of_callN (noL_good htab) (f := 10) (args := [stD l, .agg (tsL t), inD d, byD B]) (h := ⟨0, []⟩) (K := fun r _ => r = .ret (.bool true)) (by
    refine cast (lf2_ev l t d B _).symm ⟨isD_l, isD_t, hg, ?_⟩
    refine cond_d (fun _ => rfl) (fun hd6 => cond_d (fun _ => rfl) (fun hB0 => ⟨rfl, rfl, ⟨rfl, rfl, _, _, rfl, rfl⟩, ⟨by omega, he, trivial⟩, rfl⟩)))
  exact ⟨h', hc⟩

theorem fi_4 {l : List Stk} {t : Tst} {d B : List Int} (hB : ∀ i, 0 ≤ B.getD i 0 ∧ B.getD i 0 ≤ 255) (hg : greatF l t 64 = false) (ho : okAll l t = true) (hop : okPaths [d] = true) (he : plE l t [d] = 4) (hx : planF l t [d] d.length d.length 1 (mostF l) = none) : ∃ h', CallsV Try.prog 10 [stD l, .agg (tsL t), inD d, byD B] ⟨0, []⟩ (.ret (.bool true)) h' := by
  have htab : ∀ f T, tabS [grY l t false, plF l t d 4 True (.ret (.tup [.nils, I 4])), rsYF l t, alT] f = some T → SpOk Try.prog f T := tab_ok _ (fun x hx => by
    simp only [List.mem_cons, List.not_mem_nil, or_false] at hx
    rcases hx with rfl | rfl | rfl | rfl
    · exact grY_ok l t false
    · exact plF_ok (fun r h' _ he _ ho => ho.elim (fun ⟨_, hr⟩ => by rw [hr, he]) (fun ⟨h0, _⟩ => absurd (he.symm.trans h0) (by decide))) rfl
    · exact rsYF_ok l t
    · exact alT_ok)
  have hall : LoopsOk Try.prog 10 [(0, lF4 l t d B)] := fun x hx => by
    simp only [List.mem_singleton] at hx
    subst hx
    exact ⟨by kernel_rfl, lF4_ok⟩
  obtain ⟨r, h', rfl, hc⟩ := of_callN (callL_good hmix htab hall (un := 10) 20) (f := 10) (args := [stD l, .agg (tsL t), inD d, byD B]) (h := ⟨0, []⟩) (K := fun r _ => r = .ret (.bool true)) (by
    refine cast (lf4_ev l t d B _).symm ⟨isD_l, isD_t, hg, ?_⟩
    obtain ⟨hl, hp, ht, hT1, hT4⟩ := okAll_l ho
    have hl6 := hl.1
    have hst : (decide (l.length ≤ 6) && !anyS l t) = true := by
      have e : okAll l t = (okT t && (decide (l.length ≤ 6) && !anyS l t)) := by unfold okAll; rw [Bool.and_assoc]
      rw [e, Bool.and_eq_true] at ho
      exact ho.2
    refine cond_d (fun _ => rfl) (fun hd6 => cond_d (fun _ => rfl) (fun hB0 => ⟨rfl, rfl, ⟨rfl, rfl, _, _, rfl, rfl⟩, ⟨by omega, he, trivial⟩, isD_l, isD_t, ⟨by omega, by omega, hst⟩, cond_k (roomF6 _ (by omega)) ⟨⟨⟨rfl, rfl, VB.fit_refl _, VB.fit_refl _, ⟨rfl, rfl, rfl, fun j hj => (csL_most (by omega)).symm⟩, trivial⟩, rfl, rfl, rfl, rfl, rfl, rfl, rfl, rfl, rfl, rfl, rfl, rfl, rfl, rfl, trivial⟩, ⟨⟨ho, hop, ⟨by omega, hB⟩⟩, hx⟩, fun _ _ _ _ => rfl⟩⟩)))
  exact ⟨h', hc⟩

theorem fi_0 {l : List Stk} {t : Tst} {d B : List Int} {x : Rsl} (hB : ∀ i, 0 ≤ B.getD i 0 ∧ B.getD i 0 ≤ 255) (hg : greatF l t 64 = false) (ho : okAll l t = true) (hop : okPaths [d] = true) (he : plE l t [d] = 0) (hx : planF l t [d] d.length d.length 1 (mostF l) = some x) : ∃ h', CallsV Try.prog 10 [stD l, .agg (tsL t), inD d, byD B] ⟨0, []⟩ (.ret (.bool true)) h' := by
  have htab : ∀ f T, tabS [grY l t false, plF l t d 0 (planF l t [d] d.length d.length 1 (mostF l) = some x) (.ret (.tup [plnD l.length 1 d.length x, I 0])), rsYF l t, alT] f = some T → SpOk Try.prog f T := tab_ok _ (fun x hx => by
    simp only [List.mem_cons, List.not_mem_nil, or_false] at hx
    rcases hx with rfl | rfl | rfl | rfl
    · exact grY_ok l t false
    · exact plF_ok (fun r h' _ he hP ho => ho.elim (fun ⟨h0, _⟩ => (h0 he).elim) (fun ⟨_, z, hz, hr⟩ => by rw [hP] at hz; cases hz; exact hr)) rfl
    · exact rsYF_ok l t
    · exact alT_ok)
  have hall : LoopsOk Try.prog 10 [(0, lF0 l t d B x)] := fun x hx => by
    simp only [List.mem_singleton] at hx
    subst hx
    exact ⟨by kernel_rfl, lF0_ok⟩
  obtain ⟨r, h', rfl, hc⟩ := of_callN (callL_good hmix htab hall (un := 10) 20) (f := 10) (args := [stD l, .agg (tsL t), inD d, byD B]) (h := ⟨0, []⟩) (K := fun r _ => r = .ret (.bool true)) (by
    refine cast (lf0_ev l t d B x _).symm ⟨isD_l, isD_t, hg, ?_⟩
    obtain ⟨hl, hp, ht, hT1, hT4⟩ := okAll_l ho
    have hl6 := hl.1
    have hst : (decide (l.length ≤ 6) && !anyS l t) = true := by
      have e : okAll l t = (okT t && (decide (l.length ≤ 6) && !anyS l t)) := by unfold okAll; rw [Bool.and_assoc]
      rw [e, Bool.and_eq_true] at ho
      exact ho.2
    refine cond_d (fun _ => rfl) (fun hd6 => cond_d (fun _ => rfl) (fun hB0 => ⟨rfl, rfl, ⟨rfl, rfl, _, _, rfl, rfl⟩, ⟨by omega, he, hx⟩, isD_l, isD_t, ⟨by omega, by omega, hst⟩, cond_nd (fun h => (h rfl).elim) (fun _ => cond_k (roomF6 _ (by omega)) ⟨⟨⟨rfl, rfl, VB.fit_refl _, VB.fit_refl _, ⟨rfl, rfl, rfl, fun j hj => (csL_most (by omega)).symm⟩, trivial⟩, rfl, rfl, rfl, rfl, rfl, rfl, rfl, rfl, rfl, rfl, rfl, rfl, rfl, rfl, trivial⟩, ⟨⟨ho, hop, ⟨by omega, hB⟩⟩, hx⟩, fun _ _ _ _ => rfl, fun _ _ _ => rfl⟩)⟩)))
  exact ⟨h', hc⟩

theorem first_v {l : List Stk} {t : Tst} {d B : List Int} (hB : ∀ i, 0 ≤ B.getD i 0 ∧ B.getD i 0 ≤ 255) : ∃ h', CallsV Try.prog 10 [stD l, .agg (tsL t), inD d, byD B] ⟨0, []⟩ (.ret (.bool true)) h' := by
  cases hg : greatF l t 64 with
  | true => exact fi_g hg
  | false =>
    rcases plE_vals (l := l) (t := t) (d := d) with h | h | ⟨ho, hp, ⟨h, hx⟩ | ⟨h, x, hx⟩⟩
    · exact fi_1 hg h
    · exact fi_2 hg h
    · exact fi_4 hB hg ho hp h hx
    · exact fi_0 hB hg ho hp h hx
end Go.Sx.Bln
