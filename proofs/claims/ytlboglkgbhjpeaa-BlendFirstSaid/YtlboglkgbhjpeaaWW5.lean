/- stream: Cf1 Cg1 Ch11 Ci11 Ch12 Ci12 Ch13 Ci13 Ch14 Ci14 La2 Lc1 Fb1 Fb2 Lc2 Lc3 Ld1 Ld2 Ld3, in one text. -/
import Derived.Test.YtlboglkgbhjpeaaWW4
import Derived.Test.YtlboglkgbhjpeaaWW3
/- blend: Plan's closures with 1 paths. -/

namespace Go.Sx.Bln
open Go Go.Sx Go.Proofs
set_option maxRecDepth 1000000

section
variable {l : List Stk} {t : Tst} {P : List (List Int)} {Y k : Nat} {y S d : Int} {own : Int} {a : Nat → Int}

/-! The next choice. -/
noncomputable def OJ1 (l : List Stk) (t : Tst) (P : List (List Int)) (Y : Nat) (y S own d : Int) (a : Nat → Int) (s : (Mde × Lst) × Nat × (Nat → Int)) (e : VEx) (vs : List VV) (bs : List VB) : Prop :=
  e = .exit 2 ∧ vs = VFi1 ((scanC a s.2.1 s.2.2).1 - 1) ∧ bs = BFo1 l t P Y y S own d a s.1.1 s.1.2 (scanC a s.2.1 s.2.2).2
theorem lIo1_ok : LSound Try.prog true (.block 2 (.loop (loopB 2 (bodyOf Try.prog 74)))) (ntOf Try.prog 74) (lIo1 l t P Y y S own d a) := by
  by_cases hn : l.length ≤ 6
  · refine loop_row hmix good0 (un := 10) (ds := dsI) (ns := nsFo1) (nx := 21) (fun s : (Mde × Lst) × Nat × (Nat → Int) => VFi1 (s.2.1 - 1)) (fun s => BFo1 l t P Y y S own d a s.1.1 s.1.2 s.2.2) (fun s => s.2.1 ≤ l.length) (fun s => s.2.1) (OJ1 l t P Y y S own d a) noL_ok ?_ ?_
    · rintro ⟨⟨M, es⟩, k, n⟩ h0
      dsimp only at h0 ⊢
      refine cast (ino1_ev l t P Y y S own d (k - 1) a M es n _).symm ?_
      cases k with
      | zero => exact cond_d (fun h => by omega) (fun _ => ⟨rfl, rfl, rfl⟩)
      | succ k =>
        have e : (((k + 1 : Nat) : Int) - 1) = (k : Int) := by omega
        rw [e]
        have e2 : (k : Int).toNat * 1 = k := by omega
        rw [e2, show (fun k => (ch a).getD k (0 : Int)) k = a k from ch_get (by omega)]
        refine cond_d (fun _ => ?_) (fun h => by omega)
        refine cond_dk ⟨by omega, by omega⟩ (cond_dk (by omega) (cond_dk ⟨by omega, by omega⟩ (cond_dk (by omega) (cond_d (fun g => cond_dk ⟨by omega, by omega⟩ (cond_dk (by omega) (cond_r (by omega) ?_))) (fun g => ?_)))))
        · refine ⟨((M, es), k, setC n k 0), ?_, ?_, rfl, fitBs_refl _, fun e vs bs he => ?_⟩
          · show k ≤ _; omega
          · show k < k + 1; omega
          · have hs : scanC a (k + 1) n = scanC a k (setC n k 0) := by
              show (if _ then _ else _) = _
              rw [if_pos g]
            obtain ⟨h1, h2, h3⟩ := he
            refine ⟨h1, ?_, ?_⟩
            · rw [h2]; dsimp only; rw [hs]
            · rw [h3]; dsimp only; rw [hs]
        · have hs : scanC a (k + 1) n = (k + 1, n) := by
            show (if _ then _ else _) = _
            rw [if_neg g]
          refine ⟨rfl, ?_, ?_⟩
          · dsimp only; rw [hs]; dsimp only; rw [e]; rfl
          · dsimp only; rw [hs]; rfl
    · rintro lock tt h K ⟨M, es, n, hf, _, k1⟩
      refine ⟨((M, es), l.length, n), hf, Nat.le_refl _, ?_⟩
      rintro e vs bs ⟨rfl, rfl, rfl⟩
      exact k1 _ _ rfl
  · rintro lock tt h K ⟨M, es, n, hf, hc, _⟩
    exact (hn hc).elim

/-! The paths with one need. -/
theorem lG1_ok {r : Nat} : LSound Try.prog true (.block 2 (.loop (loopB 2 (bodyOf Try.prog 44)))) (ntOf Try.prog 44) (lG1 l t P Y k y S a r) := by
  by_cases hh : y = ((Y - (k + 1) : Nat) : Int) ∧ k + 1 ≤ Y ∧ Cfg l t P Y ∧ r < 16
  · obtain ⟨hy, hk, cf, hr⟩ := hh
    have hp4 := cf.P4
    refine loop_row hmix good0 (un := 10) (ds := dsG1) (ns := nsF1) (nx := 13) (fun s : (Mde × Lst) × Nat => VG1 P y S a r s.2 (grpF P (Y - (k + 1)) r s.2).2 (grpF P (Y - (k + 1)) r s.2).1) (fun s => BF1 l t P Y y S a s.1.1 s.1.2) (fun s => s.2 ≤ P.length) (fun s => P.length - s.2)
      (fun s e vs bs => e = .exit 2 ∧ vs = VG1 P y S a r P.length (grpF P (Y - (k + 1)) r P.length).2 (grpF P (Y - (k + 1)) r P.length).1 ∧ bs = BF1 l t P Y y S a s.1.1 s.1.2) noL_ok ?_ ?_
    · rintro ⟨⟨M, es⟩, i⟩ h0
      dsimp only at h0 ⊢
      refine cast (gi1_ev l t P Y M es y S i _ _ r a _).symm ?_
      have hgb := grpF_le cf.nd (Y - (k + 1)) r i
      have hs : grpF P (Y - (k + 1)) r (i + 1) = if r.testBit i ∧ ((grpF P (Y - (k + 1)) r i).2 < 0 ∨ (P.getD i []).getD (Y - (k + 1)) 0 = (grpF P (Y - (k + 1)) r i).2) then ((grpF P (Y - (k + 1)) r i).1 ||| 2 ^ i, (P.getD i []).getD (Y - (k + 1)) 0) else grpF P (Y - (k + 1)) r i := rfl
      have h16 : (grpF P (Y - (k + 1)) r i).1 < 16 := Nat.lt_of_lt_of_le hgb (Nat.pow_le_pow_right (n := 2) (by omega) (show i ≤ 4 by omega))
      generalize hRQ : RoundQ (σ := (Mde × Lst) × Nat) _ _ _ _ _ ((M, es), i) = RQ
      have fin : ∀ (o' : Nat) (d' : Int), grpF P (Y - (k + 1)) r (i + 1) = (o', d') → i < P.length → RQ .normal (VG1 P y S a r ((i : Int) + 1) d' o') (BF1 l t P Y y S a M es) := by
        intro o' d' he hlt
        rw [← hRQ]
        refine ⟨((M, es), i + 1), ?_, ?_, ?_, fitBs_refl _, fun _ _ _ h => h⟩
        · show i + 1 ≤ _; omega
        · show P.length - (i + 1) < P.length - i; omega
        · dsimp only; rw [he]; rfl
      generalize hg : grpF P (Y - (k + 1)) r i = g at hs h16 ⊢
      obtain ⟨o, dd⟩ := g
      dsimp only at hs h16 ⊢
      by_cases hlt : i < P.length
      · have hidx : (0 : Int) ≤ y ∧ y < ((P.getD i []).length : Nat) := by rw [cf.len i hlt]; omega
        have hi4 : i < 4 := by omega
        have hpow : (1 : Int) * (2 : Int) ^ min i IntKind.i64.bits ≤ 8 ∧ 0 ≤ (1 : Int) * (2 : Int) ^ min i IntKind.i64.bits := by
          match i, hi4 with
          | 0, _ => exact ⟨by decide, by decide⟩
          | 1, _ => exact ⟨by decide, by decide⟩
          | 2, _ => exact ⟨by decide, by decide⟩
          | 3, _ => exact ⟨by decide, by decide⟩
        have ey : y.toNat = Y - (k + 1) := by omega
        refine cond_dk (by omega) (cond_dk ⟨by omega, by omega⟩ (cond_d (fun h => by omega) (fun _ => ?_)))
        rw [show (i : Int).toNat = i by omega, ey, or_v o h16 i hi4]
        refine cond_d (fun b => ?_) (fun b => ?_)
        · have b := (bit_v r hr i hi4).1 b
          refine cond_d (fun g1 => cond_d (fun h => by omega) (fun _ => cond_r (by omega) (cond_dk hidx (cond_r (by omega) (fin _ _ ?_ hlt))))) (fun g1 => cond_dk hidx (cond_d (fun g2 => cond_d (fun h => by omega) (fun _ => cond_r (by omega) (cond_dk hidx (cond_r (by omega) (fin _ _ ?_ hlt))))) (fun g2 => cond_r (by omega) (fin _ _ ?_ hlt))))
          · rw [hs, if_pos ⟨b, .inl g1⟩]
          · rw [hs, if_pos ⟨b, .inr g2⟩]
          · rw [hs, if_neg (fun h => h.2.elim g1 g2)]
        · have b : ¬ r.testBit i = true := fun h => b ((bit_v r hr i hi4).2 h)
          refine cond_r (by omega) (fin _ _ ?_ hlt)
          rw [hs, if_neg (fun h => b h.1)]
      · obtain rfl : i = P.length := by omega
        refine cond_d (fun h => by omega) (fun _ => ?_)
        rw [← hRQ]
        refine ⟨rfl, ?_, rfl⟩
        rw [hg]; rfl
    · rintro lock tt h K ⟨M, es, hf, _, k1⟩
      refine ⟨((M, es), 0), hf, Nat.zero_le _, ?_⟩
      rintro e vs bs ⟨rfl, rfl, rfl⟩
      exact k1 _ _ rfl
  · rintro lock tt h K ⟨M, es, hf, hc, _⟩
    exact (hh hc).elim
end

section
variable {l : List Stk} {t : Tst} {D0 : List Int} {Y k : Nat}

theorem hc61 {h : VH} (h6 : (h.at 2).cs? = some (stD l :: tsL t, 74)) : isD h 4 (.ptr (.own 2 0)) (.tp (stD l :: tsL t)) := ⟨_, _, h6, isD_l, ⟨rfl, rfl, fun _ _ => rfl⟩, ⟨rfl, rfl⟩, ⟨rfl, rfl⟩, trivial⟩

/-! 'follow'. -/
structure WS1 where
  M0 : Mde
  j : Nat
  M : Mde
  es : Lst
noncomputable def OW1 (l : List Stk) (t : Tst) (P : List (List Int)) (Y k : Nat) (y S d : Int) (O : Nat) (a : Nat → Int) (s : WS1) (e : VEx) (vs : List VV) (bs : List VB) : Prop :=
  e = .ret ∧ vs = VFo1 ∧ ∃ st n', (PostW l t P Y k O d a s.M0 false st ∧ bs = BFo1 l t P Y y S O d a st.M st.es n') ∨ (PostW l t P Y k O d a s.M0 true st ∧ bs = BFoT1 l t P Y y S O d a st.M st.es n')
theorem lFo1_ok (hfind : SpOk Try.prog (findR1 l t [D0] Y k).1 (findR1 l t [D0] Y k).2) {y S d : Int} {O : Nat} {a : Nat → Int} : LSound Try.prog true (.block 0 (.loop (loopB 0 (bodyOf Try.prog 74)))) (ntOf Try.prog 74) (lFo1 l t [D0] Y k y S d O a) := by
  by_cases hh : y = (Y : Int) - (k + 1 : Nat) ∧ Cfg l t [D0] Y ∧ k + 1 ≤ Y ∧ O < 2 ^ [D0].length ∧ leftB l a
  · obtain ⟨hy, cf, hk, hO, ha⟩ := hh
    have hl6 := cf.hl.1
    have hY4 := cf.Y4
    have hm0 : ∀ i, i < l.length → 0 ≤ a i := fun i hi => (ha.1 i hi).1
    have hO16 : O < 16 := Nat.lt_of_lt_of_le hO (Nat.pow_le_pow_right (n := 2) (by omega) (show 1 ≤ 4 by omega))
    have htab : ∀ f T, tabS [meetsR l t, lessT, findR1 l t [D0] Y k] f = some T → SpOk Try.prog f T := tab_ok _ (fun x hx => by
      simp only [List.mem_cons, List.not_mem_nil, or_false] at hx
      rcases hx with rfl | rfl | rfl
      · exact meetsR_ok l t
      · exact lessT_ok
      · exact hfind)
    refine loop_row hmix (noL_good htab) (lsp := tabB [(2, lIo1 l t [D0] Y y S O d a)]) (un := 10) (ds := dsC) (ns := nsFo1) (nx := 20) (fun _ : WS1 => VFo1) (fun s => BFo1 l t [D0] Y y S O d a s.M s.es (chAt a l.length s.j))
      (fun s => s.j < (allC a l.length).length ∧ LostOk l t [D0] Y s.es ∧ Same Y (k + 1) O s.M0 s.M ∧ ∀ i, i < s.j → meetsF l t (chAt a l.length i) y d = true → planF l t [D0] Y k O (lsF a (chAt a l.length i) 6) = none) (fun s => (allC a l.length).length - s.j) (OW1 l t [D0] Y k y S d O a) (lsp_one (by kernel_rfl) lIo1_ok) ?_ ?_
    · rintro ⟨M0, j, M, es⟩ ⟨hj, hlost, hsame, hbad⟩
      dsimp only at hj hlost hsame hbad
      refine cast (fr1_ev l t D0 Y k M es y S d O a _ _).symm ?_
      have hcm := chAt_mem (most := a) (k := l.length) hj
      obtain ⟨hleft, hbd, hnc⟩ := left_less ha hcm hl6
      have hnx := scan_nxt (most := a) l.length (chAt a l.length j)
      have hnext := chAt_next hm0 hj
      have hsucc : ∀ x, meetsF l t (chAt a l.length j) y d = true → planF l t [D0] Y k O (lsF a (chAt a l.length j) 6) = some x → folF l t [D0] Y k a O d = some (chAt a l.length j, x) := fun x g1 g2 => by
        refine tryF_some (c0 := fun _ => 0) hj (fun i hi hm => hbad i hi ?_) ?_ g2
        · rw [hy]; exact hm
        · show meetsF l t (chAt a l.length j) _ d = true
          rw [← hy]; exact g1
      generalize hRQ : RoundQ (σ := WS1) _ _ _ _ _ ⟨M0, j, M, es⟩ = RQ
      generalize hcj : chAt a l.length j = c at hcm hleft hbd hnc hnx hnext hsucc ⊢
      -- behind the body: the next choice
      have fin : ∀ (M' : Mde) (es' : Lst), LostOk l t [D0] Y es' → Same Y (k + 1) O M0 M' → (meetsF l t c y d = true → planF l t [D0] Y k O (lsF a c 6) = none) → ∀ (k2 : Nat) (n' : Nat → Int), scanC a l.length c = (k2, n') →
        (bif decide ((k2 : Int) - 1 < 0) then RQ .ret VFo1 (BFo1 l t [D0] Y y S O d a M' es' n')
        else bif decide (0 ≤ (k2 : Int) - 1 ∧ (k2 : Int) - 1 < (6 : Nat)) then (bif decide (((k2 : Int) - 1).toNat * 1 < 6) then (bif inK .i64 (n' (((k2 : Int) - 1).toNat * 1) + 1) then (bif decide (0 ≤ (k2 : Int) - 1 ∧ (k2 : Int) - 1 < (6 : Nat)) then (bif decide (((k2 : Int) - 1).toNat * 1 + 1 ≤ 6) then
          RQ .normal VFo1 (BFo1 l t [D0] Y y S O d a M' es' (setF n' (((k2 : Int) - 1).toNat * 1) [n' (((k2 : Int) - 1).toNat * 1) + 1])) else False) else False) else False) else False) else False) := by
        intro M' es' hl' hs' hno k2 n' hk2
        have hbad' : ∀ i, i < j + 1 → meetsF l t (chAt a l.length i) y d = true → planF l t [D0] Y k O (lsF a (chAt a l.length i) 6) = none := fun i hi hm => by
          by_cases e : i = j
          · subst e; rw [hcj] at hm ⊢; exact hno hm
          · exact hbad i (by omega) hm
        rw [hk2] at hnx
        obtain ⟨hk1, hnx⟩ := hnx
        dsimp only at hk1
        cases k2 with
        | zero =>
          dsimp only at hnx
          have hj1 : j + 1 = (allC a l.length).length := by
            rcases hnext with ⟨h1, _⟩ | ⟨_, h2⟩
            · exact h1
            · rw [hnx] at h2; cases h2
          refine cond_d (fun _ => ?_) (fun h => by omega)
          rw [← hRQ]
          refine ⟨rfl, rfl, ⟨M', es'⟩, n', .inl ⟨?_, rfl⟩⟩
          have hf : folF l t [D0] Y k a O d = none := tryF_none (fun c' hc' hm' => by
            obtain ⟨i, hi, rfl⟩ := List.getElem_of_mem hc'
            have e : chAt a l.length i = (allC a l.length)[i] := by
              unfold chAt
              rw [List.getD_eq_getElem?_getD, List.getElem?_eq_getElem hi]; rfl
            rw [← e]
            refine hbad' i (by omega) ?_
            rw [e, hy]; exact hm')
          exact ⟨by rw [hf]; rfl, hl', hs', fun c' x' he => by rw [hf] at he; cases he⟩
        | succ k2 =>
          dsimp only at hnx
          have e : (((k2 + 1 : Nat) : Int) - 1) = (k2 : Int) := by omega
          rw [e]
          have e2 : (k2 : Int).toNat * 1 = k2 := by omega
          rw [e2]
          obtain ⟨hj1, hch⟩ : j + 1 < (allC a l.length).length ∧ chAt a l.length (j + 1) = setC n' k2 (n' k2 + 1) := by
            rcases hnext with ⟨_, h2⟩ | ⟨h1, h2⟩
            · rw [hnx] at h2; cases h2
            · rw [hnx] at h2
              injection h2 with h2
              exact ⟨h1, h2.symm⟩
          have hb6 := (left_less ha (chAt_mem hj1) hl6).2.2 k2 (by omega)
          rw [hch, setC_same] at hb6
          refine cond_d (fun h => by omega) (fun _ => cond_dk ⟨by omega, by omega⟩ (cond_dk (by omega) (cond_r (by omega) (cond_dk ⟨by omega, by omega⟩ (cond_dk (by omega) ?_)))))
          rw [← hRQ]
          refine ⟨⟨M0, j + 1, M', es'⟩, ⟨hj1, hl', hs', hbad'⟩, ?_, rfl, ?_, fun _ _ _ h => h⟩
          · show (allC a l.length).length - (j + 1) < (allC a l.length).length - j
            omega
          · dsimp only
            rw [hch]
            exact fitBs_refl _
      have hir : -9223372036854775808 ≤ (l.length : Int) - 1 ∧ (l.length : Int) - 1 ≤ 9223372036854775807 := by omega
      have hF : ∀ (M' : Mde) (es' : Lst) (h : VH) (tt : Slots), h.nx = 21 → fitB (nsFo1.zip (BFo1 l t [D0] Y y S O d a M' es' c)) h → fitS (dsI.zip (VFi1 (l.length - 1))) tt → FitP 0 h tt ⟨21, nsFo1.zip (BFo1 l t [D0] Y y S O d a M' es' c)⟩ (dsI.zip (VFi1 (l.length - 1))) := fun _ _ _ _ h1 h2 h3 => ⟨⟨rfl, h1, h2⟩, h3⟩
      refine ⟨c, hc61 rfl, rfl, ⟨⟨hnc, cf.hl, cf.hp, cf.ht⟩, by omega, by omega⟩, cond_i (fun g => ?_) (fun g => ?_)⟩
      · have g : meetsF l t c y d = false := by simpa using g
        refine cond_r hir ⟨M, es, c, hF M es _ _ rfl ?_ ?_, hl6, fin M es hlost hsame (fun h => by rw [g] at h; cases h)⟩
        · exact ⟨VB.fit_refl _, VB.fit_refl _, VB.fit_refl _, VB.fit_refl _, VB.fit_refl _, VB.fit_refl _, VB.fit_refl _, VB.fit_refl _, VB.fit_refl _, VB.fit_refl _, VB.fit_refl _, VB.fit_refl _, VB.fit_refl _, VB.fit_refl _, VB.fit_refl _, VB.fit_refl _, VB.fit_refl _, VB.fit_refl _, VB.fit_refl _, VB.fit_refl _, trivial⟩
        · exact ⟨rfl, rfl, rfl, rfl, rfl, trivial⟩
      · have g : meetsF l t c y d = true := by simpa using g
        refine cond_r (by omega) ⟨a, c, rfl, rfl, hbd, O, lsF a c 6, M, es, ⟨rfl, rfl, rfl, rfl⟩, ⟨rfl, by omega⟩, ⟨rfl, rfl, rfl, rfl, rfl, rfl, rfl, rfl, rfl, rfl, rfl, rfl, trivial⟩, ⟨by omega, rfl, rfl⟩, ⟨by omega, hO, hleft, hlost⟩, ?_⟩
        rintro b s ⟨p1, p2, p3, p4⟩
        refine cond_i (fun g2 => ?_) (fun g2 => ?_)
        · have g2 : b = false := by simpa using g2
          refine cond_r hir ⟨s.M, s.es, c, hF s.M s.es _ _ rfl ?_ ?_, hl6, fin s.M s.es p2 (hsame.trans p3.later) (fun _ => ?_)⟩
          · exact ⟨VB.fit_refl _, VB.fit_refl _, VB.fit_refl _, VB.fit_refl _, VB.fit_refl _, VB.fit_refl _, VB.fit_refl _, VB.fit_refl _, VB.fit_refl _, VB.fit_refl _, VB.fit_refl _, VB.fit_refl _, VB.fit_refl _, VB.fit_refl _, VB.fit_refl _, VB.fit_refl _, VB.fit_refl _, VB.fit_refl _, VB.fit_refl _, VB.fit_refl _, trivial⟩
          · exact ⟨rfl, rfl, rfl, rfl, rfl, trivial⟩
          · rw [g2] at p1
            cases hx : planF l t [D0] Y k O (lsF a c 6) with
            | none => rfl
            | some x => rw [hx] at p1; cases p1
        · have g2 : b = true := by simpa using g2
          subst g2
          obtain ⟨x, hx⟩ : ∃ x, planF l t [D0] Y k O (lsF a c 6) = some x := by
            cases hx : planF l t [D0] Y k O (lsF a c 6) with
            | none => rw [hx] at p1; cases p1
            | some x => exact ⟨x, rfl⟩
          have hyY : (0 : Int) ≤ y ∧ y < (Y : Int) := ⟨by omega, by omega⟩
          have hyY6 : 0 + y.toNat * 6 + 6 ≤ Y * 6 := by omega
          have fin2 : ∀ M2 : Mde, (∀ i, i < [D0].length → M2 i = if O.testBit i = true then wrM (s.M i) y c else s.M i) → (∀ i, [D0].length ≤ i → M2 i = s.M i) → ∀ bs, bs = BFoT1 l t [D0] Y y S O d a M2 s.es c → RQ .ret VFo1 bs := by
            rintro M2 h2 h3 bs rfl
            rw [← hRQ]
            exact ⟨rfl, rfl, ⟨M2, s.es⟩, c, .inr ⟨postW_true hk hO (by omega) (hsucc x g hx) hx hsame ⟨p1, p2, p3, p4⟩ h2 h3, rfl⟩⟩
          refine cond_d (fun b0 => cond_dk hyY (cond_dk hyY6 ?_)) (fun b0 => ?_)
          · have b0 : O.testBit 0 = true := (bit_v O hO16 0 (by omega)).1 b0
            exact fin2 (fun i => if i = 0 then wrM (s.M 0) y c else (s.M i)) (fun i hi => by
                match i, hi with
                | 0, _ => rw [if_pos b0]; rfl
                | _ + 1, hi => exact absurd hi (by show ¬ _ + 1 < 1; omega)) (fun i hi => by
                have hi : 1 ≤ i := hi
                rw [if_neg (show ¬ i = 0 by omega)]) _ rfl
          · have b0 : ¬ O.testBit 0 = true := fun h => b0 ((bit_v O hO16 0 (by omega)).2 h)
            exact fin2 (fun i => if i = 0 then s.M 0 else (s.M i)) (fun i hi => by
                match i, hi with
                | 0, _ => rw [if_neg b0]; rfl
                | _ + 1, hi => exact absurd hi (by show ¬ _ + 1 < 1; omega)) (fun i hi => by
                have hi : 1 ≤ i := hi
                rw [if_neg (show ¬ i = 0 by omega)]) _ rfl
    · rintro lock tt h K ⟨M, es, hf, ⟨_, _, hpw⟩, k1, k2⟩
      refine ⟨⟨M, 0, M, es⟩, ?_, ⟨all_pos hm0, hpw.2.2.2, Same.refl _ _ _ _, fun i hi => absurd hi (Nat.not_lt_zero i)⟩, ?_⟩
      · dsimp only
        rw [chAt_zero hm0]; exact hf
      · rintro e vs bs ⟨rfl, rfl, st, n', ⟨hp, rfl⟩ | ⟨hp, rfl⟩⟩
        · exact k1 st n' hp
        · exact k2 st n' hp
  · rintro lock tt h K ⟨M, es, hf, ⟨h1, h2, h3⟩, _⟩
    exact (hh ⟨h1, h2, h3.1, h3.2.1, h3.2.2.1⟩).elim
end
end Go.Sx.Bln

/- blend: Plan's closures with 1 paths, as rows. -/

namespace Go.Sx.Bln
open Go Go.Sx Go.Proofs
set_option maxRecDepth 1000000

section
variable {l : List Stk} {t : Tst} {D0 : List Int} {Y k : Nat}

theorem liftW1 {y S o d : Int} {a : Nat → Int} {b : Bool} {s : St} {M : Mde} {es : Lst} {nx : Nat} {bs : List (Nat × VB)} (hnx : 12 ≤ nx) (hat : atL nsB1 (BP1 l t [D0] Y M es) ⟨nx, bs⟩)
    (hc : CallsV Try.prog 40 [.agg (I y :: I S :: nL a), I o, I d, .ptr (.own 3 0), .ptr (.own 10 0), .ptr (.own 1 0), .ptr (.own 6 0)] ⟨12, nsB1.zip (BP1 l t [D0] Y M es)⟩ (.ret (.bool b)) ⟨12, nsB1.zip (BP1 l t [D0] Y s.M s.es)⟩) :
    CallsV Try.prog 40 [.agg (I y :: I S :: nL a), I o, I d, .ptr (.own 3 0), .ptr (.own 10 0), .ptr (.own 1 0), .ptr (.own 6 0)] ⟨nx, bs⟩ (.ret (.bool b)) ⟨nx, (7, .fam [] (Y * 6) (s.M 0) 80) :: (8, .map kS .bool s.es) :: bs⟩ := by
  obtain ⟨e0, e1, e2, e3, e4, e5, e6, e7, e8, e9, e10, e11, _⟩ := hat
  have hput : (VH.mk nx ((7, .fam [] (Y * 6) (s.M 0) 80) :: (8, .map kS .bool s.es) :: bs)).at = upd (upd (VH.mk nx bs).at 8 (.map kS .bool s.es)) 7 (.fam [] (Y * 6) (s.M 0) 80) := by
    have q1 : (VH.mk nx ((8, VB.map kS .bool s.es) :: bs)).at = upd (VH.mk nx bs).at 8 (.map kS .bool s.es) := VH.at_put ⟨nx, bs⟩ 8 _ (by rw [e8]; exact fun h => by cases h)
    have q0 : (VH.mk nx ((7, VB.fam [] (Y * 6) (s.M 0) 80) :: (8, VB.map kS .bool s.es) :: bs)).at = upd (upd (VH.mk nx bs).at 8 (.map kS .bool s.es)) 7 (.fam [] (Y * 6) (s.M 0) 80) := by
      rw [← q1]
      exact VH.at_put ⟨nx, (8, VB.map kS .bool s.es) :: bs⟩ 7 _ (by rw [q1]; simp only [upd, show ¬ (7 : Nat) = 8 by omega, if_false]; rw [e7]; exact fun h => by cases h)
    exact q0
  have := calls_ren (P := Try.prog) (h := ⟨nx, bs⟩) (h1 := ⟨nx, (7, .fam [] (Y * 6) (s.M 0) 80) :: (8, .map kS .bool s.es) :: bs⟩) id (fun _ _ _ _ h => h) hc (fun n hn => by
    have hn : n < 12 := hn
    match n, hn with
    | 0, _ => exact ⟨trivial, e0⟩
    | 1, _ => exact ⟨trivial, e1⟩
    | 2, _ => exact ⟨trivial, e2⟩
    | 3, _ => exact ⟨trivial, e3⟩
    | 4, _ => exact ⟨trivial, e4⟩
    | 5, _ => exact ⟨trivial, e5⟩
    | 6, _ => exact ⟨trivial, e6⟩
    | 7, _ => exact ⟨trivial, e7⟩
    | 8, _ => exact ⟨trivial, e8⟩
    | 9, _ => exact ⟨trivial, e9⟩
    | 10, _ => exact ⟨trivial, e10⟩
    | 11, _ => exact ⟨trivial, e11⟩
    | _ + 12, hn => exact absurd hn (by omega)) (fun n hn => by
    have hn : n < 12 := hn
    match n, hn with
    | 0, _ => exact ⟨trivial, rfl, by rw [hput]; simp only [upd, show ¬ (0 : Nat) = 8 by omega, show ¬ (0 : Nat) = 7 by omega, if_false, id]; exact e0⟩
    | 1, _ => exact ⟨trivial, rfl, by rw [hput]; simp only [upd, show ¬ (1 : Nat) = 8 by omega, show ¬ (1 : Nat) = 7 by omega, if_false, id]; exact e1⟩
    | 2, _ => exact ⟨trivial, rfl, by rw [hput]; simp only [upd, show ¬ (2 : Nat) = 8 by omega, show ¬ (2 : Nat) = 7 by omega, if_false, id]; exact e2⟩
    | 3, _ => exact ⟨trivial, rfl, by rw [hput]; simp only [upd, show ¬ (3 : Nat) = 8 by omega, show ¬ (3 : Nat) = 7 by omega, if_false, id]; exact e3⟩
    | 4, _ => exact ⟨trivial, rfl, by rw [hput]; simp only [upd, show ¬ (4 : Nat) = 8 by omega, show ¬ (4 : Nat) = 7 by omega, if_false, id]; exact e4⟩
    | 5, _ => exact ⟨trivial, rfl, by rw [hput]; simp only [upd, show ¬ (5 : Nat) = 8 by omega, show ¬ (5 : Nat) = 7 by omega, if_false, id]; exact e5⟩
    | 6, _ => exact ⟨trivial, rfl, by rw [hput]; simp only [upd, show ¬ (6 : Nat) = 8 by omega, show ¬ (6 : Nat) = 7 by omega, if_false, id]; exact e6⟩
    | 7, _ => exact ⟨trivial, rfl, by rw [hput]; simp [upd]; rfl⟩
    | 8, _ => exact ⟨trivial, rfl, by rw [hput]; simp [upd]; rfl⟩
    | 9, _ => exact ⟨trivial, rfl, by rw [hput]; simp only [upd, show ¬ (9 : Nat) = 8 by omega, show ¬ (9 : Nat) = 7 by omega, if_false, id]; exact e9⟩
    | 10, _ => exact ⟨trivial, rfl, by rw [hput]; simp only [upd, show ¬ (10 : Nat) = 8 by omega, show ¬ (10 : Nat) = 7 by omega, if_false, id]; exact e10⟩
    | 11, _ => exact ⟨trivial, rfl, by rw [hput]; simp only [upd, show ¬ (11 : Nat) = 8 by omega, show ¬ (11 : Nat) = 7 by omega, if_false, id]; exact e11⟩
    | _ + 12, hn => exact absurd hn (by omega)) (fun q hq => by
    rw [hput]
    have hq' : ∀ n, n < 12 → n ≠ q := fun n hn => hq n hn
    simp only [upd, if_neg (hq' 7 (by omega)).symm, if_neg (hq' 8 (by omega)).symm]) (fun n hn => by
    have hn : n < 12 := hn
    match n, hn with
    | 0, _ => rfl
    | 1, _ => rfl
    | 2, _ => rfl
    | 3, _ => rfl
    | 4, _ => rfl
    | 5, _ => rfl
    | 6, _ => rfl
    | 7, _ => rfl
    | 8, _ => rfl
    | 9, _ => rfl
    | 10, _ => rfl
    | 11, _ => rfl
    | _ + 12, hn => exact absurd hn (by omega)) rfl rfl
  exact this
theorem liftF1 {y S o d : Int} {a : Nat → Int} {b : Bool} {s : St} {M : Mde} {es : Lst} {nx : Nat} {bs : List (Nat × VB)} (hnx : 12 ≤ nx) (hat : atL nsB1 (BP1 l t [D0] Y M es) ⟨nx, bs⟩)
    (hc : CallsV Try.prog 44 [.agg (I y :: I S :: nL a), .ptr (.own 4 0), .ptr (.own 9 0), .ptr (.own 1 0), .ptr (.own 11 0)] ⟨12, nsB1.zip (BP1 l t [D0] Y M es)⟩ (.ret (.bool b)) ⟨12, nsB1.zip (BP1 l t [D0] Y s.M s.es)⟩) :
    CallsV Try.prog 44 [.agg (I y :: I S :: nL a), .ptr (.own 4 0), .ptr (.own 9 0), .ptr (.own 1 0), .ptr (.own 11 0)] ⟨nx, bs⟩ (.ret (.bool b)) ⟨nx, (7, .fam [] (Y * 6) (s.M 0) 80) :: (8, .map kS .bool s.es) :: bs⟩ := by
  obtain ⟨e0, e1, e2, e3, e4, e5, e6, e7, e8, e9, e10, e11, _⟩ := hat
  have hput : (VH.mk nx ((7, .fam [] (Y * 6) (s.M 0) 80) :: (8, .map kS .bool s.es) :: bs)).at = upd (upd (VH.mk nx bs).at 8 (.map kS .bool s.es)) 7 (.fam [] (Y * 6) (s.M 0) 80) := by
    have q1 : (VH.mk nx ((8, VB.map kS .bool s.es) :: bs)).at = upd (VH.mk nx bs).at 8 (.map kS .bool s.es) := VH.at_put ⟨nx, bs⟩ 8 _ (by rw [e8]; exact fun h => by cases h)
    have q0 : (VH.mk nx ((7, VB.fam [] (Y * 6) (s.M 0) 80) :: (8, VB.map kS .bool s.es) :: bs)).at = upd (upd (VH.mk nx bs).at 8 (.map kS .bool s.es)) 7 (.fam [] (Y * 6) (s.M 0) 80) := by
      rw [← q1]
      exact VH.at_put ⟨nx, (8, VB.map kS .bool s.es) :: bs⟩ 7 _ (by rw [q1]; simp only [upd, show ¬ (7 : Nat) = 8 by omega, if_false]; rw [e7]; exact fun h => by cases h)
    exact q0
  have := calls_ren (P := Try.prog) (h := ⟨nx, bs⟩) (h1 := ⟨nx, (7, .fam [] (Y * 6) (s.M 0) 80) :: (8, .map kS .bool s.es) :: bs⟩) id (fun _ _ _ _ h => h) hc (fun n hn => by
    have hn : n < 12 := hn
    match n, hn with
    | 0, _ => exact ⟨trivial, e0⟩
    | 1, _ => exact ⟨trivial, e1⟩
    | 2, _ => exact ⟨trivial, e2⟩
    | 3, _ => exact ⟨trivial, e3⟩
    | 4, _ => exact ⟨trivial, e4⟩
    | 5, _ => exact ⟨trivial, e5⟩
    | 6, _ => exact ⟨trivial, e6⟩
    | 7, _ => exact ⟨trivial, e7⟩
    | 8, _ => exact ⟨trivial, e8⟩
    | 9, _ => exact ⟨trivial, e9⟩
    | 10, _ => exact ⟨trivial, e10⟩
    | 11, _ => exact ⟨trivial, e11⟩
    | _ + 12, hn => exact absurd hn (by omega)) (fun n hn => by
    have hn : n < 12 := hn
    match n, hn with
    | 0, _ => exact ⟨trivial, rfl, by rw [hput]; simp only [upd, show ¬ (0 : Nat) = 8 by omega, show ¬ (0 : Nat) = 7 by omega, if_false, id]; exact e0⟩
    | 1, _ => exact ⟨trivial, rfl, by rw [hput]; simp only [upd, show ¬ (1 : Nat) = 8 by omega, show ¬ (1 : Nat) = 7 by omega, if_false, id]; exact e1⟩
    | 2, _ => exact ⟨trivial, rfl, by rw [hput]; simp only [upd, show ¬ (2 : Nat) = 8 by omega, show ¬ (2 : Nat) = 7 by omega, if_false, id]; exact e2⟩
    | 3, _ => exact ⟨trivial, rfl, by rw [hput]; simp only [upd, show ¬ (3 : Nat) = 8 by omega, show ¬ (3 : Nat) = 7 by omega, if_false, id]; exact e3⟩
    | 4, _ => exact ⟨trivial, rfl, by rw [hput]; simp only [upd, show ¬ (4 : Nat) = 8 by omega, show ¬ (4 : Nat) = 7 by omega, if_false, id]; exact e4⟩
    | 5, _ => exact ⟨trivial, rfl, by rw [hput]; simp only [upd, show ¬ (5 : Nat) = 8 by omega, show ¬ (5 : Nat) = 7 by omega, if_false, id]; exact e5⟩
    | 6, _ => exact ⟨trivial, rfl, by rw [hput]; simp only [upd, show ¬ (6 : Nat) = 8 by omega, show ¬ (6 : Nat) = 7 by omega, if_false, id]; exact e6⟩
    | 7, _ => exact ⟨trivial, rfl, by rw [hput]; simp [upd]; rfl⟩
    | 8, _ => exact ⟨trivial, rfl, by rw [hput]; simp [upd]; rfl⟩
    | 9, _ => exact ⟨trivial, rfl, by rw [hput]; simp only [upd, show ¬ (9 : Nat) = 8 by omega, show ¬ (9 : Nat) = 7 by omega, if_false, id]; exact e9⟩
    | 10, _ => exact ⟨trivial, rfl, by rw [hput]; simp only [upd, show ¬ (10 : Nat) = 8 by omega, show ¬ (10 : Nat) = 7 by omega, if_false, id]; exact e10⟩
    | 11, _ => exact ⟨trivial, rfl, by rw [hput]; simp only [upd, show ¬ (11 : Nat) = 8 by omega, show ¬ (11 : Nat) = 7 by omega, if_false, id]; exact e11⟩
    | _ + 12, hn => exact absurd hn (by omega)) (fun q hq => by
    rw [hput]
    have hq' : ∀ n, n < 12 → n ≠ q := fun n hn => hq n hn
    simp only [upd, if_neg (hq' 7 (by omega)).symm, if_neg (hq' 8 (by omega)).symm]) (fun n hn => by
    have hn : n < 12 := hn
    match n, hn with
    | 0, _ => rfl
    | 1, _ => rfl
    | 2, _ => rfl
    | 3, _ => rfl
    | 4, _ => rfl
    | 5, _ => rfl
    | 6, _ => rfl
    | 7, _ => rfl
    | 8, _ => rfl
    | 9, _ => rfl
    | 10, _ => rfl
    | 11, _ => rfl
    | _ + 12, hn => exact absurd hn (by omega)) rfl rfl
  exact this

theorem follow_v1 (hfind : SpOk Try.prog (findR1 l t [D0] Y k).1 (findR1 l t [D0] Y k).2) (cf : Cfg l t [D0] Y) {y S d : Int} {O : Nat} {a : Nat → Int} {M : Mde} {es : Lst} (hy : y = (Y : Int) - (k + 1 : Nat)) (hp : PreW l t [D0] Y k O a es) :
    ∃ b s, PostW l t [D0] Y k O d a M b s ∧ CallsV Try.prog 40 [.agg (I y :: I S :: nL a), I O, I d, .ptr (.own 3 0), .ptr (.own 10 0), .ptr (.own 1 0), .ptr (.own 6 0)] ⟨12, nsB1.zip (BP1 l t [D0] Y M es)⟩ (.ret (.bool b)) ⟨12, nsB1.zip (BP1 l t [D0] Y s.M s.es)⟩ := by
  have hall : LoopsOk Try.prog 74 [(0, lFo1 l t [D0] Y k y S d O a)] := fun x hx => by
    simp only [List.mem_singleton] at hx
    subst hx
    exact ⟨by kernel_rfl, lFo1_ok hfind⟩
  obtain ⟨r, h', ⟨b, s, hw, rfl, hf⟩, hc⟩ := of_callN (callL_good hmix noSp hall (un := 10) 20) (f := 40) (args := [.agg (I y :: I S :: nL a), I O, I d, .ptr (.own 3 0), .ptr (.own 10 0), .ptr (.own 1 0), .ptr (.own 6 0)]) (h := ⟨12, nsB1.zip (BP1 l t [D0] Y M es)⟩) (K := fun r h' => ∃ b s, PostW l t [D0] Y k O d a M b s ∧ r = .ret (.bool b) ∧ fitB (nsB1.zip (BP1 l t [D0] Y s.M s.es)) h') (by
    refine cast (fob1_ev l t D0 Y k M es y S d O a _).symm ⟨M, es, ⟨⟨rfl, rfl, VB.fit_refl _, VB.fit_refl _, VB.fit_refl _, VB.fit_refl _, VB.fit_refl _, VB.fit_refl _, VB.fit_refl _, VB.fit_refl _, VB.fit_refl _, VB.fit_refl _, VB.fit_refl _, VB.fit_refl _, VB.fit_refl _, VB.fit_refl _, VB.fit_refl _, VB.fit_refl _, VB.fit_refl _, VB.fit_refl _, VB.fit_refl _, VB.fit_refl _, trivial⟩, rfl, rfl, rfl, rfl, trivial⟩, ⟨hy, cf, hp⟩, fun s n' hw => ⟨false, s, hw, rfl, VB.fit_refl _, VB.fit_refl _, VB.fit_refl _, VB.fit_refl _, VB.fit_refl _, VB.fit_refl _, VB.fit_refl _, VB.fit_refl _, VB.fit_refl _, VB.fit_refl _, VB.fit_refl _, VB.fit_refl _, trivial⟩, fun s n' hw => ⟨true, s, hw, rfl, VB.fit_refl _, VB.fit_refl _, VB.fit_refl _, VB.fit_refl _, VB.fit_refl _, VB.fit_refl _, VB.fit_refl _, VB.fit_refl _, VB.fit_refl _, VB.fit_refl _, VB.fit_refl _, VB.fit_refl _, trivial⟩⟩)
  exact ⟨b, s, hw, calls_weak hc (Nat.le_refl _) hf rfl rfl⟩
theorem folR1_ok (hfind : SpOk Try.prog (findR1 l t [D0] Y k).1 (findR1 l t [D0] Y k).2) (cf : Cfg l t [D0] Y) : SpOk Try.prog (folR1 l t [D0] Y k).1 (folR1 l t [D0] Y k).2 := by
  intro lock args h K hK
  simp only [folR1] at hK
  split at hK
  · rename_i nx bs
    obtain ⟨S', O, a, M, es, ⟨rfl, rfl, rfl, rfl⟩, ⟨rfl, hnx⟩, hat, ⟨hy, rfl, rfl, rfl⟩, hp, hK⟩ := hK
    obtain ⟨b, s, hw, hc⟩ := follow_v1 hfind cf hy hp
    exact ⟨_, _, hK b s hw, lock0 _ _, liftW1 hnx hat hc⟩
  · exact hK.elim

/-! 'find'. -/
structure FS1 where
  M0 : Mde
  r : Nat
  acc : Rsl
  s : St
def OF1 (l : List Stk) (t : Tst) (P : List (List Int)) (Y k : Nat) (y : Int) (S : Nat) (a : Nat → Int) (f : FS1) (e : VEx) (vs : List VV) (bs : List VB) : Prop :=
  (e = .exit 0 ∧ vs = VF1 y S a 0 ∧ ∃ st, PostF l t P Y (k + 1) S a f.M0 true st ∧ bs = BF1 l t P Y y S a st.M st.es) ∨ (e = .ret ∧ ∃ (r : Int) (st : St), PostF l t P Y (k + 1) S a f.M0 false st ∧ vs = VF1 y S a r ∧ bs = BF1 l t P Y y S a st.M st.es)
theorem lFi1_ok (hfol : SpOk Try.prog (folR1 l t [D0] Y k).1 (folR1 l t [D0] Y k).2) {y : Int} {S : Nat} {a : Nat → Int} : LSound Try.prog true (.block 0 (.loop (loopB 0 (bodyOf Try.prog 44)))) (ntOf Try.prog 44) (lFi1 l t [D0] Y k y S a) := by
  by_cases hh : y = (Y : Int) - (k + 1 : Nat) ∧ Cfg l t [D0] Y ∧ k + 1 ≤ Y ∧ leftB l a
  · obtain ⟨hy, cf, hk, ha⟩ := hh
    refine loop_rowD hmix (noL_good (tab1 hfol)) (un := 10) (ds := dsF1) (ns := nsF1) (nx := 13) (lsp := fun f : FS1 => tabB [(2, lG1 l t [D0] Y k y S a f.r)]) (fun f : FS1 => VF1 y S a f.r) (fun f => BF1 l t [D0] Y y S a f.s.M f.s.es) (fun f => DoneF l t [D0] Y k S a f.M0 f.r f.acc f.s) (fun f => f.r) (OF1 l t [D0] Y k y S a) (fun _ _ => lsp_one (by kernel_rfl) lG1_ok) ?_ ?_
    · rintro ⟨M0, r, acc, s⟩ hd
      dsimp only at hd ⊢
      refine cast (gm1_ev l t D0 Y k s.M s.es y S r a _).symm ?_
      have hr16 : r < 16 := Nat.lt_of_lt_of_le hd.lt (Nat.pow_le_pow_right (n := 2) (by omega) (show 1 ≤ 4 by omega))
      by_cases hr : r = 0
      · subst hr
        refine cond_d (fun h => by omega) (fun _ => .inl ⟨rfl, rfl, s, done_end hd, rfl⟩)
      · refine cond_dk (by omega) ⟨s.M, s.es, ⟨⟨rfl, rfl, VB.fit_refl _, VB.fit_refl _, VB.fit_refl _, VB.fit_refl _, VB.fit_refl _, VB.fit_refl _, VB.fit_refl _, VB.fit_refl _, VB.fit_refl _, VB.fit_refl _, VB.fit_refl _, VB.fit_refl _, VB.fit_refl _, trivial⟩, rfl, rfl, rfl, rfl, rfl, rfl, rfl, rfl, rfl, rfl, rfl, rfl, rfl, trivial⟩, ⟨by omega, hk, cf, hr16⟩, ?_⟩
        intro o d hg
        have ho : o < 2 ^ [D0].length := by
          have := grpF_le cf.nd (Y - (k + 1)) r [D0].length
          rw [hg] at this; exact this
        have ho16 : o < 16 := Nat.lt_of_lt_of_le ho (Nat.pow_le_pow_right (n := 2) (by omega) (show 1 ≤ 4 by omega))
        refine ⟨S, o, a, s.M, s.es, ⟨rfl, rfl, rfl, rfl⟩, ⟨rfl, by omega⟩, ⟨rfl, rfl, rfl, rfl, rfl, rfl, rfl, rfl, rfl, rfl, rfl, rfl, trivial⟩, ⟨hy, rfl, rfl, rfl⟩, ⟨hk, ho, ha, hd.lost⟩, ?_⟩
        intro b s' hw
        obtain ⟨d1, d2⟩ := done_step cf.nd hd hr hg (s' := s')
        refine cond_i (fun g => ?_) (fun g => ?_)
        · have g : b = false := by simpa using g
          subst g
          obtain ⟨z1, z2, z3⟩ := d2 hw
          refine ⟨key82, .inr ⟨rfl, r, ⟨s'.M, setE s'.es (kyF y S a) 1⟩, ⟨by rw [z1]; rfl, ?_, z3, fun x hx => by rw [z1] at hx; cases hx⟩, rfl, rfl⟩⟩
          have := lost_set z2 hk z1
          rw [← hy] at this
          exact this
        · have g : b = true := by simpa using g
          subst g
          obtain ⟨acc', hd', hlt⟩ := d1 hw
          rw [andnot_v r hr16 o ho16]
          exact ⟨⟨M0, _, acc', s'⟩, hd', hlt, rfl, fitBs_refl _, fun _ _ _ h => h⟩
    · rintro lock tt h K ⟨M, es, hf, ⟨_, _, hp⟩, k1, k2⟩
      refine ⟨⟨M, S, fun _ _ _ => 0, ⟨M, es⟩⟩, hf, done_start hp, ?_⟩
      rintro e vs bs (⟨rfl, rfl, st, hp, rfl⟩ | ⟨rfl, r, st, hp, rfl, rfl⟩)
      · exact k1 st hp
      · exact k2 st r hp
  · rintro lock tt h K ⟨M, es, hf, ⟨h1, h2, h3⟩, _⟩
    exact (hh ⟨h1, h2, h3.1, h3.2.2.1⟩).elim

theorem find_z1 (cf : Cfg l t [D0] Y) {y : Int} {S : Nat} {a : Nat → Int} {M : Mde} {es : Lst} (hy : y = (Y : Int)) (hp : PreF l t [D0] Y 0 S a es) :
    ∃ b s, PostF l t [D0] Y 0 S a M b s ∧ CallsV Try.prog 44 [.agg (I y :: I S :: nL a), .ptr (.own 4 0), .ptr (.own 9 0), .ptr (.own 1 0), .ptr (.own 11 0)] ⟨12, nsB1.zip (BP1 l t [D0] Y M es)⟩ (.ret (.bool b)) ⟨12, nsB1.zip (BP1 l t [D0] Y s.M s.es)⟩ := by
  have hall : LoopsOk Try.prog 44 [(0, lZ)] := fun x hx => by
    simp only [List.mem_singleton] at hx
    subst hx
    exact ⟨by kernel_rfl, lZ_ok⟩
  obtain ⟨r, h', ⟨rfl, hf⟩, hc⟩ := of_callN (callL_good hmix noSp hall (un := 10) 20) (f := 44) (args := [.agg (I y :: I S :: nL a), .ptr (.own 4 0), .ptr (.own 9 0), .ptr (.own 1 0), .ptr (.own 11 0)]) (h := ⟨12, nsB1.zip (BP1 l t [D0] Y M es)⟩) (K := fun r h' => r = .ret (.bool true) ∧ fitB (nsB1.zip (BP1 l t [D0] Y M es)) h') (by
    refine cast (fiz1_ev l t D0 Y M es y S a _).symm (cond_dk hy ⟨rfl, VB.fit_refl _, VB.fit_refl _, VB.fit_refl _, VB.fit_refl _, VB.fit_refl _, VB.fit_refl _, VB.fit_refl _, VB.fit_refl _, VB.fit_refl _, VB.fit_refl _, VB.fit_refl _, VB.fit_refl _, trivial⟩))
  exact ⟨true, ⟨M, es⟩, ⟨rfl, hp.2.2.2, Same.refl _ _ _ _, fun x _ i y j _ _ h1 h2 => by omega⟩, calls_weak hc (Nat.le_refl _) hf rfl rfl⟩
theorem find_s1 (hfol : SpOk Try.prog (folR1 l t [D0] Y k).1 (folR1 l t [D0] Y k).2) (cf : Cfg l t [D0] Y) {y : Int} {S : Nat} {a : Nat → Int} {M : Mde} {es : Lst} (hy : y = (Y : Int) - (k + 1 : Nat)) (hp : PreF l t [D0] Y (k + 1) S a es) :
    ∃ b s, PostF l t [D0] Y (k + 1) S a M b s ∧ CallsV Try.prog 44 [.agg (I y :: I S :: nL a), .ptr (.own 4 0), .ptr (.own 9 0), .ptr (.own 1 0), .ptr (.own 11 0)] ⟨12, nsB1.zip (BP1 l t [D0] Y M es)⟩ (.ret (.bool b)) ⟨12, nsB1.zip (BP1 l t [D0] Y s.M s.es)⟩ := by
  have hall : LoopsOk Try.prog 44 [(0, lFi1 l t [D0] Y k y S a)] := fun x hx => by
    simp only [List.mem_singleton] at hx
    subst hx
    exact ⟨by kernel_rfl, lFi1_ok hfol⟩
  obtain ⟨r, h', ⟨b, s, hw, rfl, hf⟩, hc⟩ := of_callN (callL_good hmix noSp hall (un := 10) 20) (f := 44) (args := [.agg (I y :: I S :: nL a), .ptr (.own 4 0), .ptr (.own 9 0), .ptr (.own 1 0), .ptr (.own 11 0)]) (h := ⟨12, nsB1.zip (BP1 l t [D0] Y M es)⟩) (K := fun r h' => ∃ b s, PostF l t [D0] Y (k + 1) S a M b s ∧ r = .ret (.bool b) ∧ fitB (nsB1.zip (BP1 l t [D0] Y s.M s.es)) h') (by
    refine cast (fib1_ev l t D0 Y k M es y S a _).symm ?_
    have hk := hp.1
    refine cond_d (fun h => by omega) (fun _ => ⟨key82, cond_d (fun h => ⟨false, ⟨M, es⟩, ?_, rfl, VB.fit_refl _, VB.fit_refl _, VB.fit_refl _, VB.fit_refl _, VB.fit_refl _, VB.fit_refl _, VB.fit_refl _, VB.fit_refl _, VB.fit_refl _, VB.fit_refl _, VB.fit_refl _, VB.fit_refl _, trivial⟩) (fun _ => ⟨M, es, ⟨⟨rfl, rfl, VB.fit_refl _, VB.fit_refl _, VB.fit_refl _, VB.fit_refl _, VB.fit_refl _, VB.fit_refl _, VB.fit_refl _, VB.fit_refl _, VB.fit_refl _, VB.fit_refl _, VB.fit_refl _, VB.fit_refl _, VB.fit_refl _, trivial⟩, rfl, rfl, rfl, rfl, rfl, rfl, rfl, rfl, trivial⟩, ⟨hy, cf, hp⟩, fun s hw => ⟨true, s, hw, rfl, VB.fit_refl _, VB.fit_refl _, VB.fit_refl _, VB.fit_refl _, VB.fit_refl _, VB.fit_refl _, VB.fit_refl _, VB.fit_refl _, VB.fit_refl _, VB.fit_refl _, VB.fit_refl _, VB.fit_refl _, trivial⟩, fun s r hw => ⟨false, s, hw, rfl, VB.fit_refl _, VB.fit_refl _, VB.fit_refl _, VB.fit_refl _, VB.fit_refl _, VB.fit_refl _, VB.fit_refl _, VB.fit_refl _, VB.fit_refl _, VB.fit_refl _, VB.fit_refl _, VB.fit_refl _, trivial⟩⟩)⟩)
    have h : valOf es (kyF y S a) = 1 := h
    have hn := lost_get cf.hl.1 hp.2.2.2 (S := S) (a := a) hk (by rw [← hy, h]; omega)
    exact ⟨by rw [hn]; rfl, hp.2.2.2, Same.refl _ _ _ _, fun x hx => by rw [hn] at hx; cases hx⟩)
  exact ⟨b, s, hw, calls_weak hc (Nat.le_refl _) hf rfl rfl⟩

theorem findR1_ok (cf : Cfg l t [D0] Y) : ∀ k : Nat, SpOk Try.prog (findR1 l t [D0] Y k).1 (findR1 l t [D0] Y k).2 := by
  have key : ∀ k : Nat, (∀ (y : Int) (S : Nat) (a : Nat → Int) (M : Mde) (es : Lst), y = (Y : Int) - k → PreF l t [D0] Y k S a es → ∃ b s, PostF l t [D0] Y k S a M b s ∧ CallsV Try.prog 44 [.agg (I y :: I S :: nL a), .ptr (.own 4 0), .ptr (.own 9 0), .ptr (.own 1 0), .ptr (.own 11 0)] ⟨12, nsB1.zip (BP1 l t [D0] Y M es)⟩ (.ret (.bool b)) ⟨12, nsB1.zip (BP1 l t [D0] Y s.M s.es)⟩) → SpOk Try.prog (findR1 l t [D0] Y k).1 (findR1 l t [D0] Y k).2 := by
    intro k hv lock args h K hK
    simp only [findR1] at hK
    split at hK
    · rename_i nx bs
      obtain ⟨S', a, M, es, ⟨rfl, rfl, rfl, rfl⟩, ⟨rfl, hnx⟩, hat, ⟨hy, rfl, rfl⟩, hp, hK⟩ := hK
      obtain ⟨b, s, hw, hc⟩ := hv _ S' a M es hy hp
      exact ⟨_, _, hK b s hw, lock0 _ _, liftF1 (o := 0) (d := 0) hnx hat hc⟩
    · exact hK.elim
  intro k
  induction k with
  | zero => exact key 0 (fun y S a M es hy hp => find_z1 cf (by omega) hp)
  | succ k ih => exact key (k + 1) (fun y S a M es hy hp => find_s1 (folR1_ok ih cf) cf hy hp)
end
end Go.Sx.Bln

/- blend: Plan with 1 paths of 1 years, evaluated. -/

namespace Go.Sx.Bln
open Go Go.Sx Go.Proofs
set_option maxRecDepth 1000000

theorem pl11_ev (l : List Stk) (t : Tst) (d00 : Int) (Q : VRes → VH → Prop) : callN Try.prog (tabS [asR l t, casksR l t, apR [[d00]], findR1 l t [[d00]] 1 1, listT]) noL 10 20 0 (.fn 17) [stD l, .agg (tsL t), pthD [[d00]]] ⟨0, []⟩ (fun r h => Q r h) =
  (isD (VH.mk (2) [(1, VB.cells [VV.tl [[d00]].length 1 (pthG [[d00]])] 26), (0, VB.cells [VV.tl t.T.length 1 (dG t.T), I t.far, I t.least] 25)]) 2 (VV.tl l.length 5 (stG l)) (stD l) ∧ isD (VH.mk (2) [(1, VB.cells [VV.tl [[d00]].length 1 (pthG [[d00]])] 26), (0, VB.cells [VV.tl t.T.length 1 (dG t.T), I t.far, I t.least] 25)]) 2 (VV.agg [VV.tl t.T.length 1 (dG t.T), I t.far, I t.least]) (VV.agg (tsL t)) ∧ bif !okAll l t then
 Q (.ret (.tup [VV.nils, I 1])) (VH.mk (2) [(1, VB.cells [VV.tl [[d00]].length 1 (pthG [[d00]])] 26), (0, VB.cells [VV.tl t.T.length 1 (dG t.T), I t.far, I t.least] 25)])
 else isD (VH.mk (2) [(1, VB.cells [VV.tl [[d00]].length 1 (pthG [[d00]])] 26), (0, VB.cells [VV.tl t.T.length 1 (dG t.T), I t.far, I t.least] 25)]) 4 (VV.tl [[d00]].length 1 (pthG [[d00]])) (pthD [[d00]]) ∧ pthB [[d00]] ∧ bif !okPaths [[d00]] then
 Q (.ret (.tup [VV.nils, I 2])) (VH.mk (2) [(1, VB.cells [VV.tl [[d00]].length 1 (pthG [[d00]])] 26), (0, VB.cells [VV.tl t.T.length 1 (dG t.T), I t.far, I t.least] 25)])
 else isD (maskH [0, 1, 2, 3, 4, 5, 6, 7, 8, 9, 10, 11] (VH.mk (12) ((10, VB.cells [VV.func 44 [] [VV.ptr (.own (4) 0), VV.ptr (.own (9) 0), VV.ptr (.own (1) 0), VV.ptr (.own (11) 0)]] 78) :: (11, VB.cells [VV.func 40 [] [VV.ptr (.own (3) 0), VV.ptr (.own (10) 0), VV.ptr (.own (1) 0), VV.ptr (.own (6) 0)]] 88) :: (11, VB.cells [VV.nilf] 88) :: (10, VB.cells [VV.nilf] 78) :: (9, VB.cells [VV.mp (8)] 77) :: (9, VB.cells [VV.opq (Value.map none)] 77) :: (8, VB.map ([PK.int IntKind.i64] ++ ([PK.int IntKind.i64] ++ ((List.replicate 6 [PK.int IntKind.i64]).flatten ++ []))) PK.bool []) :: (5, VB.cells [VV.slice (.fa (7) 0 0) (↑([[d00]].getD (Int.toNat (0 : Int)) []).length : Int).toNat (↑([[d00]].getD (Int.toNat (0 : Int)) []).length : Int).toNat] 76) :: ([(7, VB.fam [] ((↑([[d00]].getD (Int.toNat (0 : Int)) []).length : Int).toNat * (6)) (fun (_ : Nat) => (0 : Int)) 80)] ++ [(6, VB.cells [VV.slice (.own (5) 0) (1) (1)] 75), (6, VB.cells [VV.nils] 75), (5, VB.cells [VV.nils] 76), (4, VB.cells [I (↑([[d00]].getD (Int.toNat (0 : Int)) []).length : Int)] 3), (4, VB.cells [I 0] 3), (3, VB.cells [VV.ptr (.own (2) 0)] 72), (3, VB.cells [VV.nilp] 72), (2, VB.cells [VV.tl l.length 5 (stG l), VV.tl t.T.length 1 (dG t.T), I t.far, I t.least] 74), (1, VB.cells [VV.tl [[d00]].length 1 (pthG [[d00]])] 26), (0, VB.cells [VV.tl t.T.length 1 (dG t.T), I t.far, I t.least] 25)])))) 4 (VV.ptr (.own (2) 0)) (VV.tp (stD l :: tsL t)) ∧ l.length ≤ 6 ∧ ∃ (S' : Nat), ∃ (a : Nat → Int), ∃ (M : Mde), ∃ (es : Lst), (VV.ptr (.own 4 0) = VV.ptr (.own 4 0) ∧ VV.ptr (.own 9 0) = VV.ptr (.own 9 0) ∧ VV.ptr (.own 1 0) = VV.ptr (.own 1 0) ∧ VV.ptr (.own 11 0) = VV.ptr (.own 11 0)) ∧ (0 = 0 ∧ 12 ≤ 12) ∧ atL nsB1 (BP1 l t [[d00]] 1 M es) (VH.mk (12) ((10, VB.cells [VV.func 44 [] [VV.ptr (.own (4) 0), VV.ptr (.own (9) 0), VV.ptr (.own (1) 0), VV.ptr (.own (11) 0)]] 78) :: (11, VB.cells [VV.func 40 [] [VV.ptr (.own (3) 0), VV.ptr (.own (10) 0), VV.ptr (.own (1) 0), VV.ptr (.own (6) 0)]] 88) :: (11, VB.cells [VV.nilf] 88) :: (10, VB.cells [VV.nilf] 78) :: (9, VB.cells [VV.mp (8)] 77) :: (9, VB.cells [VV.opq (Value.map none)] 77) :: (8, VB.map ([PK.int IntKind.i64] ++ ([PK.int IntKind.i64] ++ ((List.replicate 6 [PK.int IntKind.i64]).flatten ++ []))) PK.bool []) :: (5, VB.cells [VV.slice (.fa (7) 0 0) (↑([[d00]].getD (Int.toNat (0 : Int)) []).length : Int).toNat (↑([[d00]].getD (Int.toNat (0 : Int)) []).length : Int).toNat] 76) :: ([(7, VB.fam [] ((↑([[d00]].getD (Int.toNat (0 : Int)) []).length : Int).toNat * (6)) (fun (_ : Nat) => (0 : Int)) 80)] ++ [(6, VB.cells [VV.slice (.own (5) 0) (1) (1)] 75), (6, VB.cells [VV.nils] 75), (5, VB.cells [VV.nils] 76), (4, VB.cells [I (↑([[d00]].getD (Int.toNat (0 : Int)) []).length : Int)] 3), (4, VB.cells [I 0] 3), (3, VB.cells [VV.ptr (.own (2) 0)] 72), (3, VB.cells [VV.nilp] 72), (2, VB.cells [VV.tl l.length 5 (stG l), VV.tl t.T.length 1 (dG t.T), I t.far, I t.least] 74), (1, VB.cells [VV.tl [[d00]].length 1 (pthG [[d00]])] 26), (0, VB.cells [VV.tl t.T.length 1 (dG t.T), I t.far, I t.least] 25)]))) ∧ ((↑1 : Int) - (↑1 : Int) = (↑1 : Int) - (↑1 : Int) ∧ (1 : Int) * (2 : Int) ^ min (↑[[d00]].length : Int).toNat IntKind.i64.bits - (1 : Int) = (↑S' : Int) ∧ [I (mostF l 0), I (mostF l 1), I (mostF l 2), I (mostF l 3), I (mostF l 4), I (mostF l 5)] = nL a) ∧ PreF l t [[d00]] 1 1 S' a es ∧ ∀ (b : Bool) (s : St), PostF l t [[d00]] 1 1 S' a M b s → bif !b then
 Q (.ret (.tup [VV.nils, I 4])) (VH.mk (12) [(7, VB.fam [] (1 * 6) (s.M 0) 80), (8, VB.map kS PK.bool s.es), (10, VB.cells [VV.func 44 [] [VV.ptr (.own (4) 0), VV.ptr (.own (9) 0), VV.ptr (.own (1) 0), VV.ptr (.own (11) 0)]] 78), (11, VB.cells [VV.func 40 [] [VV.ptr (.own (3) 0), VV.ptr (.own (10) 0), VV.ptr (.own (1) 0), VV.ptr (.own (6) 0)]] 88), (11, VB.cells [VV.nilf] 88), (10, VB.cells [VV.nilf] 78), (9, VB.cells [VV.mp (8)] 77), (9, VB.cells [VV.opq (Value.map none)] 77), (8, VB.map kS PK.bool []), (5, VB.cells [VV.slice (.fa (7) 0 0) (↑([[d00]].getD (Int.toNat (0 : Int)) []).length : Int).toNat (↑([[d00]].getD (Int.toNat (0 : Int)) []).length : Int).toNat] 76), (7, VB.fam [] ((↑([[d00]].getD (Int.toNat (0 : Int)) []).length : Int).toNat * (6)) (fun (_ : Nat) => (0 : Int)) 80), (6, VB.cells [VV.slice (.own (5) 0) (1) (1)] 75), (6, VB.cells [VV.nils] 75), (5, VB.cells [VV.nils] 76), (4, VB.cells [I (↑([[d00]].getD (Int.toNat (0 : Int)) []).length : Int)] 3), (4, VB.cells [I 0] 3), (3, VB.cells [VV.ptr (.own (2) 0)] 72), (3, VB.cells [VV.nilp] 72), (2, VB.cells [VV.tl l.length 5 (stG l), VV.tl t.T.length 1 (dG t.T), I t.far, I t.least] 74), (1, VB.cells [VV.tl [[d00]].length 1 (pthG [[d00]])] 26), (0, VB.cells [VV.tl t.T.length 1 (dG t.T), I t.far, I t.least] 25)])
 else ∃ (n : Nat → Int), ∃ (m : Nat), [I (setF (fun (_ : Nat) => (0 : Int)) 0 [s.M 0 (0 + Int.toNat (0 : Int) * (6) + 0), s.M 0 (0 + Int.toNat (0 : Int) * (6) + 1), s.M 0 (0 + Int.toNat (0 : Int) * (6) + 2), s.M 0 (0 + Int.toNat (0 : Int) * (6) + 3), s.M 0 (0 + Int.toNat (0 : Int) * (6) + 4), s.M 0 (0 + Int.toNat (0 : Int) * (6) + 5)] (0 + 0)), I (setF (fun (_ : Nat) => (0 : Int)) 0 [s.M 0 (0 + Int.toNat (0 : Int) * (6) + 0), s.M 0 (0 + Int.toNat (0 : Int) * (6) + 1), s.M 0 (0 + Int.toNat (0 : Int) * (6) + 2), s.M 0 (0 + Int.toNat (0 : Int) * (6) + 3), s.M 0 (0 + Int.toNat (0 : Int) * (6) + 4), s.M 0 (0 + Int.toNat (0 : Int) * (6) + 5)] (0 + 1)), I (setF (fun (_ : Nat) => (0 : Int)) 0 [s.M 0 (0 + Int.toNat (0 : Int) * (6) + 0), s.M 0 (0 + Int.toNat (0 : Int) * (6) + 1), s.M 0 (0 + Int.toNat (0 : Int) * (6) + 2), s.M 0 (0 + Int.toNat (0 : Int) * (6) + 3), s.M 0 (0 + Int.toNat (0 : Int) * (6) + 4), s.M 0 (0 + Int.toNat (0 : Int) * (6) + 5)] (0 + 2)), I (setF (fun (_ : Nat) => (0 : Int)) 0 [s.M 0 (0 + Int.toNat (0 : Int) * (6) + 0), s.M 0 (0 + Int.toNat (0 : Int) * (6) + 1), s.M 0 (0 + Int.toNat (0 : Int) * (6) + 2), s.M 0 (0 + Int.toNat (0 : Int) * (6) + 3), s.M 0 (0 + Int.toNat (0 : Int) * (6) + 4), s.M 0 (0 + Int.toNat (0 : Int) * (6) + 5)] (0 + 3)), I (setF (fun (_ : Nat) => (0 : Int)) 0 [s.M 0 (0 + Int.toNat (0 : Int) * (6) + 0), s.M 0 (0 + Int.toNat (0 : Int) * (6) + 1), s.M 0 (0 + Int.toNat (0 : Int) * (6) + 2), s.M 0 (0 + Int.toNat (0 : Int) * (6) + 3), s.M 0 (0 + Int.toNat (0 : Int) * (6) + 4), s.M 0 (0 + Int.toNat (0 : Int) * (6) + 5)] (0 + 4)), I (setF (fun (_ : Nat) => (0 : Int)) 0 [s.M 0 (0 + Int.toNat (0 : Int) * (6) + 0), s.M 0 (0 + Int.toNat (0 : Int) * (6) + 1), s.M 0 (0 + Int.toNat (0 : Int) * (6) + 2), s.M 0 (0 + Int.toNat (0 : Int) * (6) + 3), s.M 0 (0 + Int.toNat (0 : Int) * (6) + 4), s.M 0 (0 + Int.toNat (0 : Int) * (6) + 5)] (0 + 5))] = nL n ∧ (↑l.length : Int) = (↑m : Int) ∧ m ≤ 6 ∧ Q (.ret (.tup [VV.sl (16) 1, I 0])) (VH.mk (17) [(16, VB.vec 1 (fun (j : Nat) => List.take (1) (List.drop (j * (1)) (List.take (1 * (1)) (List.drop 0 [VV.tl 1 (1) fun (j : Nat) => List.take (1) (List.drop (j * (1)) [VV.tl m 1 (chG n)])])))) (1) 26), (15, VB.cells [VV.tl 1 (1) fun (j : Nat) => List.take (1) (List.drop (j * (1)) [VV.tl m 1 (chG n)])] 26), (14, VB.gone), (15, VB.cells [VV.sl (14) 1] 26), (14, VB.vec 1 (fun (j : Nat) => List.take (1) (List.drop (j * (1)) [VV.tl m 1 (chG n)])) (1) 23), (13, VB.vec 1 (fun (j : Nat) => List.take (1) (List.drop (j * (1)) [VV.tl m 1 (chG n)])) (1) 23), (12, VB.fam [] (6) (setF (fun (_ : Nat) => (0 : Int)) 0 [s.M 0 (0 + Int.toNat (0 : Int) * (6) + 0), s.M 0 (0 + Int.toNat (0 : Int) * (6) + 1), s.M 0 (0 + Int.toNat (0 : Int) * (6) + 2), s.M 0 (0 + Int.toNat (0 : Int) * (6) + 3), s.M 0 (0 + Int.toNat (0 : Int) * (6) + 4), s.M 0 (0 + Int.toNat (0 : Int) * (6) + 5)]) 80), (12, VB.fam [] (6) (fun (_ : Nat) => (0 : Int)) 80), (7, VB.fam [] (1 * 6) (s.M 0) 80), (8, VB.map kS PK.bool s.es), (10, VB.cells [VV.func 44 [] [VV.ptr (.own (4) 0), VV.ptr (.own (9) 0), VV.ptr (.own (1) 0), VV.ptr (.own (11) 0)]] 78), (11, VB.cells [VV.func 40 [] [VV.ptr (.own (3) 0), VV.ptr (.own (10) 0), VV.ptr (.own (1) 0), VV.ptr (.own (6) 0)]] 88), (11, VB.cells [VV.nilf] 88), (10, VB.cells [VV.nilf] 78), (9, VB.cells [VV.mp (8)] 77), (9, VB.cells [VV.opq (Value.map none)] 77), (8, VB.map kS PK.bool []), (5, VB.cells [VV.slice (.fa (7) 0 0) (↑([[d00]].getD (Int.toNat (0 : Int)) []).length : Int).toNat (↑([[d00]].getD (Int.toNat (0 : Int)) []).length : Int).toNat] 76), (7, VB.fam [] ((↑([[d00]].getD (Int.toNat (0 : Int)) []).length : Int).toNat * (6)) (fun (_ : Nat) => (0 : Int)) 80), (6, VB.cells [VV.slice (.own (5) 0) (1) (1)] 75), (6, VB.cells [VV.nils] 75), (5, VB.cells [VV.nils] 76), (4, VB.cells [I (↑([[d00]].getD (Int.toNat (0 : Int)) []).length : Int)] 3), (4, VB.cells [I 0] 3), (3, VB.cells [VV.ptr (.own (2) 0)] 72), (3, VB.cells [VV.nilp] 72), (2, VB.cells [VV.tl l.length 5 (stG l), VV.tl t.T.length 1 (dG t.T), I t.far, I t.least] 74), (1, VB.cells [VV.tl [[d00]].length 1 (pthG [[d00]])] 26), (0, VB.cells [VV.tl t.T.length 1 (dG t.T), I t.far, I t.least] 25)])) := by kernel_rfl

end Go.Sx.Bln

/- blend: Plan with 1 paths of 1 years. -/

namespace Go.Sx.Bln
open Go Go.Sx Go.Proofs
set_option maxRecDepth 1000000

theorem pln11_v {l : List Stk} {t : Tst} {d00 : Int} (h1 : okAll l t = true) (h2 : okPaths [[d00]] = true) (cf : Cfg l t [[d00]] 1) (hpb : pthB [[d00]]) : ∃ r h', CallsV Try.prog 17 [stD l, .agg (tsL t), pthD [[d00]]] ⟨0, []⟩ r h' ∧ PlnK l t [[d00]] 1 r h' := by
  have hl6 := cf.hl.1
  have htab : ∀ f T, tabS [asR l t, casksR l t, apR [[d00]], findR1 l t [[d00]] 1 1, listT] f = some T → SpOk Try.prog f T := tab_ok _ (fun x hx => by
    simp only [List.mem_cons, List.not_mem_nil, or_false] at hx
    rcases hx with rfl | rfl | rfl | rfl | rfl
    · exact asR_ok l t
    · exact casksR_ok l t
    · exact apR_ok _
    · exact findR1_ok cf 1
    · exact listT_ok)
  obtain ⟨r, h', hk, hc⟩ := of_callN (noL_good htab) (f := 17) (args := [stD l, .agg (tsL t), pthD [[d00]]]) (h := ⟨0, []⟩) (K := PlnK l t [[d00]] 1) (by
    refine cast (pl11_ev l t d00 _).symm ⟨isD_l, ⟨⟨rfl, rfl, fun _ _ => rfl⟩, ⟨rfl, rfl⟩, ⟨rfl, rfl⟩, trivial⟩, cond_i (fun h => by rw [h1] at h; cases h) (fun _ => ⟨⟨rfl, rfl, fun _ _ => rfl⟩, hpb, cond_i (fun h => by rw [h2] at h; cases h) (fun _ => ?_)⟩)⟩
    refine ⟨hc61 rfl, hl6, 1, mostF l, fun _ _ => 0, [], ⟨rfl, rfl, rfl, rfl⟩, ⟨rfl, Nat.le_refl _⟩, ⟨rfl, rfl, rfl, rfl, rfl, rfl, rfl, rfl, rfl, rfl, rfl, rfl, trivial⟩, ⟨rfl, rfl, rfl⟩, ⟨Nat.le_refl _, (by show 1 < 2 ^ 1; decide), most_left cf.hl, lost_nil⟩, ?_⟩
    rintro b s ⟨p1, p2, p3, p4⟩
    refine cond_i (fun g => ?_) (fun g => ?_)
    · have g : b = false := by simpa using g
      subst g
      refine .inl ⟨?_, rfl⟩
      cases hx : planF l t [[d00]] 1 1 1 (mostF l) with
      | none => exact hx
      | some x => rw [hx] at p1; cases p1
    · have g : b = true := by simpa using g
      subst g
      obtain ⟨x, hx⟩ : ∃ x, planF l t [[d00]] 1 1 1 (mostF l) = some x := by
        cases hx : planF l t [[d00]] 1 1 1 (mostF l) with
        | none => rw [hx] at p1; cases p1
        | some x => exact ⟨x, rfl⟩
      refine ⟨fun j => s.M 0 (0 * 6 + j), l.length, rfl, rfl, hl6, .inr ⟨x, _, _, _, hx, rfl, rfl, fun i hi => ?_⟩⟩
      have hi : i < 1 := hi
      match i, hi with
      | 0, _ =>
            refine tl_weak rfl (fun y hy => ?_)
            match y, hy with
            | 0, _ => exact wk_ch (fun j hj => p4 x hx 0 0 j (by omega) rfl (by omega) (by omega))
            | _ + 1, hy => exact absurd hy (by omega)
      | _ + 1, hi => exact absurd hi (by omega))
  exact ⟨r, h', hc, hk⟩
end Go.Sx.Bln

/- blend: Plan with 1 paths of 2 years, evaluated. -/

namespace Go.Sx.Bln
open Go Go.Sx Go.Proofs
set_option maxRecDepth 1000000

theorem pl12_ev (l : List Stk) (t : Tst) (d00 d01 : Int) (Q : VRes → VH → Prop) : callN Try.prog (tabS [asR l t, casksR l t, apR [[d00, d01]], findR1 l t [[d00, d01]] 2 2, listT]) noL 10 20 0 (.fn 17) [stD l, .agg (tsL t), pthD [[d00, d01]]] ⟨0, []⟩ (fun r h => Q r h) =
  (isD (VH.mk (2) [(1, VB.cells [VV.tl [[d00, d01]].length 1 (pthG [[d00, d01]])] 26), (0, VB.cells [VV.tl t.T.length 1 (dG t.T), I t.far, I t.least] 25)]) 2 (VV.tl l.length 5 (stG l)) (stD l) ∧ isD (VH.mk (2) [(1, VB.cells [VV.tl [[d00, d01]].length 1 (pthG [[d00, d01]])] 26), (0, VB.cells [VV.tl t.T.length 1 (dG t.T), I t.far, I t.least] 25)]) 2 (VV.agg [VV.tl t.T.length 1 (dG t.T), I t.far, I t.least]) (VV.agg (tsL t)) ∧ bif !okAll l t then
 Q (.ret (.tup [VV.nils, I 1])) (VH.mk (2) [(1, VB.cells [VV.tl [[d00, d01]].length 1 (pthG [[d00, d01]])] 26), (0, VB.cells [VV.tl t.T.length 1 (dG t.T), I t.far, I t.least] 25)])
 else isD (VH.mk (2) [(1, VB.cells [VV.tl [[d00, d01]].length 1 (pthG [[d00, d01]])] 26), (0, VB.cells [VV.tl t.T.length 1 (dG t.T), I t.far, I t.least] 25)]) 4 (VV.tl [[d00, d01]].length 1 (pthG [[d00, d01]])) (pthD [[d00, d01]]) ∧ pthB [[d00, d01]] ∧ bif !okPaths [[d00, d01]] then
 Q (.ret (.tup [VV.nils, I 2])) (VH.mk (2) [(1, VB.cells [VV.tl [[d00, d01]].length 1 (pthG [[d00, d01]])] 26), (0, VB.cells [VV.tl t.T.length 1 (dG t.T), I t.far, I t.least] 25)])
 else isD (maskH [0, 1, 2, 3, 4, 5, 6, 7, 8, 9, 10, 11] (VH.mk (12) ((10, VB.cells [VV.func 44 [] [VV.ptr (.own (4) 0), VV.ptr (.own (9) 0), VV.ptr (.own (1) 0), VV.ptr (.own (11) 0)]] 78) :: (11, VB.cells [VV.func 40 [] [VV.ptr (.own (3) 0), VV.ptr (.own (10) 0), VV.ptr (.own (1) 0), VV.ptr (.own (6) 0)]] 88) :: (11, VB.cells [VV.nilf] 88) :: (10, VB.cells [VV.nilf] 78) :: (9, VB.cells [VV.mp (8)] 77) :: (9, VB.cells [VV.opq (Value.map none)] 77) :: (8, VB.map ([PK.int IntKind.i64] ++ ([PK.int IntKind.i64] ++ ((List.replicate 6 [PK.int IntKind.i64]).flatten ++ []))) PK.bool []) :: (5, VB.cells [VV.slice (.fa (7) 0 0) (↑([[d00, d01]].getD (Int.toNat (0 : Int)) []).length : Int).toNat (↑([[d00, d01]].getD (Int.toNat (0 : Int)) []).length : Int).toNat] 76) :: ([(7, VB.fam [] ((↑([[d00, d01]].getD (Int.toNat (0 : Int)) []).length : Int).toNat * (6)) (fun (_ : Nat) => (0 : Int)) 80)] ++ [(6, VB.cells [VV.slice (.own (5) 0) (1) (1)] 75), (6, VB.cells [VV.nils] 75), (5, VB.cells [VV.nils] 76), (4, VB.cells [I (↑([[d00, d01]].getD (Int.toNat (0 : Int)) []).length : Int)] 3), (4, VB.cells [I 0] 3), (3, VB.cells [VV.ptr (.own (2) 0)] 72), (3, VB.cells [VV.nilp] 72), (2, VB.cells [VV.tl l.length 5 (stG l), VV.tl t.T.length 1 (dG t.T), I t.far, I t.least] 74), (1, VB.cells [VV.tl [[d00, d01]].length 1 (pthG [[d00, d01]])] 26), (0, VB.cells [VV.tl t.T.length 1 (dG t.T), I t.far, I t.least] 25)])))) 4 (VV.ptr (.own (2) 0)) (VV.tp (stD l :: tsL t)) ∧ l.length ≤ 6 ∧ ∃ (S' : Nat), ∃ (a : Nat → Int), ∃ (M : Mde), ∃ (es : Lst), (VV.ptr (.own 4 0) = VV.ptr (.own 4 0) ∧ VV.ptr (.own 9 0) = VV.ptr (.own 9 0) ∧ VV.ptr (.own 1 0) = VV.ptr (.own 1 0) ∧ VV.ptr (.own 11 0) = VV.ptr (.own 11 0)) ∧ (0 = 0 ∧ 12 ≤ 12) ∧ atL nsB1 (BP1 l t [[d00, d01]] 2 M es) (VH.mk (12) ((10, VB.cells [VV.func 44 [] [VV.ptr (.own (4) 0), VV.ptr (.own (9) 0), VV.ptr (.own (1) 0), VV.ptr (.own (11) 0)]] 78) :: (11, VB.cells [VV.func 40 [] [VV.ptr (.own (3) 0), VV.ptr (.own (10) 0), VV.ptr (.own (1) 0), VV.ptr (.own (6) 0)]] 88) :: (11, VB.cells [VV.nilf] 88) :: (10, VB.cells [VV.nilf] 78) :: (9, VB.cells [VV.mp (8)] 77) :: (9, VB.cells [VV.opq (Value.map none)] 77) :: (8, VB.map ([PK.int IntKind.i64] ++ ([PK.int IntKind.i64] ++ ((List.replicate 6 [PK.int IntKind.i64]).flatten ++ []))) PK.bool []) :: (5, VB.cells [VV.slice (.fa (7) 0 0) (↑([[d00, d01]].getD (Int.toNat (0 : Int)) []).length : Int).toNat (↑([[d00, d01]].getD (Int.toNat (0 : Int)) []).length : Int).toNat] 76) :: ([(7, VB.fam [] ((↑([[d00, d01]].getD (Int.toNat (0 : Int)) []).length : Int).toNat * (6)) (fun (_ : Nat) => (0 : Int)) 80)] ++ [(6, VB.cells [VV.slice (.own (5) 0) (1) (1)] 75), (6, VB.cells [VV.nils] 75), (5, VB.cells [VV.nils] 76), (4, VB.cells [I (↑([[d00, d01]].getD (Int.toNat (0 : Int)) []).length : Int)] 3), (4, VB.cells [I 0] 3), (3, VB.cells [VV.ptr (.own (2) 0)] 72), (3, VB.cells [VV.nilp] 72), (2, VB.cells [VV.tl l.length 5 (stG l), VV.tl t.T.length 1 (dG t.T), I t.far, I t.least] 74), (1, VB.cells [VV.tl [[d00, d01]].length 1 (pthG [[d00, d01]])] 26), (0, VB.cells [VV.tl t.T.length 1 (dG t.T), I t.far, I t.least] 25)]))) ∧ ((↑2 : Int) - (↑2 : Int) = (↑2 : Int) - (↑2 : Int) ∧ (1 : Int) * (2 : Int) ^ min (↑[[d00, d01]].length : Int).toNat IntKind.i64.bits - (1 : Int) = (↑S' : Int) ∧ [I (mostF l 0), I (mostF l 1), I (mostF l 2), I (mostF l 3), I (mostF l 4), I (mostF l 5)] = nL a) ∧ PreF l t [[d00, d01]] 2 2 S' a es ∧ ∀ (b : Bool) (s : St), PostF l t [[d00, d01]] 2 2 S' a M b s → bif !b then
 Q (.ret (.tup [VV.nils, I 4])) (VH.mk (12) [(7, VB.fam [] (2 * 6) (s.M 0) 80), (8, VB.map kS PK.bool s.es), (10, VB.cells [VV.func 44 [] [VV.ptr (.own (4) 0), VV.ptr (.own (9) 0), VV.ptr (.own (1) 0), VV.ptr (.own (11) 0)]] 78), (11, VB.cells [VV.func 40 [] [VV.ptr (.own (3) 0), VV.ptr (.own (10) 0), VV.ptr (.own (1) 0), VV.ptr (.own (6) 0)]] 88), (11, VB.cells [VV.nilf] 88), (10, VB.cells [VV.nilf] 78), (9, VB.cells [VV.mp (8)] 77), (9, VB.cells [VV.opq (Value.map none)] 77), (8, VB.map kS PK.bool []), (5, VB.cells [VV.slice (.fa (7) 0 0) (↑([[d00, d01]].getD (Int.toNat (0 : Int)) []).length : Int).toNat (↑([[d00, d01]].getD (Int.toNat (0 : Int)) []).length : Int).toNat] 76), (7, VB.fam [] ((↑([[d00, d01]].getD (Int.toNat (0 : Int)) []).length : Int).toNat * (6)) (fun (_ : Nat) => (0 : Int)) 80), (6, VB.cells [VV.slice (.own (5) 0) (1) (1)] 75), (6, VB.cells [VV.nils] 75), (5, VB.cells [VV.nils] 76), (4, VB.cells [I (↑([[d00, d01]].getD (Int.toNat (0 : Int)) []).length : Int)] 3), (4, VB.cells [I 0] 3), (3, VB.cells [VV.ptr (.own (2) 0)] 72), (3, VB.cells [VV.nilp] 72), (2, VB.cells [VV.tl l.length 5 (stG l), VV.tl t.T.length 1 (dG t.T), I t.far, I t.least] 74), (1, VB.cells [VV.tl [[d00, d01]].length 1 (pthG [[d00, d01]])] 26), (0, VB.cells [VV.tl t.T.length 1 (dG t.T), I t.far, I t.least] 25)])
 else ∃ (n : Nat → Int), ∃ (m : Nat), [I (setF (fun (_ : Nat) => (0 : Int)) 0 [s.M 0 (0 + Int.toNat (0 : Int) * (6) + 0), s.M 0 (0 + Int.toNat (0 : Int) * (6) + 1), s.M 0 (0 + Int.toNat (0 : Int) * (6) + 2), s.M 0 (0 + Int.toNat (0 : Int) * (6) + 3), s.M 0 (0 + Int.toNat (0 : Int) * (6) + 4), s.M 0 (0 + Int.toNat (0 : Int) * (6) + 5)] (0 + 0)), I (setF (fun (_ : Nat) => (0 : Int)) 0 [s.M 0 (0 + Int.toNat (0 : Int) * (6) + 0), s.M 0 (0 + Int.toNat (0 : Int) * (6) + 1), s.M 0 (0 + Int.toNat (0 : Int) * (6) + 2), s.M 0 (0 + Int.toNat (0 : Int) * (6) + 3), s.M 0 (0 + Int.toNat (0 : Int) * (6) + 4), s.M 0 (0 + Int.toNat (0 : Int) * (6) + 5)] (0 + 1)), I (setF (fun (_ : Nat) => (0 : Int)) 0 [s.M 0 (0 + Int.toNat (0 : Int) * (6) + 0), s.M 0 (0 + Int.toNat (0 : Int) * (6) + 1), s.M 0 (0 + Int.toNat (0 : Int) * (6) + 2), s.M 0 (0 + Int.toNat (0 : Int) * (6) + 3), s.M 0 (0 + Int.toNat (0 : Int) * (6) + 4), s.M 0 (0 + Int.toNat (0 : Int) * (6) + 5)] (0 + 2)), I (setF (fun (_ : Nat) => (0 : Int)) 0 [s.M 0 (0 + Int.toNat (0 : Int) * (6) + 0), s.M 0 (0 + Int.toNat (0 : Int) * (6) + 1), s.M 0 (0 + Int.toNat (0 : Int) * (6) + 2), s.M 0 (0 + Int.toNat (0 : Int) * (6) + 3), s.M 0 (0 + Int.toNat (0 : Int) * (6) + 4), s.M 0 (0 + Int.toNat (0 : Int) * (6) + 5)] (0 + 3)), I (setF (fun (_ : Nat) => (0 : Int)) 0 [s.M 0 (0 + Int.toNat (0 : Int) * (6) + 0), s.M 0 (0 + Int.toNat (0 : Int) * (6) + 1), s.M 0 (0 + Int.toNat (0 : Int) * (6) + 2), s.M 0 (0 + Int.toNat (0 : Int) * (6) + 3), s.M 0 (0 + Int.toNat (0 : Int) * (6) + 4), s.M 0 (0 + Int.toNat (0 : Int) * (6) + 5)] (0 + 4)), I (setF (fun (_ : Nat) => (0 : Int)) 0 [s.M 0 (0 + Int.toNat (0 : Int) * (6) + 0), s.M 0 (0 + Int.toNat (0 : Int) * (6) + 1), s.M 0 (0 + Int.toNat (0 : Int) * (6) + 2), s.M 0 (0 + Int.toNat (0 : Int) * (6) + 3), s.M 0 (0 + Int.toNat (0 : Int) * (6) + 4), s.M 0 (0 + Int.toNat (0 : Int) * (6) + 5)] (0 + 5))] = nL n ∧ (↑l.length : Int) = (↑m : Int) ∧ m ≤ 6 ∧ ∃ (n_1 : Nat → Int), ∃ (m_1 : Nat), [I (setF (fun (_ : Nat) => (0 : Int)) 0 [s.M 0 (0 + ((0 : Int) + (1 : Int)).toNat * (6) + 0), s.M 0 (0 + ((0 : Int) + (1 : Int)).toNat * (6) + 1), s.M 0 (0 + ((0 : Int) + (1 : Int)).toNat * (6) + 2), s.M 0 (0 + ((0 : Int) + (1 : Int)).toNat * (6) + 3), s.M 0 (0 + ((0 : Int) + (1 : Int)).toNat * (6) + 4), s.M 0 (0 + ((0 : Int) + (1 : Int)).toNat * (6) + 5)] (0 + 0)), I (setF (fun (_ : Nat) => (0 : Int)) 0 [s.M 0 (0 + ((0 : Int) + (1 : Int)).toNat * (6) + 0), s.M 0 (0 + ((0 : Int) + (1 : Int)).toNat * (6) + 1), s.M 0 (0 + ((0 : Int) + (1 : Int)).toNat * (6) + 2), s.M 0 (0 + ((0 : Int) + (1 : Int)).toNat * (6) + 3), s.M 0 (0 + ((0 : Int) + (1 : Int)).toNat * (6) + 4), s.M 0 (0 + ((0 : Int) + (1 : Int)).toNat * (6) + 5)] (0 + 1)), I (setF (fun (_ : Nat) => (0 : Int)) 0 [s.M 0 (0 + ((0 : Int) + (1 : Int)).toNat * (6) + 0), s.M 0 (0 + ((0 : Int) + (1 : Int)).toNat * (6) + 1), s.M 0 (0 + ((0 : Int) + (1 : Int)).toNat * (6) + 2), s.M 0 (0 + ((0 : Int) + (1 : Int)).toNat * (6) + 3), s.M 0 (0 + ((0 : Int) + (1 : Int)).toNat * (6) + 4), s.M 0 (0 + ((0 : Int) + (1 : Int)).toNat * (6) + 5)] (0 + 2)), I (setF (fun (_ : Nat) => (0 : Int)) 0 [s.M 0 (0 + ((0 : Int) + (1 : Int)).toNat * (6) + 0), s.M 0 (0 + ((0 : Int) + (1 : Int)).toNat * (6) + 1), s.M 0 (0 + ((0 : Int) + (1 : Int)).toNat * (6) + 2), s.M 0 (0 + ((0 : Int) + (1 : Int)).toNat * (6) + 3), s.M 0 (0 + ((0 : Int) + (1 : Int)).toNat * (6) + 4), s.M 0 (0 + ((0 : Int) + (1 : Int)).toNat * (6) + 5)] (0 + 3)), I (setF (fun (_ : Nat) => (0 : Int)) 0 [s.M 0 (0 + ((0 : Int) + (1 : Int)).toNat * (6) + 0), s.M 0 (0 + ((0 : Int) + (1 : Int)).toNat * (6) + 1), s.M 0 (0 + ((0 : Int) + (1 : Int)).toNat * (6) + 2), s.M 0 (0 + ((0 : Int) + (1 : Int)).toNat * (6) + 3), s.M 0 (0 + ((0 : Int) + (1 : Int)).toNat * (6) + 4), s.M 0 (0 + ((0 : Int) + (1 : Int)).toNat * (6) + 5)] (0 + 4)), I (setF (fun (_ : Nat) => (0 : Int)) 0 [s.M 0 (0 + ((0 : Int) + (1 : Int)).toNat * (6) + 0), s.M 0 (0 + ((0 : Int) + (1 : Int)).toNat * (6) + 1), s.M 0 (0 + ((0 : Int) + (1 : Int)).toNat * (6) + 2), s.M 0 (0 + ((0 : Int) + (1 : Int)).toNat * (6) + 3), s.M 0 (0 + ((0 : Int) + (1 : Int)).toNat * (6) + 4), s.M 0 (0 + ((0 : Int) + (1 : Int)).toNat * (6) + 5)] (0 + 5))] = nL n_1 ∧ (↑l.length : Int) = (↑m_1 : Int) ∧ m_1 ≤ 6 ∧ Q (.ret (.tup [VV.sl (18) 1, I 0])) (VH.mk (19) [(18, VB.vec 1 (fun (j : Nat) => List.take (1) (List.drop (j * (1)) (List.take (1 * (1)) (List.drop 0 [VV.tl (1 + 1) (1) (catG 1 (fun (j : Nat) => List.take (1) (List.drop (j * (1)) [VV.tl m 1 (chG n)])) fun (j : Nat) => List.take (1) (List.drop (j * (1)) [VV.tl m_1 1 (chG n_1)]))])))) (1) 26), (17, VB.cells [VV.tl (1 + 1) (1) (catG 1 (fun (j : Nat) => List.take (1) (List.drop (j * (1)) [VV.tl m 1 (chG n)])) fun (j : Nat) => List.take (1) (List.drop (j * (1)) [VV.tl m_1 1 (chG n_1)]))] 26), (14, VB.gone), (17, VB.cells [VV.sl (14) (1 + 1)] 26), (14, VB.vec (1 + 1) (catG 1 (fun (j : Nat) => List.take (1) (List.drop (j * (1)) [VV.tl m 1 (chG n)])) fun (j : Nat) => List.take (1) (List.drop (j * (1)) [VV.tl m_1 1 (chG n_1)])) (1) 23), (16, VB.vec 1 (fun (j : Nat) => List.take (1) (List.drop (j * (1)) [VV.tl m_1 1 (chG n_1)])) (1) 23), (15, VB.fam [] (6) (setF (fun (_ : Nat) => (0 : Int)) 0 [s.M 0 (0 + ((0 : Int) + (1 : Int)).toNat * (6) + 0), s.M 0 (0 + ((0 : Int) + (1 : Int)).toNat * (6) + 1), s.M 0 (0 + ((0 : Int) + (1 : Int)).toNat * (6) + 2), s.M 0 (0 + ((0 : Int) + (1 : Int)).toNat * (6) + 3), s.M 0 (0 + ((0 : Int) + (1 : Int)).toNat * (6) + 4), s.M 0 (0 + ((0 : Int) + (1 : Int)).toNat * (6) + 5)]) 80), (15, VB.fam [] (6) (fun (_ : Nat) => (0 : Int)) 80), (14, VB.vec 1 (fun (j : Nat) => List.take (1) (List.drop (j * (1)) [VV.tl m 1 (chG n)])) (1) 23), (13, VB.vec 1 (fun (j : Nat) => List.take (1) (List.drop (j * (1)) [VV.tl m 1 (chG n)])) (1) 23), (12, VB.fam [] (6) (setF (fun (_ : Nat) => (0 : Int)) 0 [s.M 0 (0 + Int.toNat (0 : Int) * (6) + 0), s.M 0 (0 + Int.toNat (0 : Int) * (6) + 1), s.M 0 (0 + Int.toNat (0 : Int) * (6) + 2), s.M 0 (0 + Int.toNat (0 : Int) * (6) + 3), s.M 0 (0 + Int.toNat (0 : Int) * (6) + 4), s.M 0 (0 + Int.toNat (0 : Int) * (6) + 5)]) 80), (12, VB.fam [] (6) (fun (_ : Nat) => (0 : Int)) 80), (7, VB.fam [] (2 * 6) (s.M 0) 80), (8, VB.map kS PK.bool s.es), (10, VB.cells [VV.func 44 [] [VV.ptr (.own (4) 0), VV.ptr (.own (9) 0), VV.ptr (.own (1) 0), VV.ptr (.own (11) 0)]] 78), (11, VB.cells [VV.func 40 [] [VV.ptr (.own (3) 0), VV.ptr (.own (10) 0), VV.ptr (.own (1) 0), VV.ptr (.own (6) 0)]] 88), (11, VB.cells [VV.nilf] 88), (10, VB.cells [VV.nilf] 78), (9, VB.cells [VV.mp (8)] 77), (9, VB.cells [VV.opq (Value.map none)] 77), (8, VB.map kS PK.bool []), (5, VB.cells [VV.slice (.fa (7) 0 0) (↑([[d00, d01]].getD (Int.toNat (0 : Int)) []).length : Int).toNat (↑([[d00, d01]].getD (Int.toNat (0 : Int)) []).length : Int).toNat] 76), (7, VB.fam [] ((↑([[d00, d01]].getD (Int.toNat (0 : Int)) []).length : Int).toNat * (6)) (fun (_ : Nat) => (0 : Int)) 80), (6, VB.cells [VV.slice (.own (5) 0) (1) (1)] 75), (6, VB.cells [VV.nils] 75), (5, VB.cells [VV.nils] 76), (4, VB.cells [I (↑([[d00, d01]].getD (Int.toNat (0 : Int)) []).length : Int)] 3), (4, VB.cells [I 0] 3), (3, VB.cells [VV.ptr (.own (2) 0)] 72), (3, VB.cells [VV.nilp] 72), (2, VB.cells [VV.tl l.length 5 (stG l), VV.tl t.T.length 1 (dG t.T), I t.far, I t.least] 74), (1, VB.cells [VV.tl [[d00, d01]].length 1 (pthG [[d00, d01]])] 26), (0, VB.cells [VV.tl t.T.length 1 (dG t.T), I t.far, I t.least] 25)])) := by kernel_rfl

end Go.Sx.Bln

/- blend: Plan with 1 paths of 2 years. -/

namespace Go.Sx.Bln
open Go Go.Sx Go.Proofs
set_option maxRecDepth 1000000

theorem pln12_v {l : List Stk} {t : Tst} {d00 d01 : Int} (h1 : okAll l t = true) (h2 : okPaths [[d00, d01]] = true) (cf : Cfg l t [[d00, d01]] 2) (hpb : pthB [[d00, d01]]) : ∃ r h', CallsV Try.prog 17 [stD l, .agg (tsL t), pthD [[d00, d01]]] ⟨0, []⟩ r h' ∧ PlnK l t [[d00, d01]] 2 r h' := by
  have hl6 := cf.hl.1
  have htab : ∀ f T, tabS [asR l t, casksR l t, apR [[d00, d01]], findR1 l t [[d00, d01]] 2 2, listT] f = some T → SpOk Try.prog f T := tab_ok _ (fun x hx => by
    simp only [List.mem_cons, List.not_mem_nil, or_false] at hx
    rcases hx with rfl | rfl | rfl | rfl | rfl
    · exact asR_ok l t
    · exact casksR_ok l t
    · exact apR_ok _
    · exact findR1_ok cf 2
    · exact listT_ok)
  obtain ⟨r, h', hk, hc⟩ := of_callN (noL_good htab) (f := 17) (args := [stD l, .agg (tsL t), pthD [[d00, d01]]]) (h := ⟨0, []⟩) (K := PlnK l t [[d00, d01]] 2) (by
    refine cast (pl12_ev l t d00 d01 _).symm ⟨isD_l, ⟨⟨rfl, rfl, fun _ _ => rfl⟩, ⟨rfl, rfl⟩, ⟨rfl, rfl⟩, trivial⟩, cond_i (fun h => by rw [h1] at h; cases h) (fun _ => ⟨⟨rfl, rfl, fun _ _ => rfl⟩, hpb, cond_i (fun h => by rw [h2] at h; cases h) (fun _ => ?_)⟩)⟩
    refine ⟨hc61 rfl, hl6, 1, mostF l, fun _ _ => 0, [], ⟨rfl, rfl, rfl, rfl⟩, ⟨rfl, Nat.le_refl _⟩, ⟨rfl, rfl, rfl, rfl, rfl, rfl, rfl, rfl, rfl, rfl, rfl, rfl, trivial⟩, ⟨rfl, rfl, rfl⟩, ⟨Nat.le_refl _, (by show 1 < 2 ^ 1; decide), most_left cf.hl, lost_nil⟩, ?_⟩
    rintro b s ⟨p1, p2, p3, p4⟩
    refine cond_i (fun g => ?_) (fun g => ?_)
    · have g : b = false := by simpa using g
      subst g
      refine .inl ⟨?_, rfl⟩
      cases hx : planF l t [[d00, d01]] 2 2 1 (mostF l) with
      | none => exact hx
      | some x => rw [hx] at p1; cases p1
    · have g : b = true := by simpa using g
      subst g
      obtain ⟨x, hx⟩ : ∃ x, planF l t [[d00, d01]] 2 2 1 (mostF l) = some x := by
        cases hx : planF l t [[d00, d01]] 2 2 1 (mostF l) with
        | none => rw [hx] at p1; cases p1
        | some x => exact ⟨x, rfl⟩
      refine ⟨fun j => s.M 0 (0 * 6 + j), l.length, rfl, rfl, hl6, fun j => s.M 0 (1 * 6 + j), l.length, rfl, rfl, hl6, .inr ⟨x, _, _, _, hx, rfl, rfl, fun i hi => ?_⟩⟩
      have hi : i < 1 := hi
      match i, hi with
      | 0, _ =>
            refine tl_weak rfl (fun y hy => ?_)
            match y, hy with
            | 0, _ => exact wk_ch (fun j hj => p4 x hx 0 0 j (by omega) rfl (by omega) (by omega))
            | 1, _ => exact wk_ch (fun j hj => p4 x hx 0 1 j (by omega) rfl (by omega) (by omega))
            | _ + 2, hy => exact absurd hy (by omega)
      | _ + 1, hi => exact absurd hi (by omega))
  exact ⟨r, h', hc, hk⟩
end Go.Sx.Bln

/- blend: Plan with 1 paths of 3 years, evaluated. -/

namespace Go.Sx.Bln
open Go Go.Sx Go.Proofs
set_option maxRecDepth 1000000

theorem pl13_ev (l : List Stk) (t : Tst) (d00 d01 d02 : Int) (Q : VRes → VH → Prop) : callN Try.prog (tabS [asR l t, casksR l t, apR [[d00, d01, d02]], findR1 l t [[d00, d01, d02]] 3 3, listT]) noL 10 20 0 (.fn 17) [stD l, .agg (tsL t), pthD [[d00, d01, d02]]] ⟨0, []⟩ (fun r h => Q r h) =
  (isD (VH.mk (2) [(1, VB.cells [VV.tl [[d00, d01, d02]].length 1 (pthG [[d00, d01, d02]])] 26), (0, VB.cells [VV.tl t.T.length 1 (dG t.T), I t.far, I t.least] 25)]) 2 (VV.tl l.length 5 (stG l)) (stD l) ∧ isD (VH.mk (2) [(1, VB.cells [VV.tl [[d00, d01, d02]].length 1 (pthG [[d00, d01, d02]])] 26), (0, VB.cells [VV.tl t.T.length 1 (dG t.T), I t.far, I t.least] 25)]) 2 (VV.agg [VV.tl t.T.length 1 (dG t.T), I t.far, I t.least]) (VV.agg (tsL t)) ∧ bif !okAll l t then
 Q (.ret (.tup [VV.nils, I 1])) (VH.mk (2) [(1, VB.cells [VV.tl [[d00, d01, d02]].length 1 (pthG [[d00, d01, d02]])] 26), (0, VB.cells [VV.tl t.T.length 1 (dG t.T), I t.far, I t.least] 25)])
 else isD (VH.mk (2) [(1, VB.cells [VV.tl [[d00, d01, d02]].length 1 (pthG [[d00, d01, d02]])] 26), (0, VB.cells [VV.tl t.T.length 1 (dG t.T), I t.far, I t.least] 25)]) 4 (VV.tl [[d00, d01, d02]].length 1 (pthG [[d00, d01, d02]])) (pthD [[d00, d01, d02]]) ∧ pthB [[d00, d01, d02]] ∧ bif !okPaths [[d00, d01, d02]] then
 Q (.ret (.tup [VV.nils, I 2])) (VH.mk (2) [(1, VB.cells [VV.tl [[d00, d01, d02]].length 1 (pthG [[d00, d01, d02]])] 26), (0, VB.cells [VV.tl t.T.length 1 (dG t.T), I t.far, I t.least] 25)])
 else isD (maskH [0, 1, 2, 3, 4, 5, 6, 7, 8, 9, 10, 11] (VH.mk (12) ((10, VB.cells [VV.func 44 [] [VV.ptr (.own (4) 0), VV.ptr (.own (9) 0), VV.ptr (.own (1) 0), VV.ptr (.own (11) 0)]] 78) :: (11, VB.cells [VV.func 40 [] [VV.ptr (.own (3) 0), VV.ptr (.own (10) 0), VV.ptr (.own (1) 0), VV.ptr (.own (6) 0)]] 88) :: (11, VB.cells [VV.nilf] 88) :: (10, VB.cells [VV.nilf] 78) :: (9, VB.cells [VV.mp (8)] 77) :: (9, VB.cells [VV.opq (Value.map none)] 77) :: (8, VB.map ([PK.int IntKind.i64] ++ ([PK.int IntKind.i64] ++ ((List.replicate 6 [PK.int IntKind.i64]).flatten ++ []))) PK.bool []) :: (5, VB.cells [VV.slice (.fa (7) 0 0) (↑([[d00, d01, d02]].getD (Int.toNat (0 : Int)) []).length : Int).toNat (↑([[d00, d01, d02]].getD (Int.toNat (0 : Int)) []).length : Int).toNat] 76) :: ([(7, VB.fam [] ((↑([[d00, d01, d02]].getD (Int.toNat (0 : Int)) []).length : Int).toNat * (6)) (fun (_ : Nat) => (0 : Int)) 80)] ++ [(6, VB.cells [VV.slice (.own (5) 0) (1) (1)] 75), (6, VB.cells [VV.nils] 75), (5, VB.cells [VV.nils] 76), (4, VB.cells [I (↑([[d00, d01, d02]].getD (Int.toNat (0 : Int)) []).length : Int)] 3), (4, VB.cells [I 0] 3), (3, VB.cells [VV.ptr (.own (2) 0)] 72), (3, VB.cells [VV.nilp] 72), (2, VB.cells [VV.tl l.length 5 (stG l), VV.tl t.T.length 1 (dG t.T), I t.far, I t.least] 74), (1, VB.cells [VV.tl [[d00, d01, d02]].length 1 (pthG [[d00, d01, d02]])] 26), (0, VB.cells [VV.tl t.T.length 1 (dG t.T), I t.far, I t.least] 25)])))) 4 (VV.ptr (.own (2) 0)) (VV.tp (stD l :: tsL t)) ∧ l.length ≤ 6 ∧ ∃ (S' : Nat), ∃ (a : Nat → Int), ∃ (M : Mde), ∃ (es : Lst), (VV.ptr (.own 4 0) = VV.ptr (.own 4 0) ∧ VV.ptr (.own 9 0) = VV.ptr (.own 9 0) ∧ VV.ptr (.own 1 0) = VV.ptr (.own 1 0) ∧ VV.ptr (.own 11 0) = VV.ptr (.own 11 0)) ∧ (0 = 0 ∧ 12 ≤ 12) ∧ atL nsB1 (BP1 l t [[d00, d01, d02]] 3 M es) (VH.mk (12) ((10, VB.cells [VV.func 44 [] [VV.ptr (.own (4) 0), VV.ptr (.own (9) 0), VV.ptr (.own (1) 0), VV.ptr (.own (11) 0)]] 78) :: (11, VB.cells [VV.func 40 [] [VV.ptr (.own (3) 0), VV.ptr (.own (10) 0), VV.ptr (.own (1) 0), VV.ptr (.own (6) 0)]] 88) :: (11, VB.cells [VV.nilf] 88) :: (10, VB.cells [VV.nilf] 78) :: (9, VB.cells [VV.mp (8)] 77) :: (9, VB.cells [VV.opq (Value.map none)] 77) :: (8, VB.map ([PK.int IntKind.i64] ++ ([PK.int IntKind.i64] ++ ((List.replicate 6 [PK.int IntKind.i64]).flatten ++ []))) PK.bool []) :: (5, VB.cells [VV.slice (.fa (7) 0 0) (↑([[d00, d01, d02]].getD (Int.toNat (0 : Int)) []).length : Int).toNat (↑([[d00, d01, d02]].getD (Int.toNat (0 : Int)) []).length : Int).toNat] 76) :: ([(7, VB.fam [] ((↑([[d00, d01, d02]].getD (Int.toNat (0 : Int)) []).length : Int).toNat * (6)) (fun (_ : Nat) => (0 : Int)) 80)] ++ [(6, VB.cells [VV.slice (.own (5) 0) (1) (1)] 75), (6, VB.cells [VV.nils] 75), (5, VB.cells [VV.nils] 76), (4, VB.cells [I (↑([[d00, d01, d02]].getD (Int.toNat (0 : Int)) []).length : Int)] 3), (4, VB.cells [I 0] 3), (3, VB.cells [VV.ptr (.own (2) 0)] 72), (3, VB.cells [VV.nilp] 72), (2, VB.cells [VV.tl l.length 5 (stG l), VV.tl t.T.length 1 (dG t.T), I t.far, I t.least] 74), (1, VB.cells [VV.tl [[d00, d01, d02]].length 1 (pthG [[d00, d01, d02]])] 26), (0, VB.cells [VV.tl t.T.length 1 (dG t.T), I t.far, I t.least] 25)]))) ∧ ((↑3 : Int) - (↑3 : Int) = (↑3 : Int) - (↑3 : Int) ∧ (1 : Int) * (2 : Int) ^ min (↑[[d00, d01, d02]].length : Int).toNat IntKind.i64.bits - (1 : Int) = (↑S' : Int) ∧ [I (mostF l 0), I (mostF l 1), I (mostF l 2), I (mostF l 3), I (mostF l 4), I (mostF l 5)] = nL a) ∧ PreF l t [[d00, d01, d02]] 3 3 S' a es ∧ ∀ (b : Bool) (s : St), PostF l t [[d00, d01, d02]] 3 3 S' a M b s → bif !b then
 Q (.ret (.tup [VV.nils, I 4])) (VH.mk (12) [(7, VB.fam [] (3 * 6) (s.M 0) 80), (8, VB.map kS PK.bool s.es), (10, VB.cells [VV.func 44 [] [VV.ptr (.own (4) 0), VV.ptr (.own (9) 0), VV.ptr (.own (1) 0), VV.ptr (.own (11) 0)]] 78), (11, VB.cells [VV.func 40 [] [VV.ptr (.own (3) 0), VV.ptr (.own (10) 0), VV.ptr (.own (1) 0), VV.ptr (.own (6) 0)]] 88), (11, VB.cells [VV.nilf] 88), (10, VB.cells [VV.nilf] 78), (9, VB.cells [VV.mp (8)] 77), (9, VB.cells [VV.opq (Value.map none)] 77), (8, VB.map kS PK.bool []), (5, VB.cells [VV.slice (.fa (7) 0 0) (↑([[d00, d01, d02]].getD (Int.toNat (0 : Int)) []).length : Int).toNat (↑([[d00, d01, d02]].getD (Int.toNat (0 : Int)) []).length : Int).toNat] 76), (7, VB.fam [] ((↑([[d00, d01, d02]].getD (Int.toNat (0 : Int)) []).length : Int).toNat * (6)) (fun (_ : Nat) => (0 : Int)) 80), (6, VB.cells [VV.slice (.own (5) 0) (1) (1)] 75), (6, VB.cells [VV.nils] 75), (5, VB.cells [VV.nils] 76), (4, VB.cells [I (↑([[d00, d01, d02]].getD (Int.toNat (0 : Int)) []).length : Int)] 3), (4, VB.cells [I 0] 3), (3, VB.cells [VV.ptr (.own (2) 0)] 72), (3, VB.cells [VV.nilp] 72), (2, VB.cells [VV.tl l.length 5 (stG l), VV.tl t.T.length 1 (dG t.T), I t.far, I t.least] 74), (1, VB.cells [VV.tl [[d00, d01, d02]].length 1 (pthG [[d00, d01, d02]])] 26), (0, VB.cells [VV.tl t.T.length 1 (dG t.T), I t.far, I t.least] 25)])
 else ∃ (n : Nat → Int), ∃ (m : Nat), [I (setF (fun (_ : Nat) => (0 : Int)) 0 [s.M 0 (0 + Int.toNat (0 : Int) * (6) + 0), s.M 0 (0 + Int.toNat (0 : Int) * (6) + 1), s.M 0 (0 + Int.toNat (0 : Int) * (6) + 2), s.M 0 (0 + Int.toNat (0 : Int) * (6) + 3), s.M 0 (0 + Int.toNat (0 : Int) * (6) + 4), s.M 0 (0 + Int.toNat (0 : Int) * (6) + 5)] (0 + 0)), I (setF (fun (_ : Nat) => (0 : Int)) 0 [s.M 0 (0 + Int.toNat (0 : Int) * (6) + 0), s.M 0 (0 + Int.toNat (0 : Int) * (6) + 1), s.M 0 (0 + Int.toNat (0 : Int) * (6) + 2), s.M 0 (0 + Int.toNat (0 : Int) * (6) + 3), s.M 0 (0 + Int.toNat (0 : Int) * (6) + 4), s.M 0 (0 + Int.toNat (0 : Int) * (6) + 5)] (0 + 1)), I (setF (fun (_ : Nat) => (0 : Int)) 0 [s.M 0 (0 + Int.toNat (0 : Int) * (6) + 0), s.M 0 (0 + Int.toNat (0 : Int) * (6) + 1), s.M 0 (0 + Int.toNat (0 : Int) * (6) + 2), s.M 0 (0 + Int.toNat (0 : Int) * (6) + 3), s.M 0 (0 + Int.toNat (0 : Int) * (6) + 4), s.M 0 (0 + Int.toNat (0 : Int) * (6) + 5)] (0 + 2)), I (setF (fun (_ : Nat) => (0 : Int)) 0 [s.M 0 (0 + Int.toNat (0 : Int) * (6) + 0), s.M 0 (0 + Int.toNat (0 : Int) * (6) + 1), s.M 0 (0 + Int.toNat (0 : Int) * (6) + 2), s.M 0 (0 + Int.toNat (0 : Int) * (6) + 3), s.M 0 (0 + Int.toNat (0 : Int) * (6) + 4), s.M 0 (0 + Int.toNat (0 : Int) * (6) + 5)] (0 + 3)), I (setF (fun (_ : Nat) => (0 : Int)) 0 [s.M 0 (0 + Int.toNat (0 : Int) * (6) + 0), s.M 0 (0 + Int.toNat (0 : Int) * (6) + 1), s.M 0 (0 + Int.toNat (0 : Int) * (6) + 2), s.M 0 (0 + Int.toNat (0 : Int) * (6) + 3), s.M 0 (0 + Int.toNat (0 : Int) * (6) + 4), s.M 0 (0 + Int.toNat (0 : Int) * (6) + 5)] (0 + 4)), I (setF (fun (_ : Nat) => (0 : Int)) 0 [s.M 0 (0 + Int.toNat (0 : Int) * (6) + 0), s.M 0 (0 + Int.toNat (0 : Int) * (6) + 1), s.M 0 (0 + Int.toNat (0 : Int) * (6) + 2), s.M 0 (0 + Int.toNat (0 : Int) * (6) + 3), s.M 0 (0 + Int.toNat (0 : Int) * (6) + 4), s.M 0 (0 + Int.toNat (0 : Int) * (6) + 5)] (0 + 5))] = nL n ∧ (↑l.length : Int) = (↑m : Int) ∧ m ≤ 6 ∧ ∃ (n_1 : Nat → Int), ∃ (m_1 : Nat), [I (setF (fun (_ : Nat) => (0 : Int)) 0 [s.M 0 (0 + ((0 : Int) + (1 : Int)).toNat * (6) + 0), s.M 0 (0 + ((0 : Int) + (1 : Int)).toNat * (6) + 1), s.M 0 (0 + ((0 : Int) + (1 : Int)).toNat * (6) + 2), s.M 0 (0 + ((0 : Int) + (1 : Int)).toNat * (6) + 3), s.M 0 (0 + ((0 : Int) + (1 : Int)).toNat * (6) + 4), s.M 0 (0 + ((0 : Int) + (1 : Int)).toNat * (6) + 5)] (0 + 0)), I (setF (fun (_ : Nat) => (0 : Int)) 0 [s.M 0 (0 + ((0 : Int) + (1 : Int)).toNat * (6) + 0), s.M 0 (0 + ((0 : Int) + (1 : Int)).toNat * (6) + 1), s.M 0 (0 + ((0 : Int) + (1 : Int)).toNat * (6) + 2), s.M 0 (0 + ((0 : Int) + (1 : Int)).toNat * (6) + 3), s.M 0 (0 + ((0 : Int) + (1 : Int)).toNat * (6) + 4), s.M 0 (0 + ((0 : Int) + (1 : Int)).toNat * (6) + 5)] (0 + 1)), I (setF (fun (_ : Nat) => (0 : Int)) 0 [s.M 0 (0 + ((0 : Int) + (1 : Int)).toNat * (6) + 0), s.M 0 (0 + ((0 : Int) + (1 : Int)).toNat * (6) + 1), s.M 0 (0 + ((0 : Int) + (1 : Int)).toNat * (6) + 2), s.M 0 (0 + ((0 : Int) + (1 : Int)).toNat * (6) + 3), s.M 0 (0 + ((0 : Int) + (1 : Int)).toNat * (6) + 4), s.M 0 (0 + ((0 : Int) + (1 : Int)).toNat * (6) + 5)] (0 + 2)), I (setF (fun (_ : Nat) => (0 : Int)) 0 [s.M 0 (0 + ((0 : Int) + (1 : Int)).toNat * (6) + 0), s.M 0 (0 + ((0 : Int) + (1 : Int)).toNat * (6) + 1), s.M 0 (0 + ((0 : Int) + (1 : Int)).toNat * (6) + 2), s.M 0 (0 + ((0 : Int) + (1 : Int)).toNat * (6) + 3), s.M 0 (0 + ((0 : Int) + (1 : Int)).toNat * (6) + 4), s.M 0 (0 + ((0 : Int) + (1 : Int)).toNat * (6) + 5)] (0 + 3)), I (setF (fun (_ : Nat) => (0 : Int)) 0 [s.M 0 (0 + ((0 : Int) + (1 : Int)).toNat * (6) + 0), s.M 0 (0 + ((0 : Int) + (1 : Int)).toNat * (6) + 1), s.M 0 (0 + ((0 : Int) + (1 : Int)).toNat * (6) + 2), s.M 0 (0 + ((0 : Int) + (1 : Int)).toNat * (6) + 3), s.M 0 (0 + ((0 : Int) + (1 : Int)).toNat * (6) + 4), s.M 0 (0 + ((0 : Int) + (1 : Int)).toNat * (6) + 5)] (0 + 4)), I (setF (fun (_ : Nat) => (0 : Int)) 0 [s.M 0 (0 + ((0 : Int) + (1 : Int)).toNat * (6) + 0), s.M 0 (0 + ((0 : Int) + (1 : Int)).toNat * (6) + 1), s.M 0 (0 + ((0 : Int) + (1 : Int)).toNat * (6) + 2), s.M 0 (0 + ((0 : Int) + (1 : Int)).toNat * (6) + 3), s.M 0 (0 + ((0 : Int) + (1 : Int)).toNat * (6) + 4), s.M 0 (0 + ((0 : Int) + (1 : Int)).toNat * (6) + 5)] (0 + 5))] = nL n_1 ∧ (↑l.length : Int) = (↑m_1 : Int) ∧ m_1 ≤ 6 ∧ ∃ (n_2 : Nat → Int), ∃ (m_2 : Nat), [I (setF (fun (_ : Nat) => (0 : Int)) 0 [s.M 0 (0 + ((0 : Int) + (1 : Int) + (1 : Int)).toNat * (6) + 0), s.M 0 (0 + ((0 : Int) + (1 : Int) + (1 : Int)).toNat * (6) + 1), s.M 0 (0 + ((0 : Int) + (1 : Int) + (1 : Int)).toNat * (6) + 2), s.M 0 (0 + ((0 : Int) + (1 : Int) + (1 : Int)).toNat * (6) + 3), s.M 0 (0 + ((0 : Int) + (1 : Int) + (1 : Int)).toNat * (6) + 4), s.M 0 (0 + ((0 : Int) + (1 : Int) + (1 : Int)).toNat * (6) + 5)] (0 + 0)), I (setF (fun (_ : Nat) => (0 : Int)) 0 [s.M 0 (0 + ((0 : Int) + (1 : Int) + (1 : Int)).toNat * (6) + 0), s.M 0 (0 + ((0 : Int) + (1 : Int) + (1 : Int)).toNat * (6) + 1), s.M 0 (0 + ((0 : Int) + (1 : Int) + (1 : Int)).toNat * (6) + 2), s.M 0 (0 + ((0 : Int) + (1 : Int) + (1 : Int)).toNat * (6) + 3), s.M 0 (0 + ((0 : Int) + (1 : Int) + (1 : Int)).toNat * (6) + 4), s.M 0 (0 + ((0 : Int) + (1 : Int) + (1 : Int)).toNat * (6) + 5)] (0 + 1)), I (setF (fun (_ : Nat) => (0 : Int)) 0 [s.M 0 (0 + ((0 : Int) + (1 : Int) + (1 : Int)).toNat * (6) + 0), s.M 0 (0 + ((0 : Int) + (1 : Int) + (1 : Int)).toNat * (6) + 1), s.M 0 (0 + ((0 : Int) + (1 : Int) + (1 : Int)).toNat * (6) + 2), s.M 0 (0 + ((0 : Int) + (1 : Int) + (1 : Int)).toNat * (6) + 3), s.M 0 (0 + ((0 : Int) + (1 : Int) + (1 : Int)).toNat * (6) + 4), s.M 0 (0 + ((0 : Int) + (1 : Int) + (1 : Int)).toNat * (6) + 5)] (0 + 2)), I (setF (fun (_ : Nat) => (0 : Int)) 0 [s.M 0 (0 + ((0 : Int) + (1 : Int) + (1 : Int)).toNat * (6) + 0), s.M 0 (0 + ((0 : Int) + (1 : Int) + (1 : Int)).toNat * (6) + 1), s.M 0 (0 + ((0 : Int) + (1 : Int) + (1 : Int)).toNat * (6) + 2), s.M 0 (0 + ((0 : Int) + (1 : Int) + (1 : Int)).toNat * (6) + 3), s.M 0 (0 + ((0 : Int) + (1 : Int) + (1 : Int)).toNat * (6) + 4), s.M 0 (0 + ((0 : Int) + (1 : Int) + (1 : Int)).toNat * (6) + 5)] (0 + 3)), I (setF (fun (_ : Nat) => (0 : Int)) 0 [s.M 0 (0 + ((0 : Int) + (1 : Int) + (1 : Int)).toNat * (6) + 0), s.M 0 (0 + ((0 : Int) + (1 : Int) + (1 : Int)).toNat * (6) + 1), s.M 0 (0 + ((0 : Int) + (1 : Int) + (1 : Int)).toNat * (6) + 2), s.M 0 (0 + ((0 : Int) + (1 : Int) + (1 : Int)).toNat * (6) + 3), s.M 0 (0 + ((0 : Int) + (1 : Int) + (1 : Int)).toNat * (6) + 4), s.M 0 (0 + ((0 : Int) + (1 : Int) + (1 : Int)).toNat * (6) + 5)] (0 + 4)), I (setF (fun (_ : Nat) => (0 : Int)) 0 [s.M 0 (0 + ((0 : Int) + (1 : Int) + (1 : Int)).toNat * (6) + 0), s.M 0 (0 + ((0 : Int) + (1 : Int) + (1 : Int)).toNat * (6) + 1), s.M 0 (0 + ((0 : Int) + (1 : Int) + (1 : Int)).toNat * (6) + 2), s.M 0 (0 + ((0 : Int) + (1 : Int) + (1 : Int)).toNat * (6) + 3), s.M 0 (0 + ((0 : Int) + (1 : Int) + (1 : Int)).toNat * (6) + 4), s.M 0 (0 + ((0 : Int) + (1 : Int) + (1 : Int)).toNat * (6) + 5)] (0 + 5))] = nL n_2 ∧ (↑l.length : Int) = (↑m_2 : Int) ∧ m_2 ≤ 6 ∧ Q (.ret (.tup [VV.sl (20) 1, I 0])) (VH.mk (21) [(20, VB.vec 1 (fun (j : Nat) => List.take (1) (List.drop (j * (1)) (List.take (1 * (1)) (List.drop 0 [VV.tl (1 + 1 + 1) (1) (catG (1 + 1) (catG 1 (fun (j : Nat) => List.take (1) (List.drop (j * (1)) [VV.tl m 1 (chG n)])) fun (j : Nat) => List.take (1) (List.drop (j * (1)) [VV.tl m_1 1 (chG n_1)])) fun (j : Nat) => List.take (1) (List.drop (j * (1)) [VV.tl m_2 1 (chG n_2)]))])))) (1) 26), (19, VB.cells [VV.tl (1 + 1 + 1) (1) (catG (1 + 1) (catG 1 (fun (j : Nat) => List.take (1) (List.drop (j * (1)) [VV.tl m 1 (chG n)])) fun (j : Nat) => List.take (1) (List.drop (j * (1)) [VV.tl m_1 1 (chG n_1)])) fun (j : Nat) => List.take (1) (List.drop (j * (1)) [VV.tl m_2 1 (chG n_2)]))] 26), (14, VB.gone), (19, VB.cells [VV.sl (14) (1 + 1 + 1)] 26), (14, VB.vec (1 + 1 + 1) (catG (1 + 1) (catG 1 (fun (j : Nat) => List.take (1) (List.drop (j * (1)) [VV.tl m 1 (chG n)])) fun (j : Nat) => List.take (1) (List.drop (j * (1)) [VV.tl m_1 1 (chG n_1)])) fun (j : Nat) => List.take (1) (List.drop (j * (1)) [VV.tl m_2 1 (chG n_2)])) (1) 23), (18, VB.vec 1 (fun (j : Nat) => List.take (1) (List.drop (j * (1)) [VV.tl m_2 1 (chG n_2)])) (1) 23), (17, VB.fam [] (6) (setF (fun (_ : Nat) => (0 : Int)) 0 [s.M 0 (0 + ((0 : Int) + (1 : Int) + (1 : Int)).toNat * (6) + 0), s.M 0 (0 + ((0 : Int) + (1 : Int) + (1 : Int)).toNat * (6) + 1), s.M 0 (0 + ((0 : Int) + (1 : Int) + (1 : Int)).toNat * (6) + 2), s.M 0 (0 + ((0 : Int) + (1 : Int) + (1 : Int)).toNat * (6) + 3), s.M 0 (0 + ((0 : Int) + (1 : Int) + (1 : Int)).toNat * (6) + 4), s.M 0 (0 + ((0 : Int) + (1 : Int) + (1 : Int)).toNat * (6) + 5)]) 80), (17, VB.fam [] (6) (fun (_ : Nat) => (0 : Int)) 80), (14, VB.vec (1 + 1) (catG 1 (fun (j : Nat) => List.take (1) (List.drop (j * (1)) [VV.tl m 1 (chG n)])) fun (j : Nat) => List.take (1) (List.drop (j * (1)) [VV.tl m_1 1 (chG n_1)])) (1) 23), (16, VB.vec 1 (fun (j : Nat) => List.take (1) (List.drop (j * (1)) [VV.tl m_1 1 (chG n_1)])) (1) 23), (15, VB.fam [] (6) (setF (fun (_ : Nat) => (0 : Int)) 0 [s.M 0 (0 + ((0 : Int) + (1 : Int)).toNat * (6) + 0), s.M 0 (0 + ((0 : Int) + (1 : Int)).toNat * (6) + 1), s.M 0 (0 + ((0 : Int) + (1 : Int)).toNat * (6) + 2), s.M 0 (0 + ((0 : Int) + (1 : Int)).toNat * (6) + 3), s.M 0 (0 + ((0 : Int) + (1 : Int)).toNat * (6) + 4), s.M 0 (0 + ((0 : Int) + (1 : Int)).toNat * (6) + 5)]) 80), (15, VB.fam [] (6) (fun (_ : Nat) => (0 : Int)) 80), (14, VB.vec 1 (fun (j : Nat) => List.take (1) (List.drop (j * (1)) [VV.tl m 1 (chG n)])) (1) 23), (13, VB.vec 1 (fun (j : Nat) => List.take (1) (List.drop (j * (1)) [VV.tl m 1 (chG n)])) (1) 23), (12, VB.fam [] (6) (setF (fun (_ : Nat) => (0 : Int)) 0 [s.M 0 (0 + Int.toNat (0 : Int) * (6) + 0), s.M 0 (0 + Int.toNat (0 : Int) * (6) + 1), s.M 0 (0 + Int.toNat (0 : Int) * (6) + 2), s.M 0 (0 + Int.toNat (0 : Int) * (6) + 3), s.M 0 (0 + Int.toNat (0 : Int) * (6) + 4), s.M 0 (0 + Int.toNat (0 : Int) * (6) + 5)]) 80), (12, VB.fam [] (6) (fun (_ : Nat) => (0 : Int)) 80), (7, VB.fam [] (3 * 6) (s.M 0) 80), (8, VB.map kS PK.bool s.es), (10, VB.cells [VV.func 44 [] [VV.ptr (.own (4) 0), VV.ptr (.own (9) 0), VV.ptr (.own (1) 0), VV.ptr (.own (11) 0)]] 78), (11, VB.cells [VV.func 40 [] [VV.ptr (.own (3) 0), VV.ptr (.own (10) 0), VV.ptr (.own (1) 0), VV.ptr (.own (6) 0)]] 88), (11, VB.cells [VV.nilf] 88), (10, VB.cells [VV.nilf] 78), (9, VB.cells [VV.mp (8)] 77), (9, VB.cells [VV.opq (Value.map none)] 77), (8, VB.map kS PK.bool []), (5, VB.cells [VV.slice (.fa (7) 0 0) (↑([[d00, d01, d02]].getD (Int.toNat (0 : Int)) []).length : Int).toNat (↑([[d00, d01, d02]].getD (Int.toNat (0 : Int)) []).length : Int).toNat] 76), (7, VB.fam [] ((↑([[d00, d01, d02]].getD (Int.toNat (0 : Int)) []).length : Int).toNat * (6)) (fun (_ : Nat) => (0 : Int)) 80), (6, VB.cells [VV.slice (.own (5) 0) (1) (1)] 75), (6, VB.cells [VV.nils] 75), (5, VB.cells [VV.nils] 76), (4, VB.cells [I (↑([[d00, d01, d02]].getD (Int.toNat (0 : Int)) []).length : Int)] 3), (4, VB.cells [I 0] 3), (3, VB.cells [VV.ptr (.own (2) 0)] 72), (3, VB.cells [VV.nilp] 72), (2, VB.cells [VV.tl l.length 5 (stG l), VV.tl t.T.length 1 (dG t.T), I t.far, I t.least] 74), (1, VB.cells [VV.tl [[d00, d01, d02]].length 1 (pthG [[d00, d01, d02]])] 26), (0, VB.cells [VV.tl t.T.length 1 (dG t.T), I t.far, I t.least] 25)])) := by kernel_rfl

end Go.Sx.Bln

/- blend: Plan with 1 paths of 3 years. -/

namespace Go.Sx.Bln
open Go Go.Sx Go.Proofs
set_option maxRecDepth 1000000

theorem pln13_v {l : List Stk} {t : Tst} {d00 d01 d02 : Int} (h1 : okAll l t = true) (h2 : okPaths [[d00, d01, d02]] = true) (cf : Cfg l t [[d00, d01, d02]] 3) (hpb : pthB [[d00, d01, d02]]) : ∃ r h', CallsV Try.prog 17 [stD l, .agg (tsL t), pthD [[d00, d01, d02]]] ⟨0, []⟩ r h' ∧ PlnK l t [[d00, d01, d02]] 3 r h' := by
  have hl6 := cf.hl.1
  have htab : ∀ f T, tabS [asR l t, casksR l t, apR [[d00, d01, d02]], findR1 l t [[d00, d01, d02]] 3 3, listT] f = some T → SpOk Try.prog f T := tab_ok _ (fun x hx => by
    simp only [List.mem_cons, List.not_mem_nil, or_false] at hx
    rcases hx with rfl | rfl | rfl | rfl | rfl
    · exact asR_ok l t
    · exact casksR_ok l t
    · exact apR_ok _
    · exact findR1_ok cf 3
    · exact listT_ok)
  obtain ⟨r, h', hk, hc⟩ := of_callN (noL_good htab) (f := 17) (args := [stD l, .agg (tsL t), pthD [[d00, d01, d02]]]) (h := ⟨0, []⟩) (K := PlnK l t [[d00, d01, d02]] 3) (by
    refine cast (pl13_ev l t d00 d01 d02 _).symm ⟨isD_l, ⟨⟨rfl, rfl, fun _ _ => rfl⟩, ⟨rfl, rfl⟩, ⟨rfl, rfl⟩, trivial⟩, cond_i (fun h => by rw [h1] at h; cases h) (fun _ => ⟨⟨rfl, rfl, fun _ _ => rfl⟩, hpb, cond_i (fun h => by rw [h2] at h; cases h) (fun _ => ?_)⟩)⟩
    refine ⟨hc61 rfl, hl6, 1, mostF l, fun _ _ => 0, [], ⟨rfl, rfl, rfl, rfl⟩, ⟨rfl, Nat.le_refl _⟩, ⟨rfl, rfl, rfl, rfl, rfl, rfl, rfl, rfl, rfl, rfl, rfl, rfl, trivial⟩, ⟨rfl, rfl, rfl⟩, ⟨Nat.le_refl _, (by show 1 < 2 ^ 1; decide), most_left cf.hl, lost_nil⟩, ?_⟩
    rintro b s ⟨p1, p2, p3, p4⟩
    refine cond_i (fun g => ?_) (fun g => ?_)
    · have g : b = false := by simpa using g
      subst g
      refine .inl ⟨?_, rfl⟩
      cases hx : planF l t [[d00, d01, d02]] 3 3 1 (mostF l) with
      | none => exact hx
      | some x => rw [hx] at p1; cases p1
    · have g : b = true := by simpa using g
      subst g
      obtain ⟨x, hx⟩ : ∃ x, planF l t [[d00, d01, d02]] 3 3 1 (mostF l) = some x := by
        cases hx : planF l t [[d00, d01, d02]] 3 3 1 (mostF l) with
        | none => rw [hx] at p1; cases p1
        | some x => exact ⟨x, rfl⟩
      refine ⟨fun j => s.M 0 (0 * 6 + j), l.length, rfl, rfl, hl6, fun j => s.M 0 (1 * 6 + j), l.length, rfl, rfl, hl6, fun j => s.M 0 (2 * 6 + j), l.length, rfl, rfl, hl6, .inr ⟨x, _, _, _, hx, rfl, rfl, fun i hi => ?_⟩⟩
      have hi : i < 1 := hi
      match i, hi with
      | 0, _ =>
            refine tl_weak rfl (fun y hy => ?_)
            match y, hy with
            | 0, _ => exact wk_ch (fun j hj => p4 x hx 0 0 j (by omega) rfl (by omega) (by omega))
            | 1, _ => exact wk_ch (fun j hj => p4 x hx 0 1 j (by omega) rfl (by omega) (by omega))
            | 2, _ => exact wk_ch (fun j hj => p4 x hx 0 2 j (by omega) rfl (by omega) (by omega))
            | _ + 3, hy => exact absurd hy (by omega)
      | _ + 1, hi => exact absurd hi (by omega))
  exact ⟨r, h', hc, hk⟩
end Go.Sx.Bln

/- blend: Plan with 1 paths of 4 years, evaluated. -/

namespace Go.Sx.Bln
open Go Go.Sx Go.Proofs
set_option maxRecDepth 1000000

theorem pl14_ev (l : List Stk) (t : Tst) (d00 d01 d02 d03 : Int) (Q : VRes → VH → Prop) : callN Try.prog (tabS [asR l t, casksR l t, apR [[d00, d01, d02, d03]], findR1 l t [[d00, d01, d02, d03]] 4 4, listT]) noL 10 20 0 (.fn 17) [stD l, .agg (tsL t), pthD [[d00, d01, d02, d03]]] ⟨0, []⟩ (fun r h => Q r h) =
  (isD (VH.mk (2) [(1, VB.cells [VV.tl [[d00, d01, d02, d03]].length 1 (pthG [[d00, d01, d02, d03]])] 26), (0, VB.cells [VV.tl t.T.length 1 (dG t.T), I t.far, I t.least] 25)]) 2 (VV.tl l.length 5 (stG l)) (stD l) ∧ isD (VH.mk (2) [(1, VB.cells [VV.tl [[d00, d01, d02, d03]].length 1 (pthG [[d00, d01, d02, d03]])] 26), (0, VB.cells [VV.tl t.T.length 1 (dG t.T), I t.far, I t.least] 25)]) 2 (VV.agg [VV.tl t.T.length 1 (dG t.T), I t.far, I t.least]) (VV.agg (tsL t)) ∧ bif !okAll l t then
 Q (.ret (.tup [VV.nils, I 1])) (VH.mk (2) [(1, VB.cells [VV.tl [[d00, d01, d02, d03]].length 1 (pthG [[d00, d01, d02, d03]])] 26), (0, VB.cells [VV.tl t.T.length 1 (dG t.T), I t.far, I t.least] 25)])
 else isD (VH.mk (2) [(1, VB.cells [VV.tl [[d00, d01, d02, d03]].length 1 (pthG [[d00, d01, d02, d03]])] 26), (0, VB.cells [VV.tl t.T.length 1 (dG t.T), I t.far, I t.least] 25)]) 4 (VV.tl [[d00, d01, d02, d03]].length 1 (pthG [[d00, d01, d02, d03]])) (pthD [[d00, d01, d02, d03]]) ∧ pthB [[d00, d01, d02, d03]] ∧ bif !okPaths [[d00, d01, d02, d03]] then
 Q (.ret (.tup [VV.nils, I 2])) (VH.mk (2) [(1, VB.cells [VV.tl [[d00, d01, d02, d03]].length 1 (pthG [[d00, d01, d02, d03]])] 26), (0, VB.cells [VV.tl t.T.length 1 (dG t.T), I t.far, I t.least] 25)])
 else isD (maskH [0, 1, 2, 3, 4, 5, 6, 7, 8, 9, 10, 11] (VH.mk (12) ((10, VB.cells [VV.func 44 [] [VV.ptr (.own (4) 0), VV.ptr (.own (9) 0), VV.ptr (.own (1) 0), VV.ptr (.own (11) 0)]] 78) :: (11, VB.cells [VV.func 40 [] [VV.ptr (.own (3) 0), VV.ptr (.own (10) 0), VV.ptr (.own (1) 0), VV.ptr (.own (6) 0)]] 88) :: (11, VB.cells [VV.nilf] 88) :: (10, VB.cells [VV.nilf] 78) :: (9, VB.cells [VV.mp (8)] 77) :: (9, VB.cells [VV.opq (Value.map none)] 77) :: (8, VB.map ([PK.int IntKind.i64] ++ ([PK.int IntKind.i64] ++ ((List.replicate 6 [PK.int IntKind.i64]).flatten ++ []))) PK.bool []) :: (5, VB.cells [VV.slice (.fa (7) 0 0) (↑([[d00, d01, d02, d03]].getD (Int.toNat (0 : Int)) []).length : Int).toNat (↑([[d00, d01, d02, d03]].getD (Int.toNat (0 : Int)) []).length : Int).toNat] 76) :: ([(7, VB.fam [] ((↑([[d00, d01, d02, d03]].getD (Int.toNat (0 : Int)) []).length : Int).toNat * (6)) (fun (_ : Nat) => (0 : Int)) 80)] ++ [(6, VB.cells [VV.slice (.own (5) 0) (1) (1)] 75), (6, VB.cells [VV.nils] 75), (5, VB.cells [VV.nils] 76), (4, VB.cells [I (↑([[d00, d01, d02, d03]].getD (Int.toNat (0 : Int)) []).length : Int)] 3), (4, VB.cells [I 0] 3), (3, VB.cells [VV.ptr (.own (2) 0)] 72), (3, VB.cells [VV.nilp] 72), (2, VB.cells [VV.tl l.length 5 (stG l), VV.tl t.T.length 1 (dG t.T), I t.far, I t.least] 74), (1, VB.cells [VV.tl [[d00, d01, d02, d03]].length 1 (pthG [[d00, d01, d02, d03]])] 26), (0, VB.cells [VV.tl t.T.length 1 (dG t.T), I t.far, I t.least] 25)])))) 4 (VV.ptr (.own (2) 0)) (VV.tp (stD l :: tsL t)) ∧ l.length ≤ 6 ∧ ∃ (S' : Nat), ∃ (a : Nat → Int), ∃ (M : Mde), ∃ (es : Lst), (VV.ptr (.own 4 0) = VV.ptr (.own 4 0) ∧ VV.ptr (.own 9 0) = VV.ptr (.own 9 0) ∧ VV.ptr (.own 1 0) = VV.ptr (.own 1 0) ∧ VV.ptr (.own 11 0) = VV.ptr (.own 11 0)) ∧ (0 = 0 ∧ 12 ≤ 12) ∧ atL nsB1 (BP1 l t [[d00, d01, d02, d03]] 4 M es) (VH.mk (12) ((10, VB.cells [VV.func 44 [] [VV.ptr (.own (4) 0), VV.ptr (.own (9) 0), VV.ptr (.own (1) 0), VV.ptr (.own (11) 0)]] 78) :: (11, VB.cells [VV.func 40 [] [VV.ptr (.own (3) 0), VV.ptr (.own (10) 0), VV.ptr (.own (1) 0), VV.ptr (.own (6) 0)]] 88) :: (11, VB.cells [VV.nilf] 88) :: (10, VB.cells [VV.nilf] 78) :: (9, VB.cells [VV.mp (8)] 77) :: (9, VB.cells [VV.opq (Value.map none)] 77) :: (8, VB.map ([PK.int IntKind.i64] ++ ([PK.int IntKind.i64] ++ ((List.replicate 6 [PK.int IntKind.i64]).flatten ++ []))) PK.bool []) :: (5, VB.cells [VV.slice (.fa (7) 0 0) (↑([[d00, d01, d02, d03]].getD (Int.toNat (0 : Int)) []).length : Int).toNat (↑([[d00, d01, d02, d03]].getD (Int.toNat (0 : Int)) []).length : Int).toNat] 76) :: ([(7, VB.fam [] ((↑([[d00, d01, d02, d03]].getD (Int.toNat (0 : Int)) []).length : Int).toNat * (6)) (fun (_ : Nat) => (0 : Int)) 80)] ++ [(6, VB.cells [VV.slice (.own (5) 0) (1) (1)] 75), (6, VB.cells [VV.nils] 75), (5, VB.cells [VV.nils] 76), (4, VB.cells [I (↑([[d00, d01, d02, d03]].getD (Int.toNat (0 : Int)) []).length : Int)] 3), (4, VB.cells [I 0] 3), (3, VB.cells [VV.ptr (.own (2) 0)] 72), (3, VB.cells [VV.nilp] 72), (2, VB.cells [VV.tl l.length 5 (stG l), VV.tl t.T.length 1 (dG t.T), I t.far, I t.least] 74), (1, VB.cells [VV.tl [[d00, d01, d02, d03]].length 1 (pthG [[d00, d01, d02, d03]])] 26), (0, VB.cells [VV.tl t.T.length 1 (dG t.T), I t.far, I t.least] 25)]))) ∧ ((↑4 : Int) - (↑4 : Int) = (↑4 : Int) - (↑4 : Int) ∧ (1 : Int) * (2 : Int) ^ min (↑[[d00, d01, d02, d03]].length : Int).toNat IntKind.i64.bits - (1 : Int) = (↑S' : Int) ∧ [I (mostF l 0), I (mostF l 1), I (mostF l 2), I (mostF l 3), I (mostF l 4), I (mostF l 5)] = nL a) ∧ PreF l t [[d00, d01, d02, d03]] 4 4 S' a es ∧ ∀ (b : Bool) (s : St), PostF l t [[d00, d01, d02, d03]] 4 4 S' a M b s → bif !b then
 Q (.ret (.tup [VV.nils, I 4])) (VH.mk (12) [(7, VB.fam [] (4 * 6) (s.M 0) 80), (8, VB.map kS PK.bool s.es), (10, VB.cells [VV.func 44 [] [VV.ptr (.own (4) 0), VV.ptr (.own (9) 0), VV.ptr (.own (1) 0), VV.ptr (.own (11) 0)]] 78), (11, VB.cells [VV.func 40 [] [VV.ptr (.own (3) 0), VV.ptr (.own (10) 0), VV.ptr (.own (1) 0), VV.ptr (.own (6) 0)]] 88), (11, VB.cells [VV.nilf] 88), (10, VB.cells [VV.nilf] 78), (9, VB.cells [VV.mp (8)] 77), (9, VB.cells [VV.opq (Value.map none)] 77), (8, VB.map kS PK.bool []), (5, VB.cells [VV.slice (.fa (7) 0 0) (↑([[d00, d01, d02, d03]].getD (Int.toNat (0 : Int)) []).length : Int).toNat (↑([[d00, d01, d02, d03]].getD (Int.toNat (0 : Int)) []).length : Int).toNat] 76), (7, VB.fam [] ((↑([[d00, d01, d02, d03]].getD (Int.toNat (0 : Int)) []).length : Int).toNat * (6)) (fun (_ : Nat) => (0 : Int)) 80), (6, VB.cells [VV.slice (.own (5) 0) (1) (1)] 75), (6, VB.cells [VV.nils] 75), (5, VB.cells [VV.nils] 76), (4, VB.cells [I (↑([[d00, d01, d02, d03]].getD (Int.toNat (0 : Int)) []).length : Int)] 3), (4, VB.cells [I 0] 3), (3, VB.cells [VV.ptr (.own (2) 0)] 72), (3, VB.cells [VV.nilp] 72), (2, VB.cells [VV.tl l.length 5 (stG l), VV.tl t.T.length 1 (dG t.T), I t.far, I t.least] 74), (1, VB.cells [VV.tl [[d00, d01, d02, d03]].length 1 (pthG [[d00, d01, d02, d03]])] 26), (0, VB.cells [VV.tl t.T.length 1 (dG t.T), I t.far, I t.least] 25)])
 else ∃ (n : Nat → Int), ∃ (m : Nat), [I (setF (fun (_ : Nat) => (0 : Int)) 0 [s.M 0 (0 + Int.toNat (0 : Int) * (6) + 0), s.M 0 (0 + Int.toNat (0 : Int) * (6) + 1), s.M 0 (0 + Int.toNat (0 : Int) * (6) + 2), s.M 0 (0 + Int.toNat (0 : Int) * (6) + 3), s.M 0 (0 + Int.toNat (0 : Int) * (6) + 4), s.M 0 (0 + Int.toNat (0 : Int) * (6) + 5)] (0 + 0)), I (setF (fun (_ : Nat) => (0 : Int)) 0 [s.M 0 (0 + Int.toNat (0 : Int) * (6) + 0), s.M 0 (0 + Int.toNat (0 : Int) * (6) + 1), s.M 0 (0 + Int.toNat (0 : Int) * (6) + 2), s.M 0 (0 + Int.toNat (0 : Int) * (6) + 3), s.M 0 (0 + Int.toNat (0 : Int) * (6) + 4), s.M 0 (0 + Int.toNat (0 : Int) * (6) + 5)] (0 + 1)), I (setF (fun (_ : Nat) => (0 : Int)) 0 [s.M 0 (0 + Int.toNat (0 : Int) * (6) + 0), s.M 0 (0 + Int.toNat (0 : Int) * (6) + 1), s.M 0 (0 + Int.toNat (0 : Int) * (6) + 2), s.M 0 (0 + Int.toNat (0 : Int) * (6) + 3), s.M 0 (0 + Int.toNat (0 : Int) * (6) + 4), s.M 0 (0 + Int.toNat (0 : Int) * (6) + 5)] (0 + 2)), I (setF (fun (_ : Nat) => (0 : Int)) 0 [s.M 0 (0 + Int.toNat (0 : Int) * (6) + 0), s.M 0 (0 + Int.toNat (0 : Int) * (6) + 1), s.M 0 (0 + Int.toNat (0 : Int) * (6) + 2), s.M 0 (0 + Int.toNat (0 : Int) * (6) + 3), s.M 0 (0 + Int.toNat (0 : Int) * (6) + 4), s.M 0 (0 + Int.toNat (0 : Int) * (6) + 5)] (0 + 3)), I (setF (fun (_ : Nat) => (0 : Int)) 0 [s.M 0 (0 + Int.toNat (0 : Int) * (6) + 0), s.M 0 (0 + Int.toNat (0 : Int) * (6) + 1), s.M 0 (0 + Int.toNat (0 : Int) * (6) + 2), s.M 0 (0 + Int.toNat (0 : Int) * (6) + 3), s.M 0 (0 + Int.toNat (0 : Int) * (6) + 4), s.M 0 (0 + Int.toNat (0 : Int) * (6) + 5)] (0 + 4)), I (setF (fun (_ : Nat) => (0 : Int)) 0 [s.M 0 (0 + Int.toNat (0 : Int) * (6) + 0), s.M 0 (0 + Int.toNat (0 : Int) * (6) + 1), s.M 0 (0 + Int.toNat (0 : Int) * (6) + 2), s.M 0 (0 + Int.toNat (0 : Int) * (6) + 3), s.M 0 (0 + Int.toNat (0 : Int) * (6) + 4), s.M 0 (0 + Int.toNat (0 : Int) * (6) + 5)] (0 + 5))] = nL n ∧ (↑l.length : Int) = (↑m : Int) ∧ m ≤ 6 ∧ ∃ (n_1 : Nat → Int), ∃ (m_1 : Nat), [I (setF (fun (_ : Nat) => (0 : Int)) 0 [s.M 0 (0 + ((0 : Int) + (1 : Int)).toNat * (6) + 0), s.M 0 (0 + ((0 : Int) + (1 : Int)).toNat * (6) + 1), s.M 0 (0 + ((0 : Int) + (1 : Int)).toNat * (6) + 2), s.M 0 (0 + ((0 : Int) + (1 : Int)).toNat * (6) + 3), s.M 0 (0 + ((0 : Int) + (1 : Int)).toNat * (6) + 4), s.M 0 (0 + ((0 : Int) + (1 : Int)).toNat * (6) + 5)] (0 + 0)), I (setF (fun (_ : Nat) => (0 : Int)) 0 [s.M 0 (0 + ((0 : Int) + (1 : Int)).toNat * (6) + 0), s.M 0 (0 + ((0 : Int) + (1 : Int)).toNat * (6) + 1), s.M 0 (0 + ((0 : Int) + (1 : Int)).toNat * (6) + 2), s.M 0 (0 + ((0 : Int) + (1 : Int)).toNat * (6) + 3), s.M 0 (0 + ((0 : Int) + (1 : Int)).toNat * (6) + 4), s.M 0 (0 + ((0 : Int) + (1 : Int)).toNat * (6) + 5)] (0 + 1)), I (setF (fun (_ : Nat) => (0 : Int)) 0 [s.M 0 (0 + ((0 : Int) + (1 : Int)).toNat * (6) + 0), s.M 0 (0 + ((0 : Int) + (1 : Int)).toNat * (6) + 1), s.M 0 (0 + ((0 : Int) + (1 : Int)).toNat * (6) + 2), s.M 0 (0 + ((0 : Int) + (1 : Int)).toNat * (6) + 3), s.M 0 (0 + ((0 : Int) + (1 : Int)).toNat * (6) + 4), s.M 0 (0 + ((0 : Int) + (1 : Int)).toNat * (6) + 5)] (0 + 2)), I (setF (fun (_ : Nat) => (0 : Int)) 0 [s.M 0 (0 + ((0 : Int) + (1 : Int)).toNat * (6) + 0), s.M 0 (0 + ((0 : Int) + (1 : Int)).toNat * (6) + 1), s.M 0 (0 + ((0 : Int) + (1 : Int)).toNat * (6) + 2), s.M 0 (0 + ((0 : Int) + (1 : Int)).toNat * (6) + 3), s.M 0 (0 + ((0 : Int) + (1 : Int)).toNat * (6) + 4), s.M 0 (0 + ((0 : Int) + (1 : Int)).toNat * (6) + 5)] (0 + 3)), I (setF (fun (_ : Nat) => (0 : Int)) 0 [s.M 0 (0 + ((0 : Int) + (1 : Int)).toNat * (6) + 0), s.M 0 (0 + ((0 : Int) + (1 : Int)).toNat * (6) + 1), s.M 0 (0 + ((0 : Int) + (1 : Int)).toNat * (6) + 2), s.M 0 (0 + ((0 : Int) + (1 : Int)).toNat * (6) + 3), s.M 0 (0 + ((0 : Int) + (1 : Int)).toNat * (6) + 4), s.M 0 (0 + ((0 : Int) + (1 : Int)).toNat * (6) + 5)] (0 + 4)), I (setF (fun (_ : Nat) => (0 : Int)) 0 [s.M 0 (0 + ((0 : Int) + (1 : Int)).toNat * (6) + 0), s.M 0 (0 + ((0 : Int) + (1 : Int)).toNat * (6) + 1), s.M 0 (0 + ((0 : Int) + (1 : Int)).toNat * (6) + 2), s.M 0 (0 + ((0 : Int) + (1 : Int)).toNat * (6) + 3), s.M 0 (0 + ((0 : Int) + (1 : Int)).toNat * (6) + 4), s.M 0 (0 + ((0 : Int) + (1 : Int)).toNat * (6) + 5)] (0 + 5))] = nL n_1 ∧ (↑l.length : Int) = (↑m_1 : Int) ∧ m_1 ≤ 6 ∧ ∃ (n_2 : Nat → Int), ∃ (m_2 : Nat), [I (setF (fun (_ : Nat) => (0 : Int)) 0 [s.M 0 (0 + ((0 : Int) + (1 : Int) + (1 : Int)).toNat * (6) + 0), s.M 0 (0 + ((0 : Int) + (1 : Int) + (1 : Int)).toNat * (6) + 1), s.M 0 (0 + ((0 : Int) + (1 : Int) + (1 : Int)).toNat * (6) + 2), s.M 0 (0 + ((0 : Int) + (1 : Int) + (1 : Int)).toNat * (6) + 3), s.M 0 (0 + ((0 : Int) + (1 : Int) + (1 : Int)).toNat * (6) + 4), s.M 0 (0 + ((0 : Int) + (1 : Int) + (1 : Int)).toNat * (6) + 5)] (0 + 0)), I (setF (fun (_ : Nat) => (0 : Int)) 0 [s.M 0 (0 + ((0 : Int) + (1 : Int) + (1 : Int)).toNat * (6) + 0), s.M 0 (0 + ((0 : Int) + (1 : Int) + (1 : Int)).toNat * (6) + 1), s.M 0 (0 + ((0 : Int) + (1 : Int) + (1 : Int)).toNat * (6) + 2), s.M 0 (0 + ((0 : Int) + (1 : Int) + (1 : Int)).toNat * (6) + 3), s.M 0 (0 + ((0 : Int) + (1 : Int) + (1 : Int)).toNat * (6) + 4), s.M 0 (0 + ((0 : Int) + (1 : Int) + (1 : Int)).toNat * (6) + 5)] (0 + 1)), I (setF (fun (_ : Nat) => (0 : Int)) 0 [s.M 0 (0 + ((0 : Int) + (1 : Int) + (1 : Int)).toNat * (6) + 0), s.M 0 (0 + ((0 : Int) + (1 : Int) + (1 : Int)).toNat * (6) + 1), s.M 0 (0 + ((0 : Int) + (1 : Int) + (1 : Int)).toNat * (6) + 2), s.M 0 (0 + ((0 : Int) + (1 : Int) + (1 : Int)).toNat * (6) + 3), s.M 0 (0 + ((0 : Int) + (1 : Int) + (1 : Int)).toNat * (6) + 4), s.M 0 (0 + ((0 : Int) + (1 : Int) + (1 : Int)).toNat * (6) + 5)] (0 + 2)), I (setF (fun (_ : Nat) => (0 : Int)) 0 [s.M 0 (0 + ((0 : Int) + (1 : Int) + (1 : Int)).toNat * (6) + 0), s.M 0 (0 + ((0 : Int) + (1 : Int) + (1 : Int)).toNat * (6) + 1), s.M 0 (0 + ((0 : Int) + (1 : Int) + (1 : Int)).toNat * (6) + 2), s.M 0 (0 + ((0 : Int) + (1 : Int) + (1 : Int)).toNat * (6) + 3), s.M 0 (0 + ((0 : Int) + (1 : Int) + (1 : Int)).toNat * (6) + 4), s.M 0 (0 + ((0 : Int) + (1 : Int) + (1 : Int)).toNat * (6) + 5)] (0 + 3)), I (setF (fun (_ : Nat) => (0 : Int)) 0 [s.M 0 (0 + ((0 : Int) + (1 : Int) + (1 : Int)).toNat * (6) + 0), s.M 0 (0 + ((0 : Int) + (1 : Int) + (1 : Int)).toNat * (6) + 1), s.M 0 (0 + ((0 : Int) + (1 : Int) + (1 : Int)).toNat * (6) + 2), s.M 0 (0 + ((0 : Int) + (1 : Int) + (1 : Int)).toNat * (6) + 3), s.M 0 (0 + ((0 : Int) + (1 : Int) + (1 : Int)).toNat * (6) + 4), s.M 0 (0 + ((0 : Int) + (1 : Int) + (1 : Int)).toNat * (6) + 5)] (0 + 4)), I (setF (fun (_ : Nat) => (0 : Int)) 0 [s.M 0 (0 + ((0 : Int) + (1 : Int) + (1 : Int)).toNat * (6) + 0), s.M 0 (0 + ((0 : Int) + (1 : Int) + (1 : Int)).toNat * (6) + 1), s.M 0 (0 + ((0 : Int) + (1 : Int) + (1 : Int)).toNat * (6) + 2), s.M 0 (0 + ((0 : Int) + (1 : Int) + (1 : Int)).toNat * (6) + 3), s.M 0 (0 + ((0 : Int) + (1 : Int) + (1 : Int)).toNat * (6) + 4), s.M 0 (0 + ((0 : Int) + (1 : Int) + (1 : Int)).toNat * (6) + 5)] (0 + 5))] = nL n_2 ∧ (↑l.length : Int) = (↑m_2 : Int) ∧ m_2 ≤ 6 ∧ ∃ (n_3 : Nat → Int), ∃ (m_3 : Nat), [I (setF (fun (_ : Nat) => (0 : Int)) 0 [s.M 0 (0 + ((0 : Int) + (1 : Int) + (1 : Int) + (1 : Int)).toNat * (6) + 0), s.M 0 (0 + ((0 : Int) + (1 : Int) + (1 : Int) + (1 : Int)).toNat * (6) + 1), s.M 0 (0 + ((0 : Int) + (1 : Int) + (1 : Int) + (1 : Int)).toNat * (6) + 2), s.M 0 (0 + ((0 : Int) + (1 : Int) + (1 : Int) + (1 : Int)).toNat * (6) + 3), s.M 0 (0 + ((0 : Int) + (1 : Int) + (1 : Int) + (1 : Int)).toNat * (6) + 4), s.M 0 (0 + ((0 : Int) + (1 : Int) + (1 : Int) + (1 : Int)).toNat * (6) + 5)] (0 + 0)), I (setF (fun (_ : Nat) => (0 : Int)) 0 [s.M 0 (0 + ((0 : Int) + (1 : Int) + (1 : Int) + (1 : Int)).toNat * (6) + 0), s.M 0 (0 + ((0 : Int) + (1 : Int) + (1 : Int) + (1 : Int)).toNat * (6) + 1), s.M 0 (0 + ((0 : Int) + (1 : Int) + (1 : Int) + (1 : Int)).toNat * (6) + 2), s.M 0 (0 + ((0 : Int) + (1 : Int) + (1 : Int) + (1 : Int)).toNat * (6) + 3), s.M 0 (0 + ((0 : Int) + (1 : Int) + (1 : Int) + (1 : Int)).toNat * (6) + 4), s.M 0 (0 + ((0 : Int) + (1 : Int) + (1 : Int) + (1 : Int)).toNat * (6) + 5)] (0 + 1)), I (setF (fun (_ : Nat) => (0 : Int)) 0 [s.M 0 (0 + ((0 : Int) + (1 : Int) + (1 : Int) + (1 : Int)).toNat * (6) + 0), s.M 0 (0 + ((0 : Int) + (1 : Int) + (1 : Int) + (1 : Int)).toNat * (6) + 1), s.M 0 (0 + ((0 : Int) + (1 : Int) + (1 : Int) + (1 : Int)).toNat * (6) + 2), s.M 0 (0 + ((0 : Int) + (1 : Int) + (1 : Int) + (1 : Int)).toNat * (6) + 3), s.M 0 (0 + ((0 : Int) + (1 : Int) + (1 : Int) + (1 : Int)).toNat * (6) + 4), s.M 0 (0 + ((0 : Int) + (1 : Int) + (1 : Int) + (1 : Int)).toNat * (6) + 5)] (0 + 2)), I (setF (fun (_ : Nat) => (0 : Int)) 0 [s.M 0 (0 + ((0 : Int) + (1 : Int) + (1 : Int) + (1 : Int)).toNat * (6) + 0), s.M 0 (0 + ((0 : Int) + (1 : Int) + (1 : Int) + (1 : Int)).toNat * (6) + 1), s.M 0 (0 + ((0 : Int) + (1 : Int) + (1 : Int) + (1 : Int)).toNat * (6) + 2), s.M 0 (0 + ((0 : Int) + (1 : Int) + (1 : Int) + (1 : Int)).toNat * (6) + 3), s.M 0 (0 + ((0 : Int) + (1 : Int) + (1 : Int) + (1 : Int)).toNat * (6) + 4), s.M 0 (0 + ((0 : Int) + (1 : Int) + (1 : Int) + (1 : Int)).toNat * (6) + 5)] (0 + 3)), I (setF (fun (_ : Nat) => (0 : Int)) 0 [s.M 0 (0 + ((0 : Int) + (1 : Int) + (1 : Int) + (1 : Int)).toNat * (6) + 0), s.M 0 (0 + ((0 : Int) + (1 : Int) + (1 : Int) + (1 : Int)).toNat * (6) + 1), s.M 0 (0 + ((0 : Int) + (1 : Int) + (1 : Int) + (1 : Int)).toNat * (6) + 2), s.M 0 (0 + ((0 : Int) + (1 : Int) + (1 : Int) + (1 : Int)).toNat * (6) + 3), s.M 0 (0 + ((0 : Int) + (1 : Int) + (1 : Int) + (1 : Int)).toNat * (6) + 4), s.M 0 (0 + ((0 : Int) + (1 : Int) + (1 : Int) + (1 : Int)).toNat * (6) + 5)] (0 + 4)), I (setF (fun (_ : Nat) => (0 : Int)) 0 [s.M 0 (0 + ((0 : Int) + (1 : Int) + (1 : Int) + (1 : Int)).toNat * (6) + 0), s.M 0 (0 + ((0 : Int) + (1 : Int) + (1 : Int) + (1 : Int)).toNat * (6) + 1), s.M 0 (0 + ((0 : Int) + (1 : Int) + (1 : Int) + (1 : Int)).toNat * (6) + 2), s.M 0 (0 + ((0 : Int) + (1 : Int) + (1 : Int) + (1 : Int)).toNat * (6) + 3), s.M 0 (0 + ((0 : Int) + (1 : Int) + (1 : Int) + (1 : Int)).toNat * (6) + 4), s.M 0 (0 + ((0 : Int) + (1 : Int) + (1 : Int) + (1 : Int)).toNat * (6) + 5)] (0 + 5))] = nL n_3 ∧ (↑l.length : Int) = (↑m_3 : Int) ∧ m_3 ≤ 6 ∧ Q (.ret (.tup [VV.sl (22) 1, I 0])) (VH.mk (23) [(22, VB.vec 1 (fun (j : Nat) => List.take (1) (List.drop (j * (1)) (List.take (1 * (1)) (List.drop 0 [VV.tl (1 + 1 + 1 + 1) (1) (catG (1 + 1 + 1) (catG (1 + 1) (catG 1 (fun (j : Nat) => List.take (1) (List.drop (j * (1)) [VV.tl m 1 (chG n)])) fun (j : Nat) => List.take (1) (List.drop (j * (1)) [VV.tl m_1 1 (chG n_1)])) fun (j : Nat) => List.take (1) (List.drop (j * (1)) [VV.tl m_2 1 (chG n_2)])) fun (j : Nat) => List.take (1) (List.drop (j * (1)) [VV.tl m_3 1 (chG n_3)]))])))) (1) 26), (21, VB.cells [VV.tl (1 + 1 + 1 + 1) (1) (catG (1 + 1 + 1) (catG (1 + 1) (catG 1 (fun (j : Nat) => List.take (1) (List.drop (j * (1)) [VV.tl m 1 (chG n)])) fun (j : Nat) => List.take (1) (List.drop (j * (1)) [VV.tl m_1 1 (chG n_1)])) fun (j : Nat) => List.take (1) (List.drop (j * (1)) [VV.tl m_2 1 (chG n_2)])) fun (j : Nat) => List.take (1) (List.drop (j * (1)) [VV.tl m_3 1 (chG n_3)]))] 26), (14, VB.gone), (21, VB.cells [VV.sl (14) (1 + 1 + 1 + 1)] 26), (14, VB.vec (1 + 1 + 1 + 1) (catG (1 + 1 + 1) (catG (1 + 1) (catG 1 (fun (j : Nat) => List.take (1) (List.drop (j * (1)) [VV.tl m 1 (chG n)])) fun (j : Nat) => List.take (1) (List.drop (j * (1)) [VV.tl m_1 1 (chG n_1)])) fun (j : Nat) => List.take (1) (List.drop (j * (1)) [VV.tl m_2 1 (chG n_2)])) fun (j : Nat) => List.take (1) (List.drop (j * (1)) [VV.tl m_3 1 (chG n_3)])) (1) 23), (20, VB.vec 1 (fun (j : Nat) => List.take (1) (List.drop (j * (1)) [VV.tl m_3 1 (chG n_3)])) (1) 23), (19, VB.fam [] (6) (setF (fun (_ : Nat) => (0 : Int)) 0 [s.M 0 (0 + ((0 : Int) + (1 : Int) + (1 : Int) + (1 : Int)).toNat * (6) + 0), s.M 0 (0 + ((0 : Int) + (1 : Int) + (1 : Int) + (1 : Int)).toNat * (6) + 1), s.M 0 (0 + ((0 : Int) + (1 : Int) + (1 : Int) + (1 : Int)).toNat * (6) + 2), s.M 0 (0 + ((0 : Int) + (1 : Int) + (1 : Int) + (1 : Int)).toNat * (6) + 3), s.M 0 (0 + ((0 : Int) + (1 : Int) + (1 : Int) + (1 : Int)).toNat * (6) + 4), s.M 0 (0 + ((0 : Int) + (1 : Int) + (1 : Int) + (1 : Int)).toNat * (6) + 5)]) 80), (19, VB.fam [] (6) (fun (_ : Nat) => (0 : Int)) 80), (14, VB.vec (1 + 1 + 1) (catG (1 + 1) (catG 1 (fun (j : Nat) => List.take (1) (List.drop (j * (1)) [VV.tl m 1 (chG n)])) fun (j : Nat) => List.take (1) (List.drop (j * (1)) [VV.tl m_1 1 (chG n_1)])) fun (j : Nat) => List.take (1) (List.drop (j * (1)) [VV.tl m_2 1 (chG n_2)])) (1) 23), (18, VB.vec 1 (fun (j : Nat) => List.take (1) (List.drop (j * (1)) [VV.tl m_2 1 (chG n_2)])) (1) 23), (17, VB.fam [] (6) (setF (fun (_ : Nat) => (0 : Int)) 0 [s.M 0 (0 + ((0 : Int) + (1 : Int) + (1 : Int)).toNat * (6) + 0), s.M 0 (0 + ((0 : Int) + (1 : Int) + (1 : Int)).toNat * (6) + 1), s.M 0 (0 + ((0 : Int) + (1 : Int) + (1 : Int)).toNat * (6) + 2), s.M 0 (0 + ((0 : Int) + (1 : Int) + (1 : Int)).toNat * (6) + 3), s.M 0 (0 + ((0 : Int) + (1 : Int) + (1 : Int)).toNat * (6) + 4), s.M 0 (0 + ((0 : Int) + (1 : Int) + (1 : Int)).toNat * (6) + 5)]) 80), (17, VB.fam [] (6) (fun (_ : Nat) => (0 : Int)) 80), (14, VB.vec (1 + 1) (catG 1 (fun (j : Nat) => List.take (1) (List.drop (j * (1)) [VV.tl m 1 (chG n)])) fun (j : Nat) => List.take (1) (List.drop (j * (1)) [VV.tl m_1 1 (chG n_1)])) (1) 23), (16, VB.vec 1 (fun (j : Nat) => List.take (1) (List.drop (j * (1)) [VV.tl m_1 1 (chG n_1)])) (1) 23), (15, VB.fam [] (6) (setF (fun (_ : Nat) => (0 : Int)) 0 [s.M 0 (0 + ((0 : Int) + (1 : Int)).toNat * (6) + 0), s.M 0 (0 + ((0 : Int) + (1 : Int)).toNat * (6) + 1), s.M 0 (0 + ((0 : Int) + (1 : Int)).toNat * (6) + 2), s.M 0 (0 + ((0 : Int) + (1 : Int)).toNat * (6) + 3), s.M 0 (0 + ((0 : Int) + (1 : Int)).toNat * (6) + 4), s.M 0 (0 + ((0 : Int) + (1 : Int)).toNat * (6) + 5)]) 80), (15, VB.fam [] (6) (fun (_ : Nat) => (0 : Int)) 80), (14, VB.vec 1 (fun (j : Nat) => List.take (1) (List.drop (j * (1)) [VV.tl m 1 (chG n)])) (1) 23), (13, VB.vec 1 (fun (j : Nat) => List.take (1) (List.drop (j * (1)) [VV.tl m 1 (chG n)])) (1) 23), (12, VB.fam [] (6) (setF (fun (_ : Nat) => (0 : Int)) 0 [s.M 0 (0 + Int.toNat (0 : Int) * (6) + 0), s.M 0 (0 + Int.toNat (0 : Int) * (6) + 1), s.M 0 (0 + Int.toNat (0 : Int) * (6) + 2), s.M 0 (0 + Int.toNat (0 : Int) * (6) + 3), s.M 0 (0 + Int.toNat (0 : Int) * (6) + 4), s.M 0 (0 + Int.toNat (0 : Int) * (6) + 5)]) 80), (12, VB.fam [] (6) (fun (_ : Nat) => (0 : Int)) 80), (7, VB.fam [] (4 * 6) (s.M 0) 80), (8, VB.map kS PK.bool s.es), (10, VB.cells [VV.func 44 [] [VV.ptr (.own (4) 0), VV.ptr (.own (9) 0), VV.ptr (.own (1) 0), VV.ptr (.own (11) 0)]] 78), (11, VB.cells [VV.func 40 [] [VV.ptr (.own (3) 0), VV.ptr (.own (10) 0), VV.ptr (.own (1) 0), VV.ptr (.own (6) 0)]] 88), (11, VB.cells [VV.nilf] 88), (10, VB.cells [VV.nilf] 78), (9, VB.cells [VV.mp (8)] 77), (9, VB.cells [VV.opq (Value.map none)] 77), (8, VB.map kS PK.bool []), (5, VB.cells [VV.slice (.fa (7) 0 0) (↑([[d00, d01, d02, d03]].getD (Int.toNat (0 : Int)) []).length : Int).toNat (↑([[d00, d01, d02, d03]].getD (Int.toNat (0 : Int)) []).length : Int).toNat] 76), (7, VB.fam [] ((↑([[d00, d01, d02, d03]].getD (Int.toNat (0 : Int)) []).length : Int).toNat * (6)) (fun (_ : Nat) => (0 : Int)) 80), (6, VB.cells [VV.slice (.own (5) 0) (1) (1)] 75), (6, VB.cells [VV.nils] 75), (5, VB.cells [VV.nils] 76), (4, VB.cells [I (↑([[d00, d01, d02, d03]].getD (Int.toNat (0 : Int)) []).length : Int)] 3), (4, VB.cells [I 0] 3), (3, VB.cells [VV.ptr (.own (2) 0)] 72), (3, VB.cells [VV.nilp] 72), (2, VB.cells [VV.tl l.length 5 (stG l), VV.tl t.T.length 1 (dG t.T), I t.far, I t.least] 74), (1, VB.cells [VV.tl [[d00, d01, d02, d03]].length 1 (pthG [[d00, d01, d02, d03]])] 26), (0, VB.cells [VV.tl t.T.length 1 (dG t.T), I t.far, I t.least] 25)])) := by kernel_rfl

end Go.Sx.Bln

/- blend: Plan with 1 paths of 4 years. -/

namespace Go.Sx.Bln
open Go Go.Sx Go.Proofs
set_option maxRecDepth 1000000

theorem pln14_v {l : List Stk} {t : Tst} {d00 d01 d02 d03 : Int} (h1 : okAll l t = true) (h2 : okPaths [[d00, d01, d02, d03]] = true) (cf : Cfg l t [[d00, d01, d02, d03]] 4) (hpb : pthB [[d00, d01, d02, d03]]) : ∃ r h', CallsV Try.prog 17 [stD l, .agg (tsL t), pthD [[d00, d01, d02, d03]]] ⟨0, []⟩ r h' ∧ PlnK l t [[d00, d01, d02, d03]] 4 r h' := by
  have hl6 := cf.hl.1
  have htab : ∀ f T, tabS [asR l t, casksR l t, apR [[d00, d01, d02, d03]], findR1 l t [[d00, d01, d02, d03]] 4 4, listT] f = some T → SpOk Try.prog f T := tab_ok _ (fun x hx => by
    simp only [List.mem_cons, List.not_mem_nil, or_false] at hx
    rcases hx with rfl | rfl | rfl | rfl | rfl
    · exact asR_ok l t
    · exact casksR_ok l t
    · exact apR_ok _
    · exact findR1_ok cf 4
    · exact listT_ok)
  obtain ⟨r, h', hk, hc⟩ := of_callN (noL_good htab) (f := 17) (args := [stD l, .agg (tsL t), pthD [[d00, d01, d02, d03]]]) (h := ⟨0, []⟩) (K := PlnK l t [[d00, d01, d02, d03]] 4) (by
    refine cast (pl14_ev l t d00 d01 d02 d03 _).symm ⟨isD_l, ⟨⟨rfl, rfl, fun _ _ => rfl⟩, ⟨rfl, rfl⟩, ⟨rfl, rfl⟩, trivial⟩, cond_i (fun h => by rw [h1] at h; cases h) (fun _ => ⟨⟨rfl, rfl, fun _ _ => rfl⟩, hpb, cond_i (fun h => by rw [h2] at h; cases h) (fun _ => ?_)⟩)⟩
    refine ⟨hc61 rfl, hl6, 1, mostF l, fun _ _ => 0, [], ⟨rfl, rfl, rfl, rfl⟩, ⟨rfl, Nat.le_refl _⟩, ⟨rfl, rfl, rfl, rfl, rfl, rfl, rfl, rfl, rfl, rfl, rfl, rfl, trivial⟩, ⟨rfl, rfl, rfl⟩, ⟨Nat.le_refl _, (by show 1 < 2 ^ 1; decide), most_left cf.hl, lost_nil⟩, ?_⟩
    rintro b s ⟨p1, p2, p3, p4⟩
    refine cond_i (fun g => ?_) (fun g => ?_)
    · have g : b = false := by simpa using g
      subst g
      refine .inl ⟨?_, rfl⟩
      cases hx : planF l t [[d00, d01, d02, d03]] 4 4 1 (mostF l) with
      | none => exact hx
      | some x => rw [hx] at p1; cases p1
    · have g : b = true := by simpa using g
      subst g
      obtain ⟨x, hx⟩ : ∃ x, planF l t [[d00, d01, d02, d03]] 4 4 1 (mostF l) = some x := by
        cases hx : planF l t [[d00, d01, d02, d03]] 4 4 1 (mostF l) with
        | none => rw [hx] at p1; cases p1
        | some x => exact ⟨x, rfl⟩
      refine ⟨fun j => s.M 0 (0 * 6 + j), l.length, rfl, rfl, hl6, fun j => s.M 0 (1 * 6 + j), l.length, rfl, rfl, hl6, fun j => s.M 0 (2 * 6 + j), l.length, rfl, rfl, hl6, fun j => s.M 0 (3 * 6 + j), l.length, rfl, rfl, hl6, .inr ⟨x, _, _, _, hx, rfl, rfl, fun i hi => ?_⟩⟩
      have hi : i < 1 := hi
      match i, hi with
      | 0, _ =>
            refine tl_weak rfl (fun y hy => ?_)
            match y, hy with
            | 0, _ => exact wk_ch (fun j hj => p4 x hx 0 0 j (by omega) rfl (by omega) (by omega))
            | 1, _ => exact wk_ch (fun j hj => p4 x hx 0 1 j (by omega) rfl (by omega) (by omega))
            | 2, _ => exact wk_ch (fun j hj => p4 x hx 0 2 j (by omega) rfl (by omega) (by omega))
            | 3, _ => exact wk_ch (fun j hj => p4 x hx 0 3 j (by omega) rfl (by omega) (by omega))
            | _ + 4, hy => exact absurd hy (by omega)
      | _ + 1, hi => exact absurd hi (by omega))
  exact ⟨r, h', hc, hk⟩
end Go.Sx.Bln

/- blend: Plan of one path, and Lasts. -/

namespace Go.Sx.Bln
open Go Go.Sx Go.Proofs
set_option maxRecDepth 1000000

theorem asK_ok (l : List Stk) (t : Tst) (b : Bool) : SpOk Try.prog (asK l t b).1 (asK l t b).2 := by
  intro lock args h K hK
  simp only [asK] at hK
  split at hK
  · obtain ⟨h1, h2, rfl, hK⟩ := hK
    exact asT_ok lock _ h K ⟨l, t, h1, h2, hK⟩
  · exact hK.elim
theorem apK_ok (p : List (List Int)) (b : Bool) : SpOk Try.prog (apK p b).1 (apK p b).2 := by
  intro lock args h K hK
  simp only [apK] at hK
  split at hK
  · obtain ⟨h1, ⟨h2, rfl⟩, hK⟩ := hK
    exact apR_ok p lock _ h K ⟨h1, h2, hK⟩
  · exact hK.elim

section
variable {l : List Stk} {t : Tst} {p : List (List Int)} {m : Int}

/-- What good paths are like. -/
theorem paths_of (h : okPaths p = true) : (1 ≤ p.length ∧ p.length ≤ 4) ∧ (1 ≤ (p.getD 0 []).length ∧ (p.getD 0 []).length ≤ 4) ∧ (∀ i, i < p.length → (p.getD i []).length = (p.getD 0 []).length) ∧ ndB p := by
  unfold okPaths at h
  simp only [Bool.and_eq_true, decide_eq_true_eq, Bool.not_eq_true'] at h
  obtain ⟨⟨h1, h2⟩, h3⟩ := h
  unfold anyPt at h3
  rw [List.any_eq_false] at h3
  have h4 : ∀ i, i < p.length → (p.getD i []).length = (p.getD 0 []).length ∧ anyNd (p.getD i []) = false := fun i hi => by
    have := h3 i (List.mem_range.2 hi)
    unfold qPt okPt at this
    simpa using this
  refine ⟨h1, h2, fun i hi => (h4 i hi).1, fun i j => ?_⟩
  by_cases hi : i < p.length
  · have h5 := (h4 i hi).2
    by_cases hj : j < (p.getD i []).length
    · unfold anyNd at h5
      rw [List.any_eq_false] at h5
      have := h5 j (List.mem_range.2 hj)
      unfold qNd okW at this
      simpa using this
    · rw [List.getD_eq_getElem?_getD (l := p.getD i []), List.getElem?_eq_none (by omega)]
      exact ⟨by decide, by decide⟩
  · rw [List.getD_eq_getElem?_getD (l := p), List.getElem?_eq_none (by omega)]
    exact ⟨by simp, by simp⟩
theorem cfg_of (ho : okAll l t = true) (h : okPaths p = true) : Cfg l t p (p.getD 0 []).length := by
  obtain ⟨hl, hp, ht, _⟩ := okAll_l ho
  obtain ⟨h1, h2, h3, h4⟩ := paths_of h
  exact ⟨hl, hp, okT_tB ht, h2.2, h1.2, h3, h4⟩

/-- Plan of good stocks and paths, told as data. -/
def PlnOut (l : List Stk) (t : Tst) (p : List (List Int)) : Prop := ∃ r h', CallsV Try.prog 17 [stD l, .agg (tsL t), pthD p] ⟨0, []⟩ r h' ∧ ((plE l t p ≠ 0 ∧ r = .ret (.tup [.nils, I (plE l t p)])) ∨ (plE l t p = 0 ∧ ∃ x, planF l t p (p.getD 0 []).length (p.getD 0 []).length (2 ^ p.length - 1) (mostF l) = some x ∧ r = .ret (.tup [plnD l.length p.length (p.getD 0 []).length x, I 0])))
theorem plE_1 (h : okAll l t = false) : plE l t p = 1 := by unfold plE; rw [if_pos h]
theorem plE_2 (h : okAll l t = true) (h2 : okPaths p = false) : plE l t p = 2 := by unfold plE; rw [if_neg (by rw [h]; simp), if_pos h2]
theorem plE_n (h : okAll l t = true) (h2 : okPaths p = true) (h3 : planF l t p (p.getD 0 []).length (p.getD 0 []).length (2 ^ p.length - 1) (mostF l) = none) : plE l t p = 4 := by unfold plE; rw [if_neg (by rw [h]; simp), if_neg (by rw [h2]; simp), h3]
theorem plE_s (h : okAll l t = true) (h2 : okPaths p = true) {x : Rsl} (h3 : planF l t p (p.getD 0 []).length (p.getD 0 []).length (2 ^ p.length - 1) (mostF l) = some x) : plE l t p = 0 := by unfold plE; rw [if_neg (by rw [h]; simp), if_neg (by rw [h2]; simp), h3]
theorem pln_out (ho : okAll l t = true) (hp : okPaths p = true) {r : VRes} {h' : VH} (hc : CallsV Try.prog 17 [stD l, .agg (tsL t), pthD p] ⟨0, []⟩ r h') (hk : PlnK l t p (p.getD 0 []).length r h') : PlnOut l t p := by
  rcases pln_tell hc hk with ⟨h1, h2, hc2⟩ | ⟨x, h2, h1, hc2⟩
  · exact ⟨_, _, hc2, .inl ⟨by rw [plE_n ho hp h1]; decide, by rw [plE_n ho hp h1]⟩⟩
  · exact ⟨_, _, hc2, .inr ⟨plE_s ho hp h1, x, h1, rfl⟩⟩
theorem plnE_v (h : okAll l t = false ∨ (pthB p ∧ okPaths p = false)) : PlnOut l t p := by
  cases ho : okAll l t with
  | false =>
    obtain ⟨r, h', rfl, hc⟩ := of_callN (noL_good (tab1 (asK_ok l t false))) (f := 17) (args := [stD l, .agg (tsL t), pthD p]) (h := ⟨0, []⟩) (K := fun r _ => r = .ret (.tup [.nils, I 1])) (cast (ple1_ev l t p _).symm ⟨isD_l, isD_t, ho, rfl⟩)
    exact ⟨_, _, hc, .inl ⟨by rw [plE_1 ho]; decide, by rw [plE_1 ho]⟩⟩
  | true =>
    obtain ⟨hb, hp⟩ := h.resolve_left (by rw [ho]; simp)
    have htab : ∀ f T, tabS [asK l t true, apK p false] f = some T → SpOk Try.prog f T := tab_ok _ (fun x hx => by
      simp only [List.mem_cons, List.not_mem_nil, or_false] at hx
      rcases hx with rfl | rfl
      · exact asK_ok l t true
      · exact apK_ok p false)
    obtain ⟨r, h', rfl, hc⟩ := of_callN (noL_good htab) (f := 17) (args := [stD l, .agg (tsL t), pthD p]) (h := ⟨0, []⟩) (K := fun r _ => r = .ret (.tup [.nils, I 2])) (cast (ple2_ev l t p _).symm ⟨isD_l, isD_t, ho, ⟨rfl, rfl, fun _ _ => rfl⟩, ⟨hb, hp⟩, rfl⟩)
    exact ⟨_, _, hc, .inl ⟨by rw [plE_2 ho hp]; decide, by rw [plE_2 ho hp]⟩⟩

/-- Plan of one path. -/
theorem plnO_v {d : List Int} (hd : d.length ≤ 100000) : PlnOut l t [d] := by
  cases ho : okAll l t with
  | false => exact plnE_v (.inl ho)
  | true =>
    have hb : pthB [d] := ⟨⟨Nat.le_refl _, by show 1 ≤ 100000; omega⟩, fun i => by
      match i with
      | 0 => exact hd
      | _ + 1 => exact Nat.zero_le _⟩
    cases hp : okPaths [d] with
    | false => exact plnE_v (.inr ⟨hb, hp⟩)
    | true =>
      have cf := cfg_of (l := l) (t := t) ho hp
      have hY : 1 ≤ d.length ∧ d.length ≤ 4 := (paths_of hp).2.1
      match d, hY with
      | [a], _ => obtain ⟨r, h', hc, hk⟩ := pln11_v ho hp cf hb; exact pln_out ho hp hc hk
      | [a, b], _ => obtain ⟨r, h', hc, hk⟩ := pln12_v ho hp cf hb; exact pln_out ho hp hc hk
      | [a, b, c], _ => obtain ⟨r, h', hc, hk⟩ := pln13_v ho hp cf hb; exact pln_out ho hp hc hk
      | [a, b, c, e], _ => obtain ⟨r, h', hc, hk⟩ := pln14_v ho hp cf hb; exact pln_out ho hp hc hk
      | _ :: _ :: _ :: _ :: _ :: _, h => exact absurd h.2 (by simp only [List.length_cons]; omega)
      | [], h => exact absurd h.1 (by simp)

end
end Go.Sx.Bln

/- blend: the law BlendYears, evaluated. -/

namespace Go.Sx.Bln
open Go Go.Sx Go.Proofs
set_option maxRecDepth 1000000

def grY (l : List Stk) (t : Tst) (b : Bool) : FuncId × Spec1 := (14, fun _ args h K => match args with
  | [x, z, .int .i64 m] => isD h 4 x (stD l) ∧ isD h 4 z (.agg (tsL t)) ∧ greatF l t m = b ∧ K (.ret (.bool b)) h
  | _ => False)

end Go.Sx.Bln

/- blend: the cheapest choice is the first of the cheapest (plain). -/

namespace Go.Sx.Bln
open Go Go.Sx Go.Proofs
set_option maxRecDepth 100000

/-- Ahead in the order of lists. -/
def lexLt (k : Nat) (c d : Nat → Int) : Prop := ∃ i, i < k ∧ (∀ p, p < i → c p = d p) ∧ c i < d i

theorem all_lex {most : Nat → Int} : ∀ k : Nat, (∀ i, i < k → 0 ≤ most i) → (allC most k).Pairwise (lexLt k)
  | 0, _ => List.pairwise_singleton _ _
  | k + 1, h => by
    have ih := all_lex k (fun i hi => h i (by omega))
    show ((allC most k).flatMap (rowC most k)).Pairwise (lexLt (k + 1))
    rw [List.pairwise_flatMap]
    refine ⟨fun c _ => ?_, ih.imp ?_⟩
    · unfold rowC
      rw [List.pairwise_map]
      refine List.pairwise_lt_range.imp ?_
      intro a b hab
      refine ⟨k, by omega, fun p hp => ?_, ?_⟩
      · rw [setC_get, setC_get, if_neg (by omega), if_neg (by omega)]
      · rw [setC_same, setC_same]; omega
    · rintro c d ⟨i, hi, h1, h2⟩ x hx z hz
      unfold rowC at hx hz
      rw [List.mem_map] at hx hz
      obtain ⟨a, _, rfl⟩ := hx
      obtain ⟨b, _, rfl⟩ := hz
      refine ⟨i, by omega, fun p hp => ?_, ?_⟩
      · rw [setC_get, setC_get, if_neg (by omega), if_neg (by omega)]
        exact h1 p hp
      · rw [setC_get, setC_get, if_neg (by omega), if_neg (by omega)]
        exact h2

section
variable {l : List Stk} {t : Tst} {y m : Int}

end
end Go.Sx.Bln

/- blend: a lesser need, a greater Far, and one cask more keep what meets a need (plain). -/

namespace Go.Sx.Bln
open Go Go.Sx Go.Proofs
set_option maxRecDepth 100000

section
variable {l : List Stk} {t : Tst} {y m : Int} {n : Nat → Int}

/-- Two lists of stocks that differ in their casks alone. -/
def likeB (l l' : List Stk) : Prop := l'.length = l.length ∧ ∀ i, (l'.getD i k0).vol = (l.getD i k0).vol ∧ (l'.getD i k0).age = (l.getD i k0).age ∧ (l'.getD i k0).cost = (l.getD i k0).cost ∧ (l'.getD i k0).prof = (l.getD i k0).prof
theorem like_age {l' : List Stk} (h : likeB l l') : ∀ K, ageF l' n y K = ageF l n y K
  | 0 => rfl
  | K + 1 => by
    unfold ageF
    rw [like_age h K, (h.2 K).2.1]
theorem like_sums {l' : List Stk} (h : likeB l l') : volF l' n = volF l n ∧ costF l' n = costF l n ∧ (∀ k, loF l' n k = loF l n k) ∧ ∀ k, hiF l' n k = hiF l n k := by
  obtain ⟨h1, h2⟩ := h
  unfold volF costF loF hiF
  rw [h1]
  refine ⟨sumF_congr _ (fun i _ => ?_), sumF_congr _ (fun i _ => ?_), fun k => sumF_congr _ (fun i _ => ?_), fun k => sumF_congr _ (fun i _ => ?_)⟩
  · unfold tmV; rw [(h2 i).1]
  · unfold tmC; rw [(h2 i).2.2.1]
  · unfold tmL; rw [(h2 i).1, (h2 i).2.2.2]
  · unfold tmH; rw [(h2 i).1, (h2 i).2.2.2]
theorem like_KF {l' : List Stk} (h : likeB l l') {b : Bool} : ∀ K, KF l' t n b K = KF l t n b K
  | 0 => rfl
  | K + 1 => by
    obtain ⟨h1, _, h3, h4⟩ := like_sums (n := n) h
    unfold KF
    rw [like_KF h K]
    unfold okF
    rw [h3, h4, h1]
theorem meets_like {l' : List Stk} (h : likeB l l') : meetsF l' t n y m = meetsF l t n y m := by
  obtain ⟨h1, _⟩ := like_sums (n := n) h
  have hk : (vtF l' t n y).k = (vtF l t n y).k := by
    show KF l' t n _ t.T.length = KF l t n _ t.T.length
    rw [like_KF h, h1, like_age h, h.1]
  unfold meetsF
  rw [h1, hk]
end
end Go.Sx.Bln

/- blend: a plan of one path (plain). -/

namespace Go.Sx.Bln
open Go Go.Sx Go.Proofs
set_option maxRecDepth 100000

section
variable {l : List Stk} {t : Tst}

theorem tryF_is {meet : (Nat → Int) → Bool} {sub : (Nat → Int) → Option Rsl} : ∀ {L : List (Nat → Int)}, (tryF meet sub L).isSome = true ↔ ∃ c ∈ L, meet c = true ∧ (sub c).isSome = true
  | [] => by simp [tryF]
  | c :: r => by
    unfold tryF
    by_cases hm : meet c = true
    · rw [if_pos hm]
      cases hs : sub c with
      | some x => exact ⟨fun _ => ⟨c, List.mem_cons_self .., hm, by rw [hs]; rfl⟩, fun _ => rfl⟩
      | none =>
        dsimp only
        rw [tryF_is]
        constructor
        · rintro ⟨d, hd, h⟩; exact ⟨d, List.mem_cons_of_mem _ hd, h⟩
        · rintro ⟨d, hd, h1, h2⟩
          rcases List.mem_cons.1 hd with rfl | hd
          · rw [hs] at h2; cases h2
          · exact ⟨d, hd, h1, h2⟩
    · rw [if_neg hm, tryF_is]
      constructor
      · rintro ⟨d, hd, h⟩; exact ⟨d, List.mem_cons_of_mem _ hd, h⟩
      · rintro ⟨d, hd, h1, h2⟩
        rcases List.mem_cons.1 hd with rfl | hd
        · exact (hm h1).elim
        · exact ⟨d, hd, h1, h2⟩

theorem grp_one {d : List Int} {y : Nat} : grpF [d] y 1 1 = (1, d.getD y 0) := by
  have e : grpF [d] y 1 0 = (0, -1) := rfl
  unfold grpF
  rw [e, if_pos ⟨rfl, .inl (by decide)⟩]
  rfl

/-- One year more of one path. -/
theorem planF_one {d : List Int} {Y k : Nat} {a : Nat → Int} : planF l t [d] Y (k + 1) 1 a = (match tryF (fun c => meetsF l t c ((Y : Int) - (k + 1 : Nat)) (d.getD (Y - (k + 1)) 0)) (fun c => planF l t [d] Y k 1 (lsF a c 6)) (allC a l.length) with
    | none => none
    | some (c, x) => some (putR 1 (Y - (k + 1)) c x (fun _ _ _ => 0))) := by
  show goF _ [d] (Y - (k + 1)) 1 1 _ = _
  unfold goF
  rw [if_neg (by decide), show [d].length = 1 from rfl, grp_one]
  dsimp only
  cases tryF (fun c => meetsF l t c ((Y : Int) - (k + 1 : Nat)) (d.getD (Y - (k + 1)) 0)) (fun c => planF l t [d] Y k 1 (lsF a c 6)) (allC a l.length) with
  | none => rfl
  | some cx => rfl

/-- There is a plan for so many years from a year on. -/
def exP (l : List Stk) (t : Tst) (nd : Nat → Int) : Nat → Nat → (Nat → Int) → Prop
  | 0, _, _ => True
  | k + 1, y, a => ∃ c ∈ allC a l.length, meetsF l t c y (nd y) = true ∧ exP l t nd k (y + 1) (lsF a c 6)

theorem planF_ex {d : List Int} {Y : Nat} : ∀ {k : Nat} {a : Nat → Int}, k ≤ Y → ((planF l t [d] Y k 1 a).isSome = true ↔ exP l t (fun y => d.getD y 0) k (Y - k) a)
  | 0, a, _ => ⟨fun _ => trivial, fun _ => rfl⟩
  | k + 1, a, h => by
    rw [planF_one]
    have e : ((Y : Int) - (k + 1 : Nat)) = ((Y - (k + 1) : Nat) : Int) := by omega
    have e2 : Y - (k + 1) + 1 = Y - k := by omega
    rw [e]
    have hs : ∀ (o : Option ((Nat → Int) × Rsl)), ((match o with
      | none => none
      | some (c, x) => some (putR 1 (Y - (k + 1)) c x (fun _ _ _ => 0))) : Option Rsl).isSome = o.isSome := fun o => by cases o <;> rfl
    rw [hs, tryF_is]
    unfold exP
    constructor
    · rintro ⟨c, hc, h1, h2⟩
      refine ⟨c, hc, h1, ?_⟩
      rw [e2]
      exact (planF_ex (by omega)).1 h2
    · rintro ⟨c, hc, h1, h2⟩
      rw [e2] at h2
      exact ⟨c, hc, h1, (planF_ex (by omega)).2 h2⟩

end
end Go.Sx.Bln

/- blend: the law BlendYears holds. -/

namespace Go.Sx.Bln
open Go Go.Sx Go.Proofs
set_option maxRecDepth 1000000

theorem grY_ok (l : List Stk) (t : Tst) (b : Bool) : SpOk Try.prog (grY l t b).1 (grY l t b).2 := by
  intro lock args h K hK
  simp only [grY] at hK
  split at hK
  · obtain ⟨h1, h2, rfl, hK⟩ := hK
    exact greatT_ok lock _ h K ⟨l, t, h1, h2, hK⟩
  · exact hK.elim

section
variable {l : List Stk} {t : Tst} {m le : Int}

end
end Go.Sx.Bln

/- blend: the law BlendFirst, evaluated. -/

namespace Go.Sx.Bln
open Go Go.Sx Go.Proofs
set_option maxRecDepth 1000000

def rsYF (l : List Stk) (t : Tst) : FuncId × Spec1 := (28, fun _ args h K => match args with
  | [x, y] => isD h 3 x (stD l) ∧ isD h 3 y (.agg (tsL t)) ∧ (l.length ≤ 100000 ∧ t.T.length ≤ 100000 ∧ (decide (l.length ≤ 6) && !anyS l t) = true) ∧ K (.ret (.bool true)) h
  | _ => False)
/-- Plan of the path: its answer is told. -/
def plF (l : List Stk) (t : Tst) (d : List Int) (E : Int) (P : Prop) (R : VRes) : FuncId × Spec1 := (17, fun lock args h K => match args, h with
  | [a, b, .sl m L], ⟨nx, bs⟩ => a = stD l ∧ b = .agg (tsL t) ∧ (lock = 0 ∧ L = 1 ∧ ∃ g ty, (VH.mk nx bs).at m = .vec 1 g 1 ty ∧ g 0 = [inD d]) ∧ (d.length ≤ 100000 ∧ plE l t [d] = E ∧ P) ∧ K R ⟨nx, (m, .gone) :: bs⟩
  | _, _ => False)
/-- The stocks with so many casks. -/
def csL (l : List Stk) (a : Nat → Int) : List Stk := (List.range l.length).map (fun i => ⟨a i, (l.getD i k0).vol, (l.getD i k0).age, (l.getD i k0).cost, (l.getD i k0).prof⟩)
/-- Ahead, or behind: of the first numbers that differ. -/
def flF (c z : Nat → Int) (b a : Bool) : Nat → Bool × Bool
  | 0 => (b, a)
  | i + 1 => bif (flF c z b a i).1 then flF c z b a i else bif (flF c z b a i).2 then flF c z b a i else (decide (c i < z i), decide (c i > z i))
def lsN (a c : Nat → Int) (n : Nat) : Nat → Int := fun j => if j < n then a j - c j else a j
def dsF : List Nat := [80, 79, 78, 13, 12, 11, 10, 9, 8, 5, 0, 1, 2, 3]
def VFo (l : List Stk) (t : Tst) (d B : List Int) (E : Int) (X : VV) (r : Bool) (y : Nat) (bf af : Bool) : List VV := [I y, I d.length, inD d, .bool af, .bool bf, .sl 2 (0 + l.length), I E, X, .bool r, .ptr (.own 0 0), stD l, .agg (tsL t), inD d, byD B]
def BFo (l lf : List Stk) (t : Tst) : List VB := [.cells (tsL t) 25, .gone, .vec (0 + l.length) (stG lf) 5 32]
def dsG : List Nat := [103, 102, 101, 16, 15, 14, 80, 79, 78, 13, 12, 11, 10, 9, 8, 5, 0, 1, 2, 3]
def VGo (l : List Stk) (t : Tst) (d B : List Int) (E : Int) (X : VV) (y : Nat) (nd : Int) (n i : Nat) (bf af : Bool) : List VV := [I i, I n, .sl 3 n, .sl 3 n, I nd, I y, I y, I d.length, inD d, .bool af, .bool bf, .sl 2 (0 + l.length), I E, X, .bool false, .ptr (.own 0 0), stD l, .agg (tsL t), inD d, byD B]
def BGo (l lf : List Stk) (t : Tst) (n : Nat) (c : Nat → Int) : List VB := [.cells (tsL t) 25, .gone, .vec (0 + l.length) (stG lf) 5 32, .vec n (chG c) 1 3]
theorem lgi_ev (l lf : List Stk) (t : Tst) (d B : List Int) (x : Rsl) (y : Nat) (nd : Int) (n i : Nat) (c : Nat → Int) (bf af : Bool) (Y : VEx → List VV → List VB → Prop) : codeE Try.prog (callN Try.prog noSpec noL 10 20) (fun _ => none) true 10 (ntOf Try.prog 10) 0 (loopB 2 (bodyOf Try.prog 10)) (dsG.zip (VGo l t d B 0 (plnD l.length 1 d.length x) y nd n i bf af)) ⟨4, [0, 1, 2, 3].zip (BGo l lf t n c)⟩ (obs 4 dsG [0, 1, 2, 3] Y) =
  (bif decide ((↑i : Int) < (↑n : Int)) then
 bif decide ((0 : Int) ≤ (↑i : Int) ∧ (↑i : Int) < (↑n : Int)) then
 bif n.beq n && Nat.ble 1 Try.prog.types[3].size then
 bif n.beq n then
 bif decide ((0 : Int) ≤ (↑i : Int) ∧ (↑i : Int) < (↑(0 + l.length) : Int)) then
 bif (0 + l.length).beq (0 + l.length) && Nat.ble 1 Try.prog.types[32].size then
 bif (0 + l.length).beq (0 + l.length) then
 bif inK .i64 ((lf.getD (↑i : Int).toNat k0).casks - c (↑i : Int).toNat) then
 bif decide ((0 : Int) ≤ (↑i : Int) ∧ (↑i : Int) < (↑(0 + l.length) : Int)) then
 bif (0 + l.length).beq (0 + l.length) && Nat.ble 1 Try.prog.types[32].size then
 bif (0 + l.length).beq (0 + l.length) && [I ((lf.getD (↑i : Int).toNat k0).casks - c (↑i : Int).toNat)].all VV.one && belL 0 [I ((lf.getD (↑i : Int).toNat k0).casks - c (↑i : Int).toNat)] then
 bif !bf then
 bif !af then
 bif decide ((0 : Int) ≤ (↑y : Int) ∧ (↑y : Int) < (↑d.length : Int)) then
 bif decide ((0 : Int) ≤ (↑i : Int) ∧ (↑i : Int) < (↑l.length : Int)) then
 bif decide ((0 : Int) ≤ (↑y : Int) ∧ (↑y : Int) < (↑d.length : Int)) then
 bif decide ((0 : Int) ≤ (↑i : Int) ∧ (↑i : Int) < (↑l.length : Int)) then
 bif inK .i64 ((↑i : Int) + (1 : Int)) then
 Y .normal [I ((↑i : Int) + (1 : Int)), I (↑n : Int), VV.sl 3 n, VV.sl 3 n, I nd, I (↑y : Int), I (↑y : Int), I (↑d.length : Int), VV.tl d.length 1 (dG d), VV.bool (decide (c (↑i : Int).toNat > x (Int.toNat (0 : Int)) (↑y : Int).toNat (↑i : Int).toNat)), VV.bool (decide (c (↑i : Int).toNat < x (Int.toNat (0 : Int)) (↑y : Int).toNat (↑i : Int).toNat)), VV.sl 2 (0 + l.length), I 0, VV.tl 1 1 (plnG l.length d.length x), VV.bool false, VV.ptr (.own 0 0), stD l, VV.agg (tsL t), VV.tl d.length 1 (dG d), byD B] [VB.cells (tsL t) 25, VB.gone, VB.vec (0 + l.length) (atG (↑i : Int).toNat (stG lf) (setL (stG lf (↑i : Int).toNat) 0 [I ((lf.getD (↑i : Int).toNat k0).casks - c (↑i : Int).toNat)])) (5) 32, VB.vec n (chG c) 1 3]
 else False
 else False
 else False
 else False
 else False
 else bif inK .i64 ((↑i : Int) + (1 : Int)) then
 Y .normal [I ((↑i : Int) + (1 : Int)), I (↑n : Int), VV.sl 3 n, VV.sl 3 n, I nd, I (↑y : Int), I (↑y : Int), I (↑d.length : Int), VV.tl d.length 1 (dG d), VV.bool af, VV.bool bf, VV.sl 2 (0 + l.length), I 0, VV.tl 1 1 (plnG l.length d.length x), VV.bool false, VV.ptr (.own 0 0), stD l, VV.agg (tsL t), VV.tl d.length 1 (dG d), byD B] [VB.cells (tsL t) 25, VB.gone, VB.vec (0 + l.length) (atG (↑i : Int).toNat (stG lf) (setL (stG lf (↑i : Int).toNat) 0 [I ((lf.getD (↑i : Int).toNat k0).casks - c (↑i : Int).toNat)])) (5) 32, VB.vec n (chG c) 1 3]
 else False
 else bif inK .i64 ((↑i : Int) + (1 : Int)) then
 Y .normal [I ((↑i : Int) + (1 : Int)), I (↑n : Int), VV.sl 3 n, VV.sl 3 n, I nd, I (↑y : Int), I (↑y : Int), I (↑d.length : Int), VV.tl d.length 1 (dG d), VV.bool af, VV.bool bf, VV.sl 2 (0 + l.length), I 0, VV.tl 1 1 (plnG l.length d.length x), VV.bool false, VV.ptr (.own 0 0), stD l, VV.agg (tsL t), VV.tl d.length 1 (dG d), byD B] [VB.cells (tsL t) 25, VB.gone, VB.vec (0 + l.length) (atG (↑i : Int).toNat (stG lf) (setL (stG lf (↑i : Int).toNat) 0 [I ((lf.getD (↑i : Int).toNat k0).casks - c (↑i : Int).toNat)])) (5) 32, VB.vec n (chG c) 1 3]
 else False
 else False
 else False
 else False
 else False
 else False
 else False
 else False
 else False
 else False
 else False
 else Y (.exit 2) [I (↑i : Int), I (↑n : Int), VV.sl 3 n, VV.sl 3 n, I nd, I (↑y : Int), I (↑y : Int), I (↑d.length : Int), VV.tl d.length 1 (dG d), VV.bool af, VV.bool bf, VV.sl 2 (0 + l.length), I 0, VV.tl 1 1 (plnG l.length d.length x), VV.bool false, VV.ptr (.own 0 0), stD l, VV.agg (tsL t), VV.tl d.length 1 (dG d), byD B] [VB.cells (tsL t) 25, VB.gone, VB.vec (0 + l.length) (stG lf) 5 32, VB.vec n (chG c) 1 3]) := by kernel_rfl

theorem lgj_ev (l lf : List Stk) (t : Tst) (d B : List Int) (y : Nat) (nd : Int) (n i : Nat) (c : Nat → Int) (bf af : Bool) (Y : VEx → List VV → List VB → Prop) : codeE Try.prog (callN Try.prog noSpec noL 10 20) (fun _ => none) true 10 (ntOf Try.prog 10) 0 (loopB 2 (bodyOf Try.prog 10)) (dsG.zip (VGo l t d B 4 .nils y nd n i bf af)) ⟨4, [0, 1, 2, 3].zip (BGo l lf t n c)⟩ (obs 4 dsG [0, 1, 2, 3] Y) =
  (bif decide ((↑i : Int) < (↑n : Int)) then
 bif decide ((0 : Int) ≤ (↑i : Int) ∧ (↑i : Int) < (↑n : Int)) then
 bif n.beq n && Nat.ble 1 Try.prog.types[3].size then
 bif n.beq n then
 bif decide ((0 : Int) ≤ (↑i : Int) ∧ (↑i : Int) < (↑(0 + l.length) : Int)) then
 bif (0 + l.length).beq (0 + l.length) && Nat.ble 1 Try.prog.types[32].size then
 bif (0 + l.length).beq (0 + l.length) then
 bif inK .i64 ((lf.getD (↑i : Int).toNat k0).casks - c (↑i : Int).toNat) then
 bif decide ((0 : Int) ≤ (↑i : Int) ∧ (↑i : Int) < (↑(0 + l.length) : Int)) then
 bif (0 + l.length).beq (0 + l.length) && Nat.ble 1 Try.prog.types[32].size then
 bif (0 + l.length).beq (0 + l.length) && [I ((lf.getD (↑i : Int).toNat k0).casks - c (↑i : Int).toNat)].all VV.one && belL 0 [I ((lf.getD (↑i : Int).toNat k0).casks - c (↑i : Int).toNat)] then
 bif inK .i64 ((↑i : Int) + (1 : Int)) then
 Y .normal [I ((↑i : Int) + (1 : Int)), I (↑n : Int), VV.sl 3 n, VV.sl 3 n, I nd, I (↑y : Int), I (↑y : Int), I (↑d.length : Int), VV.tl d.length 1 (dG d), VV.bool af, VV.bool bf, VV.sl 2 (0 + l.length), I 4, VV.nils, VV.bool false, VV.ptr (.own 0 0), stD l, VV.agg (tsL t), VV.tl d.length 1 (dG d), byD B] [VB.cells (tsL t) 25, VB.gone, VB.vec (0 + l.length) (atG (↑i : Int).toNat (stG lf) (setL (stG lf (↑i : Int).toNat) 0 [I ((lf.getD (↑i : Int).toNat k0).casks - c (↑i : Int).toNat)])) (5) 32, VB.vec n (chG c) 1 3]
 else False
 else False
 else False
 else False
 else False
 else False
 else False
 else False
 else False
 else False
 else False
 else Y (.exit 2) [I (↑i : Int), I (↑n : Int), VV.sl 3 n, VV.sl 3 n, I nd, I (↑y : Int), I (↑y : Int), I (↑d.length : Int), VV.tl d.length 1 (dG d), VV.bool af, VV.bool bf, VV.sl 2 (0 + l.length), I 4, VV.nils, VV.bool false, VV.ptr (.own 0 0), stD l, VV.agg (tsL t), VV.tl d.length 1 (dG d), byD B] [VB.cells (tsL t) 25, VB.gone, VB.vec (0 + l.length) (stG lf) 5 32, VB.vec n (chG c) 1 3]) := by kernel_rfl

def conG (l : List Stk) (n : Nat) (a c : Nat → Int) : Prop := n = l.length ∧ l.length ≤ 6 ∧ (∀ i, i < l.length → 0 ≤ a i ∧ a i ≤ 6) ∧ ∀ i, i < l.length → 0 ≤ c i ∧ c i ≤ 6
def lG0 (l : List Stk) (t : Tst) (d B : List Int) (x : Rsl) : LT := fun lock tt h K =>
  ∃ (y : Nat) (nd : Int) (n : Nat) (a c : Nat → Int) (bf af : Bool), FitP lock h tt ⟨4, [0, 1, 2, 3].zip (BGo l (csL l a) t n c)⟩ (dsG.zip (VGo l t d B 0 (plnD l.length 1 d.length x) y nd n 0 bf af)) ∧ (conG l n a c ∧ y < d.length) ∧ ∀ bf' af' : Bool, (bf', af') = flF c (x 0 y) bf af n → K .normal (dsG.zip (VGo l t d B 0 (plnD l.length 1 d.length x) y nd n n bf' af')) ⟨4, [0, 1, 2, 3].zip (BGo l (csL l (lsN a c n)) t n c)⟩
def lG4 (l : List Stk) (t : Tst) (d B : List Int) : LT := fun lock tt h K =>
  ∃ (y : Nat) (nd : Int) (n : Nat) (a c : Nat → Int) (bf af : Bool), FitP lock h tt ⟨4, [0, 1, 2, 3].zip (BGo l (csL l a) t n c)⟩ (dsG.zip (VGo l t d B 4 .nils y nd n 0 bf af)) ∧ (conG l n a c ∧ y < d.length) ∧ K .normal (dsG.zip (VGo l t d B 4 .nils y nd n n bf af)) ⟨4, [0, 1, 2, 3].zip (BGo l (csL l (lsN a c n)) t n c)⟩
theorem lfo_ev (l lf : List Stk) (t : Tst) (d B : List Int) (x : Rsl) (y : Nat) (bf af : Bool) (Y : VEx → List VV → List VB → Prop) : codeE Try.prog (callN Try.prog (tabS [someT, lmT, alT]) noL 10 20) (tabB [(2, lG0 l t d B x)]) true 10 (ntOf Try.prog 10) 0 (loopB 0 (bodyOf Try.prog 10)) (dsF.zip (VFo l t d B 0 (plnD l.length 1 d.length x) false y bf af)) ⟨3, [0, 1, 2].zip (BFo l lf t)⟩ (obs 3 dsF [0, 1, 2] Y) =
  (bif decide ((↑y : Int) < (↑d.length : Int)) then
 bif decide ((0 : Int) ≤ (↑y : Int) ∧ (↑y : Int) < (↑d.length : Int)) then
 bif decide ((↑B.length : Int) = (0 : Int)) then
 False
 else bif decide ((0 : Int) ≤ remZ (↑y : Int) (↑B.length : Int) ∧ remZ (↑y : Int) (↑B.length : Int) ≤ (↑B.length : Int) ∧ (↑B.length : Int) ≤ (↑B.length : Int)) then
 ∃ (l_1 : List Stk), ∃ (B_1 : List Int), isD (VH.mk 3 ([0, 1, 2].zip (BFo l lf t))) 3 (VV.sl 2 (0 + l.length)) (stD l_1) ∧ isD (VH.mk 3 ([0, 1, 2].zip (BFo l lf t))) 3 (VV.tl ((↑B.length : Int) - remZ (↑y : Int) (↑B.length : Int)).toNat Try.prog.types[5].size fun (j : Nat) => bG B ((remZ (↑y : Int) (↑B.length : Int)).toNat + j)) (byD B_1) ∧ (lB l_1 ∧ u8B B_1) ∧ ∃ (l_2 : List Stk), ∃ (t_1 : Tst), ∃ (D : List Int), isD ((VH.mk 3 ([0, 1, 2].zip (BFo l lf t))).new (VB.vec l_1.length (chG (someF l_1 B_1)) 1 3)) 4 (VV.sl 2 (0 + l.length)) (stD l_2) ∧ isD ((VH.mk 3 ([0, 1, 2].zip (BFo l lf t))).new (VB.vec l_1.length (chG (someF l_1 B_1)) 1 3)) 4 (VV.agg (tsL t)) (VV.agg (tsL t_1)) ∧ isD ((VH.mk 3 ([0, 1, 2].zip (BFo l lf t))).new (VB.vec l_1.length (chG (someF l_1 B_1)) 1 3)) 4 (VV.sl (VH.mk 3 ([0, 1, 2].zip (BFo l lf t))).nx l_1.length) (inD D) ∧ bif !lmF l_2 t_1 (↑y : Int) (d.getD (↑y : Int).toNat (0 : Int)) D then
 Y .ret [I (↑y : Int), I (↑d.length : Int), VV.tl d.length 1 (dG d), VV.bool af, VV.bool bf, VV.sl 2 (0 + l.length), I 0, VV.tl 1 1 (plnG l.length d.length x), VV.bool true, VV.ptr (.own 0 0), stD l, VV.agg (tsL t), VV.tl d.length 1 (dG d), byD B] [VB.cells (tsL t) 25, VB.gone, VB.vec (0 + l.length) (stG lf) 5 32]
 else ∃ (y_1 : Nat), ∃ (nd : Int), ∃ (n : Nat), ∃ (a : Nat → Int), ∃ (c : Nat → Int), ∃ (bf_1 : Bool), ∃ (af_1 : Bool), FitP 0 ((VH.mk 3 ([0, 1, 2].zip (BFo l lf t))).new (VB.vec l_1.length (chG (someF l_1 B_1)) 1 3)) ((103, I 0) :: (102, I (↑l_1.length : Int)) :: (101, VV.sl (VH.mk 3 ([0, 1, 2].zip (BFo l lf t))).nx l_1.length) :: (99, VV.bool false) :: (99, VV.bool !lmF l_2 t_1 (↑y : Int) (d.getD (↑y : Int).toNat (0 : Int)) D) :: (98, VV.bool (lmF l_2 t_1 (↑y : Int) (d.getD (↑y : Int).toNat (0 : Int)) D)) :: (97, VV.sl (VH.mk 3 ([0, 1, 2].zip (BFo l lf t))).nx l_1.length) :: (96, I (d.getD (↑y : Int).toNat (0 : Int))) :: (95, I (↑y : Int)) :: (94, VV.agg (tsL t)) :: (93, VV.sl 2 (0 + l.length)) :: (16, VV.sl (VH.mk 3 ([0, 1, 2].zip (BFo l lf t))).nx l_1.length) :: (92, VV.sl (VH.mk 3 ([0, 1, 2].zip (BFo l lf t))).nx l_1.length) :: (91, VV.tl ((↑B.length : Int) - remZ (↑y : Int) (↑B.length : Int)).toNat Try.prog.types[5].size fun (j : Nat) => bG B ((remZ (↑y : Int) (↑B.length : Int)).toNat + j)) :: (90, I (remZ (↑y : Int) (↑B.length : Int))) :: (89, I (↑B.length : Int)) :: (88, byD B) :: (87, I (↑y : Int)) :: (86, byD B) :: (85, VV.sl 2 (0 + l.length)) :: (15, I (d.getD (↑y : Int).toNat (0 : Int))) :: (14, I (↑y : Int)) :: (84, I (d.getD (↑y : Int).toNat (0 : Int))) :: (83, VV.tp [I (d.getD (↑y : Int).toNat (0 : Int))]) :: (82, I (↑y : Int)) :: (81, VV.bool true) :: (81, VV.bool (decide ((↑y : Int) < (↑d.length : Int)))) :: dsF.zip (VFo l t d B (0 : Int) (plnD l.length 1 d.length x) false y bf af)) (VH.mk 4 ([0, 1, 2, 3].zip (BGo l (csL l a) t n c))) (dsG.zip (VGo l t d B (0 : Int) (plnD l.length 1 d.length x) y_1 nd n 0 bf_1 af_1)) ∧ (conG l n a c ∧ y_1 < d.length) ∧ ∀ (bf' af' : Bool), (bf', af') = flF c (x 0 y_1) bf_1 af_1 n → bif inK .i64 ((↑y_1 : Int) + (1 : Int)) then
 Y .normal [I ((↑y_1 : Int) + (1 : Int)), I (↑d.length : Int), VV.tl d.length 1 (dG d), VV.bool af', VV.bool bf', VV.sl 2 (0 + l.length), I 0, VV.tl 1 1 (plnG l.length d.length x), VV.bool false, VV.ptr (.own 0 0), stD l, VV.agg (tsL t), VV.tl d.length 1 (dG d), byD B] [VB.cells (tsL t) 25, VB.gone, VB.vec (0 + l.length) (stG (csL l (lsN a c n))) 5 32]
 else False
 else False
 else False
 else Y (.exit 0) [I (↑y : Int), I (↑d.length : Int), VV.tl d.length 1 (dG d), VV.bool af, VV.bool bf, VV.sl 2 (0 + l.length), I 0, VV.tl 1 1 (plnG l.length d.length x), VV.bool false, VV.ptr (.own 0 0), stD l, VV.agg (tsL t), VV.tl d.length 1 (dG d), byD B] [VB.cells (tsL t) 25, VB.gone, VB.vec (0 + l.length) (stG lf) 5 32]) := by kernel_rfl

theorem lfp_ev (l lf : List Stk) (t : Tst) (d B : List Int) (y : Nat) (bf af : Bool) (Y : VEx → List VV → List VB → Prop) : codeE Try.prog (callN Try.prog (tabS [someT, lmT, alT]) noL 10 20) (tabB [(2, lG4 l t d B)]) true 10 (ntOf Try.prog 10) 0 (loopB 0 (bodyOf Try.prog 10)) (dsF.zip (VFo l t d B 4 .nils false y bf af)) ⟨3, [0, 1, 2].zip (BFo l lf t)⟩ (obs 3 dsF [0, 1, 2] Y) =
  (bif decide ((↑y : Int) < (↑d.length : Int)) then
 bif decide ((0 : Int) ≤ (↑y : Int) ∧ (↑y : Int) < (↑d.length : Int)) then
 bif decide ((↑B.length : Int) = (0 : Int)) then
 False
 else bif decide ((0 : Int) ≤ remZ (↑y : Int) (↑B.length : Int) ∧ remZ (↑y : Int) (↑B.length : Int) ≤ (↑B.length : Int) ∧ (↑B.length : Int) ≤ (↑B.length : Int)) then
 ∃ (l_1 : List Stk), ∃ (B_1 : List Int), isD (VH.mk 3 ([0, 1, 2].zip (BFo l lf t))) 3 (VV.sl 2 (0 + l.length)) (stD l_1) ∧ isD (VH.mk 3 ([0, 1, 2].zip (BFo l lf t))) 3 (VV.tl ((↑B.length : Int) - remZ (↑y : Int) (↑B.length : Int)).toNat Try.prog.types[5].size fun (j : Nat) => bG B ((remZ (↑y : Int) (↑B.length : Int)).toNat + j)) (byD B_1) ∧ (lB l_1 ∧ u8B B_1) ∧ ∃ (l_2 : List Stk), ∃ (t_1 : Tst), ∃ (D : List Int), isD ((VH.mk 3 ([0, 1, 2].zip (BFo l lf t))).new (VB.vec l_1.length (chG (someF l_1 B_1)) 1 3)) 4 (VV.sl 2 (0 + l.length)) (stD l_2) ∧ isD ((VH.mk 3 ([0, 1, 2].zip (BFo l lf t))).new (VB.vec l_1.length (chG (someF l_1 B_1)) 1 3)) 4 (VV.agg (tsL t)) (VV.agg (tsL t_1)) ∧ isD ((VH.mk 3 ([0, 1, 2].zip (BFo l lf t))).new (VB.vec l_1.length (chG (someF l_1 B_1)) 1 3)) 4 (VV.sl (VH.mk 3 ([0, 1, 2].zip (BFo l lf t))).nx l_1.length) (inD D) ∧ bif !lmF l_2 t_1 (↑y : Int) (d.getD (↑y : Int).toNat (0 : Int)) D then
 Y .ret [I (↑y : Int), I (↑d.length : Int), VV.tl d.length 1 (dG d), VV.bool af, VV.bool bf, VV.sl 2 (0 + l.length), I 4, VV.nils, VV.bool true, VV.ptr (.own 0 0), stD l, VV.agg (tsL t), VV.tl d.length 1 (dG d), byD B] [VB.cells (tsL t) 25, VB.gone, VB.vec (0 + l.length) (stG lf) 5 32]
 else ∃ (y_1 : Nat), ∃ (nd : Int), ∃ (n : Nat), ∃ (a : Nat → Int), ∃ (c : Nat → Int), ∃ (bf_1 : Bool), ∃ (af_1 : Bool), FitP 0 ((VH.mk 3 ([0, 1, 2].zip (BFo l lf t))).new (VB.vec l_1.length (chG (someF l_1 B_1)) 1 3)) ((103, I 0) :: (102, I (↑l_1.length : Int)) :: (101, VV.sl (VH.mk 3 ([0, 1, 2].zip (BFo l lf t))).nx l_1.length) :: (99, VV.bool false) :: (99, VV.bool !lmF l_2 t_1 (↑y : Int) (d.getD (↑y : Int).toNat (0 : Int)) D) :: (98, VV.bool (lmF l_2 t_1 (↑y : Int) (d.getD (↑y : Int).toNat (0 : Int)) D)) :: (97, VV.sl (VH.mk 3 ([0, 1, 2].zip (BFo l lf t))).nx l_1.length) :: (96, I (d.getD (↑y : Int).toNat (0 : Int))) :: (95, I (↑y : Int)) :: (94, VV.agg (tsL t)) :: (93, VV.sl 2 (0 + l.length)) :: (16, VV.sl (VH.mk 3 ([0, 1, 2].zip (BFo l lf t))).nx l_1.length) :: (92, VV.sl (VH.mk 3 ([0, 1, 2].zip (BFo l lf t))).nx l_1.length) :: (91, VV.tl ((↑B.length : Int) - remZ (↑y : Int) (↑B.length : Int)).toNat Try.prog.types[5].size fun (j : Nat) => bG B ((remZ (↑y : Int) (↑B.length : Int)).toNat + j)) :: (90, I (remZ (↑y : Int) (↑B.length : Int))) :: (89, I (↑B.length : Int)) :: (88, byD B) :: (87, I (↑y : Int)) :: (86, byD B) :: (85, VV.sl 2 (0 + l.length)) :: (15, I (d.getD (↑y : Int).toNat (0 : Int))) :: (14, I (↑y : Int)) :: (84, I (d.getD (↑y : Int).toNat (0 : Int))) :: (83, VV.tp [I (d.getD (↑y : Int).toNat (0 : Int))]) :: (82, I (↑y : Int)) :: (81, VV.bool true) :: (81, VV.bool (decide ((↑y : Int) < (↑d.length : Int)))) :: dsF.zip (VFo l t d B (4 : Int) VV.nils false y bf af)) (VH.mk 4 ([0, 1, 2, 3].zip (BGo l (csL l a) t n c))) (dsG.zip (VGo l t d B (4 : Int) VV.nils y_1 nd n 0 bf_1 af_1)) ∧ (conG l n a c ∧ y_1 < d.length) ∧ bif inK .i64 ((↑y_1 : Int) + (1 : Int)) then
 Y .normal [I ((↑y_1 : Int) + (1 : Int)), I (↑d.length : Int), VV.tl d.length 1 (dG d), VV.bool af_1, VV.bool bf_1, VV.sl 2 (0 + l.length), I 4, VV.nils, VV.bool false, VV.ptr (.own 0 0), stD l, VV.agg (tsL t), VV.tl d.length 1 (dG d), byD B] [VB.cells (tsL t) 25, VB.gone, VB.vec (0 + l.length) (stG (csL l (lsN a c n))) 5 32]
 else False
 else False
 else False
 else Y (.exit 0) [I (↑y : Int), I (↑d.length : Int), VV.tl d.length 1 (dG d), VV.bool af, VV.bool bf, VV.sl 2 (0 + l.length), I 4, VV.nils, VV.bool false, VV.ptr (.own 0 0), stD l, VV.agg (tsL t), VV.tl d.length 1 (dG d), byD B] [VB.cells (tsL t) 25, VB.gone, VB.vec (0 + l.length) (stG lf) 5 32]) := by kernel_rfl

def conF (l : List Stk) (t : Tst) (d B : List Int) : Prop := okAll l t = true ∧ okPaths [d] = true ∧ u8B B
def lF0 (l : List Stk) (t : Tst) (d B : List Int) (x : Rsl) : LT := fun lock tt h K =>
  FitP lock h tt ⟨3, [0, 1, 2].zip (BFo l (csL l (mostF l)) t)⟩ (dsF.zip (VFo l t d B 0 (plnD l.length 1 d.length x) false 0 false false)) ∧ (conF l t d B ∧ planF l t [d] d.length d.length 1 (mostF l) = some x) ∧ (∀ (y : Nat) (a : Nat → Int) (bf af : Bool), K .ret (dsF.zip (VFo l t d B 0 (plnD l.length 1 d.length x) true y bf af)) ⟨3, [0, 1, 2].zip (BFo l (csL l a) t)⟩) ∧ ∀ (y : Nat) (a : Nat → Int) (af : Bool), K .normal (dsF.zip (VFo l t d B 0 (plnD l.length 1 d.length x) false y false af)) ⟨3, [0, 1, 2].zip (BFo l (csL l a) t)⟩
def lF4 (l : List Stk) (t : Tst) (d B : List Int) : LT := fun lock tt h K =>
  FitP lock h tt ⟨3, [0, 1, 2].zip (BFo l (csL l (mostF l)) t)⟩ (dsF.zip (VFo l t d B 4 .nils false 0 false false)) ∧ (conF l t d B ∧ planF l t [d] d.length d.length 1 (mostF l) = none) ∧ ∀ (y : Nat) (a : Nat → Int) (bf af : Bool), K .ret (dsF.zip (VFo l t d B 4 .nils true y bf af)) ⟨3, [0, 1, 2].zip (BFo l (csL l a) t)⟩
theorem lfg_ev (l : List Stk) (t : Tst) (d B : List Int) (Q : VRes → Prop) : callN Try.prog (tabS [grY l t true, alT]) noL 10 20 0 (.fn 10) [stD l, .agg (tsL t), inD d, byD B] ⟨0, []⟩ (fun r _ => Q r) =
  (isD (VH.mk (0 + 1) [(0, VB.cells (tsL t) 25)]) 4 (stD l) (stD l) ∧ isD (VH.mk (0 + 1) [(0, VB.cells (tsL t) 25)]) 4 (VV.agg (tsL t)) (VV.agg (tsL t)) ∧ greatF l t (64 : Int) = true ∧ Q (.ret (.bool true))) := by kernel_rfl

def hpF1 (d : List Int) (t : Tst) : VH := VH.mk (2) [(1, VB.vec 1 (fun (j : Nat) => List.take (1) (List.drop (j * (1)) [VV.tl d.length 1 (dG d)])) (1) 23), (0, VB.cells (tsL t) 25)]
theorem lf1_ev (l : List Stk) (t : Tst) (d B : List Int) (Q : VRes → Prop) : callN Try.prog (tabS [grY l t false, plF l t d 1 True (.ret (.tup [.nils, I 1])), alT]) noL 10 20 0 (.fn 10) [stD l, .agg (tsL t), inD d, byD B] ⟨0, []⟩ (fun r _ => Q r) =
  (isD (VH.mk (0 + 1) [(0, VB.cells (tsL t) 25)]) 4 (stD l) (stD l) ∧ isD (VH.mk (0 + 1) [(0, VB.cells (tsL t) 25)]) 4 (VV.agg (tsL t)) (VV.agg (tsL t)) ∧ greatF l t (64 : Int) = false ∧ bif decide ((↑d.length : Int) > (6 : Int)) then
 Q (.ret (.bool true))
 else bif decide ((↑B.length : Int) = (0 : Int)) then
 Q (.ret (.bool true))
 else stD l = stD l ∧ VV.agg (tsL t) = VV.agg (tsL t) ∧ (0 = 0 ∧ 1 = 1 ∧ ∃ (g : Nat → List VV), ∃ (ty : TypeId), (hpF1 d t).at (1) = VB.vec 1 g 1 ty ∧ g 0 = [inD d]) ∧ (d.length ≤ 100000 ∧ plE l t [d] = (1 : Int) ∧ True) ∧ Q (.ret (.bool true))) := by kernel_rfl

theorem lf2_ev (l : List Stk) (t : Tst) (d B : List Int) (Q : VRes → Prop) : callN Try.prog (tabS [grY l t false, plF l t d 2 True (.ret (.tup [.nils, I 2])), alT]) noL 10 20 0 (.fn 10) [stD l, .agg (tsL t), inD d, byD B] ⟨0, []⟩ (fun r _ => Q r) =
  (isD (VH.mk (0 + 1) [(0, VB.cells (tsL t) 25)]) 4 (stD l) (stD l) ∧ isD (VH.mk (0 + 1) [(0, VB.cells (tsL t) 25)]) 4 (VV.agg (tsL t)) (VV.agg (tsL t)) ∧ greatF l t (64 : Int) = false ∧ bif decide ((↑d.length : Int) > (6 : Int)) then
 Q (.ret (.bool true))
 else bif decide ((↑B.length : Int) = (0 : Int)) then
 Q (.ret (.bool true))
 else stD l = stD l ∧ VV.agg (tsL t) = VV.agg (tsL t) ∧ (0 = 0 ∧ 1 = 1 ∧ ∃ (g : Nat → List VV), ∃ (ty : TypeId), (hpF1 d t).at (1) = VB.vec 1 g 1 ty ∧ g 0 = [inD d]) ∧ (d.length ≤ 100000 ∧ plE l t [d] = (2 : Int) ∧ True) ∧ Q (.ret (.bool true))) := by kernel_rfl

def hpF2 (d : List Int) (t : Tst) : VH := VH.mk (2) [(1, VB.gone), (1, VB.vec 1 (fun (j : Nat) => List.take (1) (List.drop (j * (1)) [VV.tl d.length 1 (dG d)])) (1) 23), (0, VB.cells (tsL t) 25)]
def hpF3 (d : List Int) (l : List Stk) (t : Tst) : VH := VH.mk (3) [(2, VB.vec (0 + l.length) (catG 0 (fun (j : Nat) => List.take (5) (List.drop (j * (5)) [])) (stG l)) (5) 32), (2, VB.vec 0 (fun (j : Nat) => List.take (5) (List.drop (j * (5)) [])) (5) 32), (1, VB.gone), (1, VB.vec 1 (fun (j : Nat) => List.take (1) (List.drop (j * (1)) [VV.tl d.length 1 (dG d)])) (1) 23), (0, VB.cells (tsL t) 25)]
theorem lf4_ev (l : List Stk) (t : Tst) (d B : List Int) (Q : VRes → Prop) : callN Try.prog (tabS [grY l t false, plF l t d 4 True (.ret (.tup [.nils, I 4])), rsYF l t, alT]) (atF 10 [(0, lF4 l t d B)]) 10 20 0 (.fn 10) [stD l, .agg (tsL t), inD d, byD B] ⟨0, []⟩ (fun r _ => Q r) =
  (isD (VH.mk (0 + 1) [(0, VB.cells (tsL t) 25)]) 4 (stD l) (stD l) ∧ isD (VH.mk (0 + 1) [(0, VB.cells (tsL t) 25)]) 4 (VV.agg (tsL t)) (VV.agg (tsL t)) ∧ greatF l t (64 : Int) = false ∧ bif decide ((↑d.length : Int) > (6 : Int)) then
 Q (.ret (.bool true))
 else bif decide ((↑B.length : Int) = (0 : Int)) then
 Q (.ret (.bool true))
 else stD l = stD l ∧ VV.agg (tsL t) = VV.agg (tsL t) ∧ (0 = 0 ∧ 1 = 1 ∧ ∃ (g : Nat → List VV), ∃ (ty : TypeId), (hpF1 d t).at (1) = VB.vec 1 g 1 ty ∧ g 0 = [inD d]) ∧ (d.length ≤ 100000 ∧ plE l t [d] = (4 : Int) ∧ True) ∧ isD (hpF2 d t) 3 (stD l) (stD l) ∧ isD (hpF2 d t) 3 (VV.agg (tsL t)) (VV.agg (tsL t)) ∧ (l.length ≤ 100000 ∧ t.T.length ≤ 100000 ∧ (decide (l.length ≤ 6) && !anyS l t) = true) ∧ bif roomB (0 + l.length) (56) then
 FitP 0 (hpF3 d l t) [(80, I 0), (79, I (↑d.length : Int)), (78, VV.tl d.length 1 (dG d)), (13, VV.bool false), (12, VV.bool false), (11, VV.sl (2) (0 + l.length)), (77, VV.sl (2) (0 + l.length)), (76, stD l), (75, VV.sl (2) 0), (74, VV.bool false), (74, VV.bool false), (73, VV.bool false), (57, VV.bool false), (72, udf), (60, VV.bool false), (71, udf), (70, udf), (69, udf), (68, udf), (67, udf), (66, udf), (65, udf), (64, udf), (60, VV.bool false), (63, udf), (60, VV.bool false), (62, udf), (60, VV.bool false), (61, udf), (60, VV.bool false), (60, VV.bool (decide ((4 : Int) = (0 : Int)))), (57, VV.bool false), (59, VV.bool (decide ((4 : Int) = (0 : Int)))), (57, VV.bool false), (58, I 4), (57, VV.bool false), (57, VV.bool !true), (56, VV.bool !true), (55, VV.bool true), (54, VV.agg (tsL t)), (53, stD l), (46, VV.bool false), (46, VV.bool (decide ((4 : Int) = (2 : Int)))), (45, VV.bool (decide ((4 : Int) = (2 : Int)))), (43, VV.bool false), (44, I 4), (43, VV.bool false), (43, VV.bool (decide ((4 : Int) = (1 : Int)))), (42, VV.bool (decide ((4 : Int) = (1 : Int)))), (41, I 4), (10, I 4), (9, VV.nils), (40, I 4), (39, VV.nils), (33, VV.tup [VV.nils, I 4]), (38, VV.tup [VV.nils, I 4]), (37, VV.sl (1) 1), (36, VV.tl d.length 1 (dG d)), (35, VV.agg (tsL t)), (34, stD l), (31, VV.bool false), (31, VV.bool (decide ((↑B.length : Int) = (0 : Int)))), (30, VV.bool (decide ((↑B.length : Int) = (0 : Int)))), (27, VV.bool false), (29, I (↑B.length : Int)), (27, VV.bool false), (28, byD B), (27, VV.bool false), (27, VV.bool (decide ((↑d.length : Int) > (6 : Int)))), (26, VV.bool (decide ((↑d.length : Int) > (6 : Int)))), (25, VV.bool (decide ((↑d.length : Int) > (6 : Int)))), (22, VV.bool false), (24, I (↑d.length : Int)), (22, VV.bool false), (23, VV.tl d.length 1 (dG d)), (22, VV.bool false), (22, VV.bool false), (21, VV.bool false), (20, VV.agg (tsL t)), (19, stD l), (8, VV.bool false), (5, VV.ptr (.own 0 0)), (0, stD l), (1, VV.agg (tsL t)), (2, inD d), (3, byD B)] (VH.mk 3 ([0, 1, 2].zip (BFo l (csL l (mostF l)) t))) (dsF.zip (VFo l t d B (4 : Int) VV.nils false 0 false false)) ∧ (conF l t d B ∧ planF l t [d] d.length d.length 1 (mostF l) = none) ∧ ∀ (y : Nat) (a : Nat → Int) (bf af : Bool), Q (.ret (.bool true))
 else False) := by kernel_rfl

theorem lf0_ev (l : List Stk) (t : Tst) (d B : List Int) (x : Rsl) (Q : VRes → Prop) : callN Try.prog (tabS [grY l t false, plF l t d 0 (planF l t [d] d.length d.length 1 (mostF l) = some x) (.ret (.tup [plnD l.length 1 d.length x, I 0])), rsYF l t, alT]) (atF 10 [(0, lF0 l t d B x)]) 10 20 0 (.fn 10) [stD l, .agg (tsL t), inD d, byD B] ⟨0, []⟩ (fun r _ => Q r) =
  (isD (VH.mk (0 + 1) [(0, VB.cells (tsL t) 25)]) 4 (stD l) (stD l) ∧ isD (VH.mk (0 + 1) [(0, VB.cells (tsL t) 25)]) 4 (VV.agg (tsL t)) (VV.agg (tsL t)) ∧ greatF l t (64 : Int) = false ∧ bif decide ((↑d.length : Int) > (6 : Int)) then
 Q (.ret (.bool true))
 else bif decide ((↑B.length : Int) = (0 : Int)) then
 Q (.ret (.bool true))
 else stD l = stD l ∧ VV.agg (tsL t) = VV.agg (tsL t) ∧ (0 = 0 ∧ 1 = 1 ∧ ∃ (g : Nat → List VV), ∃ (ty : TypeId), (hpF1 d t).at (1) = VB.vec 1 g 1 ty ∧ g 0 = [inD d]) ∧ (d.length ≤ 100000 ∧ plE l t [d] = (0 : Int) ∧ planF l t [d] d.length d.length 1 (mostF l) = some x) ∧ isD (hpF2 d t) 3 (stD l) (stD l) ∧ isD (hpF2 d t) 3 (VV.agg (tsL t)) (VV.agg (tsL t)) ∧ (l.length ≤ 100000 ∧ t.T.length ≤ 100000 ∧ (decide (l.length ≤ 6) && !anyS l t) = true) ∧ bif !decide ((↑d.length : Int) = (↑d.length : Int)) then
 Q (.ret (.bool false))
 else bif roomB (0 + l.length) (56) then
 FitP 0 (hpF3 d l t) [(80, I 0), (79, I (↑d.length : Int)), (78, VV.tl d.length 1 (dG d)), (13, VV.bool false), (12, VV.bool false), (11, VV.sl (2) (0 + l.length)), (77, VV.sl (2) (0 + l.length)), (76, stD l), (75, VV.sl (2) 0), (74, VV.bool false), (74, VV.bool !decide ((↑d.length : Int) = (↑d.length : Int))), (73, VV.bool !decide ((↑d.length : Int) = (↑d.length : Int))), (57, VV.bool false), (72, VV.bool !decide ((↑d.length : Int) = (↑d.length : Int))), (60, VV.bool true), (71, VV.bool !decide ((↑d.length : Int) = (↑d.length : Int))), (64, VV.bool false), (70, I (↑d.length : Int)), (64, VV.bool false), (69, VV.tl d.length 1 (dG d)), (64, VV.bool false), (68, I (↑d.length : Int)), (64, VV.bool false), (67, VV.tl d.length 1 (plnY l.length (x (Int.toNat (0 : Int))))), (64, VV.bool false), (66, VV.tp [VV.tl d.length 1 (plnY l.length (x (Int.toNat (0 : Int))))]), (64, VV.bool false), (65, VV.tl 1 1 (plnG l.length d.length x)), (64, VV.bool false), (64, VV.bool !decide ((↑1 : Int) = (1 : Int))), (60, VV.bool true), (63, VV.bool !decide ((↑1 : Int) = (1 : Int))), (60, VV.bool true), (62, I (↑1 : Int)), (60, VV.bool true), (61, VV.tl 1 1 (plnG l.length d.length x)), (60, VV.bool true), (60, VV.bool (decide ((0 : Int) = (0 : Int)))), (57, VV.bool false), (59, VV.bool (decide ((0 : Int) = (0 : Int)))), (57, VV.bool false), (58, I 0), (57, VV.bool false), (57, VV.bool !true), (56, VV.bool !true), (55, VV.bool true), (54, VV.agg (tsL t)), (53, stD l), (46, VV.bool false), (46, VV.bool (decide ((0 : Int) = (2 : Int)))), (45, VV.bool (decide ((0 : Int) = (2 : Int)))), (43, VV.bool false), (44, I 0), (43, VV.bool false), (43, VV.bool (decide ((0 : Int) = (1 : Int)))), (42, VV.bool (decide ((0 : Int) = (1 : Int)))), (41, I 0), (10, I 0), (9, VV.tl 1 1 (plnG l.length d.length x)), (40, I 0), (39, VV.tl 1 1 (plnG l.length d.length x)), (33, VV.tup [plnD l.length 1 d.length x, I 0]), (38, VV.tup [plnD l.length 1 d.length x, I 0]), (37, VV.sl (1) 1), (36, VV.tl d.length 1 (dG d)), (35, VV.agg (tsL t)), (34, stD l), (31, VV.bool false), (31, VV.bool (decide ((↑B.length : Int) = (0 : Int)))), (30, VV.bool (decide ((↑B.length : Int) = (0 : Int)))), (27, VV.bool false), (29, I (↑B.length : Int)), (27, VV.bool false), (28, byD B), (27, VV.bool false), (27, VV.bool (decide ((↑d.length : Int) > (6 : Int)))), (26, VV.bool (decide ((↑d.length : Int) > (6 : Int)))), (25, VV.bool (decide ((↑d.length : Int) > (6 : Int)))), (22, VV.bool false), (24, I (↑d.length : Int)), (22, VV.bool false), (23, VV.tl d.length 1 (dG d)), (22, VV.bool false), (22, VV.bool false), (21, VV.bool false), (20, VV.agg (tsL t)), (19, stD l), (8, VV.bool false), (5, VV.ptr (.own 0 0)), (0, stD l), (1, VV.agg (tsL t)), (2, inD d), (3, byD B)] (VH.mk 3 ([0, 1, 2].zip (BFo l (csL l (mostF l)) t))) (dsF.zip (VFo l t d B (0 : Int) (plnD l.length 1 d.length x) false 0 false false)) ∧ (conF l t d B ∧ planF l t [d] d.length d.length 1 (mostF l) = some x) ∧ (∀ (y : Nat) (a : Nat → Int) (bf af : Bool), Q (.ret (.bool true))) ∧ ∀ (y : Nat) (a : Nat → Int) (af : Bool), Q (.ret (.bool true))
 else False) := by kernel_rfl

end Go.Sx.Bln

/- blend: the first plan of one path (plain). -/

namespace Go.Sx.Bln
open Go Go.Sx Go.Proofs
set_option maxRecDepth 100000

section
variable {l : List Stk} {t : Tst} {a b c : Nat → Int}

theorem csL_len : (csL l a).length = l.length := by unfold csL; rw [List.length_map, List.length_range]
theorem csL_get {i : Nat} (hi : i < l.length) : (csL l a).getD i k0 = ⟨a i, (l.getD i k0).vol, (l.getD i k0).age, (l.getD i k0).cost, (l.getD i k0).prof⟩ := by
  unfold csL
  rw [List.getD_eq_getElem?_getD, List.getElem?_map, List.getElem?_range hi]
  rfl
theorem csL_ge {i : Nat} (hi : l.length ≤ i) : (csL l a).getD i k0 = k0 := by
  rw [List.getD_eq_getElem?_getD, List.getElem?_eq_none (by rw [csL_len]; exact hi)]
  rfl
theorem l_ge {i : Nat} (hi : l.length ≤ i) : l.getD i k0 = k0 := by
  rw [List.getD_eq_getElem?_getD, List.getElem?_eq_none hi]
  rfl
theorem csL_like : likeB l (csL l a) := by
  refine ⟨csL_len, fun i => ?_⟩
  by_cases hi : i < l.length
  · rw [csL_get hi]; exact ⟨rfl, rfl, rfl, rfl⟩
  · rw [csL_ge (by omega), l_ge (by omega)]; exact ⟨rfl, rfl, rfl, rfl⟩
theorem csL_lB (hl : lB l) (ha : ∀ i, i < l.length → 0 ≤ a i ∧ a i ≤ 6) : lB (csL l a) := by
  refine ⟨by rw [csL_len]; exact hl.1, fun i hi => ?_⟩
  rw [csL_len] at hi
  rw [csL_get hi]
  obtain ⟨_, h2, h3, h4⟩ := hl.2 i hi
  exact ⟨ha i hi, h2, h3, h4⟩
theorem csL_congr (h : ∀ i, i < l.length → a i = b i) : csL l a = csL l b := by
  unfold csL
  exact List.map_congr_left (fun i hi => by rw [h i (List.mem_range.1 hi)])
theorem csL_most {j : Nat} (hj : j < l.length) : stG (csL l (mostF l)) j = stG l j := by
  unfold stG
  rw [csL_get hj]
  rfl
theorem lm_cs {y m : Int} (hg : ∀ i, l.length ≤ i → c i = 0) (h : lmF (csL l a) t y m (dC (csL l a) c) = true) : meetsF l t c y m = true := by
  have := lm_meets (l := csL l a) (by rw [csL_len]; exact hg) h
  rwa [meets_like csL_like] at this

/-- What is left after so many years. -/
def aF (a : Nat → Int) (cs : Nat → Nat → Int) : Nat → Nat → Int
  | 0 => a
  | y + 1 => lsF (aF a cs y) (cs y) 6
theorem aF_congr {cs cs' : Nat → Nat → Int} : ∀ {y : Nat}, (∀ y', y' < y → cs y' = cs' y') → aF a cs y = aF a cs' y
  | 0, _ => rfl
  | y + 1, h => by
    unfold aF
    rw [aF_congr (fun y' h' => h y' (by omega)), h y (by omega)]
/-- The choices of so many years can be made. -/
def chV (l : List Stk) (t : Tst) (d : List Int) (a : Nat → Int) (cs : Nat → Nat → Int) (y : Nat) : Prop := ∀ y', y' < y → cs y' ∈ allC (aF a cs y') l.length ∧ meetsF l t (cs y') y' (d.getD y' 0) = true

theorem ch_ex {d : List Int} {cs : Nat → Nat → Int} {Y : Nat} (h : chV l t d a cs Y) : ∀ {k : Nat}, k ≤ Y → exP l t (fun y => d.getD y 0) k (Y - k) (aF a cs (Y - k))
  | 0, _ => trivial
  | k + 1, hk => by
    obtain ⟨h1, h2⟩ := h (Y - (k + 1)) (by omega)
    refine ⟨cs (Y - (k + 1)), h1, h2, ?_⟩
    have e : Y - (k + 1) + 1 = Y - k := by omega
    have := ch_ex h (k := k) (by omega)
    rw [← e] at this
    exact this

theorem tryF_1st {meet : (Nat → Int) → Bool} {sub : (Nat → Int) → Option Rsl} {R : (Nat → Int) → (Nat → Int) → Prop} {x : Rsl} {e : Nat → Int} : ∀ {L : List (Nat → Int)}, tryF meet sub L = some (c, x) → L.Pairwise R → e ∈ L → meet e = true → (sub e).isSome = true → sub c = some x ∧ (c = e ∨ R c e)
  | [], h, _, _, _, _ => by cases h
  | q :: r, h, hp, he, h1, h2 => by
    unfold tryF at h
    rw [List.pairwise_cons] at hp
    by_cases hm : meet q = true
    · rw [if_pos hm] at h
      cases hs : sub q with
      | some z =>
        rw [hs] at h
        cases h
        refine ⟨hs, ?_⟩
        rcases List.mem_cons.1 he with rfl | he
        · exact .inl rfl
        · exact .inr (hp.1 e he)
      | none =>
        rw [hs] at h
        rcases List.mem_cons.1 he with rfl | he
        · rw [hs] at h2; cases h2
        · exact tryF_1st h hp.2 he h1 h2
    · rw [if_neg hm] at h
      rcases List.mem_cons.1 he with rfl | he
      · exact (hm h1).elim
      · exact tryF_1st h hp.2 he h1 h2

/-- The plan that is found is not behind any other. -/
theorem plan_1st {d : List Int} {cs : Nat → Nat → Int} {Y : Nat} (h : chV l t d a cs Y) (hl6 : l.length ≤ 6) : ∀ {k : Nat} {x : Rsl}, k ≤ Y → leftB l (aF a cs (Y - k)) → planF l t [d] Y k 1 (aF a cs (Y - k)) = some x →
    (∀ y, Y - k ≤ y → y < Y → ∀ j, j < l.length → x 0 y j = cs y j) ∨ ∃ y, Y - k ≤ y ∧ y < Y ∧ (∀ y', Y - k ≤ y' → y' < y → ∀ j, j < l.length → x 0 y' j = cs y' j) ∧ lexLt l.length (x 0 y) (cs y)
  | 0, x, _, _, _ => .inl (fun y h1 h2 => by omega)
  | k + 1, x, hk, hL, hx => by
    rw [planF_one] at hx
    have e1 : ((Y : Int) - (k + 1 : Nat)) = ((Y - (k + 1) : Nat) : Int) := by omega
    rw [e1] at hx
    obtain ⟨g1, g2⟩ := h (Y - (k + 1)) (by omega)
    have e2 : lsF (aF a cs (Y - (k + 1))) (cs (Y - (k + 1))) 6 = aF a cs (Y - k) := by
      have : Y - k = Y - (k + 1) + 1 := by omega
      rw [this]
      rfl
    have hs : (planF l t [d] Y k 1 (lsF (aF a cs (Y - (k + 1))) (cs (Y - (k + 1))) 6)).isSome = true := by
      rw [e2]
      exact (planF_ex (by omega)).2 (ch_ex h (by omega))
    cases ht : tryF (fun c => meetsF l t c ((Y - (k + 1) : Nat) : Int) (d.getD (Y - (k + 1)) 0)) (fun c => planF l t [d] Y k 1 (lsF (aF a cs (Y - (k + 1))) c 6)) (allC (aF a cs (Y - (k + 1))) l.length) with
    | none => rw [ht] at hx; cases hx
    | some cx =>
      obtain ⟨c, x'⟩ := cx
      rw [ht] at hx
      cases hx
      obtain ⟨q1, q2⟩ := tryF_1st ht (all_lex l.length (fun i hi => (hL.1 i hi).1)) g1 g2 hs
      have hx0 : putR 1 (Y - (k + 1)) c x' (fun _ _ _ => 0) 0 (Y - (k + 1)) = c := by
        unfold putR
        rw [if_pos (by decide), if_pos rfl]
      have hxs : ∀ y, y ≠ Y - (k + 1) → putR 1 (Y - (k + 1)) c x' (fun _ _ _ => 0) 0 y = x' 0 y := fun y hy => by
        unfold putR
        rw [if_pos (by decide), if_neg hy]
      rcases q2 with rfl | q2
      · rw [e2] at q1
        have hL' : leftB l (aF a cs (Y - k)) := by rw [← e2]; exact (left_less hL g1 hl6).1
        rcases plan_1st h hl6 (by omega) hL' q1 with r1 | ⟨y, r1, r2, r3, r4⟩
        · refine .inl (fun y h1 h2 j hj => ?_)
          by_cases e : y = Y - (k + 1)
          · subst e; rw [hx0]
          · rw [hxs y e]; exact r1 y (by omega) h2 j hj
        · refine .inr ⟨y, by omega, r2, fun y' h1 h2 j hj => ?_, ?_⟩
          · by_cases e : y' = Y - (k + 1)
            · subst e; rw [hx0]
            · rw [hxs y' e]; exact r3 y' (by omega) h2 j hj
          · rw [hxs y (by omega)]; exact r4
      · exact .inr ⟨Y - (k + 1), Nat.le_refl _, by omega, fun y' h1 h2 => by omega, by rw [hx0]; exact q2⟩

theorem fl_keep {c z : Nat → Int} {p q : Bool} (h : p = true ∨ q = true) : ∀ n, flF c z p q n = (p, q)
  | 0 => rfl
  | n + 1 => by
    unfold flF
    rw [fl_keep h n]
    cases p <;> cases q <;> simp_all
theorem fl_new {c z : Nat → Int} : ∀ n, (flF c z false false n = (false, false) ∧ ∀ j, j < n → c j = z j) ∨ (flF c z false false n = (true, false) ∧ lexLt n c z) ∨ (flF c z false false n = (false, true) ∧ lexLt n z c)
  | 0 => .inl ⟨rfl, fun j hj => by omega⟩
  | n + 1 => by
    rcases fl_new (c := c) (z := z) n with ⟨h1, h2⟩ | ⟨h1, i, hi, h2, h3⟩ | ⟨h1, i, hi, h2, h3⟩
    · have e : flF c z false false (n + 1) = (decide (c n < z n), decide (c n > z n)) := by unfold flF; rw [h1]; rfl
      rcases Int.lt_trichotomy (c n) (z n) with g | g | g
      · refine .inr (.inl ⟨by rw [e, decide_eq_true g, decide_eq_false (by omega)], n, by omega, h2, g⟩)
      · refine .inl ⟨by rw [e, decide_eq_false (by omega), decide_eq_false (by omega)], fun j hj => ?_⟩
        by_cases ej : j = n
        · subst ej; exact g
        · exact h2 j (by omega)
      · exact .inr (.inr ⟨by rw [e, decide_eq_false (by omega), decide_eq_true g], n, by omega, fun p hp => (h2 p hp).symm, g⟩)
    · exact .inr (.inl ⟨by unfold flF; rw [h1]; rfl, i, by omega, h2, h3⟩)
    · exact .inr (.inr ⟨by unfold flF; rw [h1]; rfl, i, by omega, h2, h3⟩)

/-- What the flags say after so many years. -/
def flI (n : Nat) (x cs : Nat → Nat → Int) (y : Nat) (bf af : Bool) : Prop :=
  (bf = false ∧ af = false ∧ ∀ y', y' < y → ∀ j, j < n → cs y' j = x y' j) ∨
    ∃ y0, y0 < y ∧ (∀ y', y' < y0 → ∀ j, j < n → cs y' j = x y' j) ∧ ((bf = false ∧ af = true ∧ lexLt n (x y0) (cs y0)) ∨ (bf = true ∧ af = false ∧ lexLt n (cs y0) (x y0)))
theorem flI_congr {n : Nat} {x cs cs' : Nat → Nat → Int} {y : Nat} {bf af : Bool} (h : ∀ y', y' < y → cs y' = cs' y') (hi : flI n x cs y bf af) : flI n x cs' y bf af := by
  rcases hi with ⟨h1, h2, h3⟩ | ⟨y0, h1, h2, h3⟩
  · exact .inl ⟨h1, h2, fun y' hy j hj => by rw [← h y' hy]; exact h3 y' hy j hj⟩
  · refine .inr ⟨y0, h1, fun y' hy j hj => by rw [← h y' (by omega)]; exact h2 y' hy j hj, ?_⟩
    rw [← h y0 h1]
    exact h3
theorem flI_step {n : Nat} {x cs : Nat → Nat → Int} {y : Nat} {bf af bf' af' : Bool} (hi : flI n x cs y bf af) (hs : (bf', af') = flF (cs y) (x y) bf af n) : flI n x cs (y + 1) bf' af' := by
  rcases hi with ⟨rfl, rfl, h3⟩ | ⟨y0, h1, h2, h3⟩
  · rcases fl_new (c := cs y) (z := x y) n with ⟨g1, g2⟩ | ⟨g1, g2⟩ | ⟨g1, g2⟩
    · rw [g1] at hs; cases hs
      refine .inl ⟨rfl, rfl, fun y' hy j hj => ?_⟩
      by_cases e : y' = y
      · subst e; exact g2 j hj
      · exact h3 y' (by omega) j hj
    · rw [g1] at hs; cases hs
      exact .inr ⟨y, by omega, h3, .inr ⟨rfl, rfl, g2⟩⟩
    · rw [g1] at hs; cases hs
      exact .inr ⟨y, by omega, h3, .inl ⟨rfl, rfl, g2⟩⟩
  · rw [fl_keep (by rcases h3 with ⟨_, h, _⟩ | ⟨h, _⟩; exact .inr h; exact .inl h)] at hs
    cases hs
    exact .inr ⟨y0, by omega, h2, h3⟩
theorem flI_end {d : List Int} {cs : Nat → Nat → Int} {x : Rsl} {bf af : Bool} (hl6 : l.length ≤ 6) (h : chV l t d a cs d.length) (hL : leftB l a) (hx : planF l t [d] d.length d.length 1 a = some x) (hi : flI l.length (x 0) cs d.length bf af) : bf = false := by
  rcases hi with ⟨h1, _⟩ | ⟨y0, h1, h2, ⟨h3, _⟩ | ⟨_, _, i, hi, h4, h5⟩⟩
  · exact h1
  · exact h3
  · exfalso
    have e : d.length - d.length = 0 := Nat.sub_self _
    have hx' : planF l t [d] d.length d.length 1 (aF a cs (d.length - d.length)) = some x := by rw [e]; exact hx
    have hL' : leftB l (aF a cs (d.length - d.length)) := by rw [e]; exact hL
    rcases plan_1st h hl6 (Nat.le_refl _) hL' hx' with r1 | ⟨y1, r1, r2, r3, j, hj, r4, r5⟩
    · have := r1 y0 (by omega) h1 i hi
      omega
    · rcases Nat.lt_trichotomy y0 y1 with g | g | g
      · have := r3 y0 (by omega) g i hi
        omega
      · subst g
        rcases Nat.lt_trichotomy i j with g | g | g
        · have := r4 i g; omega
        · subst g; omega
        · have := h4 j g; omega
      · have := h2 y1 g j hj
        omega
end
end Go.Sx.Bln

/- blend: the inner loops of the law BlendFirst (printed by ld3.py). -/

namespace Go.Sx.Bln
open Go Go.Sx Go.Proofs
set_option maxRecDepth 1000000

section
variable {l : List Stk} {t : Tst} {d B : List Int} {x : Rsl} {a c : Nat → Int}

theorem cs_el {i j : Nat} (hi : i < l.length) (hj : j < l.length) : atG i (stG (csL l (lsN a c i))) (setL (stG (csL l (lsN a c i)) i) 0 [I (((csL l (lsN a c i)).getD i k0).casks - c i)]) j = stG (csL l (lsN a c (i + 1))) j := by
  unfold atG stG
  by_cases h : j = i
  · subst h
    rw [beq_t rfl, cond_true, csL_get hj, csL_get hj]
    have e1 : lsN a c j j = a j := by unfold lsN; rw [if_neg (by omega)]
    have e2 : lsN a c (j + 1) j = a j - c j := by unfold lsN; rw [if_pos (by omega)]
    rw [e1, e2]
    rfl
  · rw [beq_f h, cond_false, csL_get hj, csL_get hj]
    have e : lsN a c i j = lsN a c (i + 1) j := by
      unfold lsN
      by_cases g : j < i
      · rw [if_pos g, if_pos (by omega)]
      · rw [if_neg g, if_neg (by omega)]
    rw [e]

theorem lG0_ok : LSound Try.prog true (.block 2 (.loop (loopB 2 (bodyOf Try.prog 10)))) (ntOf Try.prog 10) (lG0 l t d B x) := by
  rintro lock tt h K ⟨y, nd, n, a, c, bf, af, hf, ⟨⟨hn, h6, ha, hc⟩, hy⟩, k1⟩
  have b1 : (n.beq n && Nat.ble 1 Try.prog.types[3].size) = true := Bool.and_eq_true_iff.2 ⟨Nat.beq_refl _, by kernel_rfl⟩
  have b2 : n.beq n = true := Nat.beq_refl _
  have b3 : ((0 + l.length).beq (0 + l.length) && Nat.ble 1 Try.prog.types[32].size) = true := Bool.and_eq_true_iff.2 ⟨Nat.beq_refl _, by kernel_rfl⟩
  have b4 : (0 + l.length).beq (0 + l.length) = true := Nat.beq_refl _
  have b5 : ∀ z : Int, ((0 + l.length).beq (0 + l.length) && [I z].all VV.one && belL 0 [I z]) = true := fun z => by rw [b4]; rfl
  have hrow : LSound Try.prog true (.block 2 (.loop (loopB 2 (bodyOf Try.prog 10)))) (ntOf Try.prog 10) (fun lock tt h K => FitP lock h tt ⟨4, [0, 1, 2, 3].zip (BGo l (csL l (lsN a c 0)) t n c)⟩ (dsG.zip (VGo l t d B 0 (plnD l.length 1 d.length x) y nd n 0 bf af)) ∧ K .normal (dsG.zip (VGo l t d B 0 (plnD l.length 1 d.length x) y nd n n (flF c (x 0 y) bf af n).1 (flF c (x 0 y) bf af n).2)) ⟨4, [0, 1, 2, 3].zip (BGo l (csL l (lsN a c n)) t n c)⟩) := by
    refine loop_row hmix good0 (un := 10) (ds := dsG) (ns := [0, 1, 2, 3]) (nx := 4) (fun i : Nat => VGo l t d B 0 (plnD l.length 1 d.length x) y nd n i (flF c (x 0 y) bf af i).1 (flF c (x 0 y) bf af i).2) (fun i => BGo l (csL l (lsN a c i)) t n c) (fun i => i ≤ n) (fun i => n - i) (fun _ ex vs bs => ex = .exit 2 ∧ bs = BGo l (csL l (lsN a c n)) t n c ∧ vs = VGo l t d B 0 (plnD l.length 1 d.length x) y nd n n (flF c (x 0 y) bf af n).1 (flF c (x 0 y) bf af n).2) noL_ok ?_ ?_
    · rintro i h0
      refine cast (lgi_ev l (csL l (lsN a c i)) t d B x y nd n i c (flF c (x 0 y) bf af i).1 (flF c (x 0 y) bf af i).2 _).symm ?_
      rw [show (i : Int).toNat = i by omega, show (y : Int).toNat = y by omega]
      by_cases hlt : i < n
      · have hil : i < l.length := by omega
        have hck : ((csL l (lsN a c i)).getD i k0).casks = a i := by
          rw [csL_get hil]
          show lsN a c i i = a i
          unfold lsN
          rw [if_neg (by omega)]
        have q1 := ha i hil
        have q2 := hc i hil
        have hfit : fitBs (BGo l (csL l (lsN a c (i + 1))) t n c) [.cells (tsL t) 25, .gone, .vec (0 + l.length) (atG i (stG (csL l (lsN a c i))) (setL (stG (csL l (lsN a c i)) i) 0 [I (((csL l (lsN a c i)).getD i k0).casks - c i)])) 5 32, .vec n (chG c) 1 3] :=
          ⟨VB.fit_refl _, VB.fit_refl _, ⟨rfl, rfl, rfl, fun j hj => cs_el hil (by omega)⟩, VB.fit_refl _, trivial⟩
        refine cond_dk (by omega) (cond_dk ⟨by omega, by omega⟩ (cond_k b1 (cond_k b2 (cond_dk ⟨by omega, by omega⟩ (cond_k b3 (cond_k b4 (cond_r (by rw [hck]; omega) (cond_dk ⟨by omega, by omega⟩ (cond_k b3 (cond_k (b5 _) ?_))))))))))
        have nx : ∀ b' a' : Bool, (b', a') = flF c (x 0 y) bf af (i + 1) → RoundQ (fun i : Nat => VGo l t d B 0 (plnD l.length 1 d.length x) y nd n i (flF c (x 0 y) bf af i).1 (flF c (x 0 y) bf af i).2) (fun i => BGo l (csL l (lsN a c i)) t n c) (fun i => i ≤ n) (fun i => n - i) (fun _ ex vs bs => ex = .exit 2 ∧ bs = BGo l (csL l (lsN a c n)) t n c ∧ vs = VGo l t d B 0 (plnD l.length 1 d.length x) y nd n n (flF c (x 0 y) bf af n).1 (flF c (x 0 y) bf af n).2) i .normal (VGo l t d B 0 (plnD l.length 1 d.length x) y nd n (i + 1) b' a') [.cells (tsL t) 25, .gone, .vec (0 + l.length) (atG i (stG (csL l (lsN a c i))) (setL (stG (csL l (lsN a c i)) i) 0 [I (((csL l (lsN a c i)).getD i k0).casks - c i)])) 5 32, .vec n (chG c) 1 3] := fun b' a' he => by
          refine ⟨i + 1, by show i + 1 ≤ n; omega, by dsimp only; omega, ?_, ?_, fun _ _ _ h => h⟩
          · dsimp only; rw [← he]
          · exact hfit
        refine cond_i (fun hb => cond_i (fun ha => ?_) (fun ha => ?_)) (fun hb => ?_)
        · have hb : (flF c (x 0 y) bf af i).1 = false := by simpa using hb
          have ha : (flF c (x 0 y) bf af i).2 = false := by simpa using ha
          exact cond_dk ⟨by omega, by omega⟩ (cond_dk ⟨by omega, by omega⟩ (cond_dk ⟨by omega, by omega⟩ (cond_dk ⟨by omega, by omega⟩ (cond_r (by omega) (nx _ _ (by
            show _ = (bif (flF c (x 0 y) bf af i).1 then _ else bif (flF c (x 0 y) bf af i).2 then _ else _)
            rw [hb, ha]; rfl))))))
        · have ha : (flF c (x 0 y) bf af i).2 = true := by simpa using ha
          have hb : (flF c (x 0 y) bf af i).1 = false := by simpa using hb
          refine cond_r (by omega) (nx _ _ ?_)
          show _ = (bif (flF c (x 0 y) bf af i).1 then _ else bif (flF c (x 0 y) bf af i).2 then flF c (x 0 y) bf af i else _)
          rw [hb, ha]
          simp only [cond_true, cond_false]
          rw [← hb, ← ha]
        · have hb : (flF c (x 0 y) bf af i).1 = true := by simpa using hb
          refine cond_r (by omega) (nx _ _ ?_)
          show _ = (bif (flF c (x 0 y) bf af i).1 then flF c (x 0 y) bf af i else _)
          rw [hb]
          simp only [cond_true]
          rw [← hb]
      · obtain rfl : i = n := by omega
        exact cond_d (fun h => by omega) (fun _ => ⟨rfl, rfl, rfl⟩)
    · rintro lock tt h K ⟨hf, k1⟩
      refine ⟨0, hf, Nat.zero_le _, ?_⟩
      rintro ex vs bs ⟨rfl, rfl, rfl⟩
      exact k1
  have e0 : lsN a c 0 = a := by funext j; unfold lsN; rw [if_neg (by omega)]
  rw [e0] at hrow
  exact hrow lock tt h K ⟨hf, k1 _ _ rfl⟩

theorem lG4_ok : LSound Try.prog true (.block 2 (.loop (loopB 2 (bodyOf Try.prog 10)))) (ntOf Try.prog 10) (lG4 l t d B) := by
  rintro lock tt h K ⟨y, nd, n, a, c, bf, af, hf, ⟨⟨hn, h6, ha, hc⟩, hy⟩, k1⟩
  have b1 : (n.beq n && Nat.ble 1 Try.prog.types[3].size) = true := Bool.and_eq_true_iff.2 ⟨Nat.beq_refl _, by kernel_rfl⟩
  have b2 : n.beq n = true := Nat.beq_refl _
  have b3 : ((0 + l.length).beq (0 + l.length) && Nat.ble 1 Try.prog.types[32].size) = true := Bool.and_eq_true_iff.2 ⟨Nat.beq_refl _, by kernel_rfl⟩
  have b4 : (0 + l.length).beq (0 + l.length) = true := Nat.beq_refl _
  have b5 : ∀ z : Int, ((0 + l.length).beq (0 + l.length) && [I z].all VV.one && belL 0 [I z]) = true := fun z => by rw [b4]; rfl
  have hrow : LSound Try.prog true (.block 2 (.loop (loopB 2 (bodyOf Try.prog 10)))) (ntOf Try.prog 10) (fun lock tt h K => FitP lock h tt ⟨4, [0, 1, 2, 3].zip (BGo l (csL l (lsN a c 0)) t n c)⟩ (dsG.zip (VGo l t d B 4 .nils y nd n 0 bf af)) ∧ K .normal (dsG.zip (VGo l t d B 4 .nils y nd n n bf af)) ⟨4, [0, 1, 2, 3].zip (BGo l (csL l (lsN a c n)) t n c)⟩) := by
    refine loop_row hmix good0 (un := 10) (ds := dsG) (ns := [0, 1, 2, 3]) (nx := 4) (fun i : Nat => VGo l t d B 4 .nils y nd n i bf af) (fun i => BGo l (csL l (lsN a c i)) t n c) (fun i => i ≤ n) (fun i => n - i) (fun _ ex vs bs => ex = .exit 2 ∧ bs = BGo l (csL l (lsN a c n)) t n c ∧ vs = VGo l t d B 4 .nils y nd n n bf af) noL_ok ?_ ?_
    · rintro i h0
      refine cast (lgj_ev l (csL l (lsN a c i)) t d B y nd n i c bf af _).symm ?_
      rw [show (i : Int).toNat = i by omega]
      by_cases hlt : i < n
      · have hil : i < l.length := by omega
        have hck : ((csL l (lsN a c i)).getD i k0).casks = a i := by
          rw [csL_get hil]
          show lsN a c i i = a i
          unfold lsN
          rw [if_neg (by omega)]
        have q1 := ha i hil
        have q2 := hc i hil
        have hfit : fitBs (BGo l (csL l (lsN a c (i + 1))) t n c) [.cells (tsL t) 25, .gone, .vec (0 + l.length) (atG i (stG (csL l (lsN a c i))) (setL (stG (csL l (lsN a c i)) i) 0 [I (((csL l (lsN a c i)).getD i k0).casks - c i)])) 5 32, .vec n (chG c) 1 3] :=
          ⟨VB.fit_refl _, VB.fit_refl _, ⟨rfl, rfl, rfl, fun j hj => cs_el hil (by omega)⟩, VB.fit_refl _, trivial⟩
        refine cond_dk (by omega) (cond_dk ⟨by omega, by omega⟩ (cond_k b1 (cond_k b2 (cond_dk ⟨by omega, by omega⟩ (cond_k b3 (cond_k b4 (cond_r (by rw [hck]; omega) (cond_dk ⟨by omega, by omega⟩ (cond_k b3 (cond_k (b5 _) ?_))))))))))
        exact cond_r (by omega) ⟨i + 1, by show i + 1 ≤ n; omega, by dsimp only; omega, rfl, hfit, fun _ _ _ h => h⟩
      · obtain rfl : i = n := by omega
        exact cond_d (fun h => by omega) (fun _ => ⟨rfl, rfl, rfl⟩)
    · rintro lock tt h K ⟨hf, k1⟩
      refine ⟨0, hf, Nat.zero_le _, ?_⟩
      rintro ex vs bs ⟨rfl, rfl, rfl⟩
      exact k1
  have e0 : lsN a c 0 = a := by funext j; unfold lsN; rw [if_neg (by omega)]
  rw [e0] at hrow
  exact hrow lock tt h K ⟨hf, k1⟩
end
end Go.Sx.Bln
