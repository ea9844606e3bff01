/- stream: Cf1 Cg1 Ch11 Ci11 Ch12 Ci12 Ch13 Ci13 Ch14 Ci14 La2 Lc1 Fb1 Fb2 Lc2 Lc3, in one text. -/
import Derived.Test.YtlboglkgbhjpeaaWW4
import Derived.Test.YtlboglkgbhjpeaaWW3
/- blend: Plan's closures with 1 paths. -/

namespace Go.Sx.Bln
open Go Go.Sx Go.Proofs
set_option maxRecDepth 1000000

section
variable {l : List Stk} {t : Tst} {P : List (List Int)} {Y k : Nat} {y S d : Int} {own : Int} {a : Nat → Int}

/-! The next choice. -/
noncomputable def OJ1 (l : List Stk) (t : Tst) (P : List (List Int)) (Y : Nat) (y S own d : Int) (a : Nat → Int) (s : (Mde × Lst) × Nat × (Nat → Int)) (e : VEx) (vs : List VV) (bs : List VB) : Prop :=
  e = .exit 2 ∧ vs = VFi1 ((scanC a s.2.1 s.2.2).1 - 1) ∧ bs = BFo1 l t P Y y S own d a s.1.1 s.1.2 (scanC a s.2.1 s.2.2).2
theorem lIo1_ok : LSound Try.prog true (.block 2 (.loop (loopB 2 (bodyOf Try.prog 74)))) (ntOf Try.prog 74) (lIo1 l t P Y y S own d a) := by
  by_cases hn : l.length ≤ 6
  · refine loop_row hmix good0 (un := 10) (ds := dsI) (ns := nsFo1) (nx := 21) (fun s : (Mde × Lst) × Nat × (Nat → Int) => VFi1 (s.2.1 - 1)) (fun s => BFo1 l t P Y y S own d a s.1.1 s.1.2 s.2.2) (fun s => s.2.1 ≤ l.length) (fun s => s.2.1) (OJ1 l t P Y y S own d a) noL_ok ?_ ?_
    · rintro ⟨⟨M, es⟩, k, n⟩ h0
      dsimp only at h0 ⊢
      refine cast (ino1_ev l t P Y y S own d (k - 1) a M es n _).symm ?_
      cases k with
      | zero => exact cond_d (fun h => by omega) (fun _ => ⟨rfl, rfl, rfl⟩)
      | succ k =>
        have e : (((k + 1 : Nat) : Int) - 1) = (k : Int) := by omega
        rw [e]
        have e2 : (k : Int).toNat * 1 = k := by omega
        rw [e2, show (fun k => (ch a).getD k (0 : Int)) k = a k from ch_get (by omega)]
        refine cond_d (fun _ => ?_) (fun h => by omega)
        refine cond_dk ⟨by omega, by omega⟩ (cond_dk (by omega) (cond_dk ⟨by omega, by omega⟩ (cond_dk (by omega) (cond_d (fun g => cond_dk ⟨by omega, by omega⟩ (cond_dk (by omega) (cond_r (by omega) ?_))) (fun g => ?_)))))
        · refine ⟨((M, es), k, setC n k 0), ?_, ?_, rfl, fitBs_refl _, fun e vs bs he => ?_⟩
          · show k ≤ _; omega
          · show k < k + 1; omega
          · have hs : scanC a (k + 1) n = scanC a k (setC n k 0) := by
              show (if _ then _ else _) = _
              rw [if_pos g]
            obtain ⟨h1, h2, h3⟩ := he
            refine ⟨h1, ?_, ?_⟩
            · rw [h2]; dsimp only; rw [hs]
            · rw [h3]; dsimp only; rw [hs]
        · have hs : scanC a (k + 1) n = (k + 1, n) := by
            show (if _ then _ else _) = _
            rw [if_neg g]
          refine ⟨rfl, ?_, ?_⟩
          · dsimp only; rw [hs]; dsimp only; rw [e]; rfl
          · dsimp only; rw [hs]; rfl
    · rintro lock tt h K ⟨M, es, n, hf, _, k1⟩
      refine ⟨((M, es), l.length, n), hf, Nat.le_refl _, ?_⟩
      rintro e vs bs ⟨rfl, rfl, rfl⟩
      exact k1 _ _ rfl
  · rintro lock tt h K ⟨M, es, n, hf, hc, _⟩
    exact (hn hc).elim

/-! The paths with one need. -/
theorem lG1_ok {r : Nat} : LSound Try.prog true (.block 2 (.loop (loopB 2 (bodyOf Try.prog 44)))) (ntOf Try.prog 44) (lG1 l t P Y k y S a r) := by
  by_cases hh : y = ((Y - (k + 1) : Nat) : Int) ∧ k + 1 ≤ Y ∧ Cfg l t P Y ∧ r < 16
  · obtain ⟨hy, hk, cf, hr⟩ := hh
    have hp4 := cf.P4
    refine loop_row hmix good0 (un := 10) (ds := dsG1) (ns := nsF1) (nx := 13) (fun s : (Mde × Lst) × Nat => VG1 P y S a r s.2 (grpF P (Y - (k + 1)) r s.2).2 (grpF P (Y - (k + 1)) r s.2).1) (fun s => BF1 l t P Y y S a s.1.1 s.1.2) (fun s => s.2 ≤ P.length) (fun s => P.length - s.2)
      (fun s e vs bs => e = .exit 2 ∧ vs = VG1 P y S a r P.length (grpF P (Y - (k + 1)) r P.length).2 (grpF P (Y - (k + 1)) r P.length).1 ∧ bs = BF1 l t P Y y S a s.1.1 s.1.2) noL_ok ?_ ?_
    · rintro ⟨⟨M, es⟩, i⟩ h0
      dsimp only at h0 ⊢
      refine cast (gi1_ev l t P Y M es y S i _ _ r a _).symm ?_
      have hgb := grpF_le cf.nd (Y - (k + 1)) r i
      have hs : grpF P (Y - (k + 1)) r (i + 1) = if r.testBit i ∧ ((grpF P (Y - (k + 1)) r i).2 < 0 ∨ (P.getD i []).getD (Y - (k + 1)) 0 = (grpF P (Y - (k + 1)) r i).2) then ((grpF P (Y - (k + 1)) r i).1 ||| 2 ^ i, (P.getD i []).getD (Y - (k + 1)) 0) else grpF P (Y - (k + 1)) r i := rfl
      have h16 : (grpF P (Y - (k + 1)) r i).1 < 16 := Nat.lt_of_lt_of_le hgb (Nat.pow_le_pow_right (n := 2) (by omega) (show i ≤ 4 by omega))
      generalize hRQ : RoundQ (σ := (Mde × Lst) × Nat) _ _ _ _ _ ((M, es), i) = RQ
      have fin : ∀ (o' : Nat) (d' : Int), grpF P (Y - (k + 1)) r (i + 1) = (o', d') → i < P.length → RQ .normal (VG1 P y S a r ((i : Int) + 1) d' o') (BF1 l t P Y y S a M es) := by
        intro o' d' he hlt
        rw [← hRQ]
        refine ⟨((M, es), i + 1), ?_, ?_, ?_, fitBs_refl _, fun _ _ _ h => h⟩
        · show i + 1 ≤ _; omega
        · show P.length - (i + 1) < P.length - i; omega
        · dsimp only; rw [he]; rfl
      generalize hg : grpF P (Y - (k + 1)) r i = g at hs h16 ⊢
      obtain ⟨o, dd⟩ := g
      dsimp only at hs h16 ⊢
      by_cases hlt : i < P.length
      · have hidx : (0 : Int) ≤ y ∧ y < ((P.getD i []).length : Nat) := by rw [cf.len i hlt]; omega
        have hi4 : i < 4 := by omega
        have hpow : (1 : Int) * (2 : Int) ^ min i IntKind.i64.bits ≤ 8 ∧ 0 ≤ (1 : Int) * (2 : Int) ^ min i IntKind.i64.bits := by
          match i, hi4 with
          | 0, _ => exact ⟨by decide, by decide⟩
          | 1, _ => exact ⟨by decide, by decide⟩
          | 2, _ => exact ⟨by decide, by decide⟩
          | 3, _ => exact ⟨by decide, by decide⟩
        have ey : y.toNat = Y - (k + 1) := by omega
        refine cond_dk (by omega) (cond_dk ⟨by omega, by omega⟩ (cond_d (fun h => by omega) (fun _ => ?_)))
        rw [show (i : Int).toNat = i by omega, ey, or_v o h16 i hi4]
        refine cond_d (fun b => ?_) (fun b => ?_)
        · have b := (bit_v r hr i hi4).1 b
          refine cond_d (fun g1 => cond_d (fun h => by omega) (fun _ => cond_r (by omega) (cond_dk hidx (cond_r (by omega) (fin _ _ ?_ hlt))))) (fun g1 => cond_dk hidx (cond_d (fun g2 => cond_d (fun h => by omega) (fun _ => cond_r (by omega) (cond_dk hidx (cond_r (by omega) (fin _ _ ?_ hlt))))) (fun g2 => cond_r (by omega) (fin _ _ ?_ hlt))))
          · rw [hs, if_pos ⟨b, .inl g1⟩]
          · rw [hs, if_pos ⟨b, .inr g2⟩]
          · rw [hs, if_neg (fun h => h.2.elim g1 g2)]
        · have b : ¬ r.testBit i = true := fun h => b ((bit_v r hr i hi4).2 h)
          refine cond_r (by omega) (fin _ _ ?_ hlt)
          rw [hs, if_neg (fun h => b h.1)]
      · obtain rfl : i = P.length := by omega
        refine cond_d (fun h => by omega) (fun _ => ?_)
        rw [← hRQ]
        refine ⟨rfl, ?_, rfl⟩
        rw [hg]; rfl
    · rintro lock tt h K ⟨M, es, hf, _, k1⟩
      refine ⟨((M, es), 0), hf, Nat.zero_le _, ?_⟩
      rintro e vs bs ⟨rfl, rfl, rfl⟩
      exact k1 _ _ rfl
  · rintro lock tt h K ⟨M, es, hf, hc, _⟩
    exact (hh hc).elim
end

section
variable {l : List Stk} {t : Tst} {D0 : List Int} {Y k : Nat}

theorem hc61 {h : VH} (h6 : (h.at 2).cs? = some (stD l :: tsL t, 74)) : isD h 4 (.ptr (.own 2 0)) (.tp (stD l :: tsL t)) := ⟨_, _, h6, isD_l, ⟨rfl, rfl, fun _ _ => rfl⟩, ⟨rfl, rfl⟩, ⟨rfl, rfl⟩, trivial⟩

/-! 'follow'. -/
structure WS1 where
  M0 : Mde
  j : Nat
  M : Mde
  es : Lst
noncomputable def OW1 (l : List Stk) (t : Tst) (P : List (List Int)) (Y k : Nat) (y S d : Int) (O : Nat) (a : Nat → Int) (s : WS1) (e : VEx) (vs : List VV) (bs : List VB) : Prop :=
  e = .ret ∧ vs = VFo1 ∧ ∃ st n', (PostW l t P Y k O d a s.M0 false st ∧ bs = BFo1 l t P Y y S O d a st.M st.es n') ∨ (PostW l t P Y k O d a s.M0 true st ∧ bs = BFoT1 l t P Y y S O d a st.M st.es n')
theorem lFo1_ok (hfind : SpOk Try.prog (findR1 l t [D0] Y k).1 (findR1 l t [D0] Y k).2) {y S d : Int} {O : Nat} {a : Nat → Int} : LSound Try.prog true (.block 0 (.loop (loopB 0 (bodyOf Try.prog 74)))) (ntOf Try.prog 74) (lFo1 l t [D0] Y k y S d O a) := by
  by_cases hh : y = (Y : Int) - (k + 1 : Nat) ∧ Cfg l t [D0] Y ∧ k + 1 ≤ Y ∧ O < 2 ^ [D0].length ∧ leftB l a
  · obtain ⟨hy, cf, hk, hO, ha⟩ := hh
    have hl6 := cf.hl.1
    have hY4 := cf.Y4
    have hm0 : ∀ i, i < l.length → 0 ≤ a i := fun i hi => (ha.1 i hi).1
    have hO16 : O < 16 := Nat.lt_of_lt_of_le hO (Nat.pow_le_pow_right (n := 2) (by omega) (show 1 ≤ 4 by omega))
    have htab : ∀ f T, tabS [meetsR l t, lessT, findR1 l t [D0] Y k] f = some T → SpOk Try.prog f T := tab_ok _ (fun x hx => by
      simp only [List.mem_cons, List.not_mem_nil, or_false] at hx
      rcases hx with rfl | rfl | rfl
      · exact meetsR_ok l t
      · exact lessT_ok
      · exact hfind)
    refine loop_row hmix (noL_good htab) (lsp := tabB [(2, lIo1 l t [D0] Y y S O d a)]) (un := 10) (ds := dsC) (ns := nsFo1) (nx := 20) (fun _ : WS1 => VFo1) (fun s => BFo1 l t [D0] Y y S O d a s.M s.es (chAt a l.length s.j))
      (fun s => s.j < (allC a l.length).length ∧ LostOk l t [D0] Y s.es ∧ Same Y (k + 1) O s.M0 s.M ∧ ∀ i, i < s.j → meetsF l t (chAt a l.length i) y d = true → planF l t [D0] Y k O (lsF a (chAt a l.length i) 6) = none) (fun s => (allC a l.length).length - s.j) (OW1 l t [D0] Y k y S d O a) (lsp_one (by kernel_rfl) lIo1_ok) ?_ ?_
    · rintro ⟨M0, j, M, es⟩ ⟨hj, hlost, hsame, hbad⟩
      dsimp only at hj hlost hsame hbad
      refine cast (fr1_ev l t D0 Y k M es y S d O a _ _).symm ?_
      have hcm := chAt_mem (most := a) (k := l.length) hj
      obtain ⟨hleft, hbd, hnc⟩ := left_less ha hcm hl6
      have hnx := scan_nxt (most := a) l.length (chAt a l.length j)
      have hnext := chAt_next hm0 hj
      have hsucc : ∀ x, meetsF l t (chAt a l.length j) y d = true → planF l t [D0] Y k O (lsF a (chAt a l.length j) 6) = some x → folF l t [D0] Y k a O d = some (chAt a l.length j, x) := fun x g1 g2 => by
        refine tryF_some (c0 := fun _ => 0) hj (fun i hi hm => hbad i hi ?_) ?_ g2
        · rw [hy]; exact hm
        · show meetsF l t (chAt a l.length j) _ d = true
          rw [← hy]; exact g1
      generalize hRQ : RoundQ (σ := WS1) _ _ _ _ _ ⟨M0, j, M, es⟩ = RQ
      generalize hcj : chAt a l.length j = c at hcm hleft hbd hnc hnx hnext hsucc ⊢
      -- behind the body: the next choice
      have fin : ∀ (M' : Mde) (es' : Lst), LostOk l t [D0] Y es' → Same Y (k + 1) O M0 M' → (meetsF l t c y d = true → planF l t [D0] Y k O (lsF a c 6) = none) → ∀ (k2 : Nat) (n' : Nat → Int), scanC a l.length c = (k2, n') →
        (bif decide ((k2 : Int) - 1 < 0) then RQ .ret VFo1 (BFo1 l t [D0] Y y S O d a M' es' n')
        else bif decide (0 ≤ (k2 : Int) - 1 ∧ (k2 : Int) - 1 < (6 : Nat)) then (bif decide (((k2 : Int) - 1).toNat * 1 < 6) then (bif inK .i64 (n' (((k2 : Int) - 1).toNat * 1) + 1) then (bif decide (0 ≤ (k2 : Int) - 1 ∧ (k2 : Int) - 1 < (6 : Nat)) then (bif decide (((k2 : Int) - 1).toNat * 1 + 1 ≤ 6) then
          RQ .normal VFo1 (BFo1 l t [D0] Y y S O d a M' es' (setF n' (((k2 : Int) - 1).toNat * 1) [n' (((k2 : Int) - 1).toNat * 1) + 1])) else False) else False) else False) else False) else False) := by
        intro M' es' hl' hs' hno k2 n' hk2
        have hbad' : ∀ i, i < j + 1 → meetsF l t (chAt a l.length i) y d = true → planF l t [D0] Y k O (lsF a (chAt a l.length i) 6) = none := fun i hi hm => by
          by_cases e : i = j
          · subst e; rw [hcj] at hm ⊢; exact hno hm
          · exact hbad i (by omega) hm
        rw [hk2] at hnx
        obtain ⟨hk1, hnx⟩ := hnx
        dsimp only at hk1
        cases k2 with
        | zero =>
          dsimp only at hnx
          have hj1 : j + 1 = (allC a l.length).length := by
            rcases hnext with ⟨h1, _⟩ | ⟨_, h2⟩
            · exact h1
            · rw [hnx] at h2; cases h2
          refine cond_d (fun _ => ?_) (fun h => by omega)
          rw [← hRQ]
          refine ⟨rfl, rfl, ⟨M', es'⟩, n', .inl ⟨?_, rfl⟩⟩
          have hf : folF l t [D0] Y k a O d = none := tryF_none (fun c' hc' hm' => by
            obtain ⟨i, hi, rfl⟩ := List.getElem_of_mem hc'
            have e : chAt a l.length i = (allC a l.length)[i] := by
              unfold chAt
              rw [List.getD_eq_getElem?_getD, List.getElem?_eq_getElem hi]; rfl
            rw [← e]
            refine hbad' i (by omega) ?_
            rw [e, hy]; exact hm')
          exact ⟨by rw [hf]; rfl, hl', hs', fun c' x' he => by rw [hf] at he; cases he⟩
        | succ k2 =>
          dsimp only at hnx
          have e : (((k2 + 1 : Nat) : Int) - 1) = (k2 : Int) := by omega
          rw [e]
          have e2 : (k2 : Int).toNat * 1 = k2 := by omega
          rw [e2]
          obtain ⟨hj1, hch⟩ : j + 1 < (allC a l.length).length ∧ chAt a l.length (j + 1) = setC n' k2 (n' k2 + 1) := by
            rcases hnext with ⟨_, h2⟩ | ⟨h1, h2⟩
            · rw [hnx] at h2; cases h2
            · rw [hnx] at h2
              injection h2 with h2
              exact ⟨h1, h2.symm⟩
          have hb6 := (left_less ha (chAt_mem hj1) hl6).2.2 k2 (by omega)
          rw [hch, setC_same] at hb6
          refine cond_d (fun h => by omega) (fun _ => cond_dk ⟨by omega, by omega⟩ (cond_dk (by omega) (cond_r (by omega) (cond_dk ⟨by omega, by omega⟩ (cond_dk (by omega) ?_)))))
          rw [← hRQ]
          refine ⟨⟨M0, j + 1, M', es'⟩, ⟨hj1, hl', hs', hbad'⟩, ?_, rfl, ?_, fun _ _ _ h => h⟩
          · show (allC a l.length).length - (j + 1) < (allC a l.length).length - j
            omega
          · dsimp only
            rw [hch]
            exact fitBs_refl _
      have hir : -9223372036854775808 ≤ (l.length : Int) - 1 ∧ (l.length : Int) - 1 ≤ 9223372036854775807 := by omega
      have hF : ∀ (M' : Mde) (es' : Lst) (h : VH) (tt : Slots), h.nx = 21 → fitB (nsFo1.zip (BFo1 l t [D0] Y y S O d a M' es' c)) h → fitS (dsI.zip (VFi1 (l.length - 1))) tt → FitP 0 h tt ⟨21, nsFo1.zip (BFo1 l t [D0] Y y S O d a M' es' c)⟩ (dsI.zip (VFi1 (l.length - 1))) := fun _ _ _ _ h1 h2 h3 => ⟨⟨rfl, h1, h2⟩, h3⟩
      refine ⟨c, hc61 rfl, rfl, ⟨⟨hnc, cf.hl, cf.hp, cf.ht⟩, by omega, by omega⟩, cond_i (fun g => ?_) (fun g => ?_)⟩
      · have g : meetsF l t c y d = false := by simpa using g
        refine cond_r hir ⟨M, es, c, hF M es _ _ rfl ?_ ?_, hl6, fin M es hlost hsame (fun h => by rw [g] at h; cases h)⟩
        · exact ⟨VB.fit_refl _, VB.fit_refl _, VB.fit_refl _, VB.fit_refl _, VB.fit_refl _, VB.fit_refl _, VB.fit_refl _, VB.fit_refl _, VB.fit_refl _, VB.fit_refl _, VB.fit_refl _, VB.fit_refl _, VB.fit_refl _, VB.fit_refl _, VB.fit_refl _, VB.fit_refl _, VB.fit_refl _, VB.fit_refl _, VB.fit_refl _, VB.fit_refl _, trivial⟩
        · exact ⟨rfl, rfl, rfl, rfl, rfl, trivial⟩
      · have g : meetsF l t c y d = true := by simpa using g
        refine cond_r (by omega) ⟨a, c, rfl, rfl, hbd, O, lsF a c 6, M, es, ⟨rfl, rfl, rfl, rfl⟩, ⟨rfl, by omega⟩, ⟨rfl, rfl, rfl, rfl, rfl, rfl, rfl, rfl, rfl, rfl, rfl, rfl, trivial⟩, ⟨by omega, rfl, rfl⟩, ⟨by omega, hO, hleft, hlost⟩, ?_⟩
        rintro b s ⟨p1, p2, p3, p4⟩
        refine cond_i (fun g2 => ?_) (fun g2 => ?_)
        · have g2 : b = false := by simpa using g2
          refine cond_r hir ⟨s.M, s.es, c, hF s.M s.es _ _ rfl ?_ ?_, hl6, fin s.M s.es p2 (hsame.trans p3.later) (fun _ => ?_)⟩
          · exact ⟨VB.fit_refl _, VB.fit_refl _, VB.fit_refl _, VB.fit_refl _, VB.fit_refl _, VB.fit_refl _, VB.fit_refl _, VB.fit_refl _, VB.fit_refl _, VB.fit_refl _, VB.fit_refl _, VB.fit_refl _, VB.fit_refl _, VB.fit_refl _, VB.fit_refl _, VB.fit_refl _, VB.fit_refl _, VB.fit_refl _, VB.fit_refl _, VB.fit_refl _, trivial⟩
          · exact ⟨rfl, rfl, rfl, rfl, rfl, trivial⟩
          · rw [g2] at p1
            cases hx : planF l t [D0] Y k O (lsF a c 6) with
            | none => rfl
            | some x => rw [hx] at p1; cases p1
        · have g2 : b = true := by simpa using g2
          subst g2
          obtain ⟨x, hx⟩ : ∃ x, planF l t [D0] Y k O (lsF a c 6) = some x := by
            cases hx : planF l t [D0] Y k O (lsF a c 6) with
            | none => rw [hx] at p1; cases p1
            | some x => exact ⟨x, rfl⟩
          have hyY : (0 : Int) ≤ y ∧ y < (Y : Int) := ⟨by omega, by omega⟩
          have hyY6 : 0 + y.toNat * 6 + 6 ≤ Y * 6 := by omega
          have fin2 : ∀ M2 : Mde, (∀ i, i < [D0].length → M2 i = if O.testBit i = true then wrM (s.M i) y c else s.M i) → (∀ i, [D0].length ≤ i → M2 i = s.M i) → ∀ bs, bs = BFoT1 l t [D0] Y y S O d a M2 s.es c → RQ .ret VFo1 bs := by
            rintro M2 h2 h3 bs rfl
            rw [← hRQ]
            exact ⟨rfl, rfl, ⟨M2, s.es⟩, c, .inr ⟨postW_true hk hO (by omega) (hsucc x g hx) hx hsame ⟨p1, p2, p3, p4⟩ h2 h3, rfl⟩⟩
          refine cond_d (fun b0 => cond_dk hyY (cond_dk hyY6 ?_)) (fun b0 => ?_)
          · have b0 : O.testBit 0 = true := (bit_v O hO16 0 (by omega)).1 b0
            exact fin2 (fun i => if i = 0 then wrM (s.M 0) y c else (s.M i)) (fun i hi => by
                match i, hi with
                | 0, _ => rw [if_pos b0]; rfl
                | _ + 1, hi => exact absurd hi (by show ¬ _ + 1 < 1; omega)) (fun i hi => by
                have hi : 1 ≤ i := hi
                rw [if_neg (show ¬ i = 0 by omega)]) _ rfl
          · have b0 : ¬ O.testBit 0 = true := fun h => b0 ((bit_v O hO16 0 (by omega)).2 h)
            exact fin2 (fun i => if i = 0 then s.M 0 else (s.M i)) (fun i hi => by
                match i, hi with
                | 0, _ => rw [if_neg b0]; rfl
                | _ + 1, hi => exact absurd hi (by show ¬ _ + 1 < 1; omega)) (fun i hi => by
                have hi : 1 ≤ i := hi
                rw [if_neg (show ¬ i = 0 by omega)]) _ rfl
    · rintro lock tt h K ⟨M, es, hf, ⟨_, _, hpw⟩, k1, k2⟩
      refine ⟨⟨M, 0, M, es⟩, ?_, ⟨all_pos hm0, hpw.2.2.2, Same.refl _ _ _ _, fun i hi => absurd hi (Nat.not_lt_zero i)⟩, ?_⟩
      · dsimp only
        rw [chAt_zero hm0]; exact hf
      · rintro e vs bs ⟨rfl, rfl, st, n', ⟨hp, rfl⟩ | ⟨hp, rfl⟩⟩
        · exact k1 st n' hp
        · exact k2 st n' hp
  · rintro lock tt h K ⟨M, es, hf, ⟨h1, h2, h3⟩, _⟩
    exact (hh ⟨h1, h2, h3.1, h3.2.1, h3.2.2.1⟩).elim
end
end Go.Sx.Bln

/- blend: Plan's closures with 1 paths, as rows. -/

namespace Go.Sx.Bln
open Go Go.Sx Go.Proofs
set_option maxRecDepth 1000000

section
variable {l : List Stk} {t : Tst} {D0 : List Int} {Y k : Nat}

theorem liftW1 {y S o d : Int} {a : Nat → Int} {b : Bool} {s : St} {M : Mde} {es : Lst} {nx : Nat} {bs : List (Nat × VB)} (hnx : 12 ≤ nx) (hat : atL nsB1 (BP1 l t [D0] Y M es) ⟨nx, bs⟩)
    (hc : CallsV Try.prog 40 [.agg (I y :: I S :: nL a), I o, I d, .ptr (.own 3 0), .ptr (.own 10 0), .ptr (.own 1 0), .ptr (.own 6 0)] ⟨12, nsB1.zip (BP1 l t [D0] Y M es)⟩ (.ret (.bool b)) ⟨12, nsB1.zip (BP1 l t [D0] Y s.M s.es)⟩) :
    CallsV Try.prog 40 [.agg (I y :: I S :: nL a), I o, I d, .ptr (.own 3 0), .ptr (.own 10 0), .ptr (.own 1 0), .ptr (.own 6 0)] ⟨nx, bs⟩ (.ret (.bool b)) ⟨nx, (7, .fam [] (Y * 6) (s.M 0) 80) :: (8, .map kS .bool s.es) :: bs⟩ := by
  obtain ⟨e0, e1, e2, e3, e4, e5, e6, e7, e8, e9, e10, e11, _⟩ := hat
  have hput : (VH.mk nx ((7, .fam [] (Y * 6) (s.M 0) 80) :: (8, .map kS .bool s.es) :: bs)).at = upd (upd (VH.mk nx bs).at 8 (.map kS .bool s.es)) 7 (.fam [] (Y * 6) (s.M 0) 80) := by
    have q1 : (VH.mk nx ((8, VB.map kS .bool s.es) :: bs)).at = upd (VH.mk nx bs).at 8 (.map kS .bool s.es) := VH.at_put ⟨nx, bs⟩ 8 _ (by rw [e8]; exact fun h => by cases h)
    have q0 : (VH.mk nx ((7, VB.fam [] (Y * 6) (s.M 0) 80) :: (8, VB.map kS .bool s.es) :: bs)).at = upd (upd (VH.mk nx bs).at 8 (.map kS .bool s.es)) 7 (.fam [] (Y * 6) (s.M 0) 80) := by
      rw [← q1]
      exact VH.at_put ⟨nx, (8, VB.map kS .bool s.es) :: bs⟩ 7 _ (by rw [q1]; simp only [upd, show ¬ (7 : Nat) = 8 by omega, if_false]; rw [e7]; exact fun h => by cases h)
    exact q0
  have := calls_ren (P := Try.prog) (h := ⟨nx, bs⟩) (h1 := ⟨nx, (7, .fam [] (Y * 6) (s.M 0) 80) :: (8, .map kS .bool s.es) :: bs⟩) id (fun _ _ _ _ h => h) hc (fun n hn => by
    have hn : n < 12 := hn
    match n, hn with
    | 0, _ => exact ⟨trivial, e0⟩
    | 1, _ => exact ⟨trivial, e1⟩
    | 2, _ => exact ⟨trivial, e2⟩
    | 3, _ => exact ⟨trivial, e3⟩
    | 4, _ => exact ⟨trivial, e4⟩
    | 5, _ => exact ⟨trivial, e5⟩
    | 6, _ => exact ⟨trivial, e6⟩
    | 7, _ => exact ⟨trivial, e7⟩
    | 8, _ => exact ⟨trivial, e8⟩
    | 9, _ => exact ⟨trivial, e9⟩
    | 10, _ => exact ⟨trivial, e10⟩
    | 11, _ => exact ⟨trivial, e11⟩
    | _ + 12, hn => exact absurd hn (by omega)) (fun n hn => by
    have hn : n < 12 := hn
    match n, hn with
    | 0, _ => exact ⟨trivial, rfl, by rw [hput]; simp only [upd, show ¬ (0 : Nat) = 8 by omega, show ¬ (0 : Nat) = 7 by omega, if_false, id]; exact e0⟩
    | 1, _ => exact ⟨trivial, rfl, by rw [hput]; simp only [upd, show ¬ (1 : Nat) = 8 by omega, show ¬ (1 : Nat) = 7 by omega, if_false, id]; exact e1⟩
    | 2, _ => exact ⟨trivial, rfl, by rw [hput]; simp only [upd, show ¬ (2 : Nat) = 8 by omega, show ¬ (2 : Nat) = 7 by omega, if_false, id]; exact e2⟩
    | 3, _ => exact ⟨trivial, rfl, by rw [hput]; simp only [upd, show ¬ (3 : Nat) = 8 by omega, show ¬ (3 : Nat) = 7 by omega, if_false, id]; exact e3⟩
    | 4, _ => exact ⟨trivial, rfl, by rw [hput]; simp only [upd, show ¬ (4 : Nat) = 8 by omega, show ¬ (4 : Nat) = 7 by omega, if_false, id]; exact e4⟩
    | 5, _ => exact ⟨trivial, rfl, by rw [hput]; simp only [upd, show ¬ (5 : Nat) = 8 by omega, show ¬ (5 : Nat) = 7 by omega, if_false, id]; exact e5⟩
    | 6, _ => exact ⟨trivial, rfl, by rw [hput]; simp only [upd, show ¬ (6 : Nat) = 8 by omega, show ¬ (6 : Nat) = 7 by omega, if_false, id]; exact e6⟩
    | 7, _ => exact ⟨trivial, rfl, by rw [hput]; simp [upd]; rfl⟩
    | 8, _ => exact ⟨trivial, rfl, by rw [hput]; simp [upd]; rfl⟩
    | 9, _ => exact ⟨trivial, rfl, by rw [hput]; simp only [upd, show ¬ (9 : Nat) = 8 by omega, show ¬ (9 : Nat) = 7 by omega, if_false, id]; exact e9⟩
    | 10, _ => exact ⟨trivial, rfl, by rw [hput]; simp only [upd, show ¬ (10 : Nat) = 8 by omega, show ¬ (10 : Nat) = 7 by omega, if_false, id]; exact e10⟩
    | 11, _ => exact ⟨trivial, rfl, by rw [hput]; simp only [upd, show ¬ (11 : Nat) = 8 by omega, show ¬ (11 : Nat) = 7 by omega, if_false, id]; exact e11⟩
    | _ + 12, hn => exact absurd hn (by omega)) (fun q hq => by
    rw [hput]
    have hq' : ∀ n, n < 12 → n ≠ q := fun n hn => hq n hn
    simp only [upd, if_neg (hq' 7 (by omega)).symm, if_neg (hq' 8 (by omega)).symm]) (fun n hn => by
    have hn : n < 12 := hn
    match n, hn with
    | 0, _ => rfl
    | 1, _ => rfl
    | 2, _ => rfl
    | 3, _ => rfl
    | 4, _ => rfl
    | 5, _ => rfl
    | 6, _ => rfl
    | 7, _ => rfl
    | 8, _ => rfl
    | 9, _ => rfl
    | 10, _ => rfl
    | 11, _ => rfl
    | _ + 12, hn => exact absurd hn (by omega)) rfl rfl
  exact this
theorem liftF1 {y S o d : Int} {a : Nat → Int} {b : Bool} {s : St} {M : Mde} {es : Lst} {nx : Nat} {bs : List (Nat × VB)} (hnx : 12 ≤ nx) (hat : atL nsB1 (BP1 l t [D0] Y M es) ⟨nx, bs⟩)
    (hc : CallsV Try.prog 44 [.agg (I y :: I S :: nL a), .ptr (.own 4 0), .ptr (.own 9 0), .ptr (.own 1 0), .ptr (.own 11 0)] ⟨12, nsB1.zip (BP1 l t [D0] Y M es)⟩ (.ret (.bool b)) ⟨12, nsB1.zip (BP1 l t [D0] Y s.M s.es)⟩) :
    CallsV Try.prog 44 [.agg (I y :: I S :: nL a), .ptr (.own 4 0), .ptr (.own 9 0), .ptr (.own 1 0), .ptr (.own 11 0)] ⟨nx, bs⟩ (.ret (.bool b)) ⟨nx, (7, .fam [] (Y * 6) (s.M 0) 80) :: (8, .map kS .bool s.es) :: bs⟩ := by
  obtain ⟨e0, e1, e2, e3, e4, e5, e6, e7, e8, e9, e10, e11, _⟩ := hat
  have hput : (VH.mk nx ((7, .fam [] (Y * 6) (s.M 0) 80) :: (8, .map kS .bool s.es) :: bs)).at = upd (upd (VH.mk nx bs).at 8 (.map kS .bool s.es)) 7 (.fam [] (Y * 6) (s.M 0) 80) := by
    have q1 : (VH.mk nx ((8, VB.map kS .bool s.es) :: bs)).at = upd (VH.mk nx bs).at 8 (.map kS .bool s.es) := VH.at_put ⟨nx, bs⟩ 8 _ (by rw [e8]; exact fun h => by cases h)
    have q0 : (VH.mk nx ((7, VB.fam [] (Y * 6) (s.M 0) 80) :: (8, VB.map kS .bool s.es) :: bs)).at = upd (upd (VH.mk nx bs).at 8 (.map kS .bool s.es)) 7 (.fam [] (Y * 6) (s.M 0) 80) := by
      rw [← q1]
      exact VH.at_put ⟨nx, (8, VB.map kS .bool s.es) :: bs⟩ 7 _ (by rw [q1]; simp only [upd, show ¬ (7 : Nat) = 8 by omega, if_false]; rw [e7]; exact fun h => by cases h)
    exact q0
  have := calls_ren (P := Try.prog) (h := ⟨nx, bs⟩) (h1 := ⟨nx, (7, .fam [] (Y * 6) (s.M 0) 80) :: (8, .map kS .bool s.es) :: bs⟩) id (fun _ _ _ _ h => h) hc (fun n hn => by
    have hn : n < 12 := hn
    match n, hn with
    | 0, _ => exact ⟨trivial, e0⟩
    | 1, _ => exact ⟨trivial, e1⟩
    | 2, _ => exact ⟨trivial, e2⟩
    | 3, _ => exact ⟨trivial, e3⟩
    | 4, _ => exact ⟨trivial, e4⟩
    | 5, _ => exact ⟨trivial, e5⟩
    | 6, _ => exact ⟨trivial, e6⟩
    | 7, _ => exact ⟨trivial, e7⟩
    | 8, _ => exact ⟨trivial, e8⟩
    | 9, _ => exact ⟨trivial, e9⟩
    | 10, _ => exact ⟨trivial, e10⟩
    | 11, _ => exact ⟨trivial, e11⟩
    | _ + 12, hn => exact absurd hn (by omega)) (fun n hn => by
    have hn : n < 12 := hn
    match n, hn with
    | 0, _ => exact ⟨trivial, rfl, by rw [hput]; simp only [upd, show ¬ (0 : Nat) = 8 by omega, show ¬ (0 : Nat) = 7 by omega, if_false, id]; exact e0⟩
    | 1, _ => exact ⟨trivial, rfl, by rw [hput]; simp only [upd, show ¬ (1 : Nat) = 8 by omega, show ¬ (1 : Nat) = 7 by omega, if_false, id]; exact e1⟩
    | 2, _ => exact ⟨trivial, rfl, by rw [hput]; simp only [upd, show ¬ (2 : Nat) = 8 by omega, show ¬ (2 : Nat) = 7 by omega, if_false, id]; exact e2⟩
    | 3, _ => exact ⟨trivial, rfl, by rw [hput]; simp only [upd, show ¬ (3 : Nat) = 8 by omega, show ¬ (3 : Nat) = 7 by omega, if_false, id]; exact e3⟩
    | 4, _ => exact ⟨trivial, rfl, by rw [hput]; simp only [upd, show ¬ (4 : Nat) = 8 by omega, show ¬ (4 : Nat) = 7 by omega, if_false, id]; exact e4⟩
    | 5, _ => exact ⟨trivial, rfl, by rw [hput]; simp only [upd, show ¬ (5 : Nat) = 8 by omega, show ¬ (5 : Nat) = 7 by omega, if_false, id]; exact e5⟩
    | 6, _ => exact ⟨trivial, rfl, by rw [hput]; simp only [upd, show ¬ (6 : Nat) = 8 by omega, show ¬ (6 : Nat) = 7 by omega, if_false, id]; exact e6⟩
    | 7, _ => exact ⟨trivial, rfl, by rw [hput]; simp [upd]; rfl⟩
    | 8, _ => exact ⟨trivial, rfl, by rw [hput]; simp [upd]; rfl⟩
    | 9, _ => exact ⟨trivial, rfl, by rw [hput]; simp only [upd, show ¬ (9 : Nat) = 8 by omega, show ¬ (9 : Nat) = 7 by omega, if_false, id]; exact e9⟩
    | 10, _ => exact ⟨trivial, rfl, by rw [hput]; simp only [upd, show ¬ (10 : Nat) = 8 by omega, show ¬ (10 : Nat) = 7 by omega, if_false, id]; exact e10⟩
    | 11, _ => exact ⟨trivial, rfl, by rw [hput]; simp only [upd, show ¬ (11 : Nat) = 8 by omega, show ¬ (11 : Nat) = 7 by omega, if_false, id]; exact e11⟩
    | _ + 12, hn => exact absurd hn (by omega)) (fun q hq => by
    rw [hput]
    have hq' : ∀ n, n < 12 → n ≠ q := fun n hn => hq n hn
    simp only [upd, if_neg (hq' 7 (by omega)).symm, if_neg (hq' 8 (by omega)).symm]) (fun n hn => by
    have hn : n < 12 := hn
    match n, hn with
    | 0, _ => rfl
    | 1, _ => rfl
    | 2, _ => rfl
    | 3, _ => rfl
    | 4, _ => rfl
    | 5, _ => rfl
    | 6, _ => rfl
    | 7, _ => rfl
    | 8, _ => rfl
    | 9, _ => rfl
    | 10, _ => rfl
    | 11, _ => rfl
    | _ + 12, hn => exact absurd hn (by omega)) rfl rfl
  exact this

theorem follow_v1 (hfind : SpOk Try.prog (findR1 l t [D0] Y k).1 (findR1 l t [D0] Y k).2) (cf : Cfg l t [D0] Y) {y S d : Int} {O : Nat} {a : Nat → Int} {M : Mde} {es : Lst} (hy : y = (Y : Int) - (k + 1 : Nat)) (hp : PreW l t [D0] Y k O a es) :
    ∃ b s, PostW l t [D0] Y k O d a M b s ∧ CallsV Try.prog 40 [.agg (I y :: I S :: nL a), I O, I d, .ptr (.own 3 0), .ptr (.own 10 0), .ptr (.own 1 0), .ptr (.own 6 0)] ⟨12, nsB1.zip (BP1 l t [D0] Y M es)⟩ (.ret (.bool b)) ⟨12, nsB1.zip (BP1 l t [D0] Y s.M s.es)⟩ := by
  have hall : LoopsOk Try.prog 74 [(0, lFo1 l t [D0] Y k y S d O a)] := fun x hx => by
    simp only [List.mem_singleton] at hx
    subst hx
    exact ⟨by kernel_rfl, lFo1_ok hfind⟩
  obtain ⟨r, h', ⟨b, s, hw, rfl, hf⟩, hc⟩ := of_callN (callL_good hmix noSp hall (un := 10) 20) (f := 40) (args := [.agg (I y :: I S :: nL a), I O, I d, .ptr (.own 3 0), .ptr (.own 10 0), .ptr (.own 1 0), .ptr (.own 6 0)]) (h := ⟨12, nsB1.zip (BP1 l t [D0] Y M es)⟩) (K := fun r h' => ∃ b s, PostW l t [D0] Y k O d a M b s ∧ r = .ret (.bool b) ∧ fitB (nsB1.zip (BP1 l t [D0] Y s.M s.es)) h') (by
    refine cast (fob1_ev l t D0 Y k M es y S d O a _).symm ⟨M, es, ⟨⟨rfl, rfl, VB.fit_refl _, VB.fit_refl _, VB.fit_refl _, VB.fit_refl _, VB.fit_refl _, VB.fit_refl _, VB.fit_refl _, VB.fit_refl _, VB.fit_refl _, VB.fit_refl _, VB.fit_refl _, VB.fit_refl _, VB.fit_refl _, VB.fit_refl _, VB.fit_refl _, VB.fit_refl _, VB.fit_refl _, VB.fit_refl _, VB.fit_refl _, VB.fit_refl _, trivial⟩, rfl, rfl, rfl, rfl, trivial⟩, ⟨hy, cf, hp⟩, fun s n' hw => ⟨false, s, hw, rfl, VB.fit_refl _, VB.fit_refl _, VB.fit_refl _, VB.fit_refl _, VB.fit_refl _, VB.fit_refl _, VB.fit_refl _, VB.fit_refl _, VB.fit_refl _, VB.fit_refl _, VB.fit_refl _, VB.fit_refl _, trivial⟩, fun s n' hw => ⟨true, s, hw, rfl, VB.fit_refl _, VB.fit_refl _, VB.fit_refl _, VB.fit_refl _, VB.fit_refl _, VB.fit_refl _, VB.fit_refl _, VB.fit_refl _, VB.fit_refl _, VB.fit_refl _, VB.fit_refl _, VB.fit_refl _, trivial⟩⟩)
  exact ⟨b, s, hw, calls_weak hc (Nat.le_refl _) hf rfl rfl⟩
theorem folR1_ok (hfind : SpOk Try.prog (findR1 l t [D0] Y k).1 (findR1 l t [D0] Y k).2) (cf : Cfg l t [D0] Y) : SpOk Try.prog (folR1 l t [D0] Y k).1 (folR1 l t [D0] Y k).2 := by
  intro lock args h K hK
  simp only [folR1] at hK
  split at hK
  · rename_i nx bs
    obtain ⟨S', O, a, M, es, ⟨rfl, rfl, rfl, rfl⟩, ⟨rfl, hnx⟩, hat, ⟨hy, rfl, rfl, rfl⟩, hp, hK⟩ := hK
    obtain ⟨b, s, hw, hc⟩ := follow_v1 hfind cf hy hp
    exact ⟨_, _, hK b s hw, lock0 _ _, liftW1 hnx hat hc⟩
  · exact hK.elim

/-! 'find'. -/
structure FS1 where
  M0 : Mde
  r : Nat
  acc : Rsl
  s : St
def OF1 (l : List Stk) (t : Tst) (P : List (List Int)) (Y k : Nat) (y : Int) (S : Nat) (a : Nat → Int) (f : FS1) (e : VEx) (vs : List VV) (bs : List VB) : Prop :=
  (e = .exit 0 ∧ vs = VF1 y S a 0 ∧ ∃ st, PostF l t P Y (k + 1) S a f.M0 true st ∧ bs = BF1 l t P Y y S a st.M st.es) ∨ (e = .ret ∧ ∃ (r : Int) (st : St), PostF l t P Y (k + 1) S a f.M0 false st ∧ vs = VF1 y S a r ∧ bs = BF1 l t P Y y S a st.M st.es)
theorem lFi1_ok (hfol : SpOk Try.prog (folR1 l t [D0] Y k).1 (folR1 l t [D0] Y k).2) {y : Int} {S : Nat} {a : Nat → Int} : LSound Try.prog true (.block 0 (.loop (loopB 0 (bodyOf Try.prog 44)))) (ntOf Try.prog 44) (lFi1 l t [D0] Y k y S a) := by
  by_cases hh : y = (Y : Int) - (k + 1 : Nat) ∧ Cfg l t [D0] Y ∧ k + 1 ≤ Y ∧ leftB l a
  · obtain ⟨hy, cf, hk, ha⟩ := hh
    refine loop_rowD hmix (noL_good (tab1 hfol)) (un := 10) (ds := dsF1) (ns := nsF1) (nx := 13) (lsp := fun f : FS1 => tabB [(2, lG1 l t [D0] Y k y S a f.r)]) (fun f : FS1 => VF1 y S a f.r) (fun f => BF1 l t [D0] Y y S a f.s.M f.s.es) (fun f => DoneF l t [D0] Y k S a f.M0 f.r f.acc f.s) (fun f => f.r) (OF1 l t [D0] Y k y S a) (fun _ _ => lsp_one (by kernel_rfl) lG1_ok) ?_ ?_
    · rintro ⟨M0, r, acc, s⟩ hd
      dsimp only at hd ⊢
      refine cast (gm1_ev l t D0 Y k s.M s.es y S r a _).symm ?_
      have hr16 : r < 16 := Nat.lt_of_lt_of_le hd.lt (Nat.pow_le_pow_right (n := 2) (by omega) (show 1 ≤ 4 by omega))
      by_cases hr : r = 0
      · subst hr
        refine cond_d (fun h => by omega) (fun _ => .inl ⟨rfl, rfl, s, done_end hd, rfl⟩)
      · refine cond_dk (by omega) ⟨s.M, s.es, ⟨⟨rfl, rfl, VB.fit_refl _, VB.fit_refl _, VB.fit_refl _, VB.fit_refl _, VB.fit_refl _, VB.fit_refl _, VB.fit_refl _, VB.fit_refl _, VB.fit_refl _, VB.fit_refl _, VB.fit_refl _, VB.fit_refl _, VB.fit_refl _, trivial⟩, rfl, rfl, rfl, rfl, rfl, rfl, rfl, rfl, rfl, rfl, rfl, rfl, rfl, trivial⟩, ⟨by omega, hk, cf, hr16⟩, ?_⟩
        intro o d hg
        have ho : o < 2 ^ [D0].length := by
          have := grpF_le cf.nd (Y - (k + 1)) r [D0].length
          rw [hg] at this; exact this
        have ho16 : o < 16 := Nat.lt_of_lt_of_le ho (Nat.pow_le_pow_right (n := 2) (by omega) (show 1 ≤ 4 by omega))
        refine ⟨S, o, a, s.M, s.es, ⟨rfl, rfl, rfl, rfl⟩, ⟨rfl, by omega⟩, ⟨rfl, rfl, rfl, rfl, rfl, rfl, rfl, rfl, rfl, rfl, rfl, rfl, trivial⟩, ⟨hy, rfl, rfl, rfl⟩, ⟨hk, ho, ha, hd.lost⟩, ?_⟩
        intro b s' hw
        obtain ⟨d1, d2⟩ := done_step cf.nd hd hr hg (s' := s')
        refine cond_i (fun g => ?_) (fun g => ?_)
        · have g : b = false := by simpa using g
          subst g
          obtain ⟨z1, z2, z3⟩ := d2 hw
          refine ⟨key82, .inr ⟨rfl, r, ⟨s'.M, setE s'.es (kyF y S a) 1⟩, ⟨by rw [z1]; rfl, ?_, z3, fun x hx => by rw [z1] at hx; cases hx⟩, rfl, rfl⟩⟩
          have := lost_set z2 hk z1
          rw [← hy] at this
          exact this
        · have g : b = true := by simpa using g
          subst g
          obtain ⟨acc', hd', hlt⟩ := d1 hw
          rw [andnot_v r hr16 o ho16]
          exact ⟨⟨M0, _, acc', s'⟩, hd', hlt, rfl, fitBs_refl _, fun _ _ _ h => h⟩
    · rintro lock tt h K ⟨M, es, hf, ⟨_, _, hp⟩, k1, k2⟩
      refine ⟨⟨M, S, fun _ _ _ => 0, ⟨M, es⟩⟩, hf, done_start hp, ?_⟩
      rintro e vs bs (⟨rfl, rfl, st, hp, rfl⟩ | ⟨rfl, r, st, hp, rfl, rfl⟩)
      · exact k1 st hp
      · exact k2 st r hp
  · rintro lock tt h K ⟨M, es, hf, ⟨h1, h2, h3⟩, _⟩
    exact (hh ⟨h1, h2, h3.1, h3.2.2.1⟩).elim

theorem find_z1 (cf : Cfg l t [D0] Y) {y : Int} {S : Nat} {a : Nat → Int} {M : Mde} {es : Lst} (hy : y = (Y : Int)) (hp : PreF l t [D0] Y 0 S a es) :
    ∃ b s, PostF l t [D0] Y 0 S a M b s ∧ CallsV Try.prog 44 [.agg (I y :: I S :: nL a), .ptr (.own 4 0), .ptr (.own 9 0), .ptr (.own 1 0), .ptr (.own 11 0)] ⟨12, nsB1.zip (BP1 l t [D0] Y M es)⟩ (.ret (.bool b)) ⟨12, nsB1.zip (BP1 l t [D0] Y s.M s.es)⟩ := by
  have hall : LoopsOk Try.prog 44 [(0, lZ)] := fun x hx => by
    simp only [List.mem_singleton] at hx
    subst hx
    exact ⟨by kernel_rfl, lZ_ok⟩
  obtain ⟨r, h', ⟨rfl, hf⟩, hc⟩ := of_callN (callL_good hmix noSp hall (un := 10) 20) (f := 44) (args := [.agg (I y :: I S :: nL a), .ptr (.own 4 0), .ptr (.own 9 0), .ptr (.own 1 0), .ptr (.own 11 0)]) (h := ⟨12, nsB1.zip (BP1 l t [D0] Y M es)⟩) (K := fun r h' => r = .ret (.bool true) ∧ fitB (nsB1.zip (BP1 l t [D0] Y M es)) h') (by
    refine cast (fiz1_ev l t D0 Y M es y S a _).symm (cond_dk hy ⟨rfl, VB.fit_refl _, VB.fit_refl _, VB.fit_refl _, VB.fit_refl _, VB.fit_refl _, VB.fit_refl _, VB.fit_refl _, VB.fit_refl _, VB.fit_refl _, VB.fit_refl _, VB.fit_refl _, VB.fit_refl _, trivial⟩))
  exact ⟨true, ⟨M, es⟩, ⟨rfl, hp.2.2.2, Same.refl _ _ _ _, fun x _ i y j _ _ h1 h2 => by omega⟩, calls_weak hc (Nat.le_refl _) hf rfl rfl⟩
theorem find_s1 (hfol : SpOk Try.prog (folR1 l t [D0] Y k).1 (folR1 l t [D0] Y k).2) (cf : Cfg l t [D0] Y) {y : Int} {S : Nat} {a : Nat → Int} {M : Mde} {es : Lst} (hy : y = (Y : Int) - (k + 1 : Nat)) (hp : PreF l t [D0] Y (k + 1) S a es) :
    ∃ b s, PostF l t [D0] Y (k + 1) S a M b s ∧ CallsV Try.prog 44 [.agg (I y :: I S :: nL a), .ptr (.own 4 0), .ptr (.own 9 0), .ptr (.own 1 0), .ptr (.own 11 0)] ⟨12, nsB1.zip (BP1 l t [D0] Y M es)⟩ (.ret (.bool b)) ⟨12, nsB1.zip (BP1 l t [D0] Y s.M s.es)⟩ := by
  have hall : LoopsOk Try.prog 44 [(0, lFi1 l t [D0] Y k y S a)] := fun x hx => by
    simp only [List.mem_singleton] at hx
    subst hx
    exact ⟨by kernel_rfl, lFi1_ok hfol⟩
  obtain ⟨r, h', ⟨b, s, hw, rfl, hf⟩, hc⟩ := of_callN (callL_good hmix noSp hall (un := 10) 20) (f := 44) (args := [.agg (I y :: I S :: nL a), .ptr (.own 4 0), .ptr (.own 9 0), .ptr (.own 1 0), .ptr (.own 11 0)]) (h := ⟨12, nsB1.zip (BP1 l t [D0] Y M es)⟩) (K := fun r h' => ∃ b s, PostF l t [D0] Y (k + 1) S a M b s ∧ r = .ret (.bool b) ∧ fitB (nsB1.zip (BP1 l t [D0] Y s.M s.es)) h') (by
    refine cast (fib1_ev l t D0 Y k M es y S a _).symm ?_
    have hk := hp.1
    refine cond_d (fun h => by omega) (fun _ => ⟨key82, cond_d (fun h => ⟨false, ⟨M, es⟩, ?_, rfl, VB.fit_refl _, VB.fit_refl _, VB.fit_refl _, VB.fit_refl _, VB.fit_refl _, VB.fit_refl _, VB.fit_refl _, VB.fit_refl _, VB.fit_refl _, VB.fit_refl _, VB.fit_refl _, VB.fit_refl _, trivial⟩) (fun _ => ⟨M, es, ⟨⟨rfl, rfl, VB.fit_refl _, VB.fit_refl _, VB.fit_refl _, VB.fit_refl _, VB.fit_refl _, VB.fit_refl _, VB.fit_refl _, VB.fit_refl _, VB.fit_refl _, VB.fit_refl _, VB.fit_refl _, VB.fit_refl _, VB.fit_refl _, trivial⟩, rfl, rfl, rfl, rfl, rfl, rfl, rfl, rfl, trivial⟩, ⟨hy, cf, hp⟩, fun s hw => ⟨true, s, hw, rfl, VB.fit_refl _, VB.fit_refl _, VB.fit_refl _, VB.fit_refl _, VB.fit_refl _, VB.fit_refl _, VB.fit_refl _, VB.fit_refl _, VB.fit_refl _, VB.fit_refl _, VB.fit_refl _, VB.fit_refl _, trivial⟩, fun s r hw => ⟨false, s, hw, rfl, VB.fit_refl _, VB.fit_refl _, VB.fit_refl _, VB.fit_refl _, VB.fit_refl _, VB.fit_refl _, VB.fit_refl _, VB.fit_refl _, VB.fit_refl _, VB.fit_refl _, VB.fit_refl _, VB.fit_refl _, trivial⟩⟩)⟩)
    have h : valOf es (kyF y S a) = 1 := h
    have hn := lost_get cf.hl.1 hp.2.2.2 (S := S) (a := a) hk (by rw [← hy, h]; omega)
    exact ⟨by rw [hn]; rfl, hp.2.2.2, Same.refl _ _ _ _, fun x hx => by rw [hn] at hx; cases hx⟩)
  exact ⟨b, s, hw, calls_weak hc (Nat.le_refl _) hf rfl rfl⟩

theorem findR1_ok (cf : Cfg l t [D0] Y) : ∀ k : Nat, SpOk Try.prog (findR1 l t [D0] Y k).1 (findR1 l t [D0] Y k).2 := by
  have key : ∀ k : Nat, (∀ (y : Int) (S : Nat) (a : Nat → Int) (M : Mde) (es : Lst), y = (Y : Int) - k → PreF l t [D0] Y k S a es → ∃ b s, PostF l t [D0] Y k S a M b s ∧ CallsV Try.prog 44 [.agg (I y :: I S :: nL a), .ptr (.own 4 0), .ptr (.own 9 0), .ptr (.own 1 0), .ptr (.own 11 0)] ⟨12, nsB1.zip (BP1 l t [D0] Y M es)⟩ (.ret (.bool b)) ⟨12, nsB1.zip (BP1 l t [D0] Y s.M s.es)⟩) → SpOk Try.prog (findR1 l t [D0] Y k).1 (findR1 l t [D0] Y k).2 := by
    intro k hv lock args h K hK
    simp only [findR1] at hK
    split at hK
    · rename_i nx bs
      obtain ⟨S', a, M, es, ⟨rfl, rfl, rfl, rfl⟩, ⟨rfl, hnx⟩, hat, ⟨hy, rfl, rfl⟩, hp, hK⟩ := hK
      obtain ⟨b, s, hw, hc⟩ := hv _ S' a M es hy hp
      exact ⟨_, _, hK b s hw, lock0 _ _, liftF1 (o := 0) (d := 0) hnx hat hc⟩
    · exact hK.elim
  intro k
  induction k with
  | zero => exact key 0 (fun y S a M es hy hp => find_z1 cf (by omega) hp)
  | succ k ih => exact key (k + 1) (fun y S a M es hy hp => find_s1 (folR1_ok ih cf) cf hy hp)
end
end Go.Sx.Bln

/- blend: Plan with 1 paths of 1 years, evaluated. -/

namespace Go.Sx.Bln
open Go Go.Sx Go.Proofs
set_option maxRecDepth 1000000

theorem pl11_ev (l : List Stk) (t : Tst) (d00 : Int) (Q : VRes → VH → Prop) : callN Try.prog (tabS [asR l t, casksR l t, apR [[d00]], findR1 l t [[d00]] 1 1, listT]) noL 10 20 0 (.fn 17) [stD l, .agg (tsL t), pthD [[d00]]] ⟨0, []⟩ (fun r h => Q r h) =
  (isD (VH.mk (2) [(1, VB.cells [VV.tl [[d00]].length 1 (pthG [[d00]])] 26), (0, VB.cells [VV.tl t.T.length 1 (dG t.T), I t.far, I t.least] 25)]) 2 (VV.tl l.length 5 (stG l)) (stD l) ∧ isD (VH.mk (2) [(1, VB.cells [VV.tl [[d00]].length 1 (pthG [[d00]])] 26), (0, VB.cells [VV.tl t.T.length 1 (dG t.T), I t.far, I t.least] 25)]) 2 (VV.agg [VV.tl t.T.length 1 (dG t.T), I t.far, I t.least]) (VV.agg (tsL t)) ∧ bif !okAll l t then
 Q (VRes.ret (VV.tup [VV.nils, I 1])) (VH.mk (2) [(1, VB.cells [VV.tl [[d00]].length 1 (pthG [[d00]])] 26), (0, VB.cells [VV.tl t.T.length 1 (dG t.T), I t.far, I t.least] 25)])
 else isD (VH.mk (2) [(1, VB.cells [VV.tl [[d00]].length 1 (pthG [[d00]])] 26), (0, VB.cells [VV.tl t.T.length 1 (dG t.T), I t.far, I t.least] 25)]) 4 (VV.tl [[d00]].length 1 (pthG [[d00]])) (pthD [[d00]]) ∧ pthB [[d00]] ∧ bif !okPaths [[d00]] then
 Q (VRes.ret (VV.tup [VV.nils, I 2])) (VH.mk (2) [(1, VB.cells [VV.tl [[d00]].length 1 (pthG [[d00]])] 26), (0, VB.cells [VV.tl t.T.length 1 (dG t.T), I t.far, I t.least] 25)])
 else isD (maskH [0, 1, 2, 3, 4, 5, 6, 7, 8, 9, 10, 11] (VH.mk (12) ((10, VB.cells [VV.func 44 [] [VV.ptr (VA.own (4) 0), VV.ptr (VA.own (9) 0), VV.ptr (VA.own (1) 0), VV.ptr (VA.own (11) 0)]] 78) :: (11, VB.cells [VV.func 40 [] [VV.ptr (VA.own (3) 0), VV.ptr (VA.own (10) 0), VV.ptr (VA.own (1) 0), VV.ptr (VA.own (6) 0)]] 88) :: (11, VB.cells [VV.nilf] 88) :: (10, VB.cells [VV.nilf] 78) :: (9, VB.cells [VV.mp (8)] 77) :: (9, VB.cells [VV.opq (Value.map none)] 77) :: (8, VB.map ([PK.int IntKind.i64] ++ ([PK.int IntKind.i64] ++ ((List.replicate 6 [PK.int IntKind.i64]).flatten ++ []))) PK.bool []) :: (5, VB.cells [VV.slice (VA.fa (7) 0 0) (↑([[d00]].getD (Int.toNat (0 : Int)) []).length : Int).toNat (↑([[d00]].getD (Int.toNat (0 : Int)) []).length : Int).toNat] 76) :: ([(7, VB.fam [] ((↑([[d00]].getD (Int.toNat (0 : Int)) []).length : Int).toNat * (6)) (fun (_ : Nat) => (0 : Int)) 80)] ++ [(6, VB.cells [VV.slice (VA.own (5) 0) (1) (1)] 75), (6, VB.cells [VV.nils] 75), (5, VB.cells [VV.nils] 76), (4, VB.cells [I (↑([[d00]].getD (Int.toNat (0 : Int)) []).length : Int)] 3), (4, VB.cells [I 0] 3), (3, VB.cells [VV.ptr (VA.own (2) 0)] 72), (3, VB.cells [VV.nilp] 72), (2, VB.cells [VV.tl l.length 5 (stG l), VV.tl t.T.length 1 (dG t.T), I t.far, I t.least] 74), (1, VB.cells [VV.tl [[d00]].length 1 (pthG [[d00]])] 26), (0, VB.cells [VV.tl t.T.length 1 (dG t.T), I t.far, I t.least] 25)])))) 4 (VV.ptr (VA.own (2) 0)) (VV.tp (stD l :: tsL t)) ∧ l.length ≤ 6 ∧ ∃ (S' : Nat), ∃ (a : Nat → Int), ∃ (M : Mde), ∃ (es : Lst), (VV.ptr (VA.own 4 0) = VV.ptr (VA.own 4 0) ∧ VV.ptr (VA.own 9 0) = VV.ptr (VA.own 9 0) ∧ VV.ptr (VA.own 1 0) = VV.ptr (VA.own 1 0) ∧ VV.ptr (VA.own 11 0) = VV.ptr (VA.own 11 0)) ∧ (0 = 0 ∧ 12 ≤ 12) ∧ atL nsB1 (BP1 l t [[d00]] 1 M es) (VH.mk (12) ((10, VB.cells [VV.func 44 [] [VV.ptr (VA.own (4) 0), VV.ptr (VA.own (9) 0), VV.ptr (VA.own (1) 0), VV.ptr (VA.own (11) 0)]] 78) :: (11, VB.cells [VV.func 40 [] [VV.ptr (VA.own (3) 0), VV.ptr (VA.own (10) 0), VV.ptr (VA.own (1) 0), VV.ptr (VA.own (6) 0)]] 88) :: (11, VB.cells [VV.nilf] 88) :: (10, VB.cells [VV.nilf] 78) :: (9, VB.cells [VV.mp (8)] 77) :: (9, VB.cells [VV.opq (Value.map none)] 77) :: (8, VB.map ([PK.int IntKind.i64] ++ ([PK.int IntKind.i64] ++ ((List.replicate 6 [PK.int IntKind.i64]).flatten ++ []))) PK.bool []) :: (5, VB.cells [VV.slice (VA.fa (7) 0 0) (↑([[d00]].getD (Int.toNat (0 : Int)) []).length : Int).toNat (↑([[d00]].getD (Int.toNat (0 : Int)) []).length : Int).toNat] 76) :: ([(7, VB.fam [] ((↑([[d00]].getD (Int.toNat (0 : Int)) []).length : Int).toNat * (6)) (fun (_ : Nat) => (0 : Int)) 80)] ++ [(6, VB.cells [VV.slice (VA.own (5) 0) (1) (1)] 75), (6, VB.cells [VV.nils] 75), (5, VB.cells [VV.nils] 76), (4, VB.cells [I (↑([[d00]].getD (Int.toNat (0 : Int)) []).length : Int)] 3), (4, VB.cells [I 0] 3), (3, VB.cells [VV.ptr (VA.own (2) 0)] 72), (3, VB.cells [VV.nilp] 72), (2, VB.cells [VV.tl l.length 5 (stG l), VV.tl t.T.length 1 (dG t.T), I t.far, I t.least] 74), (1, VB.cells [VV.tl [[d00]].length 1 (pthG [[d00]])] 26), (0, VB.cells [VV.tl t.T.length 1 (dG t.T), I t.far, I t.least] 25)]))) ∧ ((↑1 : Int) - (↑1 : Int) = (↑1 : Int) - (↑1 : Int) ∧ (1 : Int) * (2 : Int) ^ min (↑[[d00]].length : Int).toNat IntKind.i64.bits - (1 : Int) = (↑S' : Int) ∧ [I (mostF l 0), I (mostF l 1), I (mostF l 2), I (mostF l 3), I (mostF l 4), I (mostF l 5)] = nL a) ∧ PreF l t [[d00]] 1 1 S' a es ∧ ∀ (b : Bool) (s : St), PostF l t [[d00]] 1 1 S' a M b s → bif !b then
 Q (VRes.ret (VV.tup [VV.nils, I 4])) (VH.mk (12) [(7, VB.fam [] (1 * 6) (s.M 0) (80 : TypeId)), (8, VB.map [PK.int IntKind.i64, PK.int IntKind.i64, PK.int IntKind.i64, PK.int IntKind.i64, PK.int IntKind.i64, PK.int IntKind.i64, PK.int IntKind.i64, PK.int IntKind.i64] PK.bool s.es), (10, VB.cells [VV.func 44 [] [VV.ptr (VA.own (4) 0), VV.ptr (VA.own (9) 0), VV.ptr (VA.own (1) 0), VV.ptr (VA.own (11) 0)]] 78), (11, VB.cells [VV.func 40 [] [VV.ptr (VA.own (3) 0), VV.ptr (VA.own (10) 0), VV.ptr (VA.own (1) 0), VV.ptr (VA.own (6) 0)]] 88), (11, VB.cells [VV.nilf] 88), (10, VB.cells [VV.nilf] 78), (9, VB.cells [VV.mp (8)] 77), (9, VB.cells [VV.opq (Value.map none)] 77), (8, VB.map [PK.int IntKind.i64, PK.int IntKind.i64, PK.int IntKind.i64, PK.int IntKind.i64, PK.int IntKind.i64, PK.int IntKind.i64, PK.int IntKind.i64, PK.int IntKind.i64] PK.bool []), (5, VB.cells [VV.slice (VA.fa (7) 0 0) (↑([[d00]].getD (Int.toNat (0 : Int)) []).length : Int).toNat (↑([[d00]].getD (Int.toNat (0 : Int)) []).length : Int).toNat] 76), (7, VB.fam [] ((↑([[d00]].getD (Int.toNat (0 : Int)) []).length : Int).toNat * (6)) (fun (_ : Nat) => (0 : Int)) 80), (6, VB.cells [VV.slice (VA.own (5) 0) (1) (1)] 75), (6, VB.cells [VV.nils] 75), (5, VB.cells [VV.nils] 76), (4, VB.cells [I (↑([[d00]].getD (Int.toNat (0 : Int)) []).length : Int)] 3), (4, VB.cells [I 0] 3), (3, VB.cells [VV.ptr (VA.own (2) 0)] 72), (3, VB.cells [VV.nilp] 72), (2, VB.cells [VV.tl l.length 5 (stG l), VV.tl t.T.length 1 (dG t.T), I t.far, I t.least] 74), (1, VB.cells [VV.tl [[d00]].length 1 (pthG [[d00]])] 26), (0, VB.cells [VV.tl t.T.length 1 (dG t.T), I t.far, I t.least] 25)])
 else ∃ (n : Nat → Int), ∃ (m : Nat), [I (setF (fun (_ : Nat) => (0 : Int)) 0 [s.M 0 (0 + Int.toNat (0 : Int) * (6) + 0), s.M 0 (0 + Int.toNat (0 : Int) * (6) + 1), s.M 0 (0 + Int.toNat (0 : Int) * (6) + 2), s.M 0 (0 + Int.toNat (0 : Int) * (6) + 3), s.M 0 (0 + Int.toNat (0 : Int) * (6) + 4), s.M 0 (0 + Int.toNat (0 : Int) * (6) + 5)] (0 + 0)), I (setF (fun (_ : Nat) => (0 : Int)) 0 [s.M 0 (0 + Int.toNat (0 : Int) * (6) + 0), s.M 0 (0 + Int.toNat (0 : Int) * (6) + 1), s.M 0 (0 + Int.toNat (0 : Int) * (6) + 2), s.M 0 (0 + Int.toNat (0 : Int) * (6) + 3), s.M 0 (0 + Int.toNat (0 : Int) * (6) + 4), s.M 0 (0 + Int.toNat (0 : Int) * (6) + 5)] (0 + 1)), I (setF (fun (_ : Nat) => (0 : Int)) 0 [s.M 0 (0 + Int.toNat (0 : Int) * (6) + 0), s.M 0 (0 + Int.toNat (0 : Int) * (6) + 1), s.M 0 (0 + Int.toNat (0 : Int) * (6) + 2), s.M 0 (0 + Int.toNat (0 : Int) * (6) + 3), s.M 0 (0 + Int.toNat (0 : Int) * (6) + 4), s.M 0 (0 + Int.toNat (0 : Int) * (6) + 5)] (0 + 2)), I (setF (fun (_ : Nat) => (0 : Int)) 0 [s.M 0 (0 + Int.toNat (0 : Int) * (6) + 0), s.M 0 (0 + Int.toNat (0 : Int) * (6) + 1), s.M 0 (0 + Int.toNat (0 : Int) * (6) + 2), s.M 0 (0 + Int.toNat (0 : Int) * (6) + 3), s.M 0 (0 + Int.toNat (0 : Int) * (6) + 4), s.M 0 (0 + Int.toNat (0 : Int) * (6) + 5)] (0 + 3)), I (setF (fun (_ : Nat) => (0 : Int)) 0 [s.M 0 (0 + Int.toNat (0 : Int) * (6) + 0), s.M 0 (0 + Int.toNat (0 : Int) * (6) + 1), s.M 0 (0 + Int.toNat (0 : Int) * (6) + 2), s.M 0 (0 + Int.toNat (0 : Int) * (6) + 3), s.M 0 (0 + Int.toNat (0 : Int) * (6) + 4), s.M 0 (0 + Int.toNat (0 : Int) * (6) + 5)] (0 + 4)), I (setF (fun (_ : Nat) => (0 : Int)) 0 [s.M 0 (0 + Int.toNat (0 : Int) * (6) + 0), s.M 0 (0 + Int.toNat (0 : Int) * (6) + 1), s.M 0 (0 + Int.toNat (0 : Int) * (6) + 2), s.M 0 (0 + Int.toNat (0 : Int) * (6) + 3), s.M 0 (0 + Int.toNat (0 : Int) * (6) + 4), s.M 0 (0 + Int.toNat (0 : Int) * (6) + 5)] (0 + 5))] = nL n ∧ (↑l.length : Int) = (↑m : Int) ∧ m ≤ 6 ∧ Q (VRes.ret (VV.tup [VV.sl (16) 1, I 0])) (VH.mk (17) [(16, VB.vec 1 (fun (j : Nat) => List.take (1) (List.drop (j * (1)) (List.take (1 * (1)) (List.drop 0 [VV.tl 1 (1) fun (j : Nat) => List.take (1) (List.drop (j * (1)) [VV.tl m 1 (chG n)])])))) (1) 26), (15, VB.cells [VV.tl 1 (1) fun (j : Nat) => List.take (1) (List.drop (j * (1)) [VV.tl m 1 (chG n)])] 26), (14, VB.gone), (15, VB.cells [VV.sl (14) 1] 26), (14, VB.vec 1 (fun (j : Nat) => List.take (1) (List.drop (j * (1)) [VV.tl m 1 (chG n)])) (1) 23), (13, VB.vec 1 (fun (j : Nat) => List.take (1) (List.drop (j * (1)) [VV.tl m 1 (chG n)])) (1) 23), (12, VB.fam [] (6) (setF (fun (_ : Nat) => (0 : Int)) 0 [s.M 0 (0 + Int.toNat (0 : Int) * (6) + 0), s.M 0 (0 + Int.toNat (0 : Int) * (6) + 1), s.M 0 (0 + Int.toNat (0 : Int) * (6) + 2), s.M 0 (0 + Int.toNat (0 : Int) * (6) + 3), s.M 0 (0 + Int.toNat (0 : Int) * (6) + 4), s.M 0 (0 + Int.toNat (0 : Int) * (6) + 5)]) 80), (12, VB.fam [] (6) (fun (_ : Nat) => (0 : Int)) 80), (7, VB.fam [] (1 * 6) (s.M 0) (80 : TypeId)), (8, VB.map [PK.int IntKind.i64, PK.int IntKind.i64, PK.int IntKind.i64, PK.int IntKind.i64, PK.int IntKind.i64, PK.int IntKind.i64, PK.int IntKind.i64, PK.int IntKind.i64] PK.bool s.es), (10, VB.cells [VV.func 44 [] [VV.ptr (VA.own (4) 0), VV.ptr (VA.own (9) 0), VV.ptr (VA.own (1) 0), VV.ptr (VA.own (11) 0)]] 78), (11, VB.cells [VV.func 40 [] [VV.ptr (VA.own (3) 0), VV.ptr (VA.own (10) 0), VV.ptr (VA.own (1) 0), VV.ptr (VA.own (6) 0)]] 88), (11, VB.cells [VV.nilf] 88), (10, VB.cells [VV.nilf] 78), (9, VB.cells [VV.mp (8)] 77), (9, VB.cells [VV.opq (Value.map none)] 77), (8, VB.map [PK.int IntKind.i64, PK.int IntKind.i64, PK.int IntKind.i64, PK.int IntKind.i64, PK.int IntKind.i64, PK.int IntKind.i64, PK.int IntKind.i64, PK.int IntKind.i64] PK.bool []), (5, VB.cells [VV.slice (VA.fa (7) 0 0) (↑([[d00]].getD (Int.toNat (0 : Int)) []).length : Int).toNat (↑([[d00]].getD (Int.toNat (0 : Int)) []).length : Int).toNat] 76), (7, VB.fam [] ((↑([[d00]].getD (Int.toNat (0 : Int)) []).length : Int).toNat * (6)) (fun (_ : Nat) => (0 : Int)) 80), (6, VB.cells [VV.slice (VA.own (5) 0) (1) (1)] 75), (6, VB.cells [VV.nils] 75), (5, VB.cells [VV.nils] 76), (4, VB.cells [I (↑([[d00]].getD (Int.toNat (0 : Int)) []).length : Int)] 3), (4, VB.cells [I 0] 3), (3, VB.cells [VV.ptr (VA.own (2) 0)] 72), (3, VB.cells [VV.nilp] 72), (2, VB.cells [VV.tl l.length 5 (stG l), VV.tl t.T.length 1 (dG t.T), I t.far, I t.least] 74), (1, VB.cells [VV.tl [[d00]].length 1 (pthG [[d00]])] 26), (0, VB.cells [VV.tl t.T.length 1 (dG t.T), I t.far, I t.least] 25)])) := by kernel_rfl

end Go.Sx.Bln

/- blend: Plan with 1 paths of 1 years. -/

namespace Go.Sx.Bln
open Go Go.Sx Go.Proofs
set_option maxRecDepth 1000000

theorem pln11_v {l : List Stk} {t : Tst} {d00 : Int} (h1 : okAll l t = true) (h2 : okPaths [[d00]] = true) (cf : Cfg l t [[d00]] 1) (hpb : pthB [[d00]]) : ∃ r h', CallsV Try.prog 17 [stD l, .agg (tsL t), pthD [[d00]]] ⟨0, []⟩ r h' ∧ PlnK l t [[d00]] 1 r h' := by
  have hl6 := cf.hl.1
  have htab : ∀ f T, tabS [asR l t, casksR l t, apR [[d00]], findR1 l t [[d00]] 1 1, listT] f = some T → SpOk Try.prog f T := tab_ok _ (fun x hx => by
    simp only [List.mem_cons, List.not_mem_nil, or_false] at hx
    rcases hx with rfl | rfl | rfl | rfl | rfl
    · exact asR_ok l t
    · exact casksR_ok l t
    · exact apR_ok _
    · exact findR1_ok cf 1
    · exact listT_ok)
  obtain ⟨r, h', hk, hc⟩ := of_callN (noL_good htab) (f := 17) (args := [stD l, .agg (tsL t), pthD [[d00]]]) (h := ⟨0, []⟩) (K := PlnK l t [[d00]] 1) (by
    refine cast (pl11_ev l t d00 _).symm ⟨isD_l, ⟨⟨rfl, rfl, fun _ _ => rfl⟩, ⟨rfl, rfl⟩, ⟨rfl, rfl⟩, trivial⟩, cond_i (fun h => by rw [h1] at h; cases h) (fun _ => ⟨⟨rfl, rfl, fun _ _ => rfl⟩, hpb, cond_i (fun h => by rw [h2] at h; cases h) (fun _ => ?_)⟩)⟩
    refine ⟨hc61 rfl, hl6, 1, mostF l, fun _ _ => 0, [], ⟨rfl, rfl, rfl, rfl⟩, ⟨rfl, Nat.le_refl _⟩, ⟨rfl, rfl, rfl, rfl, rfl, rfl, rfl, rfl, rfl, rfl, rfl, rfl, trivial⟩, ⟨rfl, rfl, rfl⟩, ⟨Nat.le_refl _, (by show 1 < 2 ^ 1; decide), most_left cf.hl, lost_nil⟩, ?_⟩
    rintro b s ⟨p1, p2, p3, p4⟩
    refine cond_i (fun g => ?_) (fun g => ?_)
    · have g : b = false := by simpa using g
      subst g
      refine .inl ⟨?_, rfl⟩
      cases hx : planF l t [[d00]] 1 1 1 (mostF l) with
      | none => exact hx
      | some x => rw [hx] at p1; cases p1
    · have g : b = true := by simpa using g
      subst g
      obtain ⟨x, hx⟩ : ∃ x, planF l t [[d00]] 1 1 1 (mostF l) = some x := by
        cases hx : planF l t [[d00]] 1 1 1 (mostF l) with
        | none => rw [hx] at p1; cases p1
        | some x => exact ⟨x, rfl⟩
      refine ⟨fun j => s.M 0 (0 * 6 + j), l.length, rfl, rfl, hl6, .inr ⟨x, _, _, _, hx, rfl, rfl, fun i hi => ?_⟩⟩
      have hi : i < 1 := hi
      match i, hi with
      | 0, _ =>
            refine tl_weak rfl (fun y hy => ?_)
            match y, hy with
            | 0, _ => exact wk_ch (fun j hj => p4 x hx 0 0 j (by omega) rfl (by omega) (by omega))
            | _ + 1, hy => exact absurd hy (by omega)
      | _ + 1, hi => exact absurd hi (by omega))
  exact ⟨r, h', hc, hk⟩
end Go.Sx.Bln

/- blend: Plan with 1 paths of 2 years, evaluated. -/

namespace Go.Sx.Bln
open Go Go.Sx Go.Proofs
set_option maxRecDepth 1000000

theorem pl12_ev (l : List Stk) (t : Tst) (d00 d01 : Int) (Q : VRes → VH → Prop) : callN Try.prog (tabS [asR l t, casksR l t, apR [[d00, d01]], findR1 l t [[d00, d01]] 2 2, listT]) noL 10 20 0 (.fn 17) [stD l, .agg (tsL t), pthD [[d00, d01]]] ⟨0, []⟩ (fun r h => Q r h) =
  (isD (VH.mk (2) [(1, VB.cells [VV.tl [[d00, d01]].length 1 (pthG [[d00, d01]])] 26), (0, VB.cells [VV.tl t.T.length 1 (dG t.T), I t.far, I t.least] 25)]) 2 (VV.tl l.length 5 (stG l)) (stD l) ∧ isD (VH.mk (2) [(1, VB.cells [VV.tl [[d00, d01]].length 1 (pthG [[d00, d01]])] 26), (0, VB.cells [VV.tl t.T.length 1 (dG t.T), I t.far, I t.least] 25)]) 2 (VV.agg [VV.tl t.T.length 1 (dG t.T), I t.far, I t.least]) (VV.agg (tsL t)) ∧ bif !okAll l t then
 Q (VRes.ret (VV.tup [VV.nils, I 1])) (VH.mk (2) [(1, VB.cells [VV.tl [[d00, d01]].length 1 (pthG [[d00, d01]])] 26), (0, VB.cells [VV.tl t.T.length 1 (dG t.T), I t.far, I t.least] 25)])
 else isD (VH.mk (2) [(1, VB.cells [VV.tl [[d00, d01]].length 1 (pthG [[d00, d01]])] 26), (0, VB.cells [VV.tl t.T.length 1 (dG t.T), I t.far, I t.least] 25)]) 4 (VV.tl [[d00, d01]].length 1 (pthG [[d00, d01]])) (pthD [[d00, d01]]) ∧ pthB [[d00, d01]] ∧ bif !okPaths [[d00, d01]] then
 Q (VRes.ret (VV.tup [VV.nils, I 2])) (VH.mk (2) [(1, VB.cells [VV.tl [[d00, d01]].length 1 (pthG [[d00, d01]])] 26), (0, VB.cells [VV.tl t.T.length 1 (dG t.T), I t.far, I t.least] 25)])
 else isD (maskH [0, 1, 2, 3, 4, 5, 6, 7, 8, 9, 10, 11] (VH.mk (12) ((10, VB.cells [VV.func 44 [] [VV.ptr (VA.own (4) 0), VV.ptr (VA.own (9) 0), VV.ptr (VA.own (1) 0), VV.ptr (VA.own (11) 0)]] 78) :: (11, VB.cells [VV.func 40 [] [VV.ptr (VA.own (3) 0), VV.ptr (VA.own (10) 0), VV.ptr (VA.own (1) 0), VV.ptr (VA.own (6) 0)]] 88) :: (11, VB.cells [VV.nilf] 88) :: (10, VB.cells [VV.nilf] 78) :: (9, VB.cells [VV.mp (8)] 77) :: (9, VB.cells [VV.opq (Value.map none)] 77) :: (8, VB.map ([PK.int IntKind.i64] ++ ([PK.int IntKind.i64] ++ ((List.replicate 6 [PK.int IntKind.i64]).flatten ++ []))) PK.bool []) :: (5, VB.cells [VV.slice (VA.fa (7) 0 0) (↑([[d00, d01]].getD (Int.toNat (0 : Int)) []).length : Int).toNat (↑([[d00, d01]].getD (Int.toNat (0 : Int)) []).length : Int).toNat] 76) :: ([(7, VB.fam [] ((↑([[d00, d01]].getD (Int.toNat (0 : Int)) []).length : Int).toNat * (6)) (fun (_ : Nat) => (0 : Int)) 80)] ++ [(6, VB.cells [VV.slice (VA.own (5) 0) (1) (1)] 75), (6, VB.cells [VV.nils] 75), (5, VB.cells [VV.nils] 76), (4, VB.cells [I (↑([[d00, d01]].getD (Int.toNat (0 : Int)) []).length : Int)] 3), (4, VB.cells [I 0] 3), (3, VB.cells [VV.ptr (VA.own (2) 0)] 72), (3, VB.cells [VV.nilp] 72), (2, VB.cells [VV.tl l.length 5 (stG l), VV.tl t.T.length 1 (dG t.T), I t.far, I t.least] 74), (1, VB.cells [VV.tl [[d00, d01]].length 1 (pthG [[d00, d01]])] 26), (0, VB.cells [VV.tl t.T.length 1 (dG t.T), I t.far, I t.least] 25)])))) 4 (VV.ptr (VA.own (2) 0)) (VV.tp (stD l :: tsL t)) ∧ l.length ≤ 6 ∧ ∃ (S' : Nat), ∃ (a : Nat → Int), ∃ (M : Mde), ∃ (es : Lst), (VV.ptr (VA.own 4 0) = VV.ptr (VA.own 4 0) ∧ VV.ptr (VA.own 9 0) = VV.ptr (VA.own 9 0) ∧ VV.ptr (VA.own 1 0) = VV.ptr (VA.own 1 0) ∧ VV.ptr (VA.own 11 0) = VV.ptr (VA.own 11 0)) ∧ (0 = 0 ∧ 12 ≤ 12) ∧ atL nsB1 (BP1 l t [[d00, d01]] 2 M es) (VH.mk (12) ((10, VB.cells [VV.func 44 [] [VV.ptr (VA.own (4) 0), VV.ptr (VA.own (9) 0), VV.ptr (VA.own (1) 0), VV.ptr (VA.own (11) 0)]] 78) :: (11, VB.cells [VV.func 40 [] [VV.ptr (VA.own (3) 0), VV.ptr (VA.own (10) 0), VV.ptr (VA.own (1) 0), VV.ptr (VA.own (6) 0)]] 88) :: (11, VB.cells [VV.nilf] 88) :: (10, VB.cells [VV.nilf] 78) :: (9, VB.cells [VV.mp (8)] 77) :: (9, VB.cells [VV.opq (Value.map none)] 77) :: (8, VB.map ([PK.int IntKind.i64] ++ ([PK.int IntKind.i64] ++ ((List.replicate 6 [PK.int IntKind.i64]).flatten ++ []))) PK.bool []) :: (5, VB.cells [VV.slice (VA.fa (7) 0 0) (↑([[d00, d01]].getD (Int.toNat (0 : Int)) []).length : Int).toNat (↑([[d00, d01]].getD (Int.toNat (0 : Int)) []).length : Int).toNat] 76) :: ([(7, VB.fam [] ((↑([[d00, d01]].getD (Int.toNat (0 : Int)) []).length : Int).toNat * (6)) (fun (_ : Nat) => (0 : Int)) 80)] ++ [(6, VB.cells [VV.slice (VA.own (5) 0) (1) (1)] 75), (6, VB.cells [VV.nils] 75), (5, VB.cells [VV.nils] 76), (4, VB.cells [I (↑([[d00, d01]].getD (Int.toNat (0 : Int)) []).length : Int)] 3), (4, VB.cells [I 0] 3), (3, VB.cells [VV.ptr (VA.own (2) 0)] 72), (3, VB.cells [VV.nilp] 72), (2, VB.cells [VV.tl l.length 5 (stG l), VV.tl t.T.length 1 (dG t.T), I t.far, I t.least] 74), (1, VB.cells [VV.tl [[d00, d01]].length 1 (pthG [[d00, d01]])] 26), (0, VB.cells [VV.tl t.T.length 1 (dG t.T), I t.far, I t.least] 25)]))) ∧ ((↑2 : Int) - (↑2 : Int) = (↑2 : Int) - (↑2 : Int) ∧ (1 : Int) * (2 : Int) ^ min (↑[[d00, d01]].length : Int).toNat IntKind.i64.bits - (1 : Int) = (↑S' : Int) ∧ [I (mostF l 0), I (mostF l 1), I (mostF l 2), I (mostF l 3), I (mostF l 4), I (mostF l 5)] = nL a) ∧ PreF l t [[d00, d01]] 2 2 S' a es ∧ ∀ (b : Bool) (s : St), PostF l t [[d00, d01]] 2 2 S' a M b s → bif !b then
 Q (VRes.ret (VV.tup [VV.nils, I 4])) (VH.mk (12) [(7, VB.fam [] (2 * 6) (s.M 0) (80 : TypeId)), (8, VB.map [PK.int IntKind.i64, PK.int IntKind.i64, PK.int IntKind.i64, PK.int IntKind.i64, PK.int IntKind.i64, PK.int IntKind.i64, PK.int IntKind.i64, PK.int IntKind.i64] PK.bool s.es), (10, VB.cells [VV.func 44 [] [VV.ptr (VA.own (4) 0), VV.ptr (VA.own (9) 0), VV.ptr (VA.own (1) 0), VV.ptr (VA.own (11) 0)]] 78), (11, VB.cells [VV.func 40 [] [VV.ptr (VA.own (3) 0), VV.ptr (VA.own (10) 0), VV.ptr (VA.own (1) 0), VV.ptr (VA.own (6) 0)]] 88), (11, VB.cells [VV.nilf] 88), (10, VB.cells [VV.nilf] 78), (9, VB.cells [VV.mp (8)] 77), (9, VB.cells [VV.opq (Value.map none)] 77), (8, VB.map [PK.int IntKind.i64, PK.int IntKind.i64, PK.int IntKind.i64, PK.int IntKind.i64, PK.int IntKind.i64, PK.int IntKind.i64, PK.int IntKind.i64, PK.int IntKind.i64] PK.bool []), (5, VB.cells [VV.slice (VA.fa (7) 0 0) (↑([[d00, d01]].getD (Int.toNat (0 : Int)) []).length : Int).toNat (↑([[d00, d01]].getD (Int.toNat (0 : Int)) []).length : Int).toNat] 76), (7, VB.fam [] ((↑([[d00, d01]].getD (Int.toNat (0 : Int)) []).length : Int).toNat * (6)) (fun (_ : Nat) => (0 : Int)) 80), (6, VB.cells [VV.slice (VA.own (5) 0) (1) (1)] 75), (6, VB.cells [VV.nils] 75), (5, VB.cells [VV.nils] 76), (4, VB.cells [I (↑([[d00, d01]].getD (Int.toNat (0 : Int)) []).length : Int)] 3), (4, VB.cells [I 0] 3), (3, VB.cells [VV.ptr (VA.own (2) 0)] 72), (3, VB.cells [VV.nilp] 72), (2, VB.cells [VV.tl l.length 5 (stG l), VV.tl t.T.length 1 (dG t.T), I t.far, I t.least] 74), (1, VB.cells [VV.tl [[d00, d01]].length 1 (pthG [[d00, d01]])] 26), (0, VB.cells [VV.tl t.T.length 1 (dG t.T), I t.far, I t.least] 25)])
 else ∃ (n : Nat → Int), ∃ (m : Nat), [I (setF (fun (_ : Nat) => (0 : Int)) 0 [s.M 0 (0 + Int.toNat (0 : Int) * (6) + 0), s.M 0 (0 + Int.toNat (0 : Int) * (6) + 1), s.M 0 (0 + Int.toNat (0 : Int) * (6) + 2), s.M 0 (0 + Int.toNat (0 : Int) * (6) + 3), s.M 0 (0 + Int.toNat (0 : Int) * (6) + 4), s.M 0 (0 + Int.toNat (0 : Int) * (6) + 5)] (0 + 0)), I (setF (fun (_ : Nat) => (0 : Int)) 0 [s.M 0 (0 + Int.toNat (0 : Int) * (6) + 0), s.M 0 (0 + Int.toNat (0 : Int) * (6) + 1), s.M 0 (0 + Int.toNat (0 : Int) * (6) + 2), s.M 0 (0 + Int.toNat (0 : Int) * (6) + 3), s.M 0 (0 + Int.toNat (0 : Int) * (6) + 4), s.M 0 (0 + Int.toNat (0 : Int) * (6) + 5)] (0 + 1)), I (setF (fun (_ : Nat) => (0 : Int)) 0 [s.M 0 (0 + Int.toNat (0 : Int) * (6) + 0), s.M 0 (0 + Int.toNat (0 : Int) * (6) + 1), s.M 0 (0 + Int.toNat (0 : Int) * (6) + 2), s.M 0 (0 + Int.toNat (0 : Int) * (6) + 3), s.M 0 (0 + Int.toNat (0 : Int) * (6) + 4), s.M 0 (0 + Int.toNat (0 : Int) * (6) + 5)] (0 + 2)), I (setF (fun (_ : Nat) => (0 : Int)) 0 [s.M 0 (0 + Int.toNat (0 : Int) * (6) + 0), s.M 0 (0 + Int.toNat (0 : Int) * (6) + 1), s.M 0 (0 + Int.toNat (0 : Int) * (6) + 2), s.M 0 (0 + Int.toNat (0 : Int) * (6) + 3), s.M 0 (0 + Int.toNat (0 : Int) * (6) + 4), s.M 0 (0 + Int.toNat (0 : Int) * (6) + 5)] (0 + 3)), I (setF (fun (_ : Nat) => (0 : Int)) 0 [s.M 0 (0 + Int.toNat (0 : Int) * (6) + 0), s.M 0 (0 + Int.toNat (0 : Int) * (6) + 1), s.M 0 (0 + Int.toNat (0 : Int) * (6) + 2), s.M 0 (0 + Int.toNat (0 : Int) * (6) + 3), s.M 0 (0 + Int.toNat (0 : Int) * (6) + 4), s.M 0 (0 + Int.toNat (0 : Int) * (6) + 5)] (0 + 4)), I (setF (fun (_ : Nat) => (0 : Int)) 0 [s.M 0 (0 + Int.toNat (0 : Int) * (6) + 0), s.M 0 (0 + Int.toNat (0 : Int) * (6) + 1), s.M 0 (0 + Int.toNat (0 : Int) * (6) + 2), s.M 0 (0 + Int.toNat (0 : Int) * (6) + 3), s.M 0 (0 + Int.toNat (0 : Int) * (6) + 4), s.M 0 (0 + Int.toNat (0 : Int) * (6) + 5)] (0 + 5))] = nL n ∧ (↑l.length : Int) = (↑m : Int) ∧ m ≤ 6 ∧ ∃ (n_1 : Nat → Int), ∃ (m_1 : Nat), [I (setF (fun (_ : Nat) => (0 : Int)) 0 [s.M 0 (0 + ((0 : Int) + (1 : Int)).toNat * (6) + 0), s.M 0 (0 + ((0 : Int) + (1 : Int)).toNat * (6) + 1), s.M 0 (0 + ((0 : Int) + (1 : Int)).toNat * (6) + 2), s.M 0 (0 + ((0 : Int) + (1 : Int)).toNat * (6) + 3), s.M 0 (0 + ((0 : Int) + (1 : Int)).toNat * (6) + 4), s.M 0 (0 + ((0 : Int) + (1 : Int)).toNat * (6) + 5)] (0 + 0)), I (setF (fun (_ : Nat) => (0 : Int)) 0 [s.M 0 (0 + ((0 : Int) + (1 : Int)).toNat * (6) + 0), s.M 0 (0 + ((0 : Int) + (1 : Int)).toNat * (6) + 1), s.M 0 (0 + ((0 : Int) + (1 : Int)).toNat * (6) + 2), s.M 0 (0 + ((0 : Int) + (1 : Int)).toNat * (6) + 3), s.M 0 (0 + ((0 : Int) + (1 : Int)).toNat * (6) + 4), s.M 0 (0 + ((0 : Int) + (1 : Int)).toNat * (6) + 5)] (0 + 1)), I (setF (fun (_ : Nat) => (0 : Int)) 0 [s.M 0 (0 + ((0 : Int) + (1 : Int)).toNat * (6) + 0), s.M 0 (0 + ((0 : Int) + (1 : Int)).toNat * (6) + 1), s.M 0 (0 + ((0 : Int) + (1 : Int)).toNat * (6) + 2), s.M 0 (0 + ((0 : Int) + (1 : Int)).toNat * (6) + 3), s.M 0 (0 + ((0 : Int) + (1 : Int)).toNat * (6) + 4), s.M 0 (0 + ((0 : Int) + (1 : Int)).toNat * (6) + 5)] (0 + 2)), I (setF (fun (_ : Nat) => (0 : Int)) 0 [s.M 0 (0 + ((0 : Int) + (1 : Int)).toNat * (6) + 0), s.M 0 (0 + ((0 : Int) + (1 : Int)).toNat * (6) + 1), s.M 0 (0 + ((0 : Int) + (1 : Int)).toNat * (6) + 2), s.M 0 (0 + ((0 : Int) + (1 : Int)).toNat * (6) + 3), s.M 0 (0 + ((0 : Int) + (1 : Int)).toNat * (6) + 4), s.M 0 (0 + ((0 : Int) + (1 : Int)).toNat * (6) + 5)] (0 + 3)), I (setF (fun (_ : Nat) => (0 : Int)) 0 [s.M 0 (0 + ((0 : Int) + (1 : Int)).toNat * (6) + 0), s.M 0 (0 + ((0 : Int) + (1 : Int)).toNat * (6) + 1), s.M 0 (0 + ((0 : Int) + (1 : Int)).toNat * (6) + 2), s.M 0 (0 + ((0 : Int) + (1 : Int)).toNat * (6) + 3), s.M 0 (0 + ((0 : Int) + (1 : Int)).toNat * (6) + 4), s.M 0 (0 + ((0 : Int) + (1 : Int)).toNat * (6) + 5)] (0 + 4)), I (setF (fun (_ : Nat) => (0 : Int)) 0 [s.M 0 (0 + ((0 : Int) + (1 : Int)).toNat * (6) + 0), s.M 0 (0 + ((0 : Int) + (1 : Int)).toNat * (6) + 1), s.M 0 (0 + ((0 : Int) + (1 : Int)).toNat * (6) + 2), s.M 0 (0 + ((0 : Int) + (1 : Int)).toNat * (6) + 3), s.M 0 (0 + ((0 : Int) + (1 : Int)).toNat * (6) + 4), s.M 0 (0 + ((0 : Int) + (1 : Int)).toNat * (6) + 5)] (0 + 5))] = nL n_1 ∧ (↑l.length : Int) = (↑m_1 : Int) ∧ m_1 ≤ 6 ∧ Q (VRes.ret (VV.tup [VV.sl (18) 1, I 0])) (VH.mk (19) [(18, VB.vec 1 (fun (j : Nat) => List.take (1) (List.drop (j * (1)) (List.take (1 * (1)) (List.drop 0 [VV.tl (1 + 1) (1) (catG 1 (fun (j : Nat) => List.take (1) (List.drop (j * (1)) [VV.tl m 1 (chG n)])) fun (j : Nat) => List.take (1) (List.drop (j * (1)) [VV.tl m_1 1 (chG n_1)]))])))) (1) 26), (17, VB.cells [VV.tl (1 + 1) (1) (catG 1 (fun (j : Nat) => List.take (1) (List.drop (j * (1)) [VV.tl m 1 (chG n)])) fun (j : Nat) => List.take (1) (List.drop (j * (1)) [VV.tl m_1 1 (chG n_1)]))] 26), (14, VB.gone), (17, VB.cells [VV.sl (14) (1 + 1)] 26), (14, VB.vec (1 + 1) (catG 1 (fun (j : Nat) => List.take (1) (List.drop (j * (1)) [VV.tl m 1 (chG n)])) fun (j : Nat) => List.take (1) (List.drop (j * (1)) [VV.tl m_1 1 (chG n_1)])) (1) 23), (16, VB.vec 1 (fun (j : Nat) => List.take (1) (List.drop (j * (1)) [VV.tl m_1 1 (chG n_1)])) (1) 23), (15, VB.fam [] (6) (setF (fun (_ : Nat) => (0 : Int)) 0 [s.M 0 (0 + ((0 : Int) + (1 : Int)).toNat * (6) + 0), s.M 0 (0 + ((0 : Int) + (1 : Int)).toNat * (6) + 1), s.M 0 (0 + ((0 : Int) + (1 : Int)).toNat * (6) + 2), s.M 0 (0 + ((0 : Int) + (1 : Int)).toNat * (6) + 3), s.M 0 (0 + ((0 : Int) + (1 : Int)).toNat * (6) + 4), s.M 0 (0 + ((0 : Int) + (1 : Int)).toNat * (6) + 5)]) 80), (15, VB.fam [] (6) (fun (_ : Nat) => (0 : Int)) 80), (14, VB.vec 1 (fun (j : Nat) => List.take (1) (List.drop (j * (1)) [VV.tl m 1 (chG n)])) (1) 23), (13, VB.vec 1 (fun (j : Nat) => List.take (1) (List.drop (j * (1)) [VV.tl m 1 (chG n)])) (1) 23), (12, VB.fam [] (6) (setF (fun (_ : Nat) => (0 : Int)) 0 [s.M 0 (0 + Int.toNat (0 : Int) * (6) + 0), s.M 0 (0 + Int.toNat (0 : Int) * (6) + 1), s.M 0 (0 + Int.toNat (0 : Int) * (6) + 2), s.M 0 (0 + Int.toNat (0 : Int) * (6) + 3), s.M 0 (0 + Int.toNat (0 : Int) * (6) + 4), s.M 0 (0 + Int.toNat (0 : Int) * (6) + 5)]) 80), (12, VB.fam [] (6) (fun (_ : Nat) => (0 : Int)) 80), (7, VB.fam [] (2 * 6) (s.M 0) (80 : TypeId)), (8, VB.map [PK.int IntKind.i64, PK.int IntKind.i64, PK.int IntKind.i64, PK.int IntKind.i64, PK.int IntKind.i64, PK.int IntKind.i64, PK.int IntKind.i64, PK.int IntKind.i64] PK.bool s.es), (10, VB.cells [VV.func 44 [] [VV.ptr (VA.own (4) 0), VV.ptr (VA.own (9) 0), VV.ptr (VA.own (1) 0), VV.ptr (VA.own (11) 0)]] 78), (11, VB.cells [VV.func 40 [] [VV.ptr (VA.own (3) 0), VV.ptr (VA.own (10) 0), VV.ptr (VA.own (1) 0), VV.ptr (VA.own (6) 0)]] 88), (11, VB.cells [VV.nilf] 88), (10, VB.cells [VV.nilf] 78), (9, VB.cells [VV.mp (8)] 77), (9, VB.cells [VV.opq (Value.map none)] 77), (8, VB.map [PK.int IntKind.i64, PK.int IntKind.i64, PK.int IntKind.i64, PK.int IntKind.i64, PK.int IntKind.i64, PK.int IntKind.i64, PK.int IntKind.i64, PK.int IntKind.i64] PK.bool []), (5, VB.cells [VV.slice (VA.fa (7) 0 0) (↑([[d00, d01]].getD (Int.toNat (0 : Int)) []).length : Int).toNat (↑([[d00, d01]].getD (Int.toNat (0 : Int)) []).length : Int).toNat] 76), (7, VB.fam [] ((↑([[d00, d01]].getD (Int.toNat (0 : Int)) []).length : Int).toNat * (6)) (fun (_ : Nat) => (0 : Int)) 80), (6, VB.cells [VV.slice (VA.own (5) 0) (1) (1)] 75), (6, VB.cells [VV.nils] 75), (5, VB.cells [VV.nils] 76), (4, VB.cells [I (↑([[d00, d01]].getD (Int.toNat (0 : Int)) []).length : Int)] 3), (4, VB.cells [I 0] 3), (3, VB.cells [VV.ptr (VA.own (2) 0)] 72), (3, VB.cells [VV.nilp] 72), (2, VB.cells [VV.tl l.length 5 (stG l), VV.tl t.T.length 1 (dG t.T), I t.far, I t.least] 74), (1, VB.cells [VV.tl [[d00, d01]].length 1 (pthG [[d00, d01]])] 26), (0, VB.cells [VV.tl t.T.length 1 (dG t.T), I t.far, I t.least] 25)])) := by kernel_rfl

end Go.Sx.Bln

/- blend: Plan with 1 paths of 2 years. -/

namespace Go.Sx.Bln
open Go Go.Sx Go.Proofs
set_option maxRecDepth 1000000

theorem pln12_v {l : List Stk} {t : Tst} {d00 d01 : Int} (h1 : okAll l t = true) (h2 : okPaths [[d00, d01]] = true) (cf : Cfg l t [[d00, d01]] 2) (hpb : pthB [[d00, d01]]) : ∃ r h', CallsV Try.prog 17 [stD l, .agg (tsL t), pthD [[d00, d01]]] ⟨0, []⟩ r h' ∧ PlnK l t [[d00, d01]] 2 r h' := by
  have hl6 := cf.hl.1
  have htab : ∀ f T, tabS [asR l t, casksR l t, apR [[d00, d01]], findR1 l t [[d00, d01]] 2 2, listT] f = some T → SpOk Try.prog f T := tab_ok _ (fun x hx => by
    simp only [List.mem_cons, List.not_mem_nil, or_false] at hx
    rcases hx with rfl | rfl | rfl | rfl | rfl
    · exact asR_ok l t
    · exact casksR_ok l t
    · exact apR_ok _
    · exact findR1_ok cf 2
    · exact listT_ok)
  obtain ⟨r, h', hk, hc⟩ := of_callN (noL_good htab) (f := 17) (args := [stD l, .agg (tsL t), pthD [[d00, d01]]]) (h := ⟨0, []⟩) (K := PlnK l t [[d00, d01]] 2) (by
    refine cast (pl12_ev l t d00 d01 _).symm ⟨isD_l, ⟨⟨rfl, rfl, fun _ _ => rfl⟩, ⟨rfl, rfl⟩, ⟨rfl, rfl⟩, trivial⟩, cond_i (fun h => by rw [h1] at h; cases h) (fun _ => ⟨⟨rfl, rfl, fun _ _ => rfl⟩, hpb, cond_i (fun h => by rw [h2] at h; cases h) (fun _ => ?_)⟩)⟩
    refine ⟨hc61 rfl, hl6, 1, mostF l, fun _ _ => 0, [], ⟨rfl, rfl, rfl, rfl⟩, ⟨rfl, Nat.le_refl _⟩, ⟨rfl, rfl, rfl, rfl, rfl, rfl, rfl, rfl, rfl, rfl, rfl, rfl, trivial⟩, ⟨rfl, rfl, rfl⟩, ⟨Nat.le_refl _, (by show 1 < 2 ^ 1; decide), most_left cf.hl, lost_nil⟩, ?_⟩
    rintro b s ⟨p1, p2, p3, p4⟩
    refine cond_i (fun g => ?_) (fun g => ?_)
    · have g : b = false := by simpa using g
      subst g
      refine .inl ⟨?_, rfl⟩
      cases hx : planF l t [[d00, d01]] 2 2 1 (mostF l) with
      | none => exact hx
      | some x => rw [hx] at p1; cases p1
    · have g : b = true := by simpa using g
      subst g
      obtain ⟨x, hx⟩ : ∃ x, planF l t [[d00, d01]] 2 2 1 (mostF l) = some x := by
        cases hx : planF l t [[d00, d01]] 2 2 1 (mostF l) with
        | none => rw [hx] at p1; cases p1
        | some x => exact ⟨x, rfl⟩
      refine ⟨fun j => s.M 0 (0 * 6 + j), l.length, rfl, rfl, hl6, fun j => s.M 0 (1 * 6 + j), l.length, rfl, rfl, hl6, .inr ⟨x, _, _, _, hx, rfl, rfl, fun i hi => ?_⟩⟩
      have hi : i < 1 := hi
      match i, hi with
      | 0, _ =>
            refine tl_weak rfl (fun y hy => ?_)
            match y, hy with
            | 0, _ => exact wk_ch (fun j hj => p4 x hx 0 0 j (by omega) rfl (by omega) (by omega))
            | 1, _ => exact wk_ch (fun j hj => p4 x hx 0 1 j (by omega) rfl (by omega) (by omega))
            | _ + 2, hy => exact absurd hy (by omega)
      | _ + 1, hi => exact absurd hi (by omega))
  exact ⟨r, h', hc, hk⟩
end Go.Sx.Bln

/- blend: Plan with 1 paths of 3 years, evaluated. -/

namespace Go.Sx.Bln
open Go Go.Sx Go.Proofs
set_option maxRecDepth 1000000

theorem pl13_ev (l : List Stk) (t : Tst) (d00 d01 d02 : Int) (Q : VRes → VH → Prop) : callN Try.prog (tabS [asR l t, casksR l t, apR [[d00, d01, d02]], findR1 l t [[d00, d01, d02]] 3 3, listT]) noL 10 20 0 (.fn 17) [stD l, .agg (tsL t), pthD [[d00, d01, d02]]] ⟨0, []⟩ (fun r h => Q r h) =
  (isD (VH.mk (2) [(1, VB.cells [VV.tl [[d00, d01, d02]].length 1 (pthG [[d00, d01, d02]])] 26), (0, VB.cells [VV.tl t.T.length 1 (dG t.T), I t.far, I t.least] 25)]) 2 (VV.tl l.length 5 (stG l)) (stD l) ∧ isD (VH.mk (2) [(1, VB.cells [VV.tl [[d00, d01, d02]].length 1 (pthG [[d00, d01, d02]])] 26), (0, VB.cells [VV.tl t.T.length 1 (dG t.T), I t.far, I t.least] 25)]) 2 (VV.agg [VV.tl t.T.length 1 (dG t.T), I t.far, I t.least]) (VV.agg (tsL t)) ∧ bif !okAll l t then
 Q (VRes.ret (VV.tup [VV.nils, I 1])) (VH.mk (2) [(1, VB.cells [VV.tl [[d00, d01, d02]].length 1 (pthG [[d00, d01, d02]])] 26), (0, VB.cells [VV.tl t.T.length 1 (dG t.T), I t.far, I t.least] 25)])
 else isD (VH.mk (2) [(1, VB.cells [VV.tl [[d00, d01, d02]].length 1 (pthG [[d00, d01, d02]])] 26), (0, VB.cells [VV.tl t.T.length 1 (dG t.T), I t.far, I t.least] 25)]) 4 (VV.tl [[d00, d01, d02]].length 1 (pthG [[d00, d01, d02]])) (pthD [[d00, d01, d02]]) ∧ pthB [[d00, d01, d02]] ∧ bif !okPaths [[d00, d01, d02]] then
 Q (VRes.ret (VV.tup [VV.nils, I 2])) (VH.mk (2) [(1, VB.cells [VV.tl [[d00, d01, d02]].length 1 (pthG [[d00, d01, d02]])] 26), (0, VB.cells [VV.tl t.T.length 1 (dG t.T), I t.far, I t.least] 25)])
 else isD (maskH [0, 1, 2, 3, 4, 5, 6, 7, 8, 9, 10, 11] (VH.mk (12) ((10, VB.cells [VV.func 44 [] [VV.ptr (VA.own (4) 0), VV.ptr (VA.own (9) 0), VV.ptr (VA.own (1) 0), VV.ptr (VA.own (11) 0)]] 78) :: (11, VB.cells [VV.func 40 [] [VV.ptr (VA.own (3) 0), VV.ptr (VA.own (10) 0), VV.ptr (VA.own (1) 0), VV.ptr (VA.own (6) 0)]] 88) :: (11, VB.cells [VV.nilf] 88) :: (10, VB.cells [VV.nilf] 78) :: (9, VB.cells [VV.mp (8)] 77) :: (9, VB.cells [VV.opq (Value.map none)] 77) :: (8, VB.map ([PK.int IntKind.i64] ++ ([PK.int IntKind.i64] ++ ((List.replicate 6 [PK.int IntKind.i64]).flatten ++ []))) PK.bool []) :: (5, VB.cells [VV.slice (VA.fa (7) 0 0) (↑([[d00, d01, d02]].getD (Int.toNat (0 : Int)) []).length : Int).toNat (↑([[d00, d01, d02]].getD (Int.toNat (0 : Int)) []).length : Int).toNat] 76) :: ([(7, VB.fam [] ((↑([[d00, d01, d02]].getD (Int.toNat (0 : Int)) []).length : Int).toNat * (6)) (fun (_ : Nat) => (0 : Int)) 80)] ++ [(6, VB.cells [VV.slice (VA.own (5) 0) (1) (1)] 75), (6, VB.cells [VV.nils] 75), (5, VB.cells [VV.nils] 76), (4, VB.cells [I (↑([[d00, d01, d02]].getD (Int.toNat (0 : Int)) []).length : Int)] 3), (4, VB.cells [I 0] 3), (3, VB.cells [VV.ptr (VA.own (2) 0)] 72), (3, VB.cells [VV.nilp] 72), (2, VB.cells [VV.tl l.length 5 (stG l), VV.tl t.T.length 1 (dG t.T), I t.far, I t.least] 74), (1, VB.cells [VV.tl [[d00, d01, d02]].length 1 (pthG [[d00, d01, d02]])] 26), (0, VB.cells [VV.tl t.T.length 1 (dG t.T), I t.far, I t.least] 25)])))) 4 (VV.ptr (VA.own (2) 0)) (VV.tp (stD l :: tsL t)) ∧ l.length ≤ 6 ∧ ∃ (S' : Nat), ∃ (a : Nat → Int), ∃ (M : Mde), ∃ (es : Lst), (VV.ptr (VA.own 4 0) = VV.ptr (VA.own 4 0) ∧ VV.ptr (VA.own 9 0) = VV.ptr (VA.own 9 0) ∧ VV.ptr (VA.own 1 0) = VV.ptr (VA.own 1 0) ∧ VV.ptr (VA.own 11 0) = VV.ptr (VA.own 11 0)) ∧ (0 = 0 ∧ 12 ≤ 12) ∧ atL nsB1 (BP1 l t [[d00, d01, d02]] 3 M es) (VH.mk (12) ((10, VB.cells [VV.func 44 [] [VV.ptr (VA.own (4) 0), VV.ptr (VA.own (9) 0), VV.ptr (VA.own (1) 0), VV.ptr (VA.own (11) 0)]] 78) :: (11, VB.cells [VV.func 40 [] [VV.ptr (VA.own (3) 0), VV.ptr (VA.own (10) 0), VV.ptr (VA.own (1) 0), VV.ptr (VA.own (6) 0)]] 88) :: (11, VB.cells [VV.nilf] 88) :: (10, VB.cells [VV.nilf] 78) :: (9, VB.cells [VV.mp (8)] 77) :: (9, VB.cells [VV.opq (Value.map none)] 77) :: (8, VB.map ([PK.int IntKind.i64] ++ ([PK.int IntKind.i64] ++ ((List.replicate 6 [PK.int IntKind.i64]).flatten ++ []))) PK.bool []) :: (5, VB.cells [VV.slice (VA.fa (7) 0 0) (↑([[d00, d01, d02]].getD (Int.toNat (0 : Int)) []).length : Int).toNat (↑([[d00, d01, d02]].getD (Int.toNat (0 : Int)) []).length : Int).toNat] 76) :: ([(7, VB.fam [] ((↑([[d00, d01, d02]].getD (Int.toNat (0 : Int)) []).length : Int).toNat * (6)) (fun (_ : Nat) => (0 : Int)) 80)] ++ [(6, VB.cells [VV.slice (VA.own (5) 0) (1) (1)] 75), (6, VB.cells [VV.nils] 75), (5, VB.cells [VV.nils] 76), (4, VB.cells [I (↑([[d00, d01, d02]].getD (Int.toNat (0 : Int)) []).length : Int)] 3), (4, VB.cells [I 0] 3), (3, VB.cells [VV.ptr (VA.own (2) 0)] 72), (3, VB.cells [VV.nilp] 72), (2, VB.cells [VV.tl l.length 5 (stG l), VV.tl t.T.length 1 (dG t.T), I t.far, I t.least] 74), (1, VB.cells [VV.tl [[d00, d01, d02]].length 1 (pthG [[d00, d01, d02]])] 26), (0, VB.cells [VV.tl t.T.length 1 (dG t.T), I t.far, I t.least] 25)]))) ∧ ((↑3 : Int) - (↑3 : Int) = (↑3 : Int) - (↑3 : Int) ∧ (1 : Int) * (2 : Int) ^ min (↑[[d00, d01, d02]].length : Int).toNat IntKind.i64.bits - (1 : Int) = (↑S' : Int) ∧ [I (mostF l 0), I (mostF l 1), I (mostF l 2), I (mostF l 3), I (mostF l 4), I (mostF l 5)] = nL a) ∧ PreF l t [[d00, d01, d02]] 3 3 S' a es ∧ ∀ (b : Bool) (s : St), PostF l t [[d00, d01, d02]] 3 3 S' a M b s → bif !b then
 Q (VRes.ret (VV.tup [VV.nils, I 4])) (VH.mk (12) [(7, VB.fam [] (3 * 6) (s.M 0) (80 : TypeId)), (8, VB.map [PK.int IntKind.i64, PK.int IntKind.i64, PK.int IntKind.i64, PK.int IntKind.i64, PK.int IntKind.i64, PK.int IntKind.i64, PK.int IntKind.i64, PK.int IntKind.i64] PK.bool s.es), (10, VB.cells [VV.func 44 [] [VV.ptr (VA.own (4) 0), VV.ptr (VA.own (9) 0), VV.ptr (VA.own (1) 0), VV.ptr (VA.own (11) 0)]] 78), (11, VB.cells [VV.func 40 [] [VV.ptr (VA.own (3) 0), VV.ptr (VA.own (10) 0), VV.ptr (VA.own (1) 0), VV.ptr (VA.own (6) 0)]] 88), (11, VB.cells [VV.nilf] 88), (10, VB.cells [VV.nilf] 78), (9, VB.cells [VV.mp (8)] 77), (9, VB.cells [VV.opq (Value.map none)] 77), (8, VB.map [PK.int IntKind.i64, PK.int IntKind.i64, PK.int IntKind.i64, PK.int IntKind.i64, PK.int IntKind.i64, PK.int IntKind.i64, PK.int IntKind.i64, PK.int IntKind.i64] PK.bool []), (5, VB.cells [VV.slice (VA.fa (7) 0 0) (↑([[d00, d01, d02]].getD (Int.toNat (0 : Int)) []).length : Int).toNat (↑([[d00, d01, d02]].getD (Int.toNat (0 : Int)) []).length : Int).toNat] 76), (7, VB.fam [] ((↑([[d00, d01, d02]].getD (Int.toNat (0 : Int)) []).length : Int).toNat * (6)) (fun (_ : Nat) => (0 : Int)) 80), (6, VB.cells [VV.slice (VA.own (5) 0) (1) (1)] 75), (6, VB.cells [VV.nils] 75), (5, VB.cells [VV.nils] 76), (4, VB.cells [I (↑([[d00, d01, d02]].getD (Int.toNat (0 : Int)) []).length : Int)] 3), (4, VB.cells [I 0] 3), (3, VB.cells [VV.ptr (VA.own (2) 0)] 72), (3, VB.cells [VV.nilp] 72), (2, VB.cells [VV.tl l.length 5 (stG l), VV.tl t.T.length 1 (dG t.T), I t.far, I t.least] 74), (1, VB.cells [VV.tl [[d00, d01, d02]].length 1 (pthG [[d00, d01, d02]])] 26), (0, VB.cells [VV.tl t.T.length 1 (dG t.T), I t.far, I t.least] 25)])
 else ∃ (n : Nat → Int), ∃ (m : Nat), [I (setF (fun (_ : Nat) => (0 : Int)) 0 [s.M 0 (0 + Int.toNat (0 : Int) * (6) + 0), s.M 0 (0 + Int.toNat (0 : Int) * (6) + 1), s.M 0 (0 + Int.toNat (0 : Int) * (6) + 2), s.M 0 (0 + Int.toNat (0 : Int) * (6) + 3), s.M 0 (0 + Int.toNat (0 : Int) * (6) + 4), s.M 0 (0 + Int.toNat (0 : Int) * (6) + 5)] (0 + 0)), I (setF (fun (_ : Nat) => (0 : Int)) 0 [s.M 0 (0 + Int.toNat (0 : Int) * (6) + 0), s.M 0 (0 + Int.toNat (0 : Int) * (6) + 1), s.M 0 (0 + Int.toNat (0 : Int) * (6) + 2), s.M 0 (0 + Int.toNat (0 : Int) * (6) + 3), s.M 0 (0 + Int.toNat (0 : Int) * (6) + 4), s.M 0 (0 + Int.toNat (0 : Int) * (6) + 5)] (0 + 1)), I (setF (fun (_ : Nat) => (0 : Int)) 0 [s.M 0 (0 + Int.toNat (0 : Int) * (6) + 0), s.M 0 (0 + Int.toNat (0 : Int) * (6) + 1), s.M 0 (0 + Int.toNat (0 : Int) * (6) + 2), s.M 0 (0 + Int.toNat (0 : Int) * (6) + 3), s.M 0 (0 + Int.toNat (0 : Int) * (6) + 4), s.M 0 (0 + Int.toNat (0 : Int) * (6) + 5)] (0 + 2)), I (setF (fun (_ : Nat) => (0 : Int)) 0 [s.M 0 (0 + Int.toNat (0 : Int) * (6) + 0), s.M 0 (0 + Int.toNat (0 : Int) * (6) + 1), s.M 0 (0 + Int.toNat (0 : Int) * (6) + 2), s.M 0 (0 + Int.toNat (0 : Int) * (6) + 3), s.M 0 (0 + Int.toNat (0 : Int) * (6) + 4), s.M 0 (0 + Int.toNat (0 : Int) * (6) + 5)] (0 + 3)), I (setF (fun (_ : Nat) => (0 : Int)) 0 [s.M 0 (0 + Int.toNat (0 : Int) * (6) + 0), s.M 0 (0 + Int.toNat (0 : Int) * (6) + 1), s.M 0 (0 + Int.toNat (0 : Int) * (6) + 2), s.M 0 (0 + Int.toNat (0 : Int) * (6) + 3), s.M 0 (0 + Int.toNat (0 : Int) * (6) + 4), s.M 0 (0 + Int.toNat (0 : Int) * (6) + 5)] (0 + 4)), I (setF (fun (_ : Nat) => (0 : Int)) 0 [s.M 0 (0 + Int.toNat (0 : Int) * (6) + 0), s.M 0 (0 + Int.toNat (0 : Int) * (6) + 1), s.M 0 (0 + Int.toNat (0 : Int) * (6) + 2), s.M 0 (0 + Int.toNat (0 : Int) * (6) + 3), s.M 0 (0 + Int.toNat (0 : Int) * (6) + 4), s.M 0 (0 + Int.toNat (0 : Int) * (6) + 5)] (0 + 5))] = nL n ∧ (↑l.length : Int) = (↑m : Int) ∧ m ≤ 6 ∧ ∃ (n_1 : Nat → Int), ∃ (m_1 : Nat), [I (setF (fun (_ : Nat) => (0 : Int)) 0 [s.M 0 (0 + ((0 : Int) + (1 : Int)).toNat * (6) + 0), s.M 0 (0 + ((0 : Int) + (1 : Int)).toNat * (6) + 1), s.M 0 (0 + ((0 : Int) + (1 : Int)).toNat * (6) + 2), s.M 0 (0 + ((0 : Int) + (1 : Int)).toNat * (6) + 3), s.M 0 (0 + ((0 : Int) + (1 : Int)).toNat * (6) + 4), s.M 0 (0 + ((0 : Int) + (1 : Int)).toNat * (6) + 5)] (0 + 0)), I (setF (fun (_ : Nat) => (0 : Int)) 0 [s.M 0 (0 + ((0 : Int) + (1 : Int)).toNat * (6) + 0), s.M 0 (0 + ((0 : Int) + (1 : Int)).toNat * (6) + 1), s.M 0 (0 + ((0 : Int) + (1 : Int)).toNat * (6) + 2), s.M 0 (0 + ((0 : Int) + (1 : Int)).toNat * (6) + 3), s.M 0 (0 + ((0 : Int) + (1 : Int)).toNat * (6) + 4), s.M 0 (0 + ((0 : Int) + (1 : Int)).toNat * (6) + 5)] (0 + 1)), I (setF (fun (_ : Nat) => (0 : Int)) 0 [s.M 0 (0 + ((0 : Int) + (1 : Int)).toNat * (6) + 0), s.M 0 (0 + ((0 : Int) + (1 : Int)).toNat * (6) + 1), s.M 0 (0 + ((0 : Int) + (1 : Int)).toNat * (6) + 2), s.M 0 (0 + ((0 : Int) + (1 : Int)).toNat * (6) + 3), s.M 0 (0 + ((0 : Int) + (1 : Int)).toNat * (6) + 4), s.M 0 (0 + ((0 : Int) + (1 : Int)).toNat * (6) + 5)] (0 + 2)), I (setF (fun (_ : Nat) => (0 : Int)) 0 [s.M 0 (0 + ((0 : Int) + (1 : Int)).toNat * (6) + 0), s.M 0 (0 + ((0 : Int) + (1 : Int)).toNat * (6) + 1), s.M 0 (0 + ((0 : Int) + (1 : Int)).toNat * (6) + 2), s.M 0 (0 + ((0 : Int) + (1 : Int)).toNat * (6) + 3), s.M 0 (0 + ((0 : Int) + (1 : Int)).toNat * (6) + 4), s.M 0 (0 + ((0 : Int) + (1 : Int)).toNat * (6) + 5)] (0 + 3)), I (setF (fun (_ : Nat) => (0 : Int)) 0 [s.M 0 (0 + ((0 : Int) + (1 : Int)).toNat * (6) + 0), s.M 0 (0 + ((0 : Int) + (1 : Int)).toNat * (6) + 1), s.M 0 (0 + ((0 : Int) + (1 : Int)).toNat * (6) + 2), s.M 0 (0 + ((0 : Int) + (1 : Int)).toNat * (6) + 3), s.M 0 (0 + ((0 : Int) + (1 : Int)).toNat * (6) + 4), s.M 0 (0 + ((0 : Int) + (1 : Int)).toNat * (6) + 5)] (0 + 4)), I (setF (fun (_ : Nat) => (0 : Int)) 0 [s.M 0 (0 + ((0 : Int) + (1 : Int)).toNat * (6) + 0), s.M 0 (0 + ((0 : Int) + (1 : Int)).toNat * (6) + 1), s.M 0 (0 + ((0 : Int) + (1 : Int)).toNat * (6) + 2), s.M 0 (0 + ((0 : Int) + (1 : Int)).toNat * (6) + 3), s.M 0 (0 + ((0 : Int) + (1 : Int)).toNat * (6) + 4), s.M 0 (0 + ((0 : Int) + (1 : Int)).toNat * (6) + 5)] (0 + 5))] = nL n_1 ∧ (↑l.length : Int) = (↑m_1 : Int) ∧ m_1 ≤ 6 ∧ ∃ (n_2 : Nat → Int), ∃ (m_2 : Nat), [I (setF (fun (_ : Nat) => (0 : Int)) 0 [s.M 0 (0 + ((0 : Int) + (1 : Int) + (1 : Int)).toNat * (6) + 0), s.M 0 (0 + ((0 : Int) + (1 : Int) + (1 : Int)).toNat * (6) + 1), s.M 0 (0 + ((0 : Int) + (1 : Int) + (1 : Int)).toNat * (6) + 2), s.M 0 (0 + ((0 : Int) + (1 : Int) + (1 : Int)).toNat * (6) + 3), s.M 0 (0 + ((0 : Int) + (1 : Int) + (1 : Int)).toNat * (6) + 4), s.M 0 (0 + ((0 : Int) + (1 : Int) + (1 : Int)).toNat * (6) + 5)] (0 + 0)), I (setF (fun (_ : Nat) => (0 : Int)) 0 [s.M 0 (0 + ((0 : Int) + (1 : Int) + (1 : Int)).toNat * (6) + 0), s.M 0 (0 + ((0 : Int) + (1 : Int) + (1 : Int)).toNat * (6) + 1), s.M 0 (0 + ((0 : Int) + (1 : Int) + (1 : Int)).toNat * (6) + 2), s.M 0 (0 + ((0 : Int) + (1 : Int) + (1 : Int)).toNat * (6) + 3), s.M 0 (0 + ((0 : Int) + (1 : Int) + (1 : Int)).toNat * (6) + 4), s.M 0 (0 + ((0 : Int) + (1 : Int) + (1 : Int)).toNat * (6) + 5)] (0 + 1)), I (setF (fun (_ : Nat) => (0 : Int)) 0 [s.M 0 (0 + ((0 : Int) + (1 : Int) + (1 : Int)).toNat * (6) + 0), s.M 0 (0 + ((0 : Int) + (1 : Int) + (1 : Int)).toNat * (6) + 1), s.M 0 (0 + ((0 : Int) + (1 : Int) + (1 : Int)).toNat * (6) + 2), s.M 0 (0 + ((0 : Int) + (1 : Int) + (1 : Int)).toNat * (6) + 3), s.M 0 (0 + ((0 : Int) + (1 : Int) + (1 : Int)).toNat * (6) + 4), s.M 0 (0 + ((0 : Int) + (1 : Int) + (1 : Int)).toNat * (6) + 5)] (0 + 2)), I (setF (fun (_ : Nat) => (0 : Int)) 0 [s.M 0 (0 + ((0 : Int) + (1 : Int) + (1 : Int)).toNat * (6) + 0), s.M 0 (0 + ((0 : Int) + (1 : Int) + (1 : Int)).toNat * (6) + 1), s.M 0 (0 + ((0 : Int) + (1 : Int) + (1 : Int)).toNat * (6) + 2), s.M 0 (0 + ((0 : Int) + (1 : Int) + (1 : Int)).toNat * (6) + 3), s.M 0 (0 + ((0 : Int) + (1 : Int) + (1 : Int)).toNat * (6) + 4), s.M 0 (0 + ((0 : Int) + (1 : Int) + (1 : Int)).toNat * (6) + 5)] (0 + 3)), I (setF (fun (_ : Nat) => (0 : Int)) 0 [s.M 0 (0 + ((0 : Int) + (1 : Int) + (1 : Int)).toNat * (6) + 0), s.M 0 (0 + ((0 : Int) + (1 : Int) + (1 : Int)).toNat * (6) + 1), s.M 0 (0 + ((0 : Int) + (1 : Int) + (1 : Int)).toNat * (6) + 2), s.M 0 (0 + ((0 : Int) + (1 : Int) + (1 : Int)).toNat * (6) + 3), s.M 0 (0 + ((0 : Int) + (1 : Int) + (1 : Int)).toNat * (6) + 4), s.M 0 (0 + ((0 : Int) + (1 : Int) + (1 : Int)).toNat * (6) + 5)] (0 + 4)), I (setF (fun (_ : Nat) => (0 : Int)) 0 [s.M 0 (0 + ((0 : Int) + (1 : Int) + (1 : Int)).toNat * (6) + 0), s.M 0 (0 + ((0 : Int) + (1 : Int) + (1 : Int)).toNat * (6) + 1), s.M 0 (0 + ((0 : Int) + (1 : Int) + (1 : Int)).toNat * (6) + 2), s.M 0 (0 + ((0 : Int) + (1 : Int) + (1 : Int)).toNat * (6) + 3), s.M 0 (0 + ((0 : Int) + (1 : Int) + (1 : Int)).toNat * (6) + 4), s.M 0 (0 + ((0 : Int) + (1 : Int) + (1 : Int)).toNat * (6) + 5)] (0 + 5))] = nL n_2 ∧ (↑l.length : Int) = (↑m_2 : Int) ∧ m_2 ≤ 6 ∧ Q (VRes.ret (VV.tup [VV.sl (20) 1, I 0])) (VH.mk (21) [(20, VB.vec 1 (fun (j : Nat) => List.take (1) (List.drop (j * (1)) (List.take (1 * (1)) (List.drop 0 [VV.tl (1 + 1 + 1) (1) (catG (1 + 1) (catG 1 (fun (j : Nat) => List.take (1) (List.drop (j * (1)) [VV.tl m 1 (chG n)])) fun (j : Nat) => List.take (1) (List.drop (j * (1)) [VV.tl m_1 1 (chG n_1)])) fun (j : Nat) => List.take (1) (List.drop (j * (1)) [VV.tl m_2 1 (chG n_2)]))])))) (1) 26), (19, VB.cells [VV.tl (1 + 1 + 1) (1) (catG (1 + 1) (catG 1 (fun (j : Nat) => List.take (1) (List.drop (j * (1)) [VV.tl m 1 (chG n)])) fun (j : Nat) => List.take (1) (List.drop (j * (1)) [VV.tl m_1 1 (chG n_1)])) fun (j : Nat) => List.take (1) (List.drop (j * (1)) [VV.tl m_2 1 (chG n_2)]))] 26), (14, VB.gone), (19, VB.cells [VV.sl (14) (1 + 1 + 1)] 26), (14, VB.vec (1 + 1 + 1) (catG (1 + 1) (catG 1 (fun (j : Nat) => List.take (1) (List.drop (j * (1)) [VV.tl m 1 (chG n)])) fun (j : Nat) => List.take (1) (List.drop (j * (1)) [VV.tl m_1 1 (chG n_1)])) fun (j : Nat) => List.take (1) (List.drop (j * (1)) [VV.tl m_2 1 (chG n_2)])) (1) 23), (18, VB.vec 1 (fun (j : Nat) => List.take (1) (List.drop (j * (1)) [VV.tl m_2 1 (chG n_2)])) (1) 23), (17, VB.fam [] (6) (setF (fun (_ : Nat) => (0 : Int)) 0 [s.M 0 (0 + ((0 : Int) + (1 : Int) + (1 : Int)).toNat * (6) + 0), s.M 0 (0 + ((0 : Int) + (1 : Int) + (1 : Int)).toNat * (6) + 1), s.M 0 (0 + ((0 : Int) + (1 : Int) + (1 : Int)).toNat * (6) + 2), s.M 0 (0 + ((0 : Int) + (1 : Int) + (1 : Int)).toNat * (6) + 3), s.M 0 (0 + ((0 : Int) + (1 : Int) + (1 : Int)).toNat * (6) + 4), s.M 0 (0 + ((0 : Int) + (1 : Int) + (1 : Int)).toNat * (6) + 5)]) 80), (17, VB.fam [] (6) (fun (_ : Nat) => (0 : Int)) 80), (14, VB.vec (1 + 1) (catG 1 (fun (j : Nat) => List.take (1) (List.drop (j * (1)) [VV.tl m 1 (chG n)])) fun (j : Nat) => List.take (1) (List.drop (j * (1)) [VV.tl m_1 1 (chG n_1)])) (1) 23), (16, VB.vec 1 (fun (j : Nat) => List.take (1) (List.drop (j * (1)) [VV.tl m_1 1 (chG n_1)])) (1) 23), (15, VB.fam [] (6) (setF (fun (_ : Nat) => (0 : Int)) 0 [s.M 0 (0 + ((0 : Int) + (1 : Int)).toNat * (6) + 0), s.M 0 (0 + ((0 : Int) + (1 : Int)).toNat * (6) + 1), s.M 0 (0 + ((0 : Int) + (1 : Int)).toNat * (6) + 2), s.M 0 (0 + ((0 : Int) + (1 : Int)).toNat * (6) + 3), s.M 0 (0 + ((0 : Int) + (1 : Int)).toNat * (6) + 4), s.M 0 (0 + ((0 : Int) + (1 : Int)).toNat * (6) + 5)]) 80), (15, VB.fam [] (6) (fun (_ : Nat) => (0 : Int)) 80), (14, VB.vec 1 (fun (j : Nat) => List.take (1) (List.drop (j * (1)) [VV.tl m 1 (chG n)])) (1) 23), (13, VB.vec 1 (fun (j : Nat) => List.take (1) (List.drop (j * (1)) [VV.tl m 1 (chG n)])) (1) 23), (12, VB.fam [] (6) (setF (fun (_ : Nat) => (0 : Int)) 0 [s.M 0 (0 + Int.toNat (0 : Int) * (6) + 0), s.M 0 (0 + Int.toNat (0 : Int) * (6) + 1), s.M 0 (0 + Int.toNat (0 : Int) * (6) + 2), s.M 0 (0 + Int.toNat (0 : Int) * (6) + 3), s.M 0 (0 + Int.toNat (0 : Int) * (6) + 4), s.M 0 (0 + Int.toNat (0 : Int) * (6) + 5)]) 80), (12, VB.fam [] (6) (fun (_ : Nat) => (0 : Int)) 80), (7, VB.fam [] (3 * 6) (s.M 0) (80 : TypeId)), (8, VB.map [PK.int IntKind.i64, PK.int IntKind.i64, PK.int IntKind.i64, PK.int IntKind.i64, PK.int IntKind.i64, PK.int IntKind.i64, PK.int IntKind.i64, PK.int IntKind.i64] PK.bool s.es), (10, VB.cells [VV.func 44 [] [VV.ptr (VA.own (4) 0), VV.ptr (VA.own (9) 0), VV.ptr (VA.own (1) 0), VV.ptr (VA.own (11) 0)]] 78), (11, VB.cells [VV.func 40 [] [VV.ptr (VA.own (3) 0), VV.ptr (VA.own (10) 0), VV.ptr (VA.own (1) 0), VV.ptr (VA.own (6) 0)]] 88), (11, VB.cells [VV.nilf] 88), (10, VB.cells [VV.nilf] 78), (9, VB.cells [VV.mp (8)] 77), (9, VB.cells [VV.opq (Value.map none)] 77), (8, VB.map [PK.int IntKind.i64, PK.int IntKind.i64, PK.int IntKind.i64, PK.int IntKind.i64, PK.int IntKind.i64, PK.int IntKind.i64, PK.int IntKind.i64, PK.int IntKind.i64] PK.bool []), (5, VB.cells [VV.slice (VA.fa (7) 0 0) (↑([[d00, d01, d02]].getD (Int.toNat (0 : Int)) []).length : Int).toNat (↑([[d00, d01, d02]].getD (Int.toNat (0 : Int)) []).length : Int).toNat] 76), (7, VB.fam [] ((↑([[d00, d01, d02]].getD (Int.toNat (0 : Int)) []).length : Int).toNat * (6)) (fun (_ : Nat) => (0 : Int)) 80), (6, VB.cells [VV.slice (VA.own (5) 0) (1) (1)] 75), (6, VB.cells [VV.nils] 75), (5, VB.cells [VV.nils] 76), (4, VB.cells [I (↑([[d00, d01, d02]].getD (Int.toNat (0 : Int)) []).length : Int)] 3), (4, VB.cells [I 0] 3), (3, VB.cells [VV.ptr (VA.own (2) 0)] 72), (3, VB.cells [VV.nilp] 72), (2, VB.cells [VV.tl l.length 5 (stG l), VV.tl t.T.length 1 (dG t.T), I t.far, I t.least] 74), (1, VB.cells [VV.tl [[d00, d01, d02]].length 1 (pthG [[d00, d01, d02]])] 26), (0, VB.cells [VV.tl t.T.length 1 (dG t.T), I t.far, I t.least] 25)])) := by kernel_rfl

end Go.Sx.Bln

/- blend: Plan with 1 paths of 3 years. -/

namespace Go.Sx.Bln
open Go Go.Sx Go.Proofs
set_option maxRecDepth 1000000

theorem pln13_v {l : List Stk} {t : Tst} {d00 d01 d02 : Int} (h1 : okAll l t = true) (h2 : okPaths [[d00, d01, d02]] = true) (cf : Cfg l t [[d00, d01, d02]] 3) (hpb : pthB [[d00, d01, d02]]) : ∃ r h', CallsV Try.prog 17 [stD l, .agg (tsL t), pthD [[d00, d01, d02]]] ⟨0, []⟩ r h' ∧ PlnK l t [[d00, d01, d02]] 3 r h' := by
  have hl6 := cf.hl.1
  have htab : ∀ f T, tabS [asR l t, casksR l t, apR [[d00, d01, d02]], findR1 l t [[d00, d01, d02]] 3 3, listT] f = some T → SpOk Try.prog f T := tab_ok _ (fun x hx => by
    simp only [List.mem_cons, List.not_mem_nil, or_false] at hx
    rcases hx with rfl | rfl | rfl | rfl | rfl
    · exact asR_ok l t
    · exact casksR_ok l t
    · exact apR_ok _
    · exact findR1_ok cf 3
    · exact listT_ok)
  obtain ⟨r, h', hk, hc⟩ := of_callN (noL_good htab) (f := 17) (args := [stD l, .agg (tsL t), pthD [[d00, d01, d02]]]) (h := ⟨0, []⟩) (K := PlnK l t [[d00, d01, d02]] 3) (by
    refine cast (pl13_ev l t d00 d01 d02 _).symm ⟨isD_l, ⟨⟨rfl, rfl, fun _ _ => rfl⟩, ⟨rfl, rfl⟩, ⟨rfl, rfl⟩, trivial⟩, cond_i (fun h => by rw [h1] at h; cases h) (fun _ => ⟨⟨rfl, rfl, fun _ _ => rfl⟩, hpb, cond_i (fun h => by rw [h2] at h; cases h) (fun _ => ?_)⟩)⟩
    refine ⟨hc61 rfl, hl6, 1, mostF l, fun _ _ => 0, [], ⟨rfl, rfl, rfl, rfl⟩, ⟨rfl, Nat.le_refl _⟩, ⟨rfl, rfl, rfl, rfl, rfl, rfl, rfl, rfl, rfl, rfl, rfl, rfl, trivial⟩, ⟨rfl, rfl, rfl⟩, ⟨Nat.le_refl _, (by show 1 < 2 ^ 1; decide), most_left cf.hl, lost_nil⟩, ?_⟩
    rintro b s ⟨p1, p2, p3, p4⟩
    refine cond_i (fun g => ?_) (fun g => ?_)
    · have g : b = false := by simpa using g
      subst g
      refine .inl ⟨?_, rfl⟩
      cases hx : planF l t [[d00, d01, d02]] 3 3 1 (mostF l) with
      | none => exact hx
      | some x => rw [hx] at p1; cases p1
    · have g : b = true := by simpa using g
      subst g
      obtain ⟨x, hx⟩ : ∃ x, planF l t [[d00, d01, d02]] 3 3 1 (mostF l) = some x := by
        cases hx : planF l t [[d00, d01, d02]] 3 3 1 (mostF l) with
        | none => rw [hx] at p1; cases p1
        | some x => exact ⟨x, rfl⟩
      refine ⟨fun j => s.M 0 (0 * 6 + j), l.length, rfl, rfl, hl6, fun j => s.M 0 (1 * 6 + j), l.length, rfl, rfl, hl6, fun j => s.M 0 (2 * 6 + j), l.length, rfl, rfl, hl6, .inr ⟨x, _, _, _, hx, rfl, rfl, fun i hi => ?_⟩⟩
      have hi : i < 1 := hi
      match i, hi with
      | 0, _ =>
            refine tl_weak rfl (fun y hy => ?_)
            match y, hy with
            | 0, _ => exact wk_ch (fun j hj => p4 x hx 0 0 j (by omega) rfl (by omega) (by omega))
            | 1, _ => exact wk_ch (fun j hj => p4 x hx 0 1 j (by omega) rfl (by omega) (by omega))
            | 2, _ => exact wk_ch (fun j hj => p4 x hx 0 2 j (by omega) rfl (by omega) (by omega))
            | _ + 3, hy => exact absurd hy (by omega)
      | _ + 1, hi => exact absurd hi (by omega))
  exact ⟨r, h', hc, hk⟩
end Go.Sx.Bln

/- blend: Plan with 1 paths of 4 years, evaluated. -/

namespace Go.Sx.Bln
open Go Go.Sx Go.Proofs
set_option maxRecDepth 1000000

theorem pl14_ev (l : List Stk) (t : Tst) (d00 d01 d02 d03 : Int) (Q : VRes → VH → Prop) : callN Try.prog (tabS [asR l t, casksR l t, apR [[d00, d01, d02, d03]], findR1 l t [[d00, d01, d02, d03]] 4 4, listT]) noL 10 20 0 (.fn 17) [stD l, .agg (tsL t), pthD [[d00, d01, d02, d03]]] ⟨0, []⟩ (fun r h => Q r h) =
  (isD (VH.mk (2) [(1, VB.cells [VV.tl [[d00, d01, d02, d03]].length 1 (pthG [[d00, d01, d02, d03]])] 26), (0, VB.cells [VV.tl t.T.length 1 (dG t.T), I t.far, I t.least] 25)]) 2 (VV.tl l.length 5 (stG l)) (stD l) ∧ isD (VH.mk (2) [(1, VB.cells [VV.tl [[d00, d01, d02, d03]].length 1 (pthG [[d00, d01, d02, d03]])] 26), (0, VB.cells [VV.tl t.T.length 1 (dG t.T), I t.far, I t.least] 25)]) 2 (VV.agg [VV.tl t.T.length 1 (dG t.T), I t.far, I t.least]) (VV.agg (tsL t)) ∧ bif !okAll l t then
 Q (VRes.ret (VV.tup [VV.nils, I 1])) (VH.mk (2) [(1, VB.cells [VV.tl [[d00, d01, d02, d03]].length 1 (pthG [[d00, d01, d02, d03]])] 26), (0, VB.cells [VV.tl t.T.length 1 (dG t.T), I t.far, I t.least] 25)])
 else isD (VH.mk (2) [(1, VB.cells [VV.tl [[d00, d01, d02, d03]].length 1 (pthG [[d00, d01, d02, d03]])] 26), (0, VB.cells [VV.tl t.T.length 1 (dG t.T), I t.far, I t.least] 25)]) 4 (VV.tl [[d00, d01, d02, d03]].length 1 (pthG [[d00, d01, d02, d03]])) (pthD [[d00, d01, d02, d03]]) ∧ pthB [[d00, d01, d02, d03]] ∧ bif !okPaths [[d00, d01, d02, d03]] then
 Q (VRes.ret (VV.tup [VV.nils, I 2])) (VH.mk (2) [(1, VB.cells [VV.tl [[d00, d01, d02, d03]].length 1 (pthG [[d00, d01, d02, d03]])] 26), (0, VB.cells [VV.tl t.T.length 1 (dG t.T), I t.far, I t.least] 25)])
 else isD (maskH [0, 1, 2, 3, 4, 5, 6, 7, 8, 9, 10, 11] (VH.mk (12) ((10, VB.cells [VV.func 44 [] [VV.ptr (VA.own (4) 0), VV.ptr (VA.own (9) 0), VV.ptr (VA.own (1) 0), VV.ptr (VA.own (11) 0)]] 78) :: (11, VB.cells [VV.func 40 [] [VV.ptr (VA.own (3) 0), VV.ptr (VA.own (10) 0), VV.ptr (VA.own (1) 0), VV.ptr (VA.own (6) 0)]] 88) :: (11, VB.cells [VV.nilf] 88) :: (10, VB.cells [VV.nilf] 78) :: (9, VB.cells [VV.mp (8)] 77) :: (9, VB.cells [VV.opq (Value.map none)] 77) :: (8, VB.map ([PK.int IntKind.i64] ++ ([PK.int IntKind.i64] ++ ((List.replicate 6 [PK.int IntKind.i64]).flatten ++ []))) PK.bool []) :: (5, VB.cells [VV.slice (VA.fa (7) 0 0) (↑([[d00, d01, d02, d03]].getD (Int.toNat (0 : Int)) []).length : Int).toNat (↑([[d00, d01, d02, d03]].getD (Int.toNat (0 : Int)) []).length : Int).toNat] 76) :: ([(7, VB.fam [] ((↑([[d00, d01, d02, d03]].getD (Int.toNat (0 : Int)) []).length : Int).toNat * (6)) (fun (_ : Nat) => (0 : Int)) 80)] ++ [(6, VB.cells [VV.slice (VA.own (5) 0) (1) (1)] 75), (6, VB.cells [VV.nils] 75), (5, VB.cells [VV.nils] 76), (4, VB.cells [I (↑([[d00, d01, d02, d03]].getD (Int.toNat (0 : Int)) []).length : Int)] 3), (4, VB.cells [I 0] 3), (3, VB.cells [VV.ptr (VA.own (2) 0)] 72), (3, VB.cells [VV.nilp] 72), (2, VB.cells [VV.tl l.length 5 (stG l), VV.tl t.T.length 1 (dG t.T), I t.far, I t.least] 74), (1, VB.cells [VV.tl [[d00, d01, d02, d03]].length 1 (pthG [[d00, d01, d02, d03]])] 26), (0, VB.cells [VV.tl t.T.length 1 (dG t.T), I t.far, I t.least] 25)])))) 4 (VV.ptr (VA.own (2) 0)) (VV.tp (stD l :: tsL t)) ∧ l.length ≤ 6 ∧ ∃ (S' : Nat), ∃ (a : Nat → Int), ∃ (M : Mde), ∃ (es : Lst), (VV.ptr (VA.own 4 0) = VV.ptr (VA.own 4 0) ∧ VV.ptr (VA.own 9 0) = VV.ptr (VA.own 9 0) ∧ VV.ptr (VA.own 1 0) = VV.ptr (VA.own 1 0) ∧ VV.ptr (VA.own 11 0) = VV.ptr (VA.own 11 0)) ∧ (0 = 0 ∧ 12 ≤ 12) ∧ atL nsB1 (BP1 l t [[d00, d01, d02, d03]] 4 M es) (VH.mk (12) ((10, VB.cells [VV.func 44 [] [VV.ptr (VA.own (4) 0), VV.ptr (VA.own (9) 0), VV.ptr (VA.own (1) 0), VV.ptr (VA.own (11) 0)]] 78) :: (11, VB.cells [VV.func 40 [] [VV.ptr (VA.own (3) 0), VV.ptr (VA.own (10) 0), VV.ptr (VA.own (1) 0), VV.ptr (VA.own (6) 0)]] 88) :: (11, VB.cells [VV.nilf] 88) :: (10, VB.cells [VV.nilf] 78) :: (9, VB.cells [VV.mp (8)] 77) :: (9, VB.cells [VV.opq (Value.map none)] 77) :: (8, VB.map ([PK.int IntKind.i64] ++ ([PK.int IntKind.i64] ++ ((List.replicate 6 [PK.int IntKind.i64]).flatten ++ []))) PK.bool []) :: (5, VB.cells [VV.slice (VA.fa (7) 0 0) (↑([[d00, d01, d02, d03]].getD (Int.toNat (0 : Int)) []).length : Int).toNat (↑([[d00, d01, d02, d03]].getD (Int.toNat (0 : Int)) []).length : Int).toNat] 76) :: ([(7, VB.fam [] ((↑([[d00, d01, d02, d03]].getD (Int.toNat (0 : Int)) []).length : Int).toNat * (6)) (fun (_ : Nat) => (0 : Int)) 80)] ++ [(6, VB.cells [VV.slice (VA.own (5) 0) (1) (1)] 75), (6, VB.cells [VV.nils] 75), (5, VB.cells [VV.nils] 76), (4, VB.cells [I (↑([[d00, d01, d02, d03]].getD (Int.toNat (0 : Int)) []).length : Int)] 3), (4, VB.cells [I 0] 3), (3, VB.cells [VV.ptr (VA.own (2) 0)] 72), (3, VB.cells [VV.nilp] 72), (2, VB.cells [VV.tl l.length 5 (stG l), VV.tl t.T.length 1 (dG t.T), I t.far, I t.least] 74), (1, VB.cells [VV.tl [[d00, d01, d02, d03]].length 1 (pthG [[d00, d01, d02, d03]])] 26), (0, VB.cells [VV.tl t.T.length 1 (dG t.T), I t.far, I t.least] 25)]))) ∧ ((↑4 : Int) - (↑4 : Int) = (↑4 : Int) - (↑4 : Int) ∧ (1 : Int) * (2 : Int) ^ min (↑[[d00, d01, d02, d03]].length : Int).toNat IntKind.i64.bits - (1 : Int) = (↑S' : Int) ∧ [I (mostF l 0), I (mostF l 1), I (mostF l 2), I (mostF l 3), I (mostF l 4), I (mostF l 5)] = nL a) ∧ PreF l t [[d00, d01, d02, d03]] 4 4 S' a es ∧ ∀ (b : Bool) (s : St), PostF l t [[d00, d01, d02, d03]] 4 4 S' a M b s → bif !b then
 Q (VRes.ret (VV.tup [VV.nils, I 4])) (VH.mk (12) [(7, VB.fam [] (4 * 6) (s.M 0) (80 : TypeId)), (8, VB.map [PK.int IntKind.i64, PK.int IntKind.i64, PK.int IntKind.i64, PK.int IntKind.i64, PK.int IntKind.i64, PK.int IntKind.i64, PK.int IntKind.i64, PK.int IntKind.i64] PK.bool s.es), (10, VB.cells [VV.func 44 [] [VV.ptr (VA.own (4) 0), VV.ptr (VA.own (9) 0), VV.ptr (VA.own (1) 0), VV.ptr (VA.own (11) 0)]] 78), (11, VB.cells [VV.func 40 [] [VV.ptr (VA.own (3) 0), VV.ptr (VA.own (10) 0), VV.ptr (VA.own (1) 0), VV.ptr (VA.own (6) 0)]] 88), (11, VB.cells [VV.nilf] 88), (10, VB.cells [VV.nilf] 78), (9, VB.cells [VV.mp (8)] 77), (9, VB.cells [VV.opq (Value.map none)] 77), (8, VB.map [PK.int IntKind.i64, PK.int IntKind.i64, PK.int IntKind.i64, PK.int IntKind.i64, PK.int IntKind.i64, PK.int IntKind.i64, PK.int IntKind.i64, PK.int IntKind.i64] PK.bool []), (5, VB.cells [VV.slice (VA.fa (7) 0 0) (↑([[d00, d01, d02, d03]].getD (Int.toNat (0 : Int)) []).length : Int).toNat (↑([[d00, d01, d02, d03]].getD (Int.toNat (0 : Int)) []).length : Int).toNat] 76), (7, VB.fam [] ((↑([[d00, d01, d02, d03]].getD (Int.toNat (0 : Int)) []).length : Int).toNat * (6)) (fun (_ : Nat) => (0 : Int)) 80), (6, VB.cells [VV.slice (VA.own (5) 0) (1) (1)] 75), (6, VB.cells [VV.nils] 75), (5, VB.cells [VV.nils] 76), (4, VB.cells [I (↑([[d00, d01, d02, d03]].getD (Int.toNat (0 : Int)) []).length : Int)] 3), (4, VB.cells [I 0] 3), (3, VB.cells [VV.ptr (VA.own (2) 0)] 72), (3, VB.cells [VV.nilp] 72), (2, VB.cells [VV.tl l.length 5 (stG l), VV.tl t.T.length 1 (dG t.T), I t.far, I t.least] 74), (1, VB.cells [VV.tl [[d00, d01, d02, d03]].length 1 (pthG [[d00, d01, d02, d03]])] 26), (0, VB.cells [VV.tl t.T.length 1 (dG t.T), I t.far, I t.least] 25)])
 else ∃ (n : Nat → Int), ∃ (m : Nat), [I (setF (fun (_ : Nat) => (0 : Int)) 0 [s.M 0 (0 + Int.toNat (0 : Int) * (6) + 0), s.M 0 (0 + Int.toNat (0 : Int) * (6) + 1), s.M 0 (0 + Int.toNat (0 : Int) * (6) + 2), s.M 0 (0 + Int.toNat (0 : Int) * (6) + 3), s.M 0 (0 + Int.toNat (0 : Int) * (6) + 4), s.M 0 (0 + Int.toNat (0 : Int) * (6) + 5)] (0 + 0)), I (setF (fun (_ : Nat) => (0 : Int)) 0 [s.M 0 (0 + Int.toNat (0 : Int) * (6) + 0), s.M 0 (0 + Int.toNat (0 : Int) * (6) + 1), s.M 0 (0 + Int.toNat (0 : Int) * (6) + 2), s.M 0 (0 + Int.toNat (0 : Int) * (6) + 3), s.M 0 (0 + Int.toNat (0 : Int) * (6) + 4), s.M 0 (0 + Int.toNat (0 : Int) * (6) + 5)] (0 + 1)), I (setF (fun (_ : Nat) => (0 : Int)) 0 [s.M 0 (0 + Int.toNat (0 : Int) * (6) + 0), s.M 0 (0 + Int.toNat (0 : Int) * (6) + 1), s.M 0 (0 + Int.toNat (0 : Int) * (6) + 2), s.M 0 (0 + Int.toNat (0 : Int) * (6) + 3), s.M 0 (0 + Int.toNat (0 : Int) * (6) + 4), s.M 0 (0 + Int.toNat (0 : Int) * (6) + 5)] (0 + 2)), I (setF (fun (_ : Nat) => (0 : Int)) 0 [s.M 0 (0 + Int.toNat (0 : Int) * (6) + 0), s.M 0 (0 + Int.toNat (0 : Int) * (6) + 1), s.M 0 (0 + Int.toNat (0 : Int) * (6) + 2), s.M 0 (0 + Int.toNat (0 : Int) * (6) + 3), s.M 0 (0 + Int.toNat (0 : Int) * (6) + 4), s.M 0 (0 + Int.toNat (0 : Int) * (6) + 5)] (0 + 3)), I (setF (fun (_ : Nat) => (0 : Int)) 0 [s.M 0 (0 + Int.toNat (0 : Int) * (6) + 0), s.M 0 (0 + Int.toNat (0 : Int) * (6) + 1), s.M 0 (0 + Int.toNat (0 : Int) * (6) + 2), s.M 0 (0 + Int.toNat (0 : Int) * (6) + 3), s.M 0 (0 + Int.toNat (0 : Int) * (6) + 4), s.M 0 (0 + Int.toNat (0 : Int) * (6) + 5)] (0 + 4)), I (setF (fun (_ : Nat) => (0 : Int)) 0 [s.M 0 (0 + Int.toNat (0 : Int) * (6) + 0), s.M 0 (0 + Int.toNat (0 : Int) * (6) + 1), s.M 0 (0 + Int.toNat (0 : Int) * (6) + 2), s.M 0 (0 + Int.toNat (0 : Int) * (6) + 3), s.M 0 (0 + Int.toNat (0 : Int) * (6) + 4), s.M 0 (0 + Int.toNat (0 : Int) * (6) + 5)] (0 + 5))] = nL n ∧ (↑l.length : Int) = (↑m : Int) ∧ m ≤ 6 ∧ ∃ (n_1 : Nat → Int), ∃ (m_1 : Nat), [I (setF (fun (_ : Nat) => (0 : Int)) 0 [s.M 0 (0 + ((0 : Int) + (1 : Int)).toNat * (6) + 0), s.M 0 (0 + ((0 : Int) + (1 : Int)).toNat * (6) + 1), s.M 0 (0 + ((0 : Int) + (1 : Int)).toNat * (6) + 2), s.M 0 (0 + ((0 : Int) + (1 : Int)).toNat * (6) + 3), s.M 0 (0 + ((0 : Int) + (1 : Int)).toNat * (6) + 4), s.M 0 (0 + ((0 : Int) + (1 : Int)).toNat * (6) + 5)] (0 + 0)), I (setF (fun (_ : Nat) => (0 : Int)) 0 [s.M 0 (0 + ((0 : Int) + (1 : Int)).toNat * (6) + 0), s.M 0 (0 + ((0 : Int) + (1 : Int)).toNat * (6) + 1), s.M 0 (0 + ((0 : Int) + (1 : Int)).toNat * (6) + 2), s.M 0 (0 + ((0 : Int) + (1 : Int)).toNat * (6) + 3), s.M 0 (0 + ((0 : Int) + (1 : Int)).toNat * (6) + 4), s.M 0 (0 + ((0 : Int) + (1 : Int)).toNat * (6) + 5)] (0 + 1)), I (setF (fun (_ : Nat) => (0 : Int)) 0 [s.M 0 (0 + ((0 : Int) + (1 : Int)).toNat * (6) + 0), s.M 0 (0 + ((0 : Int) + (1 : Int)).toNat * (6) + 1), s.M 0 (0 + ((0 : Int) + (1 : Int)).toNat * (6) + 2), s.M 0 (0 + ((0 : Int) + (1 : Int)).toNat * (6) + 3), s.M 0 (0 + ((0 : Int) + (1 : Int)).toNat * (6) + 4), s.M 0 (0 + ((0 : Int) + (1 : Int)).toNat * (6) + 5)] (0 + 2)), I (setF (fun (_ : Nat) => (0 : Int)) 0 [s.M 0 (0 + ((0 : Int) + (1 : Int)).toNat * (6) + 0), s.M 0 (0 + ((0 : Int) + (1 : Int)).toNat * (6) + 1), s.M 0 (0 + ((0 : Int) + (1 : Int)).toNat * (6) + 2), s.M 0 (0 + ((0 : Int) + (1 : Int)).toNat * (6) + 3), s.M 0 (0 + ((0 : Int) + (1 : Int)).toNat * (6) + 4), s.M 0 (0 + ((0 : Int) + (1 : Int)).toNat * (6) + 5)] (0 + 3)), I (setF (fun (_ : Nat) => (0 : Int)) 0 [s.M 0 (0 + ((0 : Int) + (1 : Int)).toNat * (6) + 0), s.M 0 (0 + ((0 : Int) + (1 : Int)).toNat * (6) + 1), s.M 0 (0 + ((0 : Int) + (1 : Int)).toNat * (6) + 2), s.M 0 (0 + ((0 : Int) + (1 : Int)).toNat * (6) + 3), s.M 0 (0 + ((0 : Int) + (1 : Int)).toNat * (6) + 4), s.M 0 (0 + ((0 : Int) + (1 : Int)).toNat * (6) + 5)] (0 + 4)), I (setF (fun (_ : Nat) => (0 : Int)) 0 [s.M 0 (0 + ((0 : Int) + (1 : Int)).toNat * (6) + 0), s.M 0 (0 + ((0 : Int) + (1 : Int)).toNat * (6) + 1), s.M 0 (0 + ((0 : Int) + (1 : Int)).toNat * (6) + 2), s.M 0 (0 + ((0 : Int) + (1 : Int)).toNat * (6) + 3), s.M 0 (0 + ((0 : Int) + (1 : Int)).toNat * (6) + 4), s.M 0 (0 + ((0 : Int) + (1 : Int)).toNat * (6) + 5)] (0 + 5))] = nL n_1 ∧ (↑l.length : Int) = (↑m_1 : Int) ∧ m_1 ≤ 6 ∧ ∃ (n_2 : Nat → Int), ∃ (m_2 : Nat), [I (setF (fun (_ : Nat) => (0 : Int)) 0 [s.M 0 (0 + ((0 : Int) + (1 : Int) + (1 : Int)).toNat * (6) + 0), s.M 0 (0 + ((0 : Int) + (1 : Int) + (1 : Int)).toNat * (6) + 1), s.M 0 (0 + ((0 : Int) + (1 : Int) + (1 : Int)).toNat * (6) + 2), s.M 0 (0 + ((0 : Int) + (1 : Int) + (1 : Int)).toNat * (6) + 3), s.M 0 (0 + ((0 : Int) + (1 : Int) + (1 : Int)).toNat * (6) + 4), s.M 0 (0 + ((0 : Int) + (1 : Int) + (1 : Int)).toNat * (6) + 5)] (0 + 0)), I (setF (fun (_ : Nat) => (0 : Int)) 0 [s.M 0 (0 + ((0 : Int) + (1 : Int) + (1 : Int)).toNat * (6) + 0), s.M 0 (0 + ((0 : Int) + (1 : Int) + (1 : Int)).toNat * (6) + 1), s.M 0 (0 + ((0 : Int) + (1 : Int) + (1 : Int)).toNat * (6) + 2), s.M 0 (0 + ((0 : Int) + (1 : Int) + (1 : Int)).toNat * (6) + 3), s.M 0 (0 + ((0 : Int) + (1 : Int) + (1 : Int)).toNat * (6) + 4), s.M 0 (0 + ((0 : Int) + (1 : Int) + (1 : Int)).toNat * (6) + 5)] (0 + 1)), I (setF (fun (_ : Nat) => (0 : Int)) 0 [s.M 0 (0 + ((0 : Int) + (1 : Int) + (1 : Int)).toNat * (6) + 0), s.M 0 (0 + ((0 : Int) + (1 : Int) + (1 : Int)).toNat * (6) + 1), s.M 0 (0 + ((0 : Int) + (1 : Int) + (1 : Int)).toNat * (6) + 2), s.M 0 (0 + ((0 : Int) + (1 : Int) + (1 : Int)).toNat * (6) + 3), s.M 0 (0 + ((0 : Int) + (1 : Int) + (1 : Int)).toNat * (6) + 4), s.M 0 (0 + ((0 : Int) + (1 : Int) + (1 : Int)).toNat * (6) + 5)] (0 + 2)), I (setF (fun (_ : Nat) => (0 : Int)) 0 [s.M 0 (0 + ((0 : Int) + (1 : Int) + (1 : Int)).toNat * (6) + 0), s.M 0 (0 + ((0 : Int) + (1 : Int) + (1 : Int)).toNat * (6) + 1), s.M 0 (0 + ((0 : Int) + (1 : Int) + (1 : Int)).toNat * (6) + 2), s.M 0 (0 + ((0 : Int) + (1 : Int) + (1 : Int)).toNat * (6) + 3), s.M 0 (0 + ((0 : Int) + (1 : Int) + (1 : Int)).toNat * (6) + 4), s.M 0 (0 + ((0 : Int) + (1 : Int) + (1 : Int)).toNat * (6) + 5)] (0 + 3)), I (setF (fun (_ : Nat) => (0 : Int)) 0 [s.M 0 (0 + ((0 : Int) + (1 : Int) + (1 : Int)).toNat * (6) + 0), s.M 0 (0 + ((0 : Int) + (1 : Int) + (1 : Int)).toNat * (6) + 1), s.M 0 (0 + ((0 : Int) + (1 : Int) + (1 : Int)).toNat * (6) + 2), s.M 0 (0 + ((0 : Int) + (1 : Int) + (1 : Int)).toNat * (6) + 3), s.M 0 (0 + ((0 : Int) + (1 : Int) + (1 : Int)).toNat * (6) + 4), s.M 0 (0 + ((0 : Int) + (1 : Int) + (1 : Int)).toNat * (6) + 5)] (0 + 4)), I (setF (fun (_ : Nat) => (0 : Int)) 0 [s.M 0 (0 + ((0 : Int) + (1 : Int) + (1 : Int)).toNat * (6) + 0), s.M 0 (0 + ((0 : Int) + (1 : Int) + (1 : Int)).toNat * (6) + 1), s.M 0 (0 + ((0 : Int) + (1 : Int) + (1 : Int)).toNat * (6) + 2), s.M 0 (0 + ((0 : Int) + (1 : Int) + (1 : Int)).toNat * (6) + 3), s.M 0 (0 + ((0 : Int) + (1 : Int) + (1 : Int)).toNat * (6) + 4), s.M 0 (0 + ((0 : Int) + (1 : Int) + (1 : Int)).toNat * (6) + 5)] (0 + 5))] = nL n_2 ∧ (↑l.length : Int) = (↑m_2 : Int) ∧ m_2 ≤ 6 ∧ ∃ (n_3 : Nat → Int), ∃ (m_3 : Nat), [I (setF (fun (_ : Nat) => (0 : Int)) 0 [s.M 0 (0 + ((0 : Int) + (1 : Int) + (1 : Int) + (1 : Int)).toNat * (6) + 0), s.M 0 (0 + ((0 : Int) + (1 : Int) + (1 : Int) + (1 : Int)).toNat * (6) + 1), s.M 0 (0 + ((0 : Int) + (1 : Int) + (1 : Int) + (1 : Int)).toNat * (6) + 2), s.M 0 (0 + ((0 : Int) + (1 : Int) + (1 : Int) + (1 : Int)).toNat * (6) + 3), s.M 0 (0 + ((0 : Int) + (1 : Int) + (1 : Int) + (1 : Int)).toNat * (6) + 4), s.M 0 (0 + ((0 : Int) + (1 : Int) + (1 : Int) + (1 : Int)).toNat * (6) + 5)] (0 + 0)), I (setF (fun (_ : Nat) => (0 : Int)) 0 [s.M 0 (0 + ((0 : Int) + (1 : Int) + (1 : Int) + (1 : Int)).toNat * (6) + 0), s.M 0 (0 + ((0 : Int) + (1 : Int) + (1 : Int) + (1 : Int)).toNat * (6) + 1), s.M 0 (0 + ((0 : Int) + (1 : Int) + (1 : Int) + (1 : Int)).toNat * (6) + 2), s.M 0 (0 + ((0 : Int) + (1 : Int) + (1 : Int) + (1 : Int)).toNat * (6) + 3), s.M 0 (0 + ((0 : Int) + (1 : Int) + (1 : Int) + (1 : Int)).toNat * (6) + 4), s.M 0 (0 + ((0 : Int) + (1 : Int) + (1 : Int) + (1 : Int)).toNat * (6) + 5)] (0 + 1)), I (setF (fun (_ : Nat) => (0 : Int)) 0 [s.M 0 (0 + ((0 : Int) + (1 : Int) + (1 : Int) + (1 : Int)).toNat * (6) + 0), s.M 0 (0 + ((0 : Int) + (1 : Int) + (1 : Int) + (1 : Int)).toNat * (6) + 1), s.M 0 (0 + ((0 : Int) + (1 : Int) + (1 : Int) + (1 : Int)).toNat * (6) + 2), s.M 0 (0 + ((0 : Int) + (1 : Int) + (1 : Int) + (1 : Int)).toNat * (6) + 3), s.M 0 (0 + ((0 : Int) + (1 : Int) + (1 : Int) + (1 : Int)).toNat * (6) + 4), s.M 0 (0 + ((0 : Int) + (1 : Int) + (1 : Int) + (1 : Int)).toNat * (6) + 5)] (0 + 2)), I (setF (fun (_ : Nat) => (0 : Int)) 0 [s.M 0 (0 + ((0 : Int) + (1 : Int) + (1 : Int) + (1 : Int)).toNat * (6) + 0), s.M 0 (0 + ((0 : Int) + (1 : Int) + (1 : Int) + (1 : Int)).toNat * (6) + 1), s.M 0 (0 + ((0 : Int) + (1 : Int) + (1 : Int) + (1 : Int)).toNat * (6) + 2), s.M 0 (0 + ((0 : Int) + (1 : Int) + (1 : Int) + (1 : Int)).toNat * (6) + 3), s.M 0 (0 + ((0 : Int) + (1 : Int) + (1 : Int) + (1 : Int)).toNat * (6) + 4), s.M 0 (0 + ((0 : Int) + (1 : Int) + (1 : Int) + (1 : Int)).toNat * (6) + 5)] (0 + 3)), I (setF (fun (_ : Nat) => (0 : Int)) 0 [s.M 0 (0 + ((0 : Int) + (1 : Int) + (1 : Int) + (1 : Int)).toNat * (6) + 0), s.M 0 (0 + ((0 : Int) + (1 : Int) + (1 : Int) + (1 : Int)).toNat * (6) + 1), s.M 0 (0 + ((0 : Int) + (1 : Int) + (1 : Int) + (1 : Int)).toNat * (6) + 2), s.M 0 (0 + ((0 : Int) + (1 : Int) + (1 : Int) + (1 : Int)).toNat * (6) + 3), s.M 0 (0 + ((0 : Int) + (1 : Int) + (1 : Int) + (1 : Int)).toNat * (6) + 4), s.M 0 (0 + ((0 : Int) + (1 : Int) + (1 : Int) + (1 : Int)).toNat * (6) + 5)] (0 + 4)), I (setF (fun (_ : Nat) => (0 : Int)) 0 [s.M 0 (0 + ((0 : Int) + (1 : Int) + (1 : Int) + (1 : Int)).toNat * (6) + 0), s.M 0 (0 + ((0 : Int) + (1 : Int) + (1 : Int) + (1 : Int)).toNat * (6) + 1), s.M 0 (0 + ((0 : Int) + (1 : Int) + (1 : Int) + (1 : Int)).toNat * (6) + 2), s.M 0 (0 + ((0 : Int) + (1 : Int) + (1 : Int) + (1 : Int)).toNat * (6) + 3), s.M 0 (0 + ((0 : Int) + (1 : Int) + (1 : Int) + (1 : Int)).toNat * (6) + 4), s.M 0 (0 + ((0 : Int) + (1 : Int) + (1 : Int) + (1 : Int)).toNat * (6) + 5)] (0 + 5))] = nL n_3 ∧ (↑l.length : Int) = (↑m_3 : Int) ∧ m_3 ≤ 6 ∧ Q (VRes.ret (VV.tup [VV.sl (22) 1, I 0])) (VH.mk (23) [(22, VB.vec 1 (fun (j : Nat) => List.take (1) (List.drop (j * (1)) (List.take (1 * (1)) (List.drop 0 [VV.tl (1 + 1 + 1 + 1) (1) (catG (1 + 1 + 1) (catG (1 + 1) (catG 1 (fun (j : Nat) => List.take (1) (List.drop (j * (1)) [VV.tl m 1 (chG n)])) fun (j : Nat) => List.take (1) (List.drop (j * (1)) [VV.tl m_1 1 (chG n_1)])) fun (j : Nat) => List.take (1) (List.drop (j * (1)) [VV.tl m_2 1 (chG n_2)])) fun (j : Nat) => List.take (1) (List.drop (j * (1)) [VV.tl m_3 1 (chG n_3)]))])))) (1) 26), (21, VB.cells [VV.tl (1 + 1 + 1 + 1) (1) (catG (1 + 1 + 1) (catG (1 + 1) (catG 1 (fun (j : Nat) => List.take (1) (List.drop (j * (1)) [VV.tl m 1 (chG n)])) fun (j : Nat) => List.take (1) (List.drop (j * (1)) [VV.tl m_1 1 (chG n_1)])) fun (j : Nat) => List.take (1) (List.drop (j * (1)) [VV.tl m_2 1 (chG n_2)])) fun (j : Nat) => List.take (1) (List.drop (j * (1)) [VV.tl m_3 1 (chG n_3)]))] 26), (14, VB.gone), (21, VB.cells [VV.sl (14) (1 + 1 + 1 + 1)] 26), (14, VB.vec (1 + 1 + 1 + 1) (catG (1 + 1 + 1) (catG (1 + 1) (catG 1 (fun (j : Nat) => List.take (1) (List.drop (j * (1)) [VV.tl m 1 (chG n)])) fun (j : Nat) => List.take (1) (List.drop (j * (1)) [VV.tl m_1 1 (chG n_1)])) fun (j : Nat) => List.take (1) (List.drop (j * (1)) [VV.tl m_2 1 (chG n_2)])) fun (j : Nat) => List.take (1) (List.drop (j * (1)) [VV.tl m_3 1 (chG n_3)])) (1) 23), (20, VB.vec 1 (fun (j : Nat) => List.take (1) (List.drop (j * (1)) [VV.tl m_3 1 (chG n_3)])) (1) 23), (19, VB.fam [] (6) (setF (fun (_ : Nat) => (0 : Int)) 0 [s.M 0 (0 + ((0 : Int) + (1 : Int) + (1 : Int) + (1 : Int)).toNat * (6) + 0), s.M 0 (0 + ((0 : Int) + (1 : Int) + (1 : Int) + (1 : Int)).toNat * (6) + 1), s.M 0 (0 + ((0 : Int) + (1 : Int) + (1 : Int) + (1 : Int)).toNat * (6) + 2), s.M 0 (0 + ((0 : Int) + (1 : Int) + (1 : Int) + (1 : Int)).toNat * (6) + 3), s.M 0 (0 + ((0 : Int) + (1 : Int) + (1 : Int) + (1 : Int)).toNat * (6) + 4), s.M 0 (0 + ((0 : Int) + (1 : Int) + (1 : Int) + (1 : Int)).toNat * (6) + 5)]) 80), (19, VB.fam [] (6) (fun (_ : Nat) => (0 : Int)) 80), (14, VB.vec (1 + 1 + 1) (catG (1 + 1) (catG 1 (fun (j : Nat) => List.take (1) (List.drop (j * (1)) [VV.tl m 1 (chG n)])) fun (j : Nat) => List.take (1) (List.drop (j * (1)) [VV.tl m_1 1 (chG n_1)])) fun (j : Nat) => List.take (1) (List.drop (j * (1)) [VV.tl m_2 1 (chG n_2)])) (1) 23), (18, VB.vec 1 (fun (j : Nat) => List.take (1) (List.drop (j * (1)) [VV.tl m_2 1 (chG n_2)])) (1) 23), (17, VB.fam [] (6) (setF (fun (_ : Nat) => (0 : Int)) 0 [s.M 0 (0 + ((0 : Int) + (1 : Int) + (1 : Int)).toNat * (6) + 0), s.M 0 (0 + ((0 : Int) + (1 : Int) + (1 : Int)).toNat * (6) + 1), s.M 0 (0 + ((0 : Int) + (1 : Int) + (1 : Int)).toNat * (6) + 2), s.M 0 (0 + ((0 : Int) + (1 : Int) + (1 : Int)).toNat * (6) + 3), s.M 0 (0 + ((0 : Int) + (1 : Int) + (1 : Int)).toNat * (6) + 4), s.M 0 (0 + ((0 : Int) + (1 : Int) + (1 : Int)).toNat * (6) + 5)]) 80), (17, VB.fam [] (6) (fun (_ : Nat) => (0 : Int)) 80), (14, VB.vec (1 + 1) (catG 1 (fun (j : Nat) => List.take (1) (List.drop (j * (1)) [VV.tl m 1 (chG n)])) fun (j : Nat) => List.take (1) (List.drop (j * (1)) [VV.tl m_1 1 (chG n_1)])) (1) 23), (16, VB.vec 1 (fun (j : Nat) => List.take (1) (List.drop (j * (1)) [VV.tl m_1 1 (chG n_1)])) (1) 23), (15, VB.fam [] (6) (setF (fun (_ : Nat) => (0 : Int)) 0 [s.M 0 (0 + ((0 : Int) + (1 : Int)).toNat * (6) + 0), s.M 0 (0 + ((0 : Int) + (1 : Int)).toNat * (6) + 1), s.M 0 (0 + ((0 : Int) + (1 : Int)).toNat * (6) + 2), s.M 0 (0 + ((0 : Int) + (1 : Int)).toNat * (6) + 3), s.M 0 (0 + ((0 : Int) + (1 : Int)).toNat * (6) + 4), s.M 0 (0 + ((0 : Int) + (1 : Int)).toNat * (6) + 5)]) 80), (15, VB.fam [] (6) (fun (_ : Nat) => (0 : Int)) 80), (14, VB.vec 1 (fun (j : Nat) => List.take (1) (List.drop (j * (1)) [VV.tl m 1 (chG n)])) (1) 23), (13, VB.vec 1 (fun (j : Nat) => List.take (1) (List.drop (j * (1)) [VV.tl m 1 (chG n)])) (1) 23), (12, VB.fam [] (6) (setF (fun (_ : Nat) => (0 : Int)) 0 [s.M 0 (0 + Int.toNat (0 : Int) * (6) + 0), s.M 0 (0 + Int.toNat (0 : Int) * (6) + 1), s.M 0 (0 + Int.toNat (0 : Int) * (6) + 2), s.M 0 (0 + Int.toNat (0 : Int) * (6) + 3), s.M 0 (0 + Int.toNat (0 : Int) * (6) + 4), s.M 0 (0 + Int.toNat (0 : Int) * (6) + 5)]) 80), (12, VB.fam [] (6) (fun (_ : Nat) => (0 : Int)) 80), (7, VB.fam [] (4 * 6) (s.M 0) (80 : TypeId)), (8, VB.map [PK.int IntKind.i64, PK.int IntKind.i64, PK.int IntKind.i64, PK.int IntKind.i64, PK.int IntKind.i64, PK.int IntKind.i64, PK.int IntKind.i64, PK.int IntKind.i64] PK.bool s.es), (10, VB.cells [VV.func 44 [] [VV.ptr (VA.own (4) 0), VV.ptr (VA.own (9) 0), VV.ptr (VA.own (1) 0), VV.ptr (VA.own (11) 0)]] 78), (11, VB.cells [VV.func 40 [] [VV.ptr (VA.own (3) 0), VV.ptr (VA.own (10) 0), VV.ptr (VA.own (1) 0), VV.ptr (VA.own (6) 0)]] 88), (11, VB.cells [VV.nilf] 88), (10, VB.cells [VV.nilf] 78), (9, VB.cells [VV.mp (8)] 77), (9, VB.cells [VV.opq (Value.map none)] 77), (8, VB.map [PK.int IntKind.i64, PK.int IntKind.i64, PK.int IntKind.i64, PK.int IntKind.i64, PK.int IntKind.i64, PK.int IntKind.i64, PK.int IntKind.i64, PK.int IntKind.i64] PK.bool []), (5, VB.cells [VV.slice (VA.fa (7) 0 0) (↑([[d00, d01, d02, d03]].getD (Int.toNat (0 : Int)) []).length : Int).toNat (↑([[d00, d01, d02, d03]].getD (Int.toNat (0 : Int)) []).length : Int).toNat] 76), (7, VB.fam [] ((↑([[d00, d01, d02, d03]].getD (Int.toNat (0 : Int)) []).length : Int).toNat * (6)) (fun (_ : Nat) => (0 : Int)) 80), (6, VB.cells [VV.slice (VA.own (5) 0) (1) (1)] 75), (6, VB.cells [VV.nils] 75), (5, VB.cells [VV.nils] 76), (4, VB.cells [I (↑([[d00, d01, d02, d03]].getD (Int.toNat (0 : Int)) []).length : Int)] 3), (4, VB.cells [I 0] 3), (3, VB.cells [VV.ptr (VA.own (2) 0)] 72), (3, VB.cells [VV.nilp] 72), (2, VB.cells [VV.tl l.length 5 (stG l), VV.tl t.T.length 1 (dG t.T), I t.far, I t.least] 74), (1, VB.cells [VV.tl [[d00, d01, d02, d03]].length 1 (pthG [[d00, d01, d02, d03]])] 26), (0, VB.cells [VV.tl t.T.length 1 (dG t.T), I t.far, I t.least] 25)])) := by kernel_rfl

end Go.Sx.Bln

/- blend: Plan with 1 paths of 4 years. -/

namespace Go.Sx.Bln
open Go Go.Sx Go.Proofs
set_option maxRecDepth 1000000

theorem pln14_v {l : List Stk} {t : Tst} {d00 d01 d02 d03 : Int} (h1 : okAll l t = true) (h2 : okPaths [[d00, d01, d02, d03]] = true) (cf : Cfg l t [[d00, d01, d02, d03]] 4) (hpb : pthB [[d00, d01, d02, d03]]) : ∃ r h', CallsV Try.prog 17 [stD l, .agg (tsL t), pthD [[d00, d01, d02, d03]]] ⟨0, []⟩ r h' ∧ PlnK l t [[d00, d01, d02, d03]] 4 r h' := by
  have hl6 := cf.hl.1
  have htab : ∀ f T, tabS [asR l t, casksR l t, apR [[d00, d01, d02, d03]], findR1 l t [[d00, d01, d02, d03]] 4 4, listT] f = some T → SpOk Try.prog f T := tab_ok _ (fun x hx => by
    simp only [List.mem_cons, List.not_mem_nil, or_false] at hx
    rcases hx with rfl | rfl | rfl | rfl | rfl
    · exact asR_ok l t
    · exact casksR_ok l t
    · exact apR_ok _
    · exact findR1_ok cf 4
    · exact listT_ok)
  obtain ⟨r, h', hk, hc⟩ := of_callN (noL_good htab) (f := 17) (args := [stD l, .agg (tsL t), pthD [[d00, d01, d02, d03]]]) (h := ⟨0, []⟩) (K := PlnK l t [[d00, d01, d02, d03]] 4) (by
    refine cast (pl14_ev l t d00 d01 d02 d03 _).symm ⟨isD_l, ⟨⟨rfl, rfl, fun _ _ => rfl⟩, ⟨rfl, rfl⟩, ⟨rfl, rfl⟩, trivial⟩, cond_i (fun h => by rw [h1] at h; cases h) (fun _ => ⟨⟨rfl, rfl, fun _ _ => rfl⟩, hpb, cond_i (fun h => by rw [h2] at h; cases h) (fun _ => ?_)⟩)⟩
    refine ⟨hc61 rfl, hl6, 1, mostF l, fun _ _ => 0, [], ⟨rfl, rfl, rfl, rfl⟩, ⟨rfl, Nat.le_refl _⟩, ⟨rfl, rfl, rfl, rfl, rfl, rfl, rfl, rfl, rfl, rfl, rfl, rfl, trivial⟩, ⟨rfl, rfl, rfl⟩, ⟨Nat.le_refl _, (by show 1 < 2 ^ 1; decide), most_left cf.hl, lost_nil⟩, ?_⟩
    rintro b s ⟨p1, p2, p3, p4⟩
    refine cond_i (fun g => ?_) (fun g => ?_)
    · have g : b = false := by simpa using g
      subst g
      refine .inl ⟨?_, rfl⟩
      cases hx : planF l t [[d00, d01, d02, d03]] 4 4 1 (mostF l) with
      | none => exact hx
      | some x => rw [hx] at p1; cases p1
    · have g : b = true := by simpa using g
      subst g
      obtain ⟨x, hx⟩ : ∃ x, planF l t [[d00, d01, d02, d03]] 4 4 1 (mostF l) = some x := by
        cases hx : planF l t [[d00, d01, d02, d03]] 4 4 1 (mostF l) with
        | none => rw [hx] at p1; cases p1
        | some x => exact ⟨x, rfl⟩
      refine ⟨fun j => s.M 0 (0 * 6 + j), l.length, rfl, rfl, hl6, fun j => s.M 0 (1 * 6 + j), l.length, rfl, rfl, hl6, fun j => s.M 0 (2 * 6 + j), l.length, rfl, rfl, hl6, fun j => s.M 0 (3 * 6 + j), l.length, rfl, rfl, hl6, .inr ⟨x, _, _, _, hx, rfl, rfl, fun i hi => ?_⟩⟩
      have hi : i < 1 := hi
      match i, hi with
      | 0, _ =>
            refine tl_weak rfl (fun y hy => ?_)
            match y, hy with
            | 0, _ => exact wk_ch (fun j hj => p4 x hx 0 0 j (by omega) rfl (by omega) (by omega))
            | 1, _ => exact wk_ch (fun j hj => p4 x hx 0 1 j (by omega) rfl (by omega) (by omega))
            | 2, _ => exact wk_ch (fun j hj => p4 x hx 0 2 j (by omega) rfl (by omega) (by omega))
            | 3, _ => exact wk_ch (fun j hj => p4 x hx 0 3 j (by omega) rfl (by omega) (by omega))
            | _ + 4, hy => exact absurd hy (by omega)
      | _ + 1, hi => exact absurd hi (by omega))
  exact ⟨r, h', hc, hk⟩
end Go.Sx.Bln

/- blend: Plan of one path, and Lasts. -/

namespace Go.Sx.Bln
open Go Go.Sx Go.Proofs
set_option maxRecDepth 1000000

theorem asK_ok (l : List Stk) (t : Tst) (b : Bool) : SpOk Try.prog (asK l t b).1 (asK l t b).2 := by
  intro lock args h K hK
  simp only [asK] at hK
  split at hK
  · obtain ⟨h1, h2, rfl, hK⟩ := hK
    exact asT_ok lock _ h K ⟨l, t, h1, h2, hK⟩
  · exact hK.elim
theorem apK_ok (p : List (List Int)) (b : Bool) : SpOk Try.prog (apK p b).1 (apK p b).2 := by
  intro lock args h K hK
  simp only [apK] at hK
  split at hK
  · obtain ⟨h1, ⟨h2, rfl⟩, hK⟩ := hK
    exact apR_ok p lock _ h K ⟨h1, h2, hK⟩
  · exact hK.elim

section
variable {l : List Stk} {t : Tst} {p : List (List Int)} {m : Int}

/-- What good paths are like. -/
theorem paths_of (h : okPaths p = true) : (1 ≤ p.length ∧ p.length ≤ 4) ∧ (1 ≤ (p.getD 0 []).length ∧ (p.getD 0 []).length ≤ 4) ∧ (∀ i, i < p.length → (p.getD i []).length = (p.getD 0 []).length) ∧ ndB p := by
  unfold okPaths at h
  simp only [Bool.and_eq_true, decide_eq_true_eq, Bool.not_eq_true'] at h
  obtain ⟨⟨h1, h2⟩, h3⟩ := h
  unfold anyPt at h3
  rw [List.any_eq_false] at h3
  have h4 : ∀ i, i < p.length → (p.getD i []).length = (p.getD 0 []).length ∧ anyNd (p.getD i []) = false := fun i hi => by
    have := h3 i (List.mem_range.2 hi)
    unfold qPt okPt at this
    simpa using this
  refine ⟨h1, h2, fun i hi => (h4 i hi).1, fun i j => ?_⟩
  by_cases hi : i < p.length
  · have h5 := (h4 i hi).2
    by_cases hj : j < (p.getD i []).length
    · unfold anyNd at h5
      rw [List.any_eq_false] at h5
      have := h5 j (List.mem_range.2 hj)
      unfold qNd okW at this
      simpa using this
    · rw [List.getD_eq_getElem?_getD (l := p.getD i []), List.getElem?_eq_none (by omega)]
      exact ⟨by decide, by decide⟩
  · rw [List.getD_eq_getElem?_getD (l := p), List.getElem?_eq_none (by omega)]
    exact ⟨by simp, by simp⟩
theorem cfg_of (ho : okAll l t = true) (h : okPaths p = true) : Cfg l t p (p.getD 0 []).length := by
  obtain ⟨hl, hp, ht, _⟩ := okAll_l ho
  obtain ⟨h1, h2, h3, h4⟩ := paths_of h
  exact ⟨hl, hp, okT_tB ht, h2.2, h1.2, h3, h4⟩

/-- Plan of good stocks and paths, told as data. -/
def PlnOut (l : List Stk) (t : Tst) (p : List (List Int)) : Prop := ∃ r h', CallsV Try.prog 17 [stD l, .agg (tsL t), pthD p] ⟨0, []⟩ r h' ∧ ((plE l t p ≠ 0 ∧ r = .ret (.tup [.nils, I (plE l t p)])) ∨ (plE l t p = 0 ∧ ∃ x, planF l t p (p.getD 0 []).length (p.getD 0 []).length (2 ^ p.length - 1) (mostF l) = some x ∧ r = .ret (.tup [plnD l.length p.length (p.getD 0 []).length x, I 0])))
theorem plE_1 (h : okAll l t = false) : plE l t p = 1 := by unfold plE; rw [if_pos h]
theorem plE_2 (h : okAll l t = true) (h2 : okPaths p = false) : plE l t p = 2 := by unfold plE; rw [if_neg (by rw [h]; simp), if_pos h2]
theorem plE_n (h : okAll l t = true) (h2 : okPaths p = true) (h3 : planF l t p (p.getD 0 []).length (p.getD 0 []).length (2 ^ p.length - 1) (mostF l) = none) : plE l t p = 4 := by unfold plE; rw [if_neg (by rw [h]; simp), if_neg (by rw [h2]; simp), h3]
theorem plE_s (h : okAll l t = true) (h2 : okPaths p = true) {x : Rsl} (h3 : planF l t p (p.getD 0 []).length (p.getD 0 []).length (2 ^ p.length - 1) (mostF l) = some x) : plE l t p = 0 := by unfold plE; rw [if_neg (by rw [h]; simp), if_neg (by rw [h2]; simp), h3]
theorem pln_out (ho : okAll l t = true) (hp : okPaths p = true) {r : VRes} {h' : VH} (hc : CallsV Try.prog 17 [stD l, .agg (tsL t), pthD p] ⟨0, []⟩ r h') (hk : PlnK l t p (p.getD 0 []).length r h') : PlnOut l t p := by
  rcases pln_tell hc hk with ⟨h1, h2, hc2⟩ | ⟨x, h2, h1, hc2⟩
  · exact ⟨_, _, hc2, .inl ⟨by rw [plE_n ho hp h1]; decide, by rw [plE_n ho hp h1]⟩⟩
  · exact ⟨_, _, hc2, .inr ⟨plE_s ho hp h1, x, h1, rfl⟩⟩
theorem plnE_v (h : okAll l t = false ∨ (pthB p ∧ okPaths p = false)) : PlnOut l t p := by
  cases ho : okAll l t with
  | false =>
    obtain ⟨r, h', rfl, hc⟩ := of_callN (noL_good (tab1 (asK_ok l t false))) (f := 17) (args := [stD l, .agg (tsL t), pthD p]) (h := ⟨0, []⟩) (K := fun r _ => r = .ret (.tup [.nils, I 1])) (cast (ple1_ev l t p _).symm ⟨isD_l, isD_t, ho, rfl⟩)
    exact ⟨_, _, hc, .inl ⟨by rw [plE_1 ho]; decide, by rw [plE_1 ho]⟩⟩
  | true =>
    obtain ⟨hb, hp⟩ := h.resolve_left (by rw [ho]; simp)
    have htab : ∀ f T, tabS [asK l t true, apK p false] f = some T → SpOk Try.prog f T := tab_ok _ (fun x hx => by
      simp only [List.mem_cons, List.not_mem_nil, or_false] at hx
      rcases hx with rfl | rfl
      · exact asK_ok l t true
      · exact apK_ok p false)
    obtain ⟨r, h', rfl, hc⟩ := of_callN (noL_good htab) (f := 17) (args := [stD l, .agg (tsL t), pthD p]) (h := ⟨0, []⟩) (K := fun r _ => r = .ret (.tup [.nils, I 2])) (cast (ple2_ev l t p _).symm ⟨isD_l, isD_t, ho, ⟨rfl, rfl, fun _ _ => rfl⟩, ⟨hb, hp⟩, rfl⟩)
    exact ⟨_, _, hc, .inl ⟨by rw [plE_2 ho hp]; decide, by rw [plE_2 ho hp]⟩⟩

/-- Plan of one path. -/
theorem plnO_v {d : List Int} (hd : d.length ≤ 100000) : PlnOut l t [d] := by
  cases ho : okAll l t with
  | false => exact plnE_v (.inl ho)
  | true =>
    have hb : pthB [d] := ⟨⟨Nat.le_refl _, by show 1 ≤ 100000; omega⟩, fun i => by
      match i with
      | 0 => exact hd
      | _ + 1 => exact Nat.zero_le _⟩
    cases hp : okPaths [d] with
    | false => exact plnE_v (.inr ⟨hb, hp⟩)
    | true =>
      have cf := cfg_of (l := l) (t := t) ho hp
      have hY : 1 ≤ d.length ∧ d.length ≤ 4 := (paths_of hp).2.1
      match d, hY with
      | [a], _ => obtain ⟨r, h', hc, hk⟩ := pln11_v ho hp cf hb; exact pln_out ho hp hc hk
      | [a, b], _ => obtain ⟨r, h', hc, hk⟩ := pln12_v ho hp cf hb; exact pln_out ho hp hc hk
      | [a, b, c], _ => obtain ⟨r, h', hc, hk⟩ := pln13_v ho hp cf hb; exact pln_out ho hp hc hk
      | [a, b, c, e], _ => obtain ⟨r, h', hc, hk⟩ := pln14_v ho hp cf hb; exact pln_out ho hp hc hk
      | _ :: _ :: _ :: _ :: _ :: _, h => exact absurd h.2 (by simp only [List.length_cons]; omega)
      | [], h => exact absurd h.1 (by simp)

theorem plnO_any {d : List Int} (hd : d.length ≤ 100000) : ∃ h', CallsV Try.prog 17 [stD l, .agg (tsL t), pthD [d]] ⟨0, []⟩ (.ret (.tup [.any, I (plE l t [d])])) h' := by
  obtain ⟨r, h', hc, ⟨_, rfl⟩ | ⟨he, x, _, rfl⟩⟩ := plnO_v (l := l) (t := t) hd
  · refine ⟨h', calls_res hc (fun R x hx => ?_)⟩
    obtain ⟨xs, ⟨y, ys, _, h2, rfl⟩, rfl⟩ := hx
    exact ⟨_, ⟨y, ys, trivial, h2, rfl⟩, rfl⟩
  · refine ⟨h', calls_res hc (fun R x hx => ?_)⟩
    obtain ⟨xs, ⟨y, ys, _, h2, rfl⟩, rfl⟩ := hx
    rw [he]
    exact ⟨_, ⟨y, ys, trivial, h2, rfl⟩, rfl⟩
theorem plR1_ok (l : List Stk) (t : Tst) : SpOk Try.prog (plR1 l t).1 (plR1 l t).2 := by
  intro lock args h K hK
  simp only [plR1] at hK
  split at hK
  · obtain ⟨h1, h2, d, h3, h4, hK⟩ := hK
    obtain ⟨h', hc⟩ := plnO_any (l := l) (t := t) h4
    exact ⟨_, h, hK _ rfl, lockP_refl _ _, calls_lendDP 4 hc rfl ⟨h1, h2, h3, trivial⟩⟩
  · exact hK.elim

/-- How many years stocks last. -/
def lasF (l : List Stk) (t : Tst) (m : Int) : Int := if plE l t [[m]] ≠ 0 then 0 else if plE l t [[m, m]] ≠ 0 then 1 else if plE l t [[m, m, m]] ≠ 0 then 2 else if plE l t [[m, m, m, m]] ≠ 0 then 3 else 4
def lasE (l : List Stk) (t : Tst) (m : Int) : Int := if okAll l t = false then 1 else if ¬ (0 ≤ m ∧ m ≤ 1048576) then 2 else 0
def lasN (l : List Stk) (t : Tst) (m : Int) : Int := if lasE l t m ≠ 0 then 0 else lasF l t m

theorem isD_pth {h : VH} {a b : Nat} {n : Nat} {d : List Int} {ty ty2 : TypeId} {g : Nat → List VV} (hn : d.length = n) (hb : h.at b = .cells [.sl a n] ty) (ha : h.at a = .vec n g 1 ty2) (hg : ∀ j, j < n → g j = dG d j) : isD h 4 (.slice (.own b 0) 1 1) (pthD [d]) := by
  refine ⟨rfl, Nat.le_refl _, _, _, hb, Nat.le_refl _, fun j hj => ?_⟩
  obtain rfl : j = 0 := by omega
  exact ⟨⟨⟨hn, Nat.le_refl _, _, _, ha, hg⟩, trivial⟩, rfl⟩

theorem lasts_v : ∃ h', CallsV Try.prog 22 [stD l, .agg (tsL t), I m] ⟨0, []⟩ (.ret (.tup [I (lasN l t m), I (lasE l t m)])) h' := by
  cases ho : okAll l t with
  | false =>
    obtain ⟨r, h', rfl, hc⟩ := of_callN (noL_good (tab1 (asK_ok l t false))) (f := 22) (args := [stD l, .agg (tsL t), I m]) (h := ⟨0, []⟩) (K := fun r _ => r = .ret (.tup [I 0, I 1])) (cast (la1_ev l t m _).symm ⟨isD_l, isD_t, ho, rfl⟩)
    have e1 : lasE l t m = 1 := by unfold lasE; rw [if_pos ho]
    have e2 : lasN l t m = 0 := by unfold lasN; rw [if_pos (by rw [e1]; decide)]
    exact ⟨h', by rw [e1, e2]; exact hc⟩
  | true =>
    have htab : ∀ f T, tabS [asK l t true, plR1 l t] f = some T → SpOk Try.prog f T := tab_ok _ (fun x hx => by
      simp only [List.mem_cons, List.not_mem_nil, or_false] at hx
      rcases hx with rfl | rfl
      · exact asK_ok l t true
      · exact plR1_ok l t)
    obtain ⟨r, h', rfl, hc⟩ := of_callN (noL_good htab) (f := 22) (args := [stD l, .agg (tsL t), I m]) (h := ⟨0, []⟩) (K := fun r _ => r = .ret (.tup [I (lasN l t m), I (lasE l t m)])) (by
      refine cast (la_ev l t m _).symm ⟨isD_l, isD_t, ho, ?_⟩
      by_cases h0 : 0 ≤ m
      · refine cond_dk h0 (cond_nd (fun h1 => ?_) (fun h1 => ?_))
        · have e1 : lasE l t m = 2 := by unfold lasE; rw [if_neg (by rw [ho]; simp), if_pos (fun h => h1 h.2)]
          have e2 : lasN l t m = 0 := by unfold lasN; rw [if_pos (by rw [e1]; decide)]
          rw [e1, e2]
        · have e1 : lasE l t m = 0 := by unfold lasE; rw [if_neg (by rw [ho]; simp), if_neg (fun h => h ⟨h0, h1⟩)]
          have e2 : lasN l t m = lasF l t m := by unfold lasN; rw [if_neg (fun h => h e1)]
          rw [e1, e2]
          unfold lasF
          refine ⟨isD_l, isD_t, [m], isD_pth rfl rfl rfl (fun j hj => by match j, hj with | 0, _ => rfl | _ + 1, hj => exact absurd hj (by simp)), by simp, fun e he => cond_nd (fun h => ?_) (fun h => ?_)⟩
          · rw [if_pos (by rw [← he]; exact h)]
          rw [if_neg (fun hn => hn (he.symm.trans h))]
          refine ⟨isD_l, isD_t, [m, m], isD_pth rfl rfl rfl (fun j hj => by match j, hj with | 0, _ => rfl | 1, _ => rfl | _ + 2, hj => exact absurd hj (by simp)), by simp, fun e he => cond_nd (fun h => ?_) (fun h => ?_)⟩
          · rw [if_pos (by rw [← he]; exact h)]; rfl
          rw [if_neg (fun hn => hn (he.symm.trans h))]
          refine ⟨isD_l, isD_t, [m, m, m], isD_pth rfl rfl rfl (fun j hj => by match j, hj with | 0, _ => rfl | 1, _ => rfl | 2, _ => rfl | _ + 3, hj => exact absurd hj (by simp)), by simp, fun e he => cond_nd (fun h => ?_) (fun h => ?_)⟩
          · rw [if_pos (by rw [← he]; exact h)]; rfl
          rw [if_neg (fun hn => hn (he.symm.trans h))]
          refine ⟨isD_l, isD_t, [m, m, m, m], isD_pth rfl rfl rfl (fun j hj => by match j, hj with | 0, _ => rfl | 1, _ => rfl | 2, _ => rfl | 3, _ => rfl | _ + 4, hj => exact absurd hj (by simp)), by simp, fun e he => cond_nd (fun h => ?_) (fun h => ?_)⟩
          · rw [if_pos (by rw [← he]; exact h)]; rfl
          rw [if_neg (fun hn => hn (he.symm.trans h))]
      · refine cond_d (fun h => (h0 h).elim) (fun _ => ?_)
        have e1 : lasE l t m = 2 := by unfold lasE; rw [if_neg (by rw [ho]; simp), if_pos (fun h => h0 h.1)]
        have e2 : lasN l t m = 0 := by unfold lasN; rw [if_pos (by rw [e1]; decide)]
        rw [e1, e2])
    exact ⟨h', hc⟩
/-- Lasts, as a row. -/
def laR (l : List Stk) (t : Tst) : FuncId × Spec1 := (22, fun _ args h K => match args with
  | [x, z, .int .i64 m] => isD h 4 x (stD l) ∧ isD h 4 z (.agg (tsL t)) ∧ ∀ n e : Int, n = lasN l t m ∧ e = lasE l t m → K (.ret (.tup [I n, I e])) h
  | _ => False)
theorem laR_ok (l : List Stk) (t : Tst) : SpOk Try.prog (laR l t).1 (laR l t).2 := by
  intro lock args h K hK
  simp only [laR] at hK
  split at hK
  · obtain ⟨h1, h2, hK⟩ := hK
    obtain ⟨h', hc⟩ := lasts_v (l := l) (t := t)
    exact ⟨_, h, hK _ _ ⟨rfl, rfl⟩, lockP_refl _ _, calls_lendDP 4 hc rfl ⟨h1, h2, ⟨rfl, rfl⟩, trivial⟩⟩
  · exact hK.elim
end
end Go.Sx.Bln

/- blend: the law BlendYears, evaluated. -/

namespace Go.Sx.Bln
open Go Go.Sx Go.Proofs
set_option maxRecDepth 1000000

def grY (l : List Stk) (t : Tst) (b : Bool) : FuncId × Spec1 := (14, fun _ args h K => match args with
  | [x, z, .int .i64 m] => isD h 4 x (stD l) ∧ isD h 4 z (.agg (tsL t)) ∧ greatF l t m = b ∧ K (.ret (.bool b)) h
  | _ => False)
/-- Lasts: the first call's answer is told. -/
def laK (l : List Stk) (t : Tst) (E : Int) : FuncId × Spec1 := (22, fun _ args h K => match h.nx, args with
  | 1, [x, z, .int .i64 m] => isD h 4 x (stD l) ∧ isD h 4 z (.agg (tsL t)) ∧ lasE l t m = E ∧ ∀ n : Int, n = lasN l t m → K (.ret (.tup [I n, I E])) h
  | _, [x, z, .int .i64 m] => isD h 4 x (stD l) ∧ isD h 4 z (.agg (tsL t)) ∧ ∀ n e : Int, n = lasN l t m ∧ e = lasE l t m → K (.ret (.tup [I n, I e])) h
  | _, _ => False)
theorem lyg_ev (l : List Stk) (t : Tst) (m le : Int) (Q : VRes → Prop) : callN Try.prog (tabS [grY l t true, alT]) noL 10 20 0 (.fn 5) [stD l, .agg (tsL t), I m, I le] ⟨0, []⟩ (fun r _ => Q r) =
  (isD (VH.mk (0 + 1) [(0, VB.cells (tsL t) 25)]) 4 (stD l) (stD l) ∧ isD (VH.mk (0 + 1) [(0, VB.cells (tsL t) 25)]) 4 (VV.agg (tsL t)) (VV.agg (tsL t)) ∧ greatF l t (36 : Int) = true ∧ Q (VRes.ret (VV.bool true))) := by kernel_rfl

theorem ly1_ev (l : List Stk) (t : Tst) (m le : Int) (Q : VRes → Prop) : callN Try.prog (tabS [grY l t false, laK l t 1, alT]) noL 10 20 0 (.fn 5) [stD l, .agg (tsL t), I m, I le] ⟨0, []⟩ (fun r _ => Q r) =
  (isD (VH.mk (0 + 1) [(0, VB.cells (tsL t) 25)]) 4 (stD l) (stD l) ∧ isD (VH.mk (0 + 1) [(0, VB.cells (tsL t) 25)]) 4 (VV.agg (tsL t)) (VV.agg (tsL t)) ∧ greatF l t (36 : Int) = false ∧ isD (VH.mk (0 + 1) [(0, VB.cells (tsL t) 25)]) 4 (stD l) (stD l) ∧ isD (VH.mk (0 + 1) [(0, VB.cells (tsL t) 25)]) 4 (VV.agg (tsL t)) (VV.agg (tsL t)) ∧ lasE l t m = (1 : Int) ∧ ∀ (n : Int), n = lasN l t m → bif decide (n = (0 : Int)) then
 Q (VRes.ret (VV.bool true))
 else Q (VRes.ret (VV.bool false))) := by kernel_rfl

theorem ly2_ev (l : List Stk) (t : Tst) (m le : Int) (Q : VRes → Prop) : callN Try.prog (tabS [grY l t false, laK l t 2, alT]) noL 10 20 0 (.fn 5) [stD l, .agg (tsL t), I m, I le] ⟨0, []⟩ (fun r _ => Q r) =
  (isD (VH.mk (0 + 1) [(0, VB.cells (tsL t) 25)]) 4 (stD l) (stD l) ∧ isD (VH.mk (0 + 1) [(0, VB.cells (tsL t) 25)]) 4 (VV.agg (tsL t)) (VV.agg (tsL t)) ∧ greatF l t (36 : Int) = false ∧ isD (VH.mk (0 + 1) [(0, VB.cells (tsL t) 25)]) 4 (stD l) (stD l) ∧ isD (VH.mk (0 + 1) [(0, VB.cells (tsL t) 25)]) 4 (VV.agg (tsL t)) (VV.agg (tsL t)) ∧ lasE l t m = (2 : Int) ∧ ∀ (n : Int), n = lasN l t m → bif decide (n = (0 : Int)) then
 Q (VRes.ret (VV.bool true))
 else Q (VRes.ret (VV.bool false))) := by kernel_rfl

theorem lyr_ev (l : List Stk) (t : Tst) (m le : Int) (Q : VRes → Prop) : callN Try.prog (tabS [grY l t false, laK l t 0, plR1 l t, alT]) noL 10 20 0 (.fn 5) [stD l, .agg (tsL t), I m, I le] ⟨0, []⟩ (fun r _ => Q r) =
  (isD (VH.mk (0 + 1) [(0, VB.cells (tsL t) 25)]) 4 (stD l) (stD l) ∧ isD (VH.mk (0 + 1) [(0, VB.cells (tsL t) 25)]) 4 (VV.agg (tsL t)) (VV.agg (tsL t)) ∧ greatF l t (36 : Int) = false ∧ isD (VH.mk (0 + 1) [(0, VB.cells (tsL t) 25)]) 4 (stD l) (stD l) ∧ isD (VH.mk (0 + 1) [(0, VB.cells (tsL t) 25)]) 4 (VV.agg (tsL t)) (VV.agg (tsL t)) ∧ lasE l t m = (0 : Int) ∧ ∀ (n : Int), n = lasN l t m → bif decide (n < (0 : Int)) then
 Q (VRes.ret (VV.bool false))
 else bif decide (n > (4 : Int)) then
 Q (VRes.ret (VV.bool false))
 else isD (VH.mk (4) [(3, VB.cells [VV.sl (2) 1] 23), (2, VB.vec 1 (fun (j : Nat) => List.take (1) (List.drop (j * (1)) [I m])) (1) 3), (1, VB.vec 1 (fun (j : Nat) => List.take (1) (List.drop (j * (1)) [I m])) (1) 3), (0, VB.cells (tsL t) 25)]) 4 (stD l) (stD l) ∧ isD (VH.mk (4) [(3, VB.cells [VV.sl (2) 1] 23), (2, VB.vec 1 (fun (j : Nat) => List.take (1) (List.drop (j * (1)) [I m])) (1) 3), (1, VB.vec 1 (fun (j : Nat) => List.take (1) (List.drop (j * (1)) [I m])) (1) 3), (0, VB.cells (tsL t) 25)]) 4 (VV.agg (tsL t)) (VV.agg (tsL t)) ∧ ∃ (d : List Int), isD (VH.mk (4) [(3, VB.cells [VV.sl (2) 1] 23), (2, VB.vec 1 (fun (j : Nat) => List.take (1) (List.drop (j * (1)) [I m])) (1) 3), (1, VB.vec 1 (fun (j : Nat) => List.take (1) (List.drop (j * (1)) [I m])) (1) 3), (0, VB.cells (tsL t) 25)]) 4 (VV.slice (VA.own (3) 0) 1 1) (pthD [d]) ∧ d.length ≤ 100000 ∧ ∀ (e : Int), e = plE l t [d] → bif !decide (e = (0 : Int)) == decide ((0 : Int) < n) then
 Q (VRes.ret (VV.bool false))
 else isD (VH.mk (6) [(5, VB.cells [VV.sl (2) (1 + 1)] 23), (2, VB.vec (1 + 1) (catG 1 (fun (j : Nat) => List.take (1) (List.drop (j * (1)) [I m])) fun (j : Nat) => List.take (1) (List.drop (j * (1)) [I m])) (1) 3), (4, VB.vec 1 (fun (j : Nat) => List.take (1) (List.drop (j * (1)) [I m])) (1) 3), (3, VB.cells [VV.sl (2) 1] 23), (2, VB.vec 1 (fun (j : Nat) => List.take (1) (List.drop (j * (1)) [I m])) (1) 3), (1, VB.vec 1 (fun (j : Nat) => List.take (1) (List.drop (j * (1)) [I m])) (1) 3), (0, VB.cells (tsL t) 25)]) 4 (stD l) (stD l) ∧ isD (VH.mk (6) [(5, VB.cells [VV.sl (2) (1 + 1)] 23), (2, VB.vec (1 + 1) (catG 1 (fun (j : Nat) => List.take (1) (List.drop (j * (1)) [I m])) fun (j : Nat) => List.take (1) (List.drop (j * (1)) [I m])) (1) 3), (4, VB.vec 1 (fun (j : Nat) => List.take (1) (List.drop (j * (1)) [I m])) (1) 3), (3, VB.cells [VV.sl (2) 1] 23), (2, VB.vec 1 (fun (j : Nat) => List.take (1) (List.drop (j * (1)) [I m])) (1) 3), (1, VB.vec 1 (fun (j : Nat) => List.take (1) (List.drop (j * (1)) [I m])) (1) 3), (0, VB.cells (tsL t) 25)]) 4 (VV.agg (tsL t)) (VV.agg (tsL t)) ∧ ∃ (d : List Int), isD (VH.mk (6) [(5, VB.cells [VV.sl (2) (1 + 1)] 23), (2, VB.vec (1 + 1) (catG 1 (fun (j : Nat) => List.take (1) (List.drop (j * (1)) [I m])) fun (j : Nat) => List.take (1) (List.drop (j * (1)) [I m])) (1) 3), (4, VB.vec 1 (fun (j : Nat) => List.take (1) (List.drop (j * (1)) [I m])) (1) 3), (3, VB.cells [VV.sl (2) 1] 23), (2, VB.vec 1 (fun (j : Nat) => List.take (1) (List.drop (j * (1)) [I m])) (1) 3), (1, VB.vec 1 (fun (j : Nat) => List.take (1) (List.drop (j * (1)) [I m])) (1) 3), (0, VB.cells (tsL t) 25)]) 4 (VV.slice (VA.own (5) 0) 1 1) (pthD [d]) ∧ d.length ≤ 100000 ∧ ∀ (e : Int), e = plE l t [d] → bif !decide (e = (0 : Int)) == decide ((0 : Int) + (1 : Int) < n) then
 Q (VRes.ret (VV.bool false))
 else isD (VH.mk (8) [(7, VB.cells [VV.sl (2) (1 + 1 + 1)] 23), (2, VB.vec (1 + 1 + 1) (catG (1 + 1) (catG 1 (fun (j : Nat) => List.take (1) (List.drop (j * (1)) [I m])) fun (j : Nat) => List.take (1) (List.drop (j * (1)) [I m])) fun (j : Nat) => List.take (1) (List.drop (j * (1)) [I m])) (1) 3), (6, VB.vec 1 (fun (j : Nat) => List.take (1) (List.drop (j * (1)) [I m])) (1) 3), (5, VB.cells [VV.sl (2) (1 + 1)] 23), (2, VB.vec (1 + 1) (catG 1 (fun (j : Nat) => List.take (1) (List.drop (j * (1)) [I m])) fun (j : Nat) => List.take (1) (List.drop (j * (1)) [I m])) (1) 3), (4, VB.vec 1 (fun (j : Nat) => List.take (1) (List.drop (j * (1)) [I m])) (1) 3), (3, VB.cells [VV.sl (2) 1] 23), (2, VB.vec 1 (fun (j : Nat) => List.take (1) (List.drop (j * (1)) [I m])) (1) 3), (1, VB.vec 1 (fun (j : Nat) => List.take (1) (List.drop (j * (1)) [I m])) (1) 3), (0, VB.cells (tsL t) 25)]) 4 (stD l) (stD l) ∧ isD (VH.mk (8) [(7, VB.cells [VV.sl (2) (1 + 1 + 1)] 23), (2, VB.vec (1 + 1 + 1) (catG (1 + 1) (catG 1 (fun (j : Nat) => List.take (1) (List.drop (j * (1)) [I m])) fun (j : Nat) => List.take (1) (List.drop (j * (1)) [I m])) fun (j : Nat) => List.take (1) (List.drop (j * (1)) [I m])) (1) 3), (6, VB.vec 1 (fun (j : Nat) => List.take (1) (List.drop (j * (1)) [I m])) (1) 3), (5, VB.cells [VV.sl (2) (1 + 1)] 23), (2, VB.vec (1 + 1) (catG 1 (fun (j : Nat) => List.take (1) (List.drop (j * (1)) [I m])) fun (j : Nat) => List.take (1) (List.drop (j * (1)) [I m])) (1) 3), (4, VB.vec 1 (fun (j : Nat) => List.take (1) (List.drop (j * (1)) [I m])) (1) 3), (3, VB.cells [VV.sl (2) 1] 23), (2, VB.vec 1 (fun (j : Nat) => List.take (1) (List.drop (j * (1)) [I m])) (1) 3), (1, VB.vec 1 (fun (j : Nat) => List.take (1) (List.drop (j * (1)) [I m])) (1) 3), (0, VB.cells (tsL t) 25)]) 4 (VV.agg (tsL t)) (VV.agg (tsL t)) ∧ ∃ (d : List Int), isD (VH.mk (8) [(7, VB.cells [VV.sl (2) (1 + 1 + 1)] 23), (2, VB.vec (1 + 1 + 1) (catG (1 + 1) (catG 1 (fun (j : Nat) => List.take (1) (List.drop (j * (1)) [I m])) fun (j : Nat) => List.take (1) (List.drop (j * (1)) [I m])) fun (j : Nat) => List.take (1) (List.drop (j * (1)) [I m])) (1) 3), (6, VB.vec 1 (fun (j : Nat) => List.take (1) (List.drop (j * (1)) [I m])) (1) 3), (5, VB.cells [VV.sl (2) (1 + 1)] 23), (2, VB.vec (1 + 1) (catG 1 (fun (j : Nat) => List.take (1) (List.drop (j * (1)) [I m])) fun (j : Nat) => List.take (1) (List.drop (j * (1)) [I m])) (1) 3), (4, VB.vec 1 (fun (j : Nat) => List.take (1) (List.drop (j * (1)) [I m])) (1) 3), (3, VB.cells [VV.sl (2) 1] 23), (2, VB.vec 1 (fun (j : Nat) => List.take (1) (List.drop (j * (1)) [I m])) (1) 3), (1, VB.vec 1 (fun (j : Nat) => List.take (1) (List.drop (j * (1)) [I m])) (1) 3), (0, VB.cells (tsL t) 25)]) 4 (VV.slice (VA.own (7) 0) 1 1) (pthD [d]) ∧ d.length ≤ 100000 ∧ ∀ (e : Int), e = plE l t [d] → bif !decide (e = (0 : Int)) == decide ((0 : Int) + (1 : Int) + (1 : Int) < n) then
 Q (VRes.ret (VV.bool false))
 else isD (VH.mk (10) [(9, VB.cells [VV.sl (2) (1 + 1 + 1 + 1)] 23), (2, VB.vec (1 + 1 + 1 + 1) (catG (1 + 1 + 1) (catG (1 + 1) (catG 1 (fun (j : Nat) => List.take (1) (List.drop (j * (1)) [I m])) fun (j : Nat) => List.take (1) (List.drop (j * (1)) [I m])) fun (j : Nat) => List.take (1) (List.drop (j * (1)) [I m])) fun (j : Nat) => List.take (1) (List.drop (j * (1)) [I m])) (1) 3), (8, VB.vec 1 (fun (j : Nat) => List.take (1) (List.drop (j * (1)) [I m])) (1) 3), (7, VB.cells [VV.sl (2) (1 + 1 + 1)] 23), (2, VB.vec (1 + 1 + 1) (catG (1 + 1) (catG 1 (fun (j : Nat) => List.take (1) (List.drop (j * (1)) [I m])) fun (j : Nat) => List.take (1) (List.drop (j * (1)) [I m])) fun (j : Nat) => List.take (1) (List.drop (j * (1)) [I m])) (1) 3), (6, VB.vec 1 (fun (j : Nat) => List.take (1) (List.drop (j * (1)) [I m])) (1) 3), (5, VB.cells [VV.sl (2) (1 + 1)] 23), (2, VB.vec (1 + 1) (catG 1 (fun (j : Nat) => List.take (1) (List.drop (j * (1)) [I m])) fun (j : Nat) => List.take (1) (List.drop (j * (1)) [I m])) (1) 3), (4, VB.vec 1 (fun (j : Nat) => List.take (1) (List.drop (j * (1)) [I m])) (1) 3), (3, VB.cells [VV.sl (2) 1] 23), (2, VB.vec 1 (fun (j : Nat) => List.take (1) (List.drop (j * (1)) [I m])) (1) 3), (1, VB.vec 1 (fun (j : Nat) => List.take (1) (List.drop (j * (1)) [I m])) (1) 3), (0, VB.cells (tsL t) 25)]) 4 (stD l) (stD l) ∧ isD (VH.mk (10) [(9, VB.cells [VV.sl (2) (1 + 1 + 1 + 1)] 23), (2, VB.vec (1 + 1 + 1 + 1) (catG (1 + 1 + 1) (catG (1 + 1) (catG 1 (fun (j : Nat) => List.take (1) (List.drop (j * (1)) [I m])) fun (j : Nat) => List.take (1) (List.drop (j * (1)) [I m])) fun (j : Nat) => List.take (1) (List.drop (j * (1)) [I m])) fun (j : Nat) => List.take (1) (List.drop (j * (1)) [I m])) (1) 3), (8, VB.vec 1 (fun (j : Nat) => List.take (1) (List.drop (j * (1)) [I m])) (1) 3), (7, VB.cells [VV.sl (2) (1 + 1 + 1)] 23), (2, VB.vec (1 + 1 + 1) (catG (1 + 1) (catG 1 (fun (j : Nat) => List.take (1) (List.drop (j * (1)) [I m])) fun (j : Nat) => List.take (1) (List.drop (j * (1)) [I m])) fun (j : Nat) => List.take (1) (List.drop (j * (1)) [I m])) (1) 3), (6, VB.vec 1 (fun (j : Nat) => List.take (1) (List.drop (j * (1)) [I m])) (1) 3), (5, VB.cells [VV.sl (2) (1 + 1)] 23), (2, VB.vec (1 + 1) (catG 1 (fun (j : Nat) => List.take (1) (List.drop (j * (1)) [I m])) fun (j : Nat) => List.take (1) (List.drop (j * (1)) [I m])) (1) 3), (4, VB.vec 1 (fun (j : Nat) => List.take (1) (List.drop (j * (1)) [I m])) (1) 3), (3, VB.cells [VV.sl (2) 1] 23), (2, VB.vec 1 (fun (j : Nat) => List.take (1) (List.drop (j * (1)) [I m])) (1) 3), (1, VB.vec 1 (fun (j : Nat) => List.take (1) (List.drop (j * (1)) [I m])) (1) 3), (0, VB.cells (tsL t) 25)]) 4 (VV.agg (tsL t)) (VV.agg (tsL t)) ∧ ∃ (d : List Int), isD (VH.mk (10) [(9, VB.cells [VV.sl (2) (1 + 1 + 1 + 1)] 23), (2, VB.vec (1 + 1 + 1 + 1) (catG (1 + 1 + 1) (catG (1 + 1) (catG 1 (fun (j : Nat) => List.take (1) (List.drop (j * (1)) [I m])) fun (j : Nat) => List.take (1) (List.drop (j * (1)) [I m])) fun (j : Nat) => List.take (1) (List.drop (j * (1)) [I m])) fun (j : Nat) => List.take (1) (List.drop (j * (1)) [I m])) (1) 3), (8, VB.vec 1 (fun (j : Nat) => List.take (1) (List.drop (j * (1)) [I m])) (1) 3), (7, VB.cells [VV.sl (2) (1 + 1 + 1)] 23), (2, VB.vec (1 + 1 + 1) (catG (1 + 1) (catG 1 (fun (j : Nat) => List.take (1) (List.drop (j * (1)) [I m])) fun (j : Nat) => List.take (1) (List.drop (j * (1)) [I m])) fun (j : Nat) => List.take (1) (List.drop (j * (1)) [I m])) (1) 3), (6, VB.vec 1 (fun (j : Nat) => List.take (1) (List.drop (j * (1)) [I m])) (1) 3), (5, VB.cells [VV.sl (2) (1 + 1)] 23), (2, VB.vec (1 + 1) (catG 1 (fun (j : Nat) => List.take (1) (List.drop (j * (1)) [I m])) fun (j : Nat) => List.take (1) (List.drop (j * (1)) [I m])) (1) 3), (4, VB.vec 1 (fun (j : Nat) => List.take (1) (List.drop (j * (1)) [I m])) (1) 3), (3, VB.cells [VV.sl (2) 1] 23), (2, VB.vec 1 (fun (j : Nat) => List.take (1) (List.drop (j * (1)) [I m])) (1) 3), (1, VB.vec 1 (fun (j : Nat) => List.take (1) (List.drop (j * (1)) [I m])) (1) 3), (0, VB.cells (tsL t) 25)]) 4 (VV.slice (VA.own (9) 0) 1 1) (pthD [d]) ∧ d.length ≤ 100000 ∧ ∀ (e : Int), e = plE l t [d] → bif !decide (e = (0 : Int)) == decide ((0 : Int) + (1 : Int) + (1 : Int) + (1 : Int) < n) then
 Q (VRes.ret (VV.bool false))
 else bif decide (le < (1 : Int)) then
 Q (VRes.ret (VV.bool true))
 else bif decide (le > m) then
 Q (VRes.ret (VV.bool true))
 else isD (VH.mk (10) [(9, VB.cells [VV.sl (2) (1 + 1 + 1 + 1)] 23), (2, VB.vec (1 + 1 + 1 + 1) (catG (1 + 1 + 1) (catG (1 + 1) (catG 1 (fun (j : Nat) => List.take (1) (List.drop (j * (1)) [I m])) fun (j : Nat) => List.take (1) (List.drop (j * (1)) [I m])) fun (j : Nat) => List.take (1) (List.drop (j * (1)) [I m])) fun (j : Nat) => List.take (1) (List.drop (j * (1)) [I m])) (1) 3), (8, VB.vec 1 (fun (j : Nat) => List.take (1) (List.drop (j * (1)) [I m])) (1) 3), (7, VB.cells [VV.sl (2) (1 + 1 + 1)] 23), (2, VB.vec (1 + 1 + 1) (catG (1 + 1) (catG 1 (fun (j : Nat) => List.take (1) (List.drop (j * (1)) [I m])) fun (j : Nat) => List.take (1) (List.drop (j * (1)) [I m])) fun (j : Nat) => List.take (1) (List.drop (j * (1)) [I m])) (1) 3), (6, VB.vec 1 (fun (j : Nat) => List.take (1) (List.drop (j * (1)) [I m])) (1) 3), (5, VB.cells [VV.sl (2) (1 + 1)] 23), (2, VB.vec (1 + 1) (catG 1 (fun (j : Nat) => List.take (1) (List.drop (j * (1)) [I m])) fun (j : Nat) => List.take (1) (List.drop (j * (1)) [I m])) (1) 3), (4, VB.vec 1 (fun (j : Nat) => List.take (1) (List.drop (j * (1)) [I m])) (1) 3), (3, VB.cells [VV.sl (2) 1] 23), (2, VB.vec 1 (fun (j : Nat) => List.take (1) (List.drop (j * (1)) [I m])) (1) 3), (1, VB.vec 1 (fun (j : Nat) => List.take (1) (List.drop (j * (1)) [I m])) (1) 3), (0, VB.cells (tsL t) 25)]) 4 (stD l) (stD l) ∧ isD (VH.mk (10) [(9, VB.cells [VV.sl (2) (1 + 1 + 1 + 1)] 23), (2, VB.vec (1 + 1 + 1 + 1) (catG (1 + 1 + 1) (catG (1 + 1) (catG 1 (fun (j : Nat) => List.take (1) (List.drop (j * (1)) [I m])) fun (j : Nat) => List.take (1) (List.drop (j * (1)) [I m])) fun (j : Nat) => List.take (1) (List.drop (j * (1)) [I m])) fun (j : Nat) => List.take (1) (List.drop (j * (1)) [I m])) (1) 3), (8, VB.vec 1 (fun (j : Nat) => List.take (1) (List.drop (j * (1)) [I m])) (1) 3), (7, VB.cells [VV.sl (2) (1 + 1 + 1)] 23), (2, VB.vec (1 + 1 + 1) (catG (1 + 1) (catG 1 (fun (j : Nat) => List.take (1) (List.drop (j * (1)) [I m])) fun (j : Nat) => List.take (1) (List.drop (j * (1)) [I m])) fun (j : Nat) => List.take (1) (List.drop (j * (1)) [I m])) (1) 3), (6, VB.vec 1 (fun (j : Nat) => List.take (1) (List.drop (j * (1)) [I m])) (1) 3), (5, VB.cells [VV.sl (2) (1 + 1)] 23), (2, VB.vec (1 + 1) (catG 1 (fun (j : Nat) => List.take (1) (List.drop (j * (1)) [I m])) fun (j : Nat) => List.take (1) (List.drop (j * (1)) [I m])) (1) 3), (4, VB.vec 1 (fun (j : Nat) => List.take (1) (List.drop (j * (1)) [I m])) (1) 3), (3, VB.cells [VV.sl (2) 1] 23), (2, VB.vec 1 (fun (j : Nat) => List.take (1) (List.drop (j * (1)) [I m])) (1) 3), (1, VB.vec 1 (fun (j : Nat) => List.take (1) (List.drop (j * (1)) [I m])) (1) 3), (0, VB.cells (tsL t) 25)]) 4 (VV.agg (tsL t)) (VV.agg (tsL t)) ∧ ∀ (n_1 e : Int), n_1 = lasN l t le ∧ e = lasE l t le → bif decide (e = (0 : Int)) then
 bif decide (n_1 ≥ n) then
 Q (VRes.ret (VV.bool true))
 else Q (VRes.ret (VV.bool false))
 else Q (VRes.ret (VV.bool false))) := by kernel_rfl

end Go.Sx.Bln

/- blend: the cheapest choice is the first of the cheapest (plain). -/

namespace Go.Sx.Bln
open Go Go.Sx Go.Proofs
set_option maxRecDepth 100000

section
variable {l : List Stk} {t : Tst} {y m : Int}

end
end Go.Sx.Bln

/- blend: a lesser need, a greater Far, and one cask more keep what meets a need (plain). -/

namespace Go.Sx.Bln
open Go Go.Sx Go.Proofs
set_option maxRecDepth 100000

section
variable {l : List Stk} {t : Tst} {y m : Int} {n : Nat → Int}

theorem meets_need {m' : Int} (h : meetsF l t n y m' = true) (h0 : 0 < m) (hm : m ≤ m') : meetsF l t n y m = true := by
  unfold meetsF at h ⊢
  rw [if_neg (by omega)] at h ⊢
  simp only [Bool.and_eq_true, Bool.not_eq_true', decide_eq_false_iff_not] at h
  rw [decide_eq_false (by omega), h.2]
  rfl

end
end Go.Sx.Bln

/- blend: a plan of one path (plain). -/

namespace Go.Sx.Bln
open Go Go.Sx Go.Proofs
set_option maxRecDepth 100000

section
variable {l : List Stk} {t : Tst}

theorem tryF_is {meet : (Nat → Int) → Bool} {sub : (Nat → Int) → Option Rsl} : ∀ {L : List (Nat → Int)}, (tryF meet sub L).isSome = true ↔ ∃ c ∈ L, meet c = true ∧ (sub c).isSome = true
  | [] => by simp [tryF]
  | c :: r => by
    unfold tryF
    by_cases hm : meet c = true
    · rw [if_pos hm]
      cases hs : sub c with
      | some x => exact ⟨fun _ => ⟨c, List.mem_cons_self .., hm, by rw [hs]; rfl⟩, fun _ => rfl⟩
      | none =>
        dsimp only
        rw [tryF_is]
        constructor
        · rintro ⟨d, hd, h⟩; exact ⟨d, List.mem_cons_of_mem _ hd, h⟩
        · rintro ⟨d, hd, h1, h2⟩
          rcases List.mem_cons.1 hd with rfl | hd
          · rw [hs] at h2; cases h2
          · exact ⟨d, hd, h1, h2⟩
    · rw [if_neg hm, tryF_is]
      constructor
      · rintro ⟨d, hd, h⟩; exact ⟨d, List.mem_cons_of_mem _ hd, h⟩
      · rintro ⟨d, hd, h1, h2⟩
        rcases List.mem_cons.1 hd with rfl | hd
        · exact (hm h1).elim
        · exact ⟨d, hd, h1, h2⟩

theorem grp_one {d : List Int} {y : Nat} : grpF [d] y 1 1 = (1, d.getD y 0) := by
  have e : grpF [d] y 1 0 = (0, -1) := rfl
  unfold grpF
  rw [e, if_pos ⟨rfl, .inl (by decide)⟩]
  rfl

/-- One year more of one path. -/
theorem planF_one {d : List Int} {Y k : Nat} {a : Nat → Int} : planF l t [d] Y (k + 1) 1 a = (match tryF (fun c => meetsF l t c ((Y : Int) - (k + 1 : Nat)) (d.getD (Y - (k + 1)) 0)) (fun c => planF l t [d] Y k 1 (lsF a c 6)) (allC a l.length) with
    | none => none
    | some (c, x) => some (putR 1 (Y - (k + 1)) c x (fun _ _ _ => 0))) := by
  show goF _ [d] (Y - (k + 1)) 1 1 _ = _
  unfold goF
  rw [if_neg (by decide), show [d].length = 1 from rfl, grp_one]
  dsimp only
  cases tryF (fun c => meetsF l t c ((Y : Int) - (k + 1 : Nat)) (d.getD (Y - (k + 1)) 0)) (fun c => planF l t [d] Y k 1 (lsF a c 6)) (allC a l.length) with
  | none => rfl
  | some cx => rfl

/-- There is a plan for so many years from a year on. -/
def exP (l : List Stk) (t : Tst) (nd : Nat → Int) : Nat → Nat → (Nat → Int) → Prop
  | 0, _, _ => True
  | k + 1, y, a => ∃ c ∈ allC a l.length, meetsF l t c y (nd y) = true ∧ exP l t nd k (y + 1) (lsF a c 6)

theorem planF_ex {d : List Int} {Y : Nat} : ∀ {k : Nat} {a : Nat → Int}, k ≤ Y → ((planF l t [d] Y k 1 a).isSome = true ↔ exP l t (fun y => d.getD y 0) k (Y - k) a)
  | 0, a, _ => ⟨fun _ => trivial, fun _ => rfl⟩
  | k + 1, a, h => by
    rw [planF_one]
    have e : ((Y : Int) - (k + 1 : Nat)) = ((Y - (k + 1) : Nat) : Int) := by omega
    have e2 : Y - (k + 1) + 1 = Y - k := by omega
    rw [e]
    have hs : ∀ (o : Option ((Nat → Int) × Rsl)), ((match o with
      | none => none
      | some (c, x) => some (putR 1 (Y - (k + 1)) c x (fun _ _ _ => 0))) : Option Rsl).isSome = o.isSome := fun o => by cases o <;> rfl
    rw [hs, tryF_is]
    unfold exP
    constructor
    · rintro ⟨c, hc, h1, h2⟩
      refine ⟨c, hc, h1, ?_⟩
      rw [e2]
      exact (planF_ex (by omega)).1 h2
    · rintro ⟨c, hc, h1, h2⟩
      rw [e2] at h2
      exact ⟨c, hc, h1, (planF_ex (by omega)).2 h2⟩

theorem exP_mono {nd nd' : Nat → Int} : ∀ {k k' y : Nat} {a : Nat → Int}, k' ≤ k → (∀ y', y ≤ y' → y' < y + k' → nd y' = nd' y' ∨ (0 < nd' y' ∧ nd' y' ≤ nd y')) → exP l t nd k y a → exP l t nd' k' y a
  | _, 0, _, _, _, _, _ => trivial
  | 0, k' + 1, _, _, h, _, _ => by omega
  | k + 1, k' + 1, y, a, h, hn, hx => by
    obtain ⟨c, hc, h1, h2⟩ := hx
    refine ⟨c, hc, ?_, exP_mono (by omega) (fun y' h3 h4 => hn y' (by omega) (by omega)) h2⟩
    rcases hn y (Nat.le_refl _) (by omega) with e | ⟨h3, h4⟩
    · rw [← e]; exact h1
    · exact meets_need h1 h3 h4

/-- The same need each year. -/
def exM (l : List Stk) (t : Tst) (m : Int) (k : Nat) : Prop := exP l t (fun _ => m) k 0 (mostF l)
theorem exM_mono {m m' : Int} {k k' : Nat} (hk : k' ≤ k) (hm : m = m' ∨ (0 < m' ∧ m' ≤ m)) (h : exM l t m k) : exM l t m' k' := exP_mono hk (fun _ _ _ => hm) h

theorem okPaths_one {d : List Int} (h1 : 1 ≤ d.length ∧ d.length ≤ 4) (h2 : ∀ j, j < d.length → 0 ≤ d.getD j 0 ∧ d.getD j 0 ≤ 1048576) : okPaths [d] = true := by
  unfold okPaths
  simp only [Bool.and_eq_true, decide_eq_true_eq, Bool.not_eq_true']
  refine ⟨⟨⟨Nat.le_refl _, by show 1 ≤ 4; omega⟩, h1⟩, ?_⟩
  unfold anyPt
  rw [List.any_eq_false]
  intro i hi
  have hi : i < 1 := List.mem_range.1 hi
  obtain rfl : i = 0 := by omega
  unfold qPt okPt
  have e : anyNd d = false := by
    unfold anyNd
    rw [List.any_eq_false]
    intro j hj
    unfold qNd okW
    rw [decide_eq_true (h2 j (List.mem_range.1 hj))]
    simp
  show ¬ (!(decide (d.length = d.length) && !anyNd d)) = true
  rw [e]
  simp
theorem plE_ex {d : List Int} (ho : okAll l t = true) (hp : okPaths [d] = true) : (plE l t [d] = 0 ↔ exP l t (fun y => d.getD y 0) d.length 0 (mostF l)) ∧ (plE l t [d] = 0 ∨ plE l t [d] = 4) := by
  have h := planF_ex (l := l) (t := t) (d := d) (Y := d.length) (k := d.length) (a := mostF l) (Nat.le_refl _)
  rw [Nat.sub_self] at h
  cases hx : planF l t [d] d.length d.length 1 (mostF l) with
  | none =>
    rw [plE_n ho hp hx]
    rw [hx] at h
    refine ⟨⟨fun h => absurd h (by decide), fun h2 => ?_⟩, .inr rfl⟩
    have := h.2 h2
    cases this
  | some x =>
    rw [plE_s ho hp hx]
    rw [hx] at h
    exact ⟨⟨fun _ => h.1 rfl, fun _ => rfl⟩, .inl rfl⟩

/-- A path of the same need. -/
theorem plE_rep {m : Int} {k : Nat} (ho : okAll l t = true) (hm : 0 ≤ m ∧ m ≤ 1048576) (hk : 1 ≤ k ∧ k ≤ 4) : plE l t [List.replicate k m] = 0 ↔ exM l t m k := by
  have hg : ∀ j, j < k → (List.replicate k m).getD j 0 = m := fun j hj => by
    rw [List.getD_eq_getElem?_getD, List.getElem?_replicate, if_pos hj]
    rfl
  have hp : okPaths [List.replicate k m] = true := okPaths_one (by rw [List.length_replicate]; exact hk) (fun j hj => by rw [List.length_replicate] at hj; rw [hg j hj]; exact hm)
  rw [(plE_ex ho hp).1, List.length_replicate]
  exact ⟨exP_mono (Nat.le_refl _) (fun y' _ h => .inl (hg y' (by omega))), exP_mono (Nat.le_refl _) (fun y' _ h => .inl (hg y' (by omega)).symm)⟩

/-- What Lasts returns. -/
theorem lasF_ex {m : Int} (ho : okAll l t = true) (hm : 0 ≤ m ∧ m ≤ 1048576) : (0 ≤ lasF l t m ∧ lasF l t m ≤ 4) ∧ ∀ k : Nat, 1 ≤ k → k ≤ 4 → (exM l t m k ↔ (k : Int) ≤ lasF l t m) := by
  have q1 : plE l t [[m]] = 0 ↔ exM l t m 1 := plE_rep (k := 1) ho hm (by omega)
  have q2 : plE l t [[m, m]] = 0 ↔ exM l t m 2 := plE_rep (k := 2) ho hm (by omega)
  have q3 : plE l t [[m, m, m]] = 0 ↔ exM l t m 3 := plE_rep (k := 3) ho hm (by omega)
  have q4 : plE l t [[m, m, m, m]] = 0 ↔ exM l t m 4 := plE_rep (k := 4) ho hm (by omega)
  have mn : ∀ {k k' : Nat}, k' ≤ k → exM l t m k → exM l t m k' := fun hk h => exM_mono hk (.inl rfl) h
  unfold lasF
  by_cases h1 : plE l t [[m]] = 0
  · rw [if_neg (fun h => h h1)]
    by_cases h2 : plE l t [[m, m]] = 0
    · rw [if_neg (fun h => h h2)]
      by_cases h3 : plE l t [[m, m, m]] = 0
      · rw [if_neg (fun h => h h3)]
        by_cases h4 : plE l t [[m, m, m, m]] = 0
        · rw [if_neg (fun h => h h4)]
          exact ⟨by omega, fun k hk1 hk2 => ⟨fun _ => by omega, fun _ => mn hk2 (q4.1 h4)⟩⟩
        · rw [if_pos h4]
          exact ⟨by omega, fun k hk1 hk2 => ⟨fun h => by
            have : ¬ 4 ≤ k := fun h5 => h4 (q4.2 (mn h5 h))
            omega, fun h => mn (by omega) (q3.1 h3)⟩⟩
      · rw [if_pos h3]
        exact ⟨by omega, fun k hk1 hk2 => ⟨fun h => by
          have : ¬ 3 ≤ k := fun h5 => h3 (q3.2 (mn h5 h))
          omega, fun h => mn (by omega) (q2.1 h2)⟩⟩
    · rw [if_pos h2]
      exact ⟨by omega, fun k hk1 hk2 => ⟨fun h => by
        have : ¬ 2 ≤ k := fun h5 => h2 (q2.2 (mn h5 h))
        omega, fun h => mn (by omega) (q1.1 h1)⟩⟩
  · rw [if_pos h1]
    exact ⟨by omega, fun k hk1 hk2 => ⟨fun h => (h1 (q1.2 (mn hk1 h))).elim, fun h => by omega⟩⟩
end
end Go.Sx.Bln

/- blend: the law BlendYears holds. -/

namespace Go.Sx.Bln
open Go Go.Sx Go.Proofs
set_option maxRecDepth 1000000

theorem grY_ok (l : List Stk) (t : Tst) (b : Bool) : SpOk Try.prog (grY l t b).1 (grY l t b).2 := by
  intro lock args h K hK
  simp only [grY] at hK
  split at hK
  · obtain ⟨h1, h2, rfl, hK⟩ := hK
    exact greatT_ok lock _ h K ⟨l, t, h1, h2, hK⟩
  · exact hK.elim
theorem laK_ok (l : List Stk) (t : Tst) (E : Int) : SpOk Try.prog (laK l t E).1 (laK l t E).2 := by
  intro lock args h K hK
  simp only [laK] at hK
  split at hK
  · obtain ⟨h1, h2, rfl, hK⟩ := hK
    exact laR_ok l t lock _ h K ⟨h1, h2, fun n e ⟨hn, he⟩ => by rw [he]; exact hK n hn⟩
  · obtain ⟨h1, h2, hK⟩ := hK
    exact laR_ok l t lock _ h K ⟨h1, h2, hK⟩
  · exact hK.elim

section
variable {l : List Stk} {t : Tst} {m le : Int}

theorem lasE_vals : lasE l t m = 1 ∨ lasE l t m = 2 ∨ (lasE l t m = 0 ∧ okAll l t = true ∧ 0 ≤ m ∧ m ≤ 1048576) := by
  unfold lasE
  split
  · exact .inl rfl
  · rename_i h1
    split
    · exact .inr (.inl rfl)
    · rename_i h2
      exact .inr (.inr ⟨rfl, by simpa using h1, Classical.not_not.1 h2⟩)
theorem lasE_0 (ho : okAll l t = true) (hm : 0 ≤ m ∧ m ≤ 1048576) : lasE l t m = 0 ∧ lasN l t m = lasF l t m := by
  have e1 : lasE l t m = 0 := by unfold lasE; rw [if_neg (by rw [ho]; simp), if_neg (fun h => h hm)]
  exact ⟨e1, by unfold lasN; rw [if_neg (fun h => h e1)]⟩

theorem cond_e {a b : Prop} [Decidable a] [Decidable b] {p q : Prop} (h : a ↔ b) (hq : q) : (bif !(decide a == decide b) then p else q) := by
  have e : decide a = decide b := decide_eq_decide.2 h
  rw [e, beq_self_eq_true]
  exact hq

theorem years_v : ∃ h', CallsV Try.prog 5 [stD l, .agg (tsL t), I m, I le] ⟨0, []⟩ (.ret (.bool true)) h' := by
  cases hg : greatF l t 36 with
  | true =>
    have htab : ∀ f T, tabS [grY l t true, alT] f = some T → SpOk Try.prog f T := tab_ok _ (fun x hx => by
      simp only [List.mem_cons, List.not_mem_nil, or_false] at hx
      rcases hx with rfl | rfl
      · exact grY_ok l t true
      · exact alT_ok)
    obtain ⟨r, h', rfl, hc⟩ := of_callN (noL_good htab) (f := 5) (args := [stD l, .agg (tsL t), I m, I le]) (h := ⟨0, []⟩) (K := fun r _ => r = .ret (.bool true)) (cast (lyg_ev l t m le _).symm ⟨isD_l, isD_t, hg, rfl⟩)
    exact ⟨h', hc⟩
  | false =>
    rcases lasE_vals (l := l) (t := t) (m := m) with he | he | ⟨he, ho, hm⟩
    · have htab : ∀ f T, tabS [grY l t false, laK l t 1, alT] f = some T → SpOk Try.prog f T := tab_ok _ (fun x hx => by
        simp only [List.mem_cons, List.not_mem_nil, or_false] at hx
        rcases hx with rfl | rfl | rfl
        · exact grY_ok l t false
        · exact laK_ok l t 1
        · exact alT_ok)
      obtain ⟨r, h', rfl, hc⟩ := of_callN (noL_good htab) (f := 5) (args := [stD l, .agg (tsL t), I m, I le]) (h := ⟨0, []⟩) (K := fun r _ => r = .ret (.bool true)) (cast (ly1_ev l t m le _).symm ⟨isD_l, isD_t, hg, isD_l, isD_t, he, fun n hn => cond_dk (by rw [hn]; unfold lasN; rw [if_pos (by rw [he]; decide)]) rfl⟩)
      exact ⟨h', hc⟩
    · have htab : ∀ f T, tabS [grY l t false, laK l t 2, alT] f = some T → SpOk Try.prog f T := tab_ok _ (fun x hx => by
        simp only [List.mem_cons, List.not_mem_nil, or_false] at hx
        rcases hx with rfl | rfl | rfl
        · exact grY_ok l t false
        · exact laK_ok l t 2
        · exact alT_ok)
      obtain ⟨r, h', rfl, hc⟩ := of_callN (noL_good htab) (f := 5) (args := [stD l, .agg (tsL t), I m, I le]) (h := ⟨0, []⟩) (K := fun r _ => r = .ret (.bool true)) (cast (ly2_ev l t m le _).symm ⟨isD_l, isD_t, hg, isD_l, isD_t, he, fun n hn => cond_dk (by rw [hn]; unfold lasN; rw [if_pos (by rw [he]; decide)]) rfl⟩)
      exact ⟨h', hc⟩
    · have htab : ∀ f T, tabS [grY l t false, laK l t 0, plR1 l t, alT] f = some T → SpOk Try.prog f T := tab_ok _ (fun x hx => by
        simp only [List.mem_cons, List.not_mem_nil, or_false] at hx
        rcases hx with rfl | rfl | rfl | rfl
        · exact grY_ok l t false
        · exact laK_ok l t 0
        · exact plR1_ok l t
        · exact alT_ok)
      obtain ⟨hb, hx⟩ := lasF_ex ho hm
      have q1 : plE l t [[m]] = 0 ↔ exM l t m 1 := plE_rep (k := 1) ho hm (by omega)
      have q2 : plE l t [[m, m]] = 0 ↔ exM l t m 2 := plE_rep (k := 2) ho hm (by omega)
      have q3 : plE l t [[m, m, m]] = 0 ↔ exM l t m 3 := plE_rep (k := 3) ho hm (by omega)
      have q4 : plE l t [[m, m, m, m]] = 0 ↔ exM l t m 4 := plE_rep (k := 4) ho hm (by omega)
      obtain ⟨r, h', rfl, hc⟩ := of_callN (noL_good htab) (f := 5) (args := [stD l, .agg (tsL t), I m, I le]) (h := ⟨0, []⟩) (K := fun r _ => r = .ret (.bool true)) (by
        refine cast (lyr_ev l t m le _).symm ⟨isD_l, isD_t, hg, isD_l, isD_t, he, fun n hn => ?_⟩
        rw [(lasE_0 ho hm).2] at hn
        subst hn
        refine cond_d (fun h => by omega) (fun _ => cond_d (fun h => by omega) (fun _ => ?_))
        refine ⟨isD_l, isD_t, [m], isD_pth rfl rfl rfl (fun j hj => by match j, hj with | 0, _ => rfl | _ + 1, hj => exact absurd hj (by simp)), by simp, fun e he => cond_e (by rw [he, q1, hx 1 (by omega) (by omega)]; omega) ?_⟩
        refine ⟨isD_l, isD_t, [m, m], isD_pth rfl rfl rfl (fun j hj => by match j, hj with | 0, _ => rfl | 1, _ => rfl | _ + 2, hj => exact absurd hj (by simp)), by simp, fun e he => cond_e (by rw [he, q2, hx 2 (by omega) (by omega)]; omega) ?_⟩
        refine ⟨isD_l, isD_t, [m, m, m], isD_pth rfl rfl rfl (fun j hj => by match j, hj with | 0, _ => rfl | 1, _ => rfl | 2, _ => rfl | _ + 3, hj => exact absurd hj (by simp)), by simp, fun e he => cond_e (by rw [he, q3, hx 3 (by omega) (by omega)]; omega) ?_⟩
        refine ⟨isD_l, isD_t, [m, m, m, m], isD_pth rfl rfl rfl (fun j hj => by match j, hj with | 0, _ => rfl | 1, _ => rfl | 2, _ => rfl | 3, _ => rfl | _ + 4, hj => exact absurd hj (by simp)), by simp, fun e he => cond_e (by rw [he, q4, hx 4 (by omega) (by omega)]; omega) ?_⟩
        refine cond_d (fun _ => rfl) (fun h1 => cond_d (fun _ => rfl) (fun h2 => ⟨isD_l, isD_t, fun n e ⟨hn, he⟩ => ?_⟩))
        have hle : 0 ≤ le ∧ le ≤ 1048576 := by omega
        obtain ⟨e1, e2⟩ := lasE_0 ho hle
        obtain ⟨hb2, hx2⟩ := lasF_ex ho hle
        refine cond_dk (he.trans e1) (cond_dk ?_ rfl)
        rw [hn, e2]
        by_cases h0 : lasF l t m = 0
        · omega
        · have h3 : ((lasF l t m).toNat : Int) = lasF l t m := by omega
          have h4 := (hx (lasF l t m).toNat (by omega) (by omega)).2 (by omega)
          have h5 := (hx2 (lasF l t m).toNat (by omega) (by omega)).1 (exM_mono (Nat.le_refl _) (.inr ⟨by omega, by omega⟩) h4)
          omega)
      exact ⟨h', hc⟩
end
end Go.Sx.Bln
