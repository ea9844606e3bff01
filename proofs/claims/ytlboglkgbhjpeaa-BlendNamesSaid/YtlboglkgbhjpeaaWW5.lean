/- stream: Cf1 Cg1 Ch11 Ci11 Ch12 Ci12 Ch13 Ci13 Ch14 Ci14 La2 Lb1 Lb2, in one text. -/
import Derived.Test.YtlboglkgbhjpeaaWW4
import Derived.Test.YtlboglkgbhjpeaaWW3
/- blend: Plan's closures with 1 paths. -/

namespace Go.Sx.Bln
open Go Go.Sx Go.Proofs
set_option maxRecDepth 1000000

section
variable {l : List Stk} {t : Tst} {P : List (List Int)} {Y k : Nat} {y S d : Int} {own : Int} {a : Nat → Int}

/-! The next choice. -/
noncomputable def OJ1 (l : List Stk) (t : Tst) (P : List (List Int)) (Y : Nat) (y S own d : Int) (a : Nat → Int) (s : (Mde × Lst) × Nat × (Nat → Int)) (e : VEx) (vs : List VV) (bs : List VB) : Prop :=
  e = .exit 2 ∧ vs = VFi1 ((scanC a s.2.1 s.2.2).1 - 1) ∧ bs = BFo1 l t P Y y S own d a s.1.1 s.1.2 (scanC a s.2.1 s.2.2).2
theorem lIo1_ok : LSound Try.prog true (.block 2 (.loop (loopB 2 (bodyOf Try.prog 74)))) (ntOf Try.prog 74) (lIo1 l t P Y y S own d a) := by
  by_cases hn : l.length ≤ 6
  · refine loop_row hmix good0 (un := 10) (ds := dsI) (ns := nsFo1) (nx := 21) (fun s : (Mde × Lst) × Nat × (Nat → Int) => VFi1 (s.2.1 - 1)) (fun s => BFo1 l t P Y y S own d a s.1.1 s.1.2 s.2.2) (fun s => s.2.1 ≤ l.length) (fun s => s.2.1) (OJ1 l t P Y y S own d a) noL_ok ?_ ?_
    · rintro ⟨⟨M, es⟩, k, n⟩ h0
      dsimp only at h0 ⊢
      refine cast (ino1_ev l t P Y y S own d (k - 1) a M es n _).symm ?_
      cases k with
      | zero => exact cond_d (fun h => by omega) (fun _ => ⟨rfl, rfl, rfl⟩)
      | succ k =>
        have e : (((k + 1 : Nat) : Int) - 1) = (k : Int) := by omega
        rw [e]
        have e2 : (k : Int).toNat * 1 = k := by omega
        rw [e2, show (fun k => (ch a).getD k (0 : Int)) k = a k from ch_get (by omega)]
        refine cond_d (fun _ => ?_) (fun h => by omega)
        refine cond_dk ⟨by omega, by omega⟩ (cond_dk (by omega) (cond_dk ⟨by omega, by omega⟩ (cond_dk (by omega) (cond_d (fun g => cond_dk ⟨by omega, by omega⟩ (cond_dk (by omega) (cond_r (by omega) ?_))) (fun g => ?_)))))
        · refine ⟨((M, es), k, setC n k 0), ?_, ?_, rfl, fitBs_refl _, fun e vs bs he => ?_⟩
          · show k ≤ _; omega
          · show k < k + 1; omega
          · have hs : scanC a (k + 1) n = scanC a k (setC n k 0) := by
              show (if _ then _ else _) = _
              rw [if_pos g]
            obtain ⟨h1, h2, h3⟩ := he
            refine ⟨h1, ?_, ?_⟩
            · rw [h2]; dsimp only; rw [hs]
            · rw [h3]; dsimp only; rw [hs]
        · have hs : scanC a (k + 1) n = (k + 1, n) := by
            show (if _ then _ else _) = _
            rw [if_neg g]
          refine ⟨rfl, ?_, ?_⟩
          · dsimp only; rw [hs]; dsimp only; rw [e]; rfl
          · dsimp only; rw [hs]; rfl
    · rintro lock tt h K ⟨M, es, n, hf, _, k1⟩
      refine ⟨((M, es), l.length, n), hf, Nat.le_refl _, ?_⟩
      rintro e vs bs ⟨rfl, rfl, rfl⟩
      exact k1 _ _ rfl
  · rintro lock tt h K ⟨M, es, n, hf, hc, _⟩
    exact (hn hc).elim

/-! The paths with one need. -/
theorem lG1_ok {r : Nat} : LSound Try.prog true (.block 2 (.loop (loopB 2 (bodyOf Try.prog 44)))) (ntOf Try.prog 44) (lG1 l t P Y k y S a r) := by
  by_cases hh : y = ((Y - (k + 1) : Nat) : Int) ∧ k + 1 ≤ Y ∧ Cfg l t P Y ∧ r < 16
  · obtain ⟨hy, hk, cf, hr⟩ := hh
    have hp4 := cf.P4
    refine loop_row hmix good0 (un := 10) (ds := dsG1) (ns := nsF1) (nx := 13) (fun s : (Mde × Lst) × Nat => VG1 P y S a r s.2 (grpF P (Y - (k + 1)) r s.2).2 (grpF P (Y - (k + 1)) r s.2).1) (fun s => BF1 l t P Y y S a s.1.1 s.1.2) (fun s => s.2 ≤ P.length) (fun s => P.length - s.2)
      (fun s e vs bs => e = .exit 2 ∧ vs = VG1 P y S a r P.length (grpF P (Y - (k + 1)) r P.length).2 (grpF P (Y - (k + 1)) r P.length).1 ∧ bs = BF1 l t P Y y S a s.1.1 s.1.2) noL_ok ?_ ?_
    · rintro ⟨⟨M, es⟩, i⟩ h0
      dsimp only at h0 ⊢
      refine cast (gi1_ev l t P Y M es y S i _ _ r a _).symm ?_
      have hgb := grpF_le cf.nd (Y - (k + 1)) r i
      have hs : grpF P (Y - (k + 1)) r (i + 1) = if r.testBit i ∧ ((grpF P (Y - (k + 1)) r i).2 < 0 ∨ (P.getD i []).getD (Y - (k + 1)) 0 = (grpF P (Y - (k + 1)) r i).2) then ((grpF P (Y - (k + 1)) r i).1 ||| 2 ^ i, (P.getD i []).getD (Y - (k + 1)) 0) else grpF P (Y - (k + 1)) r i := rfl
      have h16 : (grpF P (Y - (k + 1)) r i).1 < 16 := Nat.lt_of_lt_of_le hgb (Nat.pow_le_pow_right (n := 2) (by omega) (show i ≤ 4 by omega))
      generalize hRQ : RoundQ (σ := (Mde × Lst) × Nat) _ _ _ _ _ ((M, es), i) = RQ
      have fin : ∀ (o' : Nat) (d' : Int), grpF P (Y - (k + 1)) r (i + 1) = (o', d') → i < P.length → RQ .normal (VG1 P y S a r ((i : Int) + 1) d' o') (BF1 l t P Y y S a M es) := by
        intro o' d' he hlt
        rw [← hRQ]
        refine ⟨((M, es), i + 1), ?_, ?_, ?_, fitBs_refl _, fun _ _ _ h => h⟩
        · show i + 1 ≤ _; omega
        · show P.length - (i + 1) < P.length - i; omega
        · dsimp only; rw [he]; rfl
      generalize hg : grpF P (Y - (k + 1)) r i = g at hs h16 ⊢
      obtain ⟨o, dd⟩ := g
      dsimp only at hs h16 ⊢
      by_cases hlt : i < P.length
      · have hidx : (0 : Int) ≤ y ∧ y < ((P.getD i []).length : Nat) := by rw [cf.len i hlt]; omega
        have hi4 : i < 4 := by omega
        have hpow : (1 : Int) * (2 : Int) ^ min i IntKind.i64.bits ≤ 8 ∧ 0 ≤ (1 : Int) * (2 : Int) ^ min i IntKind.i64.bits := by
          match i, hi4 with
          | 0, _ => exact ⟨by decide, by decide⟩
          | 1, _ => exact ⟨by decide, by decide⟩
          | 2, _ => exact ⟨by decide, by decide⟩
          | 3, _ => exact ⟨by decide, by decide⟩
        have ey : y.toNat = Y - (k + 1) := by omega
        refine cond_dk (by omega) (cond_dk ⟨by omega, by omega⟩ (cond_d (fun h => by omega) (fun _ => ?_)))
        rw [show (i : Int).toNat = i by omega, ey, or_v o h16 i hi4]
        refine cond_d (fun b => ?_) (fun b => ?_)
        · have b := (bit_v r hr i hi4).1 b
          refine cond_d (fun g1 => cond_d (fun h => by omega) (fun _ => cond_r (by omega) (cond_dk hidx (cond_r (by omega) (fin _ _ ?_ hlt))))) (fun g1 => cond_dk hidx (cond_d (fun g2 => cond_d (fun h => by omega) (fun _ => cond_r (by omega) (cond_dk hidx (cond_r (by omega) (fin _ _ ?_ hlt))))) (fun g2 => cond_r (by omega) (fin _ _ ?_ hlt))))
          · rw [hs, if_pos ⟨b, .inl g1⟩]
          · rw [hs, if_pos ⟨b, .inr g2⟩]
          · rw [hs, if_neg (fun h => h.2.elim g1 g2)]
        · have b : ¬ r.testBit i = true := fun h => b ((bit_v r hr i hi4).2 h)
          refine cond_r (by omega) (fin _ _ ?_ hlt)
          rw [hs, if_neg (fun h => b h.1)]
      · obtain rfl : i = P.length := by omega
        refine cond_d (fun h => by omega) (fun _ => ?_)
        rw [← hRQ]
        refine ⟨rfl, ?_, rfl⟩
        rw [hg]; rfl
    · rintro lock tt h K ⟨M, es, hf, _, k1⟩
      refine ⟨((M, es), 0), hf, Nat.zero_le _, ?_⟩
      rintro e vs bs ⟨rfl, rfl, rfl⟩
      exact k1 _ _ rfl
  · rintro lock tt h K ⟨M, es, hf, hc, _⟩
    exact (hh hc).elim
end

section
variable {l : List Stk} {t : Tst} {D0 : List Int} {Y k : Nat}

theorem hc61 {h : VH} (h6 : (h.at 2).cs? = some (stD l :: tsL t, 74)) : isD h 4 (.ptr (.own 2 0)) (.tp (stD l :: tsL t)) := ⟨_, _, h6, isD_l, ⟨rfl, rfl, fun _ _ => rfl⟩, ⟨rfl, rfl⟩, ⟨rfl, rfl⟩, trivial⟩

/-! 'follow'. -/
structure WS1 where
  M0 : Mde
  j : Nat
  M : Mde
  es : Lst
noncomputable def OW1 (l : List Stk) (t : Tst) (P : List (List Int)) (Y k : Nat) (y S d : Int) (O : Nat) (a : Nat → Int) (s : WS1) (e : VEx) (vs : List VV) (bs : List VB) : Prop :=
  e = .ret ∧ vs = VFo1 ∧ ∃ st n', (PostW l t P Y k O d a s.M0 false st ∧ bs = BFo1 l t P Y y S O d a st.M st.es n') ∨ (PostW l t P Y k O d a s.M0 true st ∧ bs = BFoT1 l t P Y y S O d a st.M st.es n')
theorem lFo1_ok (hfind : SpOk Try.prog (findR1 l t [D0] Y k).1 (findR1 l t [D0] Y k).2) {y S d : Int} {O : Nat} {a : Nat → Int} : LSound Try.prog true (.block 0 (.loop (loopB 0 (bodyOf Try.prog 74)))) (ntOf Try.prog 74) (lFo1 l t [D0] Y k y S d O a) := by
  by_cases hh : y = (Y : Int) - (k + 1 : Nat) ∧ Cfg l t [D0] Y ∧ k + 1 ≤ Y ∧ O < 2 ^ [D0].length ∧ leftB l a
  · obtain ⟨hy, cf, hk, hO, ha⟩ := hh
    have hl6 := cf.hl.1
    have hY4 := cf.Y4
    have hm0 : ∀ i, i < l.length → 0 ≤ a i := fun i hi => (ha.1 i hi).1
    have hO16 : O < 16 := Nat.lt_of_lt_of_le hO (Nat.pow_le_pow_right (n := 2) (by omega) (show 1 ≤ 4 by omega))
    have htab : ∀ f T, tabS [meetsR l t, lessT, findR1 l t [D0] Y k] f = some T → SpOk Try.prog f T := tab_ok _ (fun x hx => by
      simp only [List.mem_cons, List.not_mem_nil, or_false] at hx
      rcases hx with rfl | rfl | rfl
      · exact meetsR_ok l t
      · exact lessT_ok
      · exact hfind)
    refine loop_row hmix (noL_good htab) (lsp := tabB [(2, lIo1 l t [D0] Y y S O d a)]) (un := 10) (ds := dsC) (ns := nsFo1) (nx := 20) (fun _ : WS1 => VFo1) (fun s => BFo1 l t [D0] Y y S O d a s.M s.es (chAt a l.length s.j))
      (fun s => s.j < (allC a l.length).length ∧ LostOk l t [D0] Y s.es ∧ Same Y (k + 1) O s.M0 s.M ∧ ∀ i, i < s.j → meetsF l t (chAt a l.length i) y d = true → planF l t [D0] Y k O (lsF a (chAt a l.length i) 6) = none) (fun s => (allC a l.length).length - s.j) (OW1 l t [D0] Y k y S d O a) (lsp_one (by kernel_rfl) lIo1_ok) ?_ ?_
    · rintro ⟨M0, j, M, es⟩ ⟨hj, hlost, hsame, hbad⟩
      dsimp only at hj hlost hsame hbad
      refine cast (fr1_ev l t D0 Y k M es y S d O a _ _).symm ?_
      have hcm := chAt_mem (most := a) (k := l.length) hj
      obtain ⟨hleft, hbd, hnc⟩ := left_less ha hcm hl6
      have hnx := scan_nxt (most := a) l.length (chAt a l.length j)
      have hnext := chAt_next hm0 hj
      have hsucc : ∀ x, meetsF l t (chAt a l.length j) y d = true → planF l t [D0] Y k O (lsF a (chAt a l.length j) 6) = some x → folF l t [D0] Y k a O d = some (chAt a l.length j, x) := fun x g1 g2 => by
        refine tryF_some (c0 := fun _ => 0) hj (fun i hi hm => hbad i hi ?_) ?_ g2
        · rw [hy]; exact hm
        · show meetsF l t (chAt a l.length j) _ d = true
          rw [← hy]; exact g1
      generalize hRQ : RoundQ (σ := WS1) _ _ _ _ _ ⟨M0, j, M, es⟩ = RQ
      generalize hcj : chAt a l.length j = c at hcm hleft hbd hnc hnx hnext hsucc ⊢
      -- behind the body: the next choice
      have fin : ∀ (M' : Mde) (es' : Lst), LostOk l t [D0] Y es' → Same Y (k + 1) O M0 M' → (meetsF l t c y d = true → planF l t [D0] Y k O (lsF a c 6) = none) → ∀ (k2 : Nat) (n' : Nat → Int), scanC a l.length c = (k2, n') →
        (bif decide ((k2 : Int) - 1 < 0) then RQ .ret VFo1 (BFo1 l t [D0] Y y S O d a M' es' n')
        else bif decide (0 ≤ (k2 : Int) - 1 ∧ (k2 : Int) - 1 < (6 : Nat)) then (bif decide (((k2 : Int) - 1).toNat * 1 < 6) then (bif inK .i64 (n' (((k2 : Int) - 1).toNat * 1) + 1) then (bif decide (0 ≤ (k2 : Int) - 1 ∧ (k2 : Int) - 1 < (6 : Nat)) then (bif decide (((k2 : Int) - 1).toNat * 1 + 1 ≤ 6) then
          RQ .normal VFo1 (BFo1 l t [D0] Y y S O d a M' es' (setF n' (((k2 : Int) - 1).toNat * 1) [n' (((k2 : Int) - 1).toNat * 1) + 1])) else False) else False) else False) else False) else False) := by
        intro M' es' hl' hs' hno k2 n' hk2
        have hbad' : ∀ i, i < j + 1 → meetsF l t (chAt a l.length i) y d = true → planF l t [D0] Y k O (lsF a (chAt a l.length i) 6) = none := fun i hi hm => by
          by_cases e : i = j
          · subst e; rw [hcj] at hm ⊢; exact hno hm
          · exact hbad i (by omega) hm
        rw [hk2] at hnx
        obtain ⟨hk1, hnx⟩ := hnx
        dsimp only at hk1
        cases k2 with
        | zero =>
          dsimp only at hnx
          have hj1 : j + 1 = (allC a l.length).length := by
            rcases hnext with ⟨h1, _⟩ | ⟨_, h2⟩
            · exact h1
            · rw [hnx] at h2; cases h2
          refine cond_d (fun _ => ?_) (fun h => by omega)
          rw [← hRQ]
          refine ⟨rfl, rfl, ⟨M', es'⟩, n', .inl ⟨?_, rfl⟩⟩
          have hf : folF l t [D0] Y k a O d = none := tryF_none (fun c' hc' hm' => by
            obtain ⟨i, hi, rfl⟩ := List.getElem_of_mem hc'
            have e : chAt a l.length i = (allC a l.length)[i] := by
              unfold chAt
              rw [List.getD_eq_getElem?_getD, List.getElem?_eq_getElem hi]; rfl
            rw [← e]
            refine hbad' i (by omega) ?_
            rw [e, hy]; exact hm')
          exact ⟨by rw [hf]; rfl, hl', hs', fun c' x' he => by rw [hf] at he; cases he⟩
        | succ k2 =>
          dsimp only at hnx
          have e : (((k2 + 1 : Nat) : Int) - 1) = (k2 : Int) := by omega
          rw [e]
          have e2 : (k2 : Int).toNat * 1 = k2 := by omega
          rw [e2]
          obtain ⟨hj1, hch⟩ : j + 1 < (allC a l.length).length ∧ chAt a l.length (j + 1) = setC n' k2 (n' k2 + 1) := by
            rcases hnext with ⟨_, h2⟩ | ⟨h1, h2⟩
            · rw [hnx] at h2; cases h2
            · rw [hnx] at h2
              injection h2 with h2
              exact ⟨h1, h2.symm⟩
          have hb6 := (left_less ha (chAt_mem hj1) hl6).2.2 k2 (by omega)
          rw [hch, setC_same] at hb6
          refine cond_d (fun h => by omega) (fun _ => cond_dk ⟨by omega, by omega⟩ (cond_dk (by omega) (cond_r (by omega) (cond_dk ⟨by omega, by omega⟩ (cond_dk (by omega) ?_)))))
          rw [← hRQ]
          refine ⟨⟨M0, j + 1, M', es'⟩, ⟨hj1, hl', hs', hbad'⟩, ?_, rfl, ?_, fun _ _ _ h => h⟩
          · show (allC a l.length).length - (j + 1) < (allC a l.length).length - j
            omega
          · dsimp only
            rw [hch]
            exact fitBs_refl _
      have hir : -9223372036854775808 ≤ (l.length : Int) - 1 ∧ (l.length : Int) - 1 ≤ 9223372036854775807 := by omega
      have hF : ∀ (M' : Mde) (es' : Lst) (h : VH) (tt : Slots), h.nx = 21 → fitB (nsFo1.zip (BFo1 l t [D0] Y y S O d a M' es' c)) h → fitS (dsI.zip (VFi1 (l.length - 1))) tt → FitP 0 h tt ⟨21, nsFo1.zip (BFo1 l t [D0] Y y S O d a M' es' c)⟩ (dsI.zip (VFi1 (l.length - 1))) := fun _ _ _ _ h1 h2 h3 => ⟨⟨rfl, h1, h2⟩, h3⟩
      refine ⟨c, hc61 rfl, rfl, ⟨⟨hnc, cf.hl, cf.hp, cf.ht⟩, by omega, by omega⟩, cond_i (fun g => ?_) (fun g => ?_)⟩
      · have g : meetsF l t c y d = false := by simpa using g
        refine cond_r hir ⟨M, es, c, hF M es _ _ rfl ?_ ?_, hl6, fin M es hlost hsame (fun h => by rw [g] at h; cases h)⟩
        · exact ⟨VB.fit_refl _, VB.fit_refl _, VB.fit_refl _, VB.fit_refl _, VB.fit_refl _, VB.fit_refl _, VB.fit_refl _, VB.fit_refl _, VB.fit_refl _, VB.fit_refl _, VB.fit_refl _, VB.fit_refl _, VB.fit_refl _, VB.fit_refl _, VB.fit_refl _, VB.fit_refl _, VB.fit_refl _, VB.fit_refl _, VB.fit_refl _, VB.fit_refl _, trivial⟩
        · exact ⟨rfl, rfl, rfl, rfl, rfl, trivial⟩
      · have g : meetsF l t c y d = true := by simpa using g
        refine cond_r (by omega) ⟨a, c, rfl, rfl, hbd, O, lsF a c 6, M, es, ⟨rfl, rfl, rfl, rfl⟩, ⟨rfl, by omega⟩, ⟨rfl, rfl, rfl, rfl, rfl, rfl, rfl, rfl, rfl, rfl, rfl, rfl, trivial⟩, ⟨by omega, rfl, rfl⟩, ⟨by omega, hO, hleft, hlost⟩, ?_⟩
        rintro b s ⟨p1, p2, p3, p4⟩
        refine cond_i (fun g2 => ?_) (fun g2 => ?_)
        · have g2 : b = false := by simpa using g2
          refine cond_r hir ⟨s.M, s.es, c, hF s.M s.es _ _ rfl ?_ ?_, hl6, fin s.M s.es p2 (hsame.trans p3.later) (fun _ => ?_)⟩
          · exact ⟨VB.fit_refl _, VB.fit_refl _, VB.fit_refl _, VB.fit_refl _, VB.fit_refl _, VB.fit_refl _, VB.fit_refl _, VB.fit_refl _, VB.fit_refl _, VB.fit_refl _, VB.fit_refl _, VB.fit_refl _, VB.fit_refl _, VB.fit_refl _, VB.fit_refl _, VB.fit_refl _, VB.fit_refl _, VB.fit_refl _, VB.fit_refl _, VB.fit_refl _, trivial⟩
          · exact ⟨rfl, rfl, rfl, rfl, rfl, trivial⟩
          · rw [g2] at p1
            cases hx : planF l t [D0] Y k O (lsF a c 6) with
            | none => rfl
            | some x => rw [hx] at p1; cases p1
        · have g2 : b = true := by simpa using g2
          subst g2
          obtain ⟨x, hx⟩ : ∃ x, planF l t [D0] Y k O (lsF a c 6) = some x := by
            cases hx : planF l t [D0] Y k O (lsF a c 6) with
            | none => rw [hx] at p1; cases p1
            | some x => exact ⟨x, rfl⟩
          have hyY : (0 : Int) ≤ y ∧ y < (Y : Int) := ⟨by omega, by omega⟩
          have hyY6 : 0 + y.toNat * 6 + 6 ≤ Y * 6 := by omega
          have fin2 : ∀ M2 : Mde, (∀ i, i < [D0].length → M2 i = if O.testBit i = true then wrM (s.M i) y c else s.M i) → (∀ i, [D0].length ≤ i → M2 i = s.M i) → ∀ bs, bs = BFoT1 l t [D0] Y y S O d a M2 s.es c → RQ .ret VFo1 bs := by
            rintro M2 h2 h3 bs rfl
            rw [← hRQ]
            exact ⟨rfl, rfl, ⟨M2, s.es⟩, c, .inr ⟨postW_true hk hO (by omega) (hsucc x g hx) hx hsame ⟨p1, p2, p3, p4⟩ h2 h3, rfl⟩⟩
          refine cond_d (fun b0 => cond_dk hyY (cond_dk hyY6 ?_)) (fun b0 => ?_)
          · have b0 : O.testBit 0 = true := (bit_v O hO16 0 (by omega)).1 b0
            exact fin2 (fun i => if i = 0 then wrM (s.M 0) y c else (s.M i)) (fun i hi => by
                match i, hi with
                | 0, _ => rw [if_pos b0]; rfl
                | _ + 1, hi => exact absurd hi (by show ¬ _ + 1 < 1; omega)) (fun i hi => by
                have hi : 1 ≤ i := hi
                rw [if_neg (show ¬ i = 0 by omega)]) _ rfl
          · have b0 : ¬ O.testBit 0 = true := fun h => b0 ((bit_v O hO16 0 (by omega)).2 h)
            exact fin2 (fun i => if i = 0 then s.M 0 else (s.M i)) (fun i hi => by
                match i, hi with
                | 0, _ => rw [if_neg b0]; rfl
                | _ + 1, hi => exact absurd hi (by show ¬ _ + 1 < 1; omega)) (fun i hi => by
                have hi : 1 ≤ i := hi
                rw [if_neg (show ¬ i = 0 by omega)]) _ rfl
    · rintro lock tt h K ⟨M, es, hf, ⟨_, _, hpw⟩, k1, k2⟩
      refine ⟨⟨M, 0, M, es⟩, ?_, ⟨all_pos hm0, hpw.2.2.2, Same.refl _ _ _ _, fun i hi => absurd hi (Nat.not_lt_zero i)⟩, ?_⟩
      · dsimp only
        rw [chAt_zero hm0]; exact hf
      · rintro e vs bs ⟨rfl, rfl, st, n', ⟨hp, rfl⟩ | ⟨hp, rfl⟩⟩
        · exact k1 st n' hp
        · exact k2 st n' hp
  · rintro lock tt h K ⟨M, es, hf, ⟨h1, h2, h3⟩, _⟩
    exact (hh ⟨h1, h2, h3.1, h3.2.1, h3.2.2.1⟩).elim
end
end Go.Sx.Bln

/- blend: Plan's closures with 1 paths, as rows. -/

namespace Go.Sx.Bln
open Go Go.Sx Go.Proofs
set_option maxRecDepth 1000000

section
variable {l : List Stk} {t : Tst} {D0 : List Int} {Y k : Nat}

theorem liftW1 {y S o d : Int} {a : Nat → Int} {b : Bool} {s : St} {M : Mde} {es : Lst} {nx : Nat} {bs : List (Nat × VB)} (hnx : 12 ≤ nx) (hat : atL nsB1 (BP1 l t [D0] Y M es) ⟨nx, bs⟩)
    (hc : CallsV Try.prog 40 [.agg (I y :: I S :: nL a), I o, I d, .ptr (.own 3 0), .ptr (.own 10 0), .ptr (.own 1 0), .ptr (.own 6 0)] ⟨12, nsB1.zip (BP1 l t [D0] Y M es)⟩ (.ret (.bool b)) ⟨12, nsB1.zip (BP1 l t [D0] Y s.M s.es)⟩) :
    CallsV Try.prog 40 [.agg (I y :: I S :: nL a), I o, I d, .ptr (.own 3 0), .ptr (.own 10 0), .ptr (.own 1 0), .ptr (.own 6 0)] ⟨nx, bs⟩ (.ret (.bool b)) ⟨nx, (7, .fam [] (Y * 6) (s.M 0) 80) :: (8, .map kS .bool s.es) :: bs⟩ := by
  obtain ⟨e0, e1, e2, e3, e4, e5, e6, e7, e8, e9, e10, e11, _⟩ := hat
  have hput : (VH.mk nx ((7, .fam [] (Y * 6) (s.M 0) 80) :: (8, .map kS .bool s.es) :: bs)).at = upd (upd (VH.mk nx bs).at 8 (.map kS .bool s.es)) 7 (.fam [] (Y * 6) (s.M 0) 80) := by
    have q1 : (VH.mk nx ((8, VB.map kS .bool s.es) :: bs)).at = upd (VH.mk nx bs).at 8 (.map kS .bool s.es) := VH.at_put ⟨nx, bs⟩ 8 _ (by rw [e8]; exact fun h => by cases h)
    have q0 : (VH.mk nx ((7, VB.fam [] (Y * 6) (s.M 0) 80) :: (8, VB.map kS .bool s.es) :: bs)).at = upd (upd (VH.mk nx bs).at 8 (.map kS .bool s.es)) 7 (.fam [] (Y * 6) (s.M 0) 80) := by
      rw [← q1]
      exact VH.at_put ⟨nx, (8, VB.map kS .bool s.es) :: bs⟩ 7 _ (by rw [q1]; simp only [upd, show ¬ (7 : Nat) = 8 by omega, if_false]; rw [e7]; exact fun h => by cases h)
    exact q0
  have := calls_ren (P := Try.prog) (h := ⟨nx, bs⟩) (h1 := ⟨nx, (7, .fam [] (Y * 6) (s.M 0) 80) :: (8, .map kS .bool s.es) :: bs⟩) id (fun _ _ _ _ h => h) hc (fun n hn => by
    have hn : n < 12 := hn
    match n, hn with
    | 0, _ => exact ⟨trivial, e0⟩
    | 1, _ => exact ⟨trivial, e1⟩
    | 2, _ => exact ⟨trivial, e2⟩
    | 3, _ => exact ⟨trivial, e3⟩
    | 4, _ => exact ⟨trivial, e4⟩
    | 5, _ => exact ⟨trivial, e5⟩
    | 6, _ => exact ⟨trivial, e6⟩
    | 7, _ => exact ⟨trivial, e7⟩
    | 8, _ => exact ⟨trivial, e8⟩
    | 9, _ => exact ⟨trivial, e9⟩
    | 10, _ => exact ⟨trivial, e10⟩
    | 11, _ => exact ⟨trivial, e11⟩
    | _ + 12, hn => exact absurd hn (by omega)) (fun n hn => by
    have hn : n < 12 := hn
    match n, hn with
    | 0, _ => exact ⟨trivial, rfl, by rw [hput]; simp only [upd, show ¬ (0 : Nat) = 8 by omega, show ¬ (0 : Nat) = 7 by omega, if_false, id]; exact e0⟩
    | 1, _ => exact ⟨trivial, rfl, by rw [hput]; simp only [upd, show ¬ (1 : Nat) = 8 by omega, show ¬ (1 : Nat) = 7 by omega, if_false, id]; exact e1⟩
    | 2, _ => exact ⟨trivial, rfl, by rw [hput]; simp only [upd, show ¬ (2 : Nat) = 8 by omega, show ¬ (2 : Nat) = 7 by omega, if_false, id]; exact e2⟩
    | 3, _ => exact ⟨trivial, rfl, by rw [hput]; simp only [upd, show ¬ (3 : Nat) = 8 by omega, show ¬ (3 : Nat) = 7 by omega, if_false, id]; exact e3⟩
    | 4, _ => exact ⟨trivial, rfl, by rw [hput]; simp only [upd, show ¬ (4 : Nat) = 8 by omega, show ¬ (4 : Nat) = 7 by omega, if_false, id]; exact e4⟩
    | 5, _ => exact ⟨trivial, rfl, by rw [hput]; simp only [upd, show ¬ (5 : Nat) = 8 by omega, show ¬ (5 : Nat) = 7 by omega, if_false, id]; exact e5⟩
    | 6, _ => exact ⟨trivial, rfl, by rw [hput]; simp only [upd, show ¬ (6 : Nat) = 8 by omega, show ¬ (6 : Nat) = 7 by omega, if_false, id]; exact e6⟩
    | 7, _ => exact ⟨trivial, rfl, by rw [hput]; simp [upd]; rfl⟩
    | 8, _ => exact ⟨trivial, rfl, by rw [hput]; simp [upd]; rfl⟩
    | 9, _ => exact ⟨trivial, rfl, by rw [hput]; simp only [upd, show ¬ (9 : Nat) = 8 by omega, show ¬ (9 : Nat) = 7 by omega, if_false, id]; exact e9⟩
    | 10, _ => exact ⟨trivial, rfl, by rw [hput]; simp only [upd, show ¬ (10 : Nat) = 8 by omega, show ¬ (10 : Nat) = 7 by omega, if_false, id]; exact e10⟩
    | 11, _ => exact ⟨trivial, rfl, by rw [hput]; simp only [upd, show ¬ (11 : Nat) = 8 by omega, show ¬ (11 : Nat) = 7 by omega, if_false, id]; exact e11⟩
    | _ + 12, hn => exact absurd hn (by omega)) (fun q hq => by
    rw [hput]
    have hq' : ∀ n, n < 12 → n ≠ q := fun n hn => hq n hn
    simp only [upd, if_neg (hq' 7 (by omega)).symm, if_neg (hq' 8 (by omega)).symm]) (fun n hn => by
    have hn : n < 12 := hn
    match n, hn with
    | 0, _ => rfl
    | 1, _ => rfl
    | 2, _ => rfl
    | 3, _ => rfl
    | 4, _ => rfl
    | 5, _ => rfl
    | 6, _ => rfl
    | 7, _ => rfl
    | 8, _ => rfl
    | 9, _ => rfl
    | 10, _ => rfl
    | 11, _ => rfl
    | _ + 12, hn => exact absurd hn (by omega)) rfl rfl
  exact this
theorem liftF1 {y S o d : Int} {a : Nat → Int} {b : Bool} {s : St} {M : Mde} {es : Lst} {nx : Nat} {bs : List (Nat × VB)} (hnx : 12 ≤ nx) (hat : atL nsB1 (BP1 l t [D0] Y M es) ⟨nx, bs⟩)
    (hc : CallsV Try.prog 44 [.agg (I y :: I S :: nL a), .ptr (.own 4 0), .ptr (.own 9 0), .ptr (.own 1 0), .ptr (.own 11 0)] ⟨12, nsB1.zip (BP1 l t [D0] Y M es)⟩ (.ret (.bool b)) ⟨12, nsB1.zip (BP1 l t [D0] Y s.M s.es)⟩) :
    CallsV Try.prog 44 [.agg (I y :: I S :: nL a), .ptr (.own 4 0), .ptr (.own 9 0), .ptr (.own 1 0), .ptr (.own 11 0)] ⟨nx, bs⟩ (.ret (.bool b)) ⟨nx, (7, .fam [] (Y * 6) (s.M 0) 80) :: (8, .map kS .bool s.es) :: bs⟩ := by
  obtain ⟨e0, e1, e2, e3, e4, e5, e6, e7, e8, e9, e10, e11, _⟩ := hat
  have hput : (VH.mk nx ((7, .fam [] (Y * 6) (s.M 0) 80) :: (8, .map kS .bool s.es) :: bs)).at = upd (upd (VH.mk nx bs).at 8 (.map kS .bool s.es)) 7 (.fam [] (Y * 6) (s.M 0) 80) := by
    have q1 : (VH.mk nx ((8, VB.map kS .bool s.es) :: bs)).at = upd (VH.mk nx bs).at 8 (.map kS .bool s.es) := VH.at_put ⟨nx, bs⟩ 8 _ (by rw [e8]; exact fun h => by cases h)
    have q0 : (VH.mk nx ((7, VB.fam [] (Y * 6) (s.M 0) 80) :: (8, VB.map kS .bool s.es) :: bs)).at = upd (upd (VH.mk nx bs).at 8 (.map kS .bool s.es)) 7 (.fam [] (Y * 6) (s.M 0) 80) := by
      rw [← q1]
      exact VH.at_put ⟨nx, (8, VB.map kS .bool s.es) :: bs⟩ 7 _ (by rw [q1]; simp only [upd, show ¬ (7 : Nat) = 8 by omega, if_false]; rw [e7]; exact fun h => by cases h)
    exact q0
  have := calls_ren (P := Try.prog) (h := ⟨nx, bs⟩) (h1 := ⟨nx, (7, .fam [] (Y * 6) (s.M 0) 80) :: (8, .map kS .bool s.es) :: bs⟩) id (fun _ _ _ _ h => h) hc (fun n hn => by
    have hn : n < 12 := hn
    match n, hn with
    | 0, _ => exact ⟨trivial, e0⟩
    | 1, _ => exact ⟨trivial, e1⟩
    | 2, _ => exact ⟨trivial, e2⟩
    | 3, _ => exact ⟨trivial, e3⟩
    | 4, _ => exact ⟨trivial, e4⟩
    | 5, _ => exact ⟨trivial, e5⟩
    | 6, _ => exact ⟨trivial, e6⟩
    | 7, _ => exact ⟨trivial, e7⟩
    | 8, _ => exact ⟨trivial, e8⟩
    | 9, _ => exact ⟨trivial, e9⟩
    | 10, _ => exact ⟨trivial, e10⟩
    | 11, _ => exact ⟨trivial, e11⟩
    | _ + 12, hn => exact absurd hn (by omega)) (fun n hn => by
    have hn : n < 12 := hn
    match n, hn with
    | 0, _ => exact ⟨trivial, rfl, by rw [hput]; simp only [upd, show ¬ (0 : Nat) = 8 by omega, show ¬ (0 : Nat) = 7 by omega, if_false, id]; exact e0⟩
    | 1, _ => exact ⟨trivial, rfl, by rw [hput]; simp only [upd, show ¬ (1 : Nat) = 8 by omega, show ¬ (1 : Nat) = 7 by omega, if_false, id]; exact e1⟩
    | 2, _ => exact ⟨trivial, rfl, by rw [hput]; simp only [upd, show ¬ (2 : Nat) = 8 by omega, show ¬ (2 : Nat) = 7 by omega, if_false, id]; exact e2⟩
    | 3, _ => exact ⟨trivial, rfl, by rw [hput]; simp only [upd, show ¬ (3 : Nat) = 8 by omega, show ¬ (3 : Nat) = 7 by omega, if_false, id]; exact e3⟩
    | 4, _ => exact ⟨trivial, rfl, by rw [hput]; simp only [upd, show ¬ (4 : Nat) = 8 by omega, show ¬ (4 : Nat) = 7 by omega, if_false, id]; exact e4⟩
    | 5, _ => exact ⟨trivial, rfl, by rw [hput]; simp only [upd, show ¬ (5 : Nat) = 8 by omega, show ¬ (5 : Nat) = 7 by omega, if_false, id]; exact e5⟩
    | 6, _ => exact ⟨trivial, rfl, by rw [hput]; simp only [upd, show ¬ (6 : Nat) = 8 by omega, show ¬ (6 : Nat) = 7 by omega, if_false, id]; exact e6⟩
    | 7, _ => exact ⟨trivial, rfl, by rw [hput]; simp [upd]; rfl⟩
    | 8, _ => exact ⟨trivial, rfl, by rw [hput]; simp [upd]; rfl⟩
    | 9, _ => exact ⟨trivial, rfl, by rw [hput]; simp only [upd, show ¬ (9 : Nat) = 8 by omega, show ¬ (9 : Nat) = 7 by omega, if_false, id]; exact e9⟩
    | 10, _ => exact ⟨trivial, rfl, by rw [hput]; simp only [upd, show ¬ (10 : Nat) = 8 by omega, show ¬ (10 : Nat) = 7 by omega, if_false, id]; exact e10⟩
    | 11, _ => exact ⟨trivial, rfl, by rw [hput]; simp only [upd, show ¬ (11 : Nat) = 8 by omega, show ¬ (11 : Nat) = 7 by omega, if_false, id]; exact e11⟩
    | _ + 12, hn => exact absurd hn (by omega)) (fun q hq => by
    rw [hput]
    have hq' : ∀ n, n < 12 → n ≠ q := fun n hn => hq n hn
    simp only [upd, if_neg (hq' 7 (by omega)).symm, if_neg (hq' 8 (by omega)).symm]) (fun n hn => by
    have hn : n < 12 := hn
    match n, hn with
    | 0, _ => rfl
    | 1, _ => rfl
    | 2, _ => rfl
    | 3, _ => rfl
    | 4, _ => rfl
    | 5, _ => rfl
    | 6, _ => rfl
    | 7, _ => rfl
    | 8, _ => rfl
    | 9, _ => rfl
    | 10, _ => rfl
    | 11, _ => rfl
    | _ + 12, hn => exact absurd hn (by omega)) rfl rfl
  exact this

theorem follow_v1 (hfind : SpOk Try.prog (findR1 l t [D0] Y k).1 (findR1 l t [D0] Y k).2) (cf : Cfg l t [D0] Y) {y S d : Int} {O : Nat} {a : Nat → Int} {M : Mde} {es : Lst} (hy : y = (Y : Int) - (k + 1 : Nat)) (hp : PreW l t [D0] Y k O a es) :
    ∃ b s, PostW l t [D0] Y k O d a M b s ∧ CallsV Try.prog 40 [.agg (I y :: I S :: nL a), I O, I d, .ptr (.own 3 0), .ptr (.own 10 0), .ptr (.own 1 0), .ptr (.own 6 0)] ⟨12, nsB1.zip (BP1 l t [D0] Y M es)⟩ (.ret (.bool b)) ⟨12, nsB1.zip (BP1 l t [D0] Y s.M s.es)⟩ := by
  have hall : LoopsOk Try.prog 74 [(0, lFo1 l t [D0] Y k y S d O a)] := fun x hx => by
    simp only [List.mem_singleton] at hx
    subst hx
    exact ⟨by kernel_rfl, lFo1_ok hfind⟩
  obtain ⟨r, h', ⟨b, s, hw, rfl, hf⟩, hc⟩ := of_callN (callL_good hmix noSp hall (un := 10) 20) (f := 40) (args := [.agg (I y :: I S :: nL a), I O, I d, .ptr (.own 3 0), .ptr (.own 10 0), .ptr (.own 1 0), .ptr (.own 6 0)]) (h := ⟨12, nsB1.zip (BP1 l t [D0] Y M es)⟩) (K := fun r h' => ∃ b s, PostW l t [D0] Y k O d a M b s ∧ r = .ret (.bool b) ∧ fitB (nsB1.zip (BP1 l t [D0] Y s.M s.es)) h') (by
    refine cast (fob1_ev l t D0 Y k M es y S d O a _).symm ⟨M, es, ⟨⟨rfl, rfl, VB.fit_refl _, VB.fit_refl _, VB.fit_refl _, VB.fit_refl _, VB.fit_refl _, VB.fit_refl _, VB.fit_refl _, VB.fit_refl _, VB.fit_refl _, VB.fit_refl _, VB.fit_refl _, VB.fit_refl _, VB.fit_refl _, VB.fit_refl _, VB.fit_refl _, VB.fit_refl _, VB.fit_refl _, VB.fit_refl _, VB.fit_refl _, VB.fit_refl _, trivial⟩, rfl, rfl, rfl, rfl, trivial⟩, ⟨hy, cf, hp⟩, fun s n' hw => ⟨false, s, hw, rfl, VB.fit_refl _, VB.fit_refl _, VB.fit_refl _, VB.fit_refl _, VB.fit_refl _, VB.fit_refl _, VB.fit_refl _, VB.fit_refl _, VB.fit_refl _, VB.fit_refl _, VB.fit_refl _, VB.fit_refl _, trivial⟩, fun s n' hw => ⟨true, s, hw, rfl, VB.fit_refl _, VB.fit_refl _, VB.fit_refl _, VB.fit_refl _, VB.fit_refl _, VB.fit_refl _, VB.fit_refl _, VB.fit_refl _, VB.fit_refl _, VB.fit_refl _, VB.fit_refl _, VB.fit_refl _, trivial⟩⟩)
  exact ⟨b, s, hw, calls_weak hc (Nat.le_refl _) hf rfl rfl⟩
theorem folR1_ok (hfind : SpOk Try.prog (findR1 l t [D0] Y k).1 (findR1 l t [D0] Y k).2) (cf : Cfg l t [D0] Y) : SpOk Try.prog (folR1 l t [D0] Y k).1 (folR1 l t [D0] Y k).2 := by
  intro lock args h K hK
  simp only [folR1] at hK
  split at hK
  · rename_i nx bs
    obtain ⟨S', O, a, M, es, ⟨rfl, rfl, rfl, rfl⟩, ⟨rfl, hnx⟩, hat, ⟨hy, rfl, rfl, rfl⟩, hp, hK⟩ := hK
    obtain ⟨b, s, hw, hc⟩ := follow_v1 hfind cf hy hp
    exact ⟨_, _, hK b s hw, lock0 _ _, liftW1 hnx hat hc⟩
  · exact hK.elim

/-! 'find'. -/
structure FS1 where
  M0 : Mde
  r : Nat
  acc : Rsl
  s : St
def OF1 (l : List Stk) (t : Tst) (P : List (List Int)) (Y k : Nat) (y : Int) (S : Nat) (a : Nat → Int) (f : FS1) (e : VEx) (vs : List VV) (bs : List VB) : Prop :=
  (e = .exit 0 ∧ vs = VF1 y S a 0 ∧ ∃ st, PostF l t P Y (k + 1) S a f.M0 true st ∧ bs = BF1 l t P Y y S a st.M st.es) ∨ (e = .ret ∧ ∃ (r : Int) (st : St), PostF l t P Y (k + 1) S a f.M0 false st ∧ vs = VF1 y S a r ∧ bs = BF1 l t P Y y S a st.M st.es)
theorem lFi1_ok (hfol : SpOk Try.prog (folR1 l t [D0] Y k).1 (folR1 l t [D0] Y k).2) {y : Int} {S : Nat} {a : Nat → Int} : LSound Try.prog true (.block 0 (.loop (loopB 0 (bodyOf Try.prog 44)))) (ntOf Try.prog 44) (lFi1 l t [D0] Y k y S a) := by
  by_cases hh : y = (Y : Int) - (k + 1 : Nat) ∧ Cfg l t [D0] Y ∧ k + 1 ≤ Y ∧ leftB l a
  · obtain ⟨hy, cf, hk, ha⟩ := hh
    refine loop_rowD hmix (noL_good (tab1 hfol)) (un := 10) (ds := dsF1) (ns := nsF1) (nx := 13) (lsp := fun f : FS1 => tabB [(2, lG1 l t [D0] Y k y S a f.r)]) (fun f : FS1 => VF1 y S a f.r) (fun f => BF1 l t [D0] Y y S a f.s.M f.s.es) (fun f => DoneF l t [D0] Y k S a f.M0 f.r f.acc f.s) (fun f => f.r) (OF1 l t [D0] Y k y S a) (fun _ _ => lsp_one (by kernel_rfl) lG1_ok) ?_ ?_
    · rintro ⟨M0, r, acc, s⟩ hd
      dsimp only at hd ⊢
      refine cast (gm1_ev l t D0 Y k s.M s.es y S r a _).symm ?_
      have hr16 : r < 16 := Nat.lt_of_lt_of_le hd.lt (Nat.pow_le_pow_right (n := 2) (by omega) (show 1 ≤ 4 by omega))
      by_cases hr : r = 0
      · subst hr
        refine cond_d (fun h => by omega) (fun _ => .inl ⟨rfl, rfl, s, done_end hd, rfl⟩)
      · refine cond_dk (by omega) ⟨s.M, s.es, ⟨⟨rfl, rfl, VB.fit_refl _, VB.fit_refl _, VB.fit_refl _, VB.fit_refl _, VB.fit_refl _, VB.fit_refl _, VB.fit_refl _, VB.fit_refl _, VB.fit_refl _, VB.fit_refl _, VB.fit_refl _, VB.fit_refl _, VB.fit_refl _, trivial⟩, rfl, rfl, rfl, rfl, rfl, rfl, rfl, rfl, rfl, rfl, rfl, rfl, rfl, trivial⟩, ⟨by omega, hk, cf, hr16⟩, ?_⟩
        intro o d hg
        have ho : o < 2 ^ [D0].length := by
          have := grpF_le cf.nd (Y - (k + 1)) r [D0].length
          rw [hg] at this; exact this
        have ho16 : o < 16 := Nat.lt_of_lt_of_le ho (Nat.pow_le_pow_right (n := 2) (by omega) (show 1 ≤ 4 by omega))
        refine ⟨S, o, a, s.M, s.es, ⟨rfl, rfl, rfl, rfl⟩, ⟨rfl, by omega⟩, ⟨rfl, rfl, rfl, rfl, rfl, rfl, rfl, rfl, rfl, rfl, rfl, rfl, trivial⟩, ⟨hy, rfl, rfl, rfl⟩, ⟨hk, ho, ha, hd.lost⟩, ?_⟩
        intro b s' hw
        obtain ⟨d1, d2⟩ := done_step cf.nd hd hr hg (s' := s')
        refine cond_i (fun g => ?_) (fun g => ?_)
        · have g : b = false := by simpa using g
          subst g
          obtain ⟨z1, z2, z3⟩ := d2 hw
          refine ⟨key82, .inr ⟨rfl, r, ⟨s'.M, setE s'.es (kyF y S a) 1⟩, ⟨by rw [z1]; rfl, ?_, z3, fun x hx => by rw [z1] at hx; cases hx⟩, rfl, rfl⟩⟩
          have := lost_set z2 hk z1
          rw [← hy] at this
          exact this
        · have g : b = true := by simpa using g
          subst g
          obtain ⟨acc', hd', hlt⟩ := d1 hw
          rw [andnot_v r hr16 o ho16]
          exact ⟨⟨M0, _, acc', s'⟩, hd', hlt, rfl, fitBs_refl _, fun _ _ _ h => h⟩
    · rintro lock tt h K ⟨M, es, hf, ⟨_, _, hp⟩, k1, k2⟩
      refine ⟨⟨M, S, fun _ _ _ => 0, ⟨M, es⟩⟩, hf, done_start hp, ?_⟩
      rintro e vs bs (⟨rfl, rfl, st, hp, rfl⟩ | ⟨rfl, r, st, hp, rfl, rfl⟩)
      · exact k1 st hp
      · exact k2 st r hp
  · rintro lock tt h K ⟨M, es, hf, ⟨h1, h2, h3⟩, _⟩
    exact (hh ⟨h1, h2, h3.1, h3.2.2.1⟩).elim

theorem find_z1 (cf : Cfg l t [D0] Y) {y : Int} {S : Nat} {a : Nat → Int} {M : Mde} {es : Lst} (hy : y = (Y : Int)) (hp : PreF l t [D0] Y 0 S a es) :
    ∃ b s, PostF l t [D0] Y 0 S a M b s ∧ CallsV Try.prog 44 [.agg (I y :: I S :: nL a), .ptr (.own 4 0), .ptr (.own 9 0), .ptr (.own 1 0), .ptr (.own 11 0)] ⟨12, nsB1.zip (BP1 l t [D0] Y M es)⟩ (.ret (.bool b)) ⟨12, nsB1.zip (BP1 l t [D0] Y s.M s.es)⟩ := by
  have hall : LoopsOk Try.prog 44 [(0, lZ)] := fun x hx => by
    simp only [List.mem_singleton] at hx
    subst hx
    exact ⟨by kernel_rfl, lZ_ok⟩
  obtain ⟨r, h', ⟨rfl, hf⟩, hc⟩ := of_callN (callL_good hmix noSp hall (un := 10) 20) (f := 44) (args := [.agg (I y :: I S :: nL a), .ptr (.own 4 0), .ptr (.own 9 0), .ptr (.own 1 0), .ptr (.own 11 0)]) (h := ⟨12, nsB1.zip (BP1 l t [D0] Y M es)⟩) (K := fun r h' => r = .ret (.bool true) ∧ fitB (nsB1.zip (BP1 l t [D0] Y M es)) h') (by
    refine cast (fiz1_ev l t D0 Y M es y S a _).symm (cond_dk hy ⟨rfl, VB.fit_refl _, VB.fit_refl _, VB.fit_refl _, VB.fit_refl _, VB.fit_refl _, VB.fit_refl _, VB.fit_refl _, VB.fit_refl _, VB.fit_refl _, VB.fit_refl _, VB.fit_refl _, VB.fit_refl _, trivial⟩))
  exact ⟨true, ⟨M, es⟩, ⟨rfl, hp.2.2.2, Same.refl _ _ _ _, fun x _ i y j _ _ h1 h2 => by omega⟩, calls_weak hc (Nat.le_refl _) hf rfl rfl⟩
theorem find_s1 (hfol : SpOk Try.prog (folR1 l t [D0] Y k).1 (folR1 l t [D0] Y k).2) (cf : Cfg l t [D0] Y) {y : Int} {S : Nat} {a : Nat → Int} {M : Mde} {es : Lst} (hy : y = (Y : Int) - (k + 1 : Nat)) (hp : PreF l t [D0] Y (k + 1) S a es) :
    ∃ b s, PostF l t [D0] Y (k + 1) S a M b s ∧ CallsV Try.prog 44 [.agg (I y :: I S :: nL a), .ptr (.own 4 0), .ptr (.own 9 0), .ptr (.own 1 0), .ptr (.own 11 0)] ⟨12, nsB1.zip (BP1 l t [D0] Y M es)⟩ (.ret (.bool b)) ⟨12, nsB1.zip (BP1 l t [D0] Y s.M s.es)⟩ := by
  have hall : LoopsOk Try.prog 44 [(0, lFi1 l t [D0] Y k y S a)] := fun x hx => by
    simp only [List.mem_singleton] at hx
    subst hx
    exact ⟨by kernel_rfl, lFi1_ok hfol⟩
  obtain ⟨r, h', ⟨b, s, hw, rfl, hf⟩, hc⟩ := of_callN (callL_good hmix noSp hall (un := 10) 20) (f := 44) (args := [.agg (I y :: I S :: nL a), .ptr (.own 4 0), .ptr (.own 9 0), .ptr (.own 1 0), .ptr (.own 11 0)]) (h := ⟨12, nsB1.zip (BP1 l t [D0] Y M es)⟩) (K := fun r h' => ∃ b s, PostF l t [D0] Y (k + 1) S a M b s ∧ r = .ret (.bool b) ∧ fitB (nsB1.zip (BP1 l t [D0] Y s.M s.es)) h') (by
    refine cast (fib1_ev l t D0 Y k M es y S a _).symm ?_
    have hk := hp.1
    refine cond_d (fun h => by omega) (fun _ => ⟨key82, cond_d (fun h => ⟨false, ⟨M, es⟩, ?_, rfl, VB.fit_refl _, VB.fit_refl _, VB.fit_refl _, VB.fit_refl _, VB.fit_refl _, VB.fit_refl _, VB.fit_refl _, VB.fit_refl _, VB.fit_refl _, VB.fit_refl _, VB.fit_refl _, VB.fit_refl _, trivial⟩) (fun _ => ⟨M, es, ⟨⟨rfl, rfl, VB.fit_refl _, VB.fit_refl _, VB.fit_refl _, VB.fit_refl _, VB.fit_refl _, VB.fit_refl _, VB.fit_refl _, VB.fit_refl _, VB.fit_refl _, VB.fit_refl _, VB.fit_refl _, VB.fit_refl _, VB.fit_refl _, trivial⟩, rfl, rfl, rfl, rfl, rfl, rfl, rfl, rfl, trivial⟩, ⟨hy, cf, hp⟩, fun s hw => ⟨true, s, hw, rfl, VB.fit_refl _, VB.fit_refl _, VB.fit_refl _, VB.fit_refl _, VB.fit_refl _, VB.fit_refl _, VB.fit_refl _, VB.fit_refl _, VB.fit_refl _, VB.fit_refl _, VB.fit_refl _, VB.fit_refl _, trivial⟩, fun s r hw => ⟨false, s, hw, rfl, VB.fit_refl _, VB.fit_refl _, VB.fit_refl _, VB.fit_refl _, VB.fit_refl _, VB.fit_refl _, VB.fit_refl _, VB.fit_refl _, VB.fit_refl _, VB.fit_refl _, VB.fit_refl _, VB.fit_refl _, trivial⟩⟩)⟩)
    have h : valOf es (kyF y S a) = 1 := h
    have hn := lost_get cf.hl.1 hp.2.2.2 (S := S) (a := a) hk (by rw [← hy, h]; omega)
    exact ⟨by rw [hn]; rfl, hp.2.2.2, Same.refl _ _ _ _, fun x hx => by rw [hn] at hx; cases hx⟩)
  exact ⟨b, s, hw, calls_weak hc (Nat.le_refl _) hf rfl rfl⟩

theorem findR1_ok (cf : Cfg l t [D0] Y) : ∀ k : Nat, SpOk Try.prog (findR1 l t [D0] Y k).1 (findR1 l t [D0] Y k).2 := by
  have key : ∀ k : Nat, (∀ (y : Int) (S : Nat) (a : Nat → Int) (M : Mde) (es : Lst), y = (Y : Int) - k → PreF l t [D0] Y k S a es → ∃ b s, PostF l t [D0] Y k S a M b s ∧ CallsV Try.prog 44 [.agg (I y :: I S :: nL a), .ptr (.own 4 0), .ptr (.own 9 0), .ptr (.own 1 0), .ptr (.own 11 0)] ⟨12, nsB1.zip (BP1 l t [D0] Y M es)⟩ (.ret (.bool b)) ⟨12, nsB1.zip (BP1 l t [D0] Y s.M s.es)⟩) → SpOk Try.prog (findR1 l t [D0] Y k).1 (findR1 l t [D0] Y k).2 := by
    intro k hv lock args h K hK
    simp only [findR1] at hK
    split at hK
    · rename_i nx bs
      obtain ⟨S', a, M, es, ⟨rfl, rfl, rfl, rfl⟩, ⟨rfl, hnx⟩, hat, ⟨hy, rfl, rfl⟩, hp, hK⟩ := hK
      obtain ⟨b, s, hw, hc⟩ := hv _ S' a M es hy hp
      exact ⟨_, _, hK b s hw, lock0 _ _, liftF1 (o := 0) (d := 0) hnx hat hc⟩
    · exact hK.elim
  intro k
  induction k with
  | zero => exact key 0 (fun y S a M es hy hp => find_z1 cf (by omega) hp)
  | succ k ih => exact key (k + 1) (fun y S a M es hy hp => find_s1 (folR1_ok ih cf) cf hy hp)
end
end Go.Sx.Bln

/- blend: Plan with 1 paths of 1 years, evaluated. -/

namespace Go.Sx.Bln
open Go Go.Sx Go.Proofs
set_option maxRecDepth 1000000

theorem pl11_ev (l : List Stk) (t : Tst) (d00 : Int) (Q : VRes → VH → Prop) : callN Try.prog (tabS [asR l t, casksR l t, apR [[d00]], findR1 l t [[d00]] 1 1, listT]) noL 10 20 0 (.fn 17) [stD l, .agg (tsL t), pthD [[d00]]] ⟨0, []⟩ (fun r h => Q r h) =
  (isD (VH.mk (2) [(1, VB.cells [VV.tl [[d00]].length 1 (pthG [[d00]])] 26), (0, VB.cells [VV.tl t.T.length 1 (dG t.T), I t.far, I t.least] 25)]) 2 (VV.tl l.length 5 (stG l)) (stD l) ∧ isD (VH.mk (2) [(1, VB.cells [VV.tl [[d00]].length 1 (pthG [[d00]])] 26), (0, VB.cells [VV.tl t.T.length 1 (dG t.T), I t.far, I t.least] 25)]) 2 (VV.agg [VV.tl t.T.length 1 (dG t.T), I t.far, I t.least]) (VV.agg (tsL t)) ∧ bif !okAll l t then
 Q (VRes.ret (VV.tup [VV.nils, I 1])) (VH.mk (2) [(1, VB.cells [VV.tl [[d00]].length 1 (pthG [[d00]])] 26), (0, VB.cells [VV.tl t.T.length 1 (dG t.T), I t.far, I t.least] 25)])
 else isD (VH.mk (2) [(1, VB.cells [VV.tl [[d00]].length 1 (pthG [[d00]])] 26), (0, VB.cells [VV.tl t.T.length 1 (dG t.T), I t.far, I t.least] 25)]) 4 (VV.tl [[d00]].length 1 (pthG [[d00]])) (pthD [[d00]]) ∧ pthB [[d00]] ∧ bif !okPaths [[d00]] then
 Q (VRes.ret (VV.tup [VV.nils, I 2])) (VH.mk (2) [(1, VB.cells [VV.tl [[d00]].length 1 (pthG [[d00]])] 26), (0, VB.cells [VV.tl t.T.length 1 (dG t.T), I t.far, I t.least] 25)])
 else isD (maskH [0, 1, 2, 3, 4, 5, 6, 7, 8, 9, 10, 11] (VH.mk (12) ((10, VB.cells [VV.func 44 [] [VV.ptr (VA.own (4) 0), VV.ptr (VA.own (9) 0), VV.ptr (VA.own (1) 0), VV.ptr (VA.own (11) 0)]] 78) :: (11, VB.cells [VV.func 40 [] [VV.ptr (VA.own (3) 0), VV.ptr (VA.own (10) 0), VV.ptr (VA.own (1) 0), VV.ptr (VA.own (6) 0)]] 88) :: (11, VB.cells [VV.nilf] 88) :: (10, VB.cells [VV.nilf] 78) :: (9, VB.cells [VV.mp (8)] 77) :: (9, VB.cells [VV.opq (Value.map none)] 77) :: (8, VB.map ([PK.int IntKind.i64] ++ ([PK.int IntKind.i64] ++ ((List.replicate 6 [PK.int IntKind.i64]).flatten ++ []))) PK.bool []) :: (5, VB.cells [VV.slice (VA.fa (7) 0 0) (↑([[d00]].getD (Int.toNat (0 : Int)) []).length : Int).toNat (↑([[d00]].getD (Int.toNat (0 : Int)) []).length : Int).toNat] 76) :: ([(7, VB.fam [] ((↑([[d00]].getD (Int.toNat (0 : Int)) []).length : Int).toNat * (6)) (fun (_ : Nat) => (0 : Int)) 80)] ++ [(6, VB.cells [VV.slice (VA.own (5) 0) (1) (1)] 75), (6, VB.cells [VV.nils] 75), (5, VB.cells [VV.nils] 76), (4, VB.cells [I (↑([[d00]].getD (Int.toNat (0 : Int)) []).length : Int)] 3), (4, VB.cells [I 0] 3), (3, VB.cells [VV.ptr (VA.own (2) 0)] 72), (3, VB.cells [VV.nilp] 72), (2, VB.cells [VV.tl l.length 5 (stG l), VV.tl t.T.length 1 (dG t.T), I t.far, I t.least] 74), (1, VB.cells [VV.tl [[d00]].length 1 (pthG [[d00]])] 26), (0, VB.cells [VV.tl t.T.length 1 (dG t.T), I t.far, I t.least] 25)])))) 4 (VV.ptr (VA.own (2) 0)) (VV.tp (stD l :: tsL t)) ∧ l.length ≤ 6 ∧ ∃ (S' : Nat), ∃ (a : Nat → Int), ∃ (M : Mde), ∃ (es : Lst), (VV.ptr (VA.own 4 0) = VV.ptr (VA.own 4 0) ∧ VV.ptr (VA.own 9 0) = VV.ptr (VA.own 9 0) ∧ VV.ptr (VA.own 1 0) = VV.ptr (VA.own 1 0) ∧ VV.ptr (VA.own 11 0) = VV.ptr (VA.own 11 0)) ∧ (0 = 0 ∧ 12 ≤ 12) ∧ atL nsB1 (BP1 l t [[d00]] 1 M es) (VH.mk (12) ((10, VB.cells [VV.func 44 [] [VV.ptr (VA.own (4) 0), VV.ptr (VA.own (9) 0), VV.ptr (VA.own (1) 0), VV.ptr (VA.own (11) 0)]] 78) :: (11, VB.cells [VV.func 40 [] [VV.ptr (VA.own (3) 0), VV.ptr (VA.own (10) 0), VV.ptr (VA.own (1) 0), VV.ptr (VA.own (6) 0)]] 88) :: (11, VB.cells [VV.nilf] 88) :: (10, VB.cells [VV.nilf] 78) :: (9, VB.cells [VV.mp (8)] 77) :: (9, VB.cells [VV.opq (Value.map none)] 77) :: (8, VB.map ([PK.int IntKind.i64] ++ ([PK.int IntKind.i64] ++ ((List.replicate 6 [PK.int IntKind.i64]).flatten ++ []))) PK.bool []) :: (5, VB.cells [VV.slice (VA.fa (7) 0 0) (↑([[d00]].getD (Int.toNat (0 : Int)) []).length : Int).toNat (↑([[d00]].getD (Int.toNat (0 : Int)) []).length : Int).toNat] 76) :: ([(7, VB.fam [] ((↑([[d00]].getD (Int.toNat (0 : Int)) []).length : Int).toNat * (6)) (fun (_ : Nat) => (0 : Int)) 80)] ++ [(6, VB.cells [VV.slice (VA.own (5) 0) (1) (1)] 75), (6, VB.cells [VV.nils] 75), (5, VB.cells [VV.nils] 76), (4, VB.cells [I (↑([[d00]].getD (Int.toNat (0 : Int)) []).length : Int)] 3), (4, VB.cells [I 0] 3), (3, VB.cells [VV.ptr (VA.own (2) 0)] 72), (3, VB.cells [VV.nilp] 72), (2, VB.cells [VV.tl l.length 5 (stG l), VV.tl t.T.length 1 (dG t.T), I t.far, I t.least] 74), (1, VB.cells [VV.tl [[d00]].length 1 (pthG [[d00]])] 26), (0, VB.cells [VV.tl t.T.length 1 (dG t.T), I t.far, I t.least] 25)]))) ∧ ((↑1 : Int) - (↑1 : Int) = (↑1 : Int) - (↑1 : Int) ∧ (1 : Int) * (2 : Int) ^ min (↑[[d00]].length : Int).toNat IntKind.i64.bits - (1 : Int) = (↑S' : Int) ∧ [I (mostF l 0), I (mostF l 1), I (mostF l 2), I (mostF l 3), I (mostF l 4), I (mostF l 5)] = nL a) ∧ PreF l t [[d00]] 1 1 S' a es ∧ ∀ (b : Bool) (s : St), PostF l t [[d00]] 1 1 S' a M b s → bif !b then
 Q (VRes.ret (VV.tup [VV.nils, I 4])) (VH.mk (12) [(7, VB.fam [] (1 * 6) (s.M 0) (80 : TypeId)), (8, VB.map [PK.int IntKind.i64, PK.int IntKind.i64, PK.int IntKind.i64, PK.int IntKind.i64, PK.int IntKind.i64, PK.int IntKind.i64, PK.int IntKind.i64, PK.int IntKind.i64] PK.bool s.es), (10, VB.cells [VV.func 44 [] [VV.ptr (VA.own (4) 0), VV.ptr (VA.own (9) 0), VV.ptr (VA.own (1) 0), VV.ptr (VA.own (11) 0)]] 78), (11, VB.cells [VV.func 40 [] [VV.ptr (VA.own (3) 0), VV.ptr (VA.own (10) 0), VV.ptr (VA.own (1) 0), VV.ptr (VA.own (6) 0)]] 88), (11, VB.cells [VV.nilf] 88), (10, VB.cells [VV.nilf] 78), (9, VB.cells [VV.mp (8)] 77), (9, VB.cells [VV.opq (Value.map none)] 77), (8, VB.map [PK.int IntKind.i64, PK.int IntKind.i64, PK.int IntKind.i64, PK.int IntKind.i64, PK.int IntKind.i64, PK.int IntKind.i64, PK.int IntKind.i64, PK.int IntKind.i64] PK.bool []), (5, VB.cells [VV.slice (VA.fa (7) 0 0) (↑([[d00]].getD (Int.toNat (0 : Int)) []).length : Int).toNat (↑([[d00]].getD (Int.toNat (0 : Int)) []).length : Int).toNat] 76), (7, VB.fam [] ((↑([[d00]].getD (Int.toNat (0 : Int)) []).length : Int).toNat * (6)) (fun (_ : Nat) => (0 : Int)) 80), (6, VB.cells [VV.slice (VA.own (5) 0) (1) (1)] 75), (6, VB.cells [VV.nils] 75), (5, VB.cells [VV.nils] 76), (4, VB.cells [I (↑([[d00]].getD (Int.toNat (0 : Int)) []).length : Int)] 3), (4, VB.cells [I 0] 3), (3, VB.cells [VV.ptr (VA.own (2) 0)] 72), (3, VB.cells [VV.nilp] 72), (2, VB.cells [VV.tl l.length 5 (stG l), VV.tl t.T.length 1 (dG t.T), I t.far, I t.least] 74), (1, VB.cells [VV.tl [[d00]].length 1 (pthG [[d00]])] 26), (0, VB.cells [VV.tl t.T.length 1 (dG t.T), I t.far, I t.least] 25)])
 else ∃ (n : Nat → Int), ∃ (m : Nat), [I (setF (fun (_ : Nat) => (0 : Int)) 0 [s.M 0 (0 + Int.toNat (0 : Int) * (6) + 0), s.M 0 (0 + Int.toNat (0 : Int) * (6) + 1), s.M 0 (0 + Int.toNat (0 : Int) * (6) + 2), s.M 0 (0 + Int.toNat (0 : Int) * (6) + 3), s.M 0 (0 + Int.toNat (0 : Int) * (6) + 4), s.M 0 (0 + Int.toNat (0 : Int) * (6) + 5)] (0 + 0)), I (setF (fun (_ : Nat) => (0 : Int)) 0 [s.M 0 (0 + Int.toNat (0 : Int) * (6) + 0), s.M 0 (0 + Int.toNat (0 : Int) * (6) + 1), s.M 0 (0 + Int.toNat (0 : Int) * (6) + 2), s.M 0 (0 + Int.toNat (0 : Int) * (6) + 3), s.M 0 (0 + Int.toNat (0 : Int) * (6) + 4), s.M 0 (0 + Int.toNat (0 : Int) * (6) + 5)] (0 + 1)), I (setF (fun (_ : Nat) => (0 : Int)) 0 [s.M 0 (0 + Int.toNat (0 : Int) * (6) + 0), s.M 0 (0 + Int.toNat (0 : Int) * (6) + 1), s.M 0 (0 + Int.toNat (0 : Int) * (6) + 2), s.M 0 (0 + Int.toNat (0 : Int) * (6) + 3), s.M 0 (0 + Int.toNat (0 : Int) * (6) + 4), s.M 0 (0 + Int.toNat (0 : Int) * (6) + 5)] (0 + 2)), I (setF (fun (_ : Nat) => (0 : Int)) 0 [s.M 0 (0 + Int.toNat (0 : Int) * (6) + 0), s.M 0 (0 + Int.toNat (0 : Int) * (6) + 1), s.M 0 (0 + Int.toNat (0 : Int) * (6) + 2), s.M 0 (0 + Int.toNat (0 : Int) * (6) + 3), s.M 0 (0 + Int.toNat (0 : Int) * (6) + 4), s.M 0 (0 + Int.toNat (0 : Int) * (6) + 5)] (0 + 3)), I (setF (fun (_ : Nat) => (0 : Int)) 0 [s.M 0 (0 + Int.toNat (0 : Int) * (6) + 0), s.M 0 (0 + Int.toNat (0 : Int) * (6) + 1), s.M 0 (0 + Int.toNat (0 : Int) * (6) + 2), s.M 0 (0 + Int.toNat (0 : Int) * (6) + 3), s.M 0 (0 + Int.toNat (0 : Int) * (6) + 4), s.M 0 (0 + Int.toNat (0 : Int) * (6) + 5)] (0 + 4)), I (setF (fun (_ : Nat) => (0 : Int)) 0 [s.M 0 (0 + Int.toNat (0 : Int) * (6) + 0), s.M 0 (0 + Int.toNat (0 : Int) * (6) + 1), s.M 0 (0 + Int.toNat (0 : Int) * (6) + 2), s.M 0 (0 + Int.toNat (0 : Int) * (6) + 3), s.M 0 (0 + Int.toNat (0 : Int) * (6) + 4), s.M 0 (0 + Int.toNat (0 : Int) * (6) + 5)] (0 + 5))] = nL n ∧ (↑l.length : Int) = (↑m : Int) ∧ m ≤ 6 ∧ Q (VRes.ret (VV.tup [VV.sl (16) 1, I 0])) (VH.mk (17) [(16, VB.vec 1 (fun (j : Nat) => List.take (1) (List.drop (j * (1)) (List.take (1 * (1)) (List.drop 0 [VV.tl 1 (1) fun (j : Nat) => List.take (1) (List.drop (j * (1)) [VV.tl m 1 (chG n)])])))) (1) 26), (15, VB.cells [VV.tl 1 (1) fun (j : Nat) => List.take (1) (List.drop (j * (1)) [VV.tl m 1 (chG n)])] 26), (14, VB.gone), (15, VB.cells [VV.sl (14) 1] 26), (14, VB.vec 1 (fun (j : Nat) => List.take (1) (List.drop (j * (1)) [VV.tl m 1 (chG n)])) (1) 23), (13, VB.vec 1 (fun (j : Nat) => List.take (1) (List.drop (j * (1)) [VV.tl m 1 (chG n)])) (1) 23), (12, VB.fam [] (6) (setF (fun (_ : Nat) => (0 : Int)) 0 [s.M 0 (0 + Int.toNat (0 : Int) * (6) + 0), s.M 0 (0 + Int.toNat (0 : Int) * (6) + 1), s.M 0 (0 + Int.toNat (0 : Int) * (6) + 2), s.M 0 (0 + Int.toNat (0 : Int) * (6) + 3), s.M 0 (0 + Int.toNat (0 : Int) * (6) + 4), s.M 0 (0 + Int.toNat (0 : Int) * (6) + 5)]) 80), (12, VB.fam [] (6) (fun (_ : Nat) => (0 : Int)) 80), (7, VB.fam [] (1 * 6) (s.M 0) (80 : TypeId)), (8, VB.map [PK.int IntKind.i64, PK.int IntKind.i64, PK.int IntKind.i64, PK.int IntKind.i64, PK.int IntKind.i64, PK.int IntKind.i64, PK.int IntKind.i64, PK.int IntKind.i64] PK.bool s.es), (10, VB.cells [VV.func 44 [] [VV.ptr (VA.own (4) 0), VV.ptr (VA.own (9) 0), VV.ptr (VA.own (1) 0), VV.ptr (VA.own (11) 0)]] 78), (11, VB.cells [VV.func 40 [] [VV.ptr (VA.own (3) 0), VV.ptr (VA.own (10) 0), VV.ptr (VA.own (1) 0), VV.ptr (VA.own (6) 0)]] 88), (11, VB.cells [VV.nilf] 88), (10, VB.cells [VV.nilf] 78), (9, VB.cells [VV.mp (8)] 77), (9, VB.cells [VV.opq (Value.map none)] 77), (8, VB.map [PK.int IntKind.i64, PK.int IntKind.i64, PK.int IntKind.i64, PK.int IntKind.i64, PK.int IntKind.i64, PK.int IntKind.i64, PK.int IntKind.i64, PK.int IntKind.i64] PK.bool []), (5, VB.cells [VV.slice (VA.fa (7) 0 0) (↑([[d00]].getD (Int.toNat (0 : Int)) []).length : Int).toNat (↑([[d00]].getD (Int.toNat (0 : Int)) []).length : Int).toNat] 76), (7, VB.fam [] ((↑([[d00]].getD (Int.toNat (0 : Int)) []).length : Int).toNat * (6)) (fun (_ : Nat) => (0 : Int)) 80), (6, VB.cells [VV.slice (VA.own (5) 0) (1) (1)] 75), (6, VB.cells [VV.nils] 75), (5, VB.cells [VV.nils] 76), (4, VB.cells [I (↑([[d00]].getD (Int.toNat (0 : Int)) []).length : Int)] 3), (4, VB.cells [I 0] 3), (3, VB.cells [VV.ptr (VA.own (2) 0)] 72), (3, VB.cells [VV.nilp] 72), (2, VB.cells [VV.tl l.length 5 (stG l), VV.tl t.T.length 1 (dG t.T), I t.far, I t.least] 74), (1, VB.cells [VV.tl [[d00]].length 1 (pthG [[d00]])] 26), (0, VB.cells [VV.tl t.T.length 1 (dG t.T), I t.far, I t.least] 25)])) := by kernel_rfl

end Go.Sx.Bln

/- blend: Plan with 1 paths of 1 years. -/

namespace Go.Sx.Bln
open Go Go.Sx Go.Proofs
set_option maxRecDepth 1000000

theorem pln11_v {l : List Stk} {t : Tst} {d00 : Int} (h1 : okAll l t = true) (h2 : okPaths [[d00]] = true) (cf : Cfg l t [[d00]] 1) (hpb : pthB [[d00]]) : ∃ r h', CallsV Try.prog 17 [stD l, .agg (tsL t), pthD [[d00]]] ⟨0, []⟩ r h' ∧ PlnK l t [[d00]] 1 r h' := by
  have hl6 := cf.hl.1
  have htab : ∀ f T, tabS [asR l t, casksR l t, apR [[d00]], findR1 l t [[d00]] 1 1, listT] f = some T → SpOk Try.prog f T := tab_ok _ (fun x hx => by
    simp only [List.mem_cons, List.not_mem_nil, or_false] at hx
    rcases hx with rfl | rfl | rfl | rfl | rfl
    · exact asR_ok l t
    · exact casksR_ok l t
    · exact apR_ok _
    · exact findR1_ok cf 1
    · exact listT_ok)
  obtain ⟨r, h', hk, hc⟩ := of_callN (noL_good htab) (f := 17) (args := [stD l, .agg (tsL t), pthD [[d00]]]) (h := ⟨0, []⟩) (K := PlnK l t [[d00]] 1) (by
    refine cast (pl11_ev l t d00 _).symm ⟨isD_l, ⟨⟨rfl, rfl, fun _ _ => rfl⟩, ⟨rfl, rfl⟩, ⟨rfl, rfl⟩, trivial⟩, cond_i (fun h => by rw [h1] at h; cases h) (fun _ => ⟨⟨rfl, rfl, fun _ _ => rfl⟩, hpb, cond_i (fun h => by rw [h2] at h; cases h) (fun _ => ?_)⟩)⟩
    refine ⟨hc61 rfl, hl6, 1, mostF l, fun _ _ => 0, [], ⟨rfl, rfl, rfl, rfl⟩, ⟨rfl, Nat.le_refl _⟩, ⟨rfl, rfl, rfl, rfl, rfl, rfl, rfl, rfl, rfl, rfl, rfl, rfl, trivial⟩, ⟨rfl, rfl, rfl⟩, ⟨Nat.le_refl _, (by show 1 < 2 ^ 1; decide), most_left cf.hl, lost_nil⟩, ?_⟩
    rintro b s ⟨p1, p2, p3, p4⟩
    refine cond_i (fun g => ?_) (fun g => ?_)
    · have g : b = false := by simpa using g
      subst g
      refine .inl ⟨?_, rfl⟩
      cases hx : planF l t [[d00]] 1 1 1 (mostF l) with
      | none => exact hx
      | some x => rw [hx] at p1; cases p1
    · have g : b = true := by simpa using g
      subst g
      obtain ⟨x, hx⟩ : ∃ x, planF l t [[d00]] 1 1 1 (mostF l) = some x := by
        cases hx : planF l t [[d00]] 1 1 1 (mostF l) with
        | none => rw [hx] at p1; cases p1
        | some x => exact ⟨x, rfl⟩
      refine ⟨fun j => s.M 0 (0 * 6 + j), l.length, rfl, rfl, hl6, .inr ⟨x, _, _, _, hx, rfl, rfl, fun i hi => ?_⟩⟩
      have hi : i < 1 := hi
      match i, hi with
      | 0, _ =>
            refine tl_weak rfl (fun y hy => ?_)
            match y, hy with
            | 0, _ => exact wk_ch (fun j hj => p4 x hx 0 0 j (by omega) rfl (by omega) (by omega))
            | _ + 1, hy => exact absurd hy (by omega)
      | _ + 1, hi => exact absurd hi (by omega))
  exact ⟨r, h', hc, hk⟩
end Go.Sx.Bln

/- blend: Plan with 1 paths of 2 years, evaluated. -/

namespace Go.Sx.Bln
open Go Go.Sx Go.Proofs
set_option maxRecDepth 1000000

theorem pl12_ev (l : List Stk) (t : Tst) (d00 d01 : Int) (Q : VRes → VH → Prop) : callN Try.prog (tabS [asR l t, casksR l t, apR [[d00, d01]], findR1 l t [[d00, d01]] 2 2, listT]) noL 10 20 0 (.fn 17) [stD l, .agg (tsL t), pthD [[d00, d01]]] ⟨0, []⟩ (fun r h => Q r h) =
  (isD (VH.mk (2) [(1, VB.cells [VV.tl [[d00, d01]].length 1 (pthG [[d00, d01]])] 26), (0, VB.cells [VV.tl t.T.length 1 (dG t.T), I t.far, I t.least] 25)]) 2 (VV.tl l.length 5 (stG l)) (stD l) ∧ isD (VH.mk (2) [(1, VB.cells [VV.tl [[d00, d01]].length 1 (pthG [[d00, d01]])] 26), (0, VB.cells [VV.tl t.T.length 1 (dG t.T), I t.far, I t.least] 25)]) 2 (VV.agg [VV.tl t.T.length 1 (dG t.T), I t.far, I t.least]) (VV.agg (tsL t)) ∧ bif !okAll l t then
 Q (VRes.ret (VV.tup [VV.nils, I 1])) (VH.mk (2) [(1, VB.cells [VV.tl [[d00, d01]].length 1 (pthG [[d00, d01]])] 26), (0, VB.cells [VV.tl t.T.length 1 (dG t.T), I t.far, I t.least] 25)])
 else isD (VH.mk (2) [(1, VB.cells [VV.tl [[d00, d01]].length 1 (pthG [[d00, d01]])] 26), (0, VB.cells [VV.tl t.T.length 1 (dG t.T), I t.far, I t.least] 25)]) 4 (VV.tl [[d00, d01]].length 1 (pthG [[d00, d01]])) (pthD [[d00, d01]]) ∧ pthB [[d00, d01]] ∧ bif !okPaths [[d00, d01]] then
 Q (VRes.ret (VV.tup [VV.nils, I 2])) (VH.mk (2) [(1, VB.cells [VV.tl [[d00, d01]].length 1 (pthG [[d00, d01]])] 26), (0, VB.cells [VV.tl t.T.length 1 (dG t.T), I t.far, I t.least] 25)])
 else isD (maskH [0, 1, 2, 3, 4, 5, 6, 7, 8, 9, 10, 11] (VH.mk (12) ((10, VB.cells [VV.func 44 [] [VV.ptr (VA.own (4) 0), VV.ptr (VA.own (9) 0), VV.ptr (VA.own (1) 0), VV.ptr (VA.own (11) 0)]] 78) :: (11, VB.cells [VV.func 40 [] [VV.ptr (VA.own (3) 0), VV.ptr (VA.own (10) 0), VV.ptr (VA.own (1) 0), VV.ptr (VA.own (6) 0)]] 88) :: (11, VB.cells [VV.nilf] 88) :: (10, VB.cells [VV.nilf] 78) :: (9, VB.cells [VV.mp (8)] 77) :: (9, VB.cells [VV.opq (Value.map none)] 77) :: (8, VB.map ([PK.int IntKind.i64] ++ ([PK.int IntKind.i64] ++ ((List.replicate 6 [PK.int IntKind.i64]).flatten ++ []))) PK.bool []) :: (5, VB.cells [VV.slice (VA.fa (7) 0 0) (↑([[d00, d01]].getD (Int.toNat (0 : Int)) []).length : Int).toNat (↑([[d00, d01]].getD (Int.toNat (0 : Int)) []).length : Int).toNat] 76) :: ([(7, VB.fam [] ((↑([[d00, d01]].getD (Int.toNat (0 : Int)) []).length : Int).toNat * (6)) (fun (_ : Nat) => (0 : Int)) 80)] ++ [(6, VB.cells [VV.slice (VA.own (5) 0) (1) (1)] 75), (6, VB.cells [VV.nils] 75), (5, VB.cells [VV.nils] 76), (4, VB.cells [I (↑([[d00, d01]].getD (Int.toNat (0 : Int)) []).length : Int)] 3), (4, VB.cells [I 0] 3), (3, VB.cells [VV.ptr (VA.own (2) 0)] 72), (3, VB.cells [VV.nilp] 72), (2, VB.cells [VV.tl l.length 5 (stG l), VV.tl t.T.length 1 (dG t.T), I t.far, I t.least] 74), (1, VB.cells [VV.tl [[d00, d01]].length 1 (pthG [[d00, d01]])] 26), (0, VB.cells [VV.tl t.T.length 1 (dG t.T), I t.far, I t.least] 25)])))) 4 (VV.ptr (VA.own (2) 0)) (VV.tp (stD l :: tsL t)) ∧ l.length ≤ 6 ∧ ∃ (S' : Nat), ∃ (a : Nat → Int), ∃ (M : Mde), ∃ (es : Lst), (VV.ptr (VA.own 4 0) = VV.ptr (VA.own 4 0) ∧ VV.ptr (VA.own 9 0) = VV.ptr (VA.own 9 0) ∧ VV.ptr (VA.own 1 0) = VV.ptr (VA.own 1 0) ∧ VV.ptr (VA.own 11 0) = VV.ptr (VA.own 11 0)) ∧ (0 = 0 ∧ 12 ≤ 12) ∧ atL nsB1 (BP1 l t [[d00, d01]] 2 M es) (VH.mk (12) ((10, VB.cells [VV.func 44 [] [VV.ptr (VA.own (4) 0), VV.ptr (VA.own (9) 0), VV.ptr (VA.own (1) 0), VV.ptr (VA.own (11) 0)]] 78) :: (11, VB.cells [VV.func 40 [] [VV.ptr (VA.own (3) 0), VV.ptr (VA.own (10) 0), VV.ptr (VA.own (1) 0), VV.ptr (VA.own (6) 0)]] 88) :: (11, VB.cells [VV.nilf] 88) :: (10, VB.cells [VV.nilf] 78) :: (9, VB.cells [VV.mp (8)] 77) :: (9, VB.cells [VV.opq (Value.map none)] 77) :: (8, VB.map ([PK.int IntKind.i64] ++ ([PK.int IntKind.i64] ++ ((List.replicate 6 [PK.int IntKind.i64]).flatten ++ []))) PK.bool []) :: (5, VB.cells [VV.slice (VA.fa (7) 0 0) (↑([[d00, d01]].getD (Int.toNat (0 : Int)) []).length : Int).toNat (↑([[d00, d01]].getD (Int.toNat (0 : Int)) []).length : Int).toNat] 76) :: ([(7, VB.fam [] ((↑([[d00, d01]].getD (Int.toNat (0 : Int)) []).length : Int).toNat * (6)) (fun (_ : Nat) => (0 : Int)) 80)] ++ [(6, VB.cells [VV.slice (VA.own (5) 0) (1) (1)] 75), (6, VB.cells [VV.nils] 75), (5, VB.cells [VV.nils] 76), (4, VB.cells [I (↑([[d00, d01]].getD (Int.toNat (0 : Int)) []).length : Int)] 3), (4, VB.cells [I 0] 3), (3, VB.cells [VV.ptr (VA.own (2) 0)] 72), (3, VB.cells [VV.nilp] 72), (2, VB.cells [VV.tl l.length 5 (stG l), VV.tl t.T.length 1 (dG t.T), I t.far, I t.least] 74), (1, VB.cells [VV.tl [[d00, d01]].length 1 (pthG [[d00, d01]])] 26), (0, VB.cells [VV.tl t.T.length 1 (dG t.T), I t.far, I t.least] 25)]))) ∧ ((↑2 : Int) - (↑2 : Int) = (↑2 : Int) - (↑2 : Int) ∧ (1 : Int) * (2 : Int) ^ min (↑[[d00, d01]].length : Int).toNat IntKind.i64.bits - (1 : Int) = (↑S' : Int) ∧ [I (mostF l 0), I (mostF l 1), I (mostF l 2), I (mostF l 3), I (mostF l 4), I (mostF l 5)] = nL a) ∧ PreF l t [[d00, d01]] 2 2 S' a es ∧ ∀ (b : Bool) (s : St), PostF l t [[d00, d01]] 2 2 S' a M b s → bif !b then
 Q (VRes.ret (VV.tup [VV.nils, I 4])) (VH.mk (12) [(7, VB.fam [] (2 * 6) (s.M 0) (80 : TypeId)), (8, VB.map [PK.int IntKind.i64, PK.int IntKind.i64, PK.int IntKind.i64, PK.int IntKind.i64, PK.int IntKind.i64, PK.int IntKind.i64, PK.int IntKind.i64, PK.int IntKind.i64] PK.bool s.es), (10, VB.cells [VV.func 44 [] [VV.ptr (VA.own (4) 0), VV.ptr (VA.own (9) 0), VV.ptr (VA.own (1) 0), VV.ptr (VA.own (11) 0)]] 78), (11, VB.cells [VV.func 40 [] [VV.ptr (VA.own (3) 0), VV.ptr (VA.own (10) 0), VV.ptr (VA.own (1) 0), VV.ptr (VA.own (6) 0)]] 88), (11, VB.cells [VV.nilf] 88), (10, VB.cells [VV.nilf] 78), (9, VB.cells [VV.mp (8)] 77), (9, VB.cells [VV.opq (Value.map none)] 77), (8, VB.map [PK.int IntKind.i64, PK.int IntKind.i64, PK.int IntKind.i64, PK.int IntKind.i64, PK.int IntKind.i64, PK.int IntKind.i64, PK.int IntKind.i64, PK.int IntKind.i64] PK.bool []), (5, VB.cells [VV.slice (VA.fa (7) 0 0) (↑([[d00, d01]].getD (Int.toNat (0 : Int)) []).length : Int).toNat (↑([[d00, d01]].getD (Int.toNat (0 : Int)) []).length : Int).toNat] 76), (7, VB.fam [] ((↑([[d00, d01]].getD (Int.toNat (0 : Int)) []).length : Int).toNat * (6)) (fun (_ : Nat) => (0 : Int)) 80), (6, VB.cells [VV.slice (VA.own (5) 0) (1) (1)] 75), (6, VB.cells [VV.nils] 75), (5, VB.cells [VV.nils] 76), (4, VB.cells [I (↑([[d00, d01]].getD (Int.toNat (0 : Int)) []).length : Int)] 3), (4, VB.cells [I 0] 3), (3, VB.cells [VV.ptr (VA.own (2) 0)] 72), (3, VB.cells [VV.nilp] 72), (2, VB.cells [VV.tl l.length 5 (stG l), VV.tl t.T.length 1 (dG t.T), I t.far, I t.least] 74), (1, VB.cells [VV.tl [[d00, d01]].length 1 (pthG [[d00, d01]])] 26), (0, VB.cells [VV.tl t.T.length 1 (dG t.T), I t.far, I t.least] 25)])
 else ∃ (n : Nat → Int), ∃ (m : Nat), [I (setF (fun (_ : Nat) => (0 : Int)) 0 [s.M 0 (0 + Int.toNat (0 : Int) * (6) + 0), s.M 0 (0 + Int.toNat (0 : Int) * (6) + 1), s.M 0 (0 + Int.toNat (0 : Int) * (6) + 2), s.M 0 (0 + Int.toNat (0 : Int) * (6) + 3), s.M 0 (0 + Int.toNat (0 : Int) * (6) + 4), s.M 0 (0 + Int.toNat (0 : Int) * (6) + 5)] (0 + 0)), I (setF (fun (_ : Nat) => (0 : Int)) 0 [s.M 0 (0 + Int.toNat (0 : Int) * (6) + 0), s.M 0 (0 + Int.toNat (0 : Int) * (6) + 1), s.M 0 (0 + Int.toNat (0 : Int) * (6) + 2), s.M 0 (0 + Int.toNat (0 : Int) * (6) + 3), s.M 0 (0 + Int.toNat (0 : Int) * (6) + 4), s.M 0 (0 + Int.toNat (0 : Int) * (6) + 5)] (0 + 1)), I (setF (fun (_ : Nat) => (0 : Int)) 0 [s.M 0 (0 + Int.toNat (0 : Int) * (6) + 0), s.M 0 (0 + Int.toNat (0 : Int) * (6) + 1), s.M 0 (0 + Int.toNat (0 : Int) * (6) + 2), s.M 0 (0 + Int.toNat (0 : Int) * (6) + 3), s.M 0 (0 + Int.toNat (0 : Int) * (6) + 4), s.M 0 (0 + Int.toNat (0 : Int) * (6) + 5)] (0 + 2)), I (setF (fun (_ : Nat) => (0 : Int)) 0 [s.M 0 (0 + Int.toNat (0 : Int) * (6) + 0), s.M 0 (0 + Int.toNat (0 : Int) * (6) + 1), s.M 0 (0 + Int.toNat (0 : Int) * (6) + 2), s.M 0 (0 + Int.toNat (0 : Int) * (6) + 3), s.M 0 (0 + Int.toNat (0 : Int) * (6) + 4), s.M 0 (0 + Int.toNat (0 : Int) * (6) + 5)] (0 + 3)), I (setF (fun (_ : Nat) => (0 : Int)) 0 [s.M 0 (0 + Int.toNat (0 : Int) * (6) + 0), s.M 0 (0 + Int.toNat (0 : Int) * (6) + 1), s.M 0 (0 + Int.toNat (0 : Int) * (6) + 2), s.M 0 (0 + Int.toNat (0 : Int) * (6) + 3), s.M 0 (0 + Int.toNat (0 : Int) * (6) + 4), s.M 0 (0 + Int.toNat (0 : Int) * (6) + 5)] (0 + 4)), I (setF (fun (_ : Nat) => (0 : Int)) 0 [s.M 0 (0 + Int.toNat (0 : Int) * (6) + 0), s.M 0 (0 + Int.toNat (0 : Int) * (6) + 1), s.M 0 (0 + Int.toNat (0 : Int) * (6) + 2), s.M 0 (0 + Int.toNat (0 : Int) * (6) + 3), s.M 0 (0 + Int.toNat (0 : Int) * (6) + 4), s.M 0 (0 + Int.toNat (0 : Int) * (6) + 5)] (0 + 5))] = nL n ∧ (↑l.length : Int) = (↑m : Int) ∧ m ≤ 6 ∧ ∃ (n_1 : Nat → Int), ∃ (m_1 : Nat), [I (setF (fun (_ : Nat) => (0 : Int)) 0 [s.M 0 (0 + ((0 : Int) + (1 : Int)).toNat * (6) + 0), s.M 0 (0 + ((0 : Int) + (1 : Int)).toNat * (6) + 1), s.M 0 (0 + ((0 : Int) + (1 : Int)).toNat * (6) + 2), s.M 0 (0 + ((0 : Int) + (1 : Int)).toNat * (6) + 3), s.M 0 (0 + ((0 : Int) + (1 : Int)).toNat * (6) + 4), s.M 0 (0 + ((0 : Int) + (1 : Int)).toNat * (6) + 5)] (0 + 0)), I (setF (fun (_ : Nat) => (0 : Int)) 0 [s.M 0 (0 + ((0 : Int) + (1 : Int)).toNat * (6) + 0), s.M 0 (0 + ((0 : Int) + (1 : Int)).toNat * (6) + 1), s.M 0 (0 + ((0 : Int) + (1 : Int)).toNat * (6) + 2), s.M 0 (0 + ((0 : Int) + (1 : Int)).toNat * (6) + 3), s.M 0 (0 + ((0 : Int) + (1 : Int)).toNat * (6) + 4), s.M 0 (0 + ((0 : Int) + (1 : Int)).toNat * (6) + 5)] (0 + 1)), I (setF (fun (_ : Nat) => (0 : Int)) 0 [s.M 0 (0 + ((0 : Int) + (1 : Int)).toNat * (6) + 0), s.M 0 (0 + ((0 : Int) + (1 : Int)).toNat * (6) + 1), s.M 0 (0 + ((0 : Int) + (1 : Int)).toNat * (6) + 2), s.M 0 (0 + ((0 : Int) + (1 : Int)).toNat * (6) + 3), s.M 0 (0 + ((0 : Int) + (1 : Int)).toNat * (6) + 4), s.M 0 (0 + ((0 : Int) + (1 : Int)).toNat * (6) + 5)] (0 + 2)), I (setF (fun (_ : Nat) => (0 : Int)) 0 [s.M 0 (0 + ((0 : Int) + (1 : Int)).toNat * (6) + 0), s.M 0 (0 + ((0 : Int) + (1 : Int)).toNat * (6) + 1), s.M 0 (0 + ((0 : Int) + (1 : Int)).toNat * (6) + 2), s.M 0 (0 + ((0 : Int) + (1 : Int)).toNat * (6) + 3), s.M 0 (0 + ((0 : Int) + (1 : Int)).toNat * (6) + 4), s.M 0 (0 + ((0 : Int) + (1 : Int)).toNat * (6) + 5)] (0 + 3)), I (setF (fun (_ : Nat) => (0 : Int)) 0 [s.M 0 (0 + ((0 : Int) + (1 : Int)).toNat * (6) + 0), s.M 0 (0 + ((0 : Int) + (1 : Int)).toNat * (6) + 1), s.M 0 (0 + ((0 : Int) + (1 : Int)).toNat * (6) + 2), s.M 0 (0 + ((0 : Int) + (1 : Int)).toNat * (6) + 3), s.M 0 (0 + ((0 : Int) + (1 : Int)).toNat * (6) + 4), s.M 0 (0 + ((0 : Int) + (1 : Int)).toNat * (6) + 5)] (0 + 4)), I (setF (fun (_ : Nat) => (0 : Int)) 0 [s.M 0 (0 + ((0 : Int) + (1 : Int)).toNat * (6) + 0), s.M 0 (0 + ((0 : Int) + (1 : Int)).toNat * (6) + 1), s.M 0 (0 + ((0 : Int) + (1 : Int)).toNat * (6) + 2), s.M 0 (0 + ((0 : Int) + (1 : Int)).toNat * (6) + 3), s.M 0 (0 + ((0 : Int) + (1 : Int)).toNat * (6) + 4), s.M 0 (0 + ((0 : Int) + (1 : Int)).toNat * (6) + 5)] (0 + 5))] = nL n_1 ∧ (↑l.length : Int) = (↑m_1 : Int) ∧ m_1 ≤ 6 ∧ Q (VRes.ret (VV.tup [VV.sl (18) 1, I 0])) (VH.mk (19) [(18, VB.vec 1 (fun (j : Nat) => List.take (1) (List.drop (j * (1)) (List.take (1 * (1)) (List.drop 0 [VV.tl (1 + 1) (1) (catG 1 (fun (j : Nat) => List.take (1) (List.drop (j * (1)) [VV.tl m 1 (chG n)])) fun (j : Nat) => List.take (1) (List.drop (j * (1)) [VV.tl m_1 1 (chG n_1)]))])))) (1) 26), (17, VB.cells [VV.tl (1 + 1) (1) (catG 1 (fun (j : Nat) => List.take (1) (List.drop (j * (1)) [VV.tl m 1 (chG n)])) fun (j : Nat) => List.take (1) (List.drop (j * (1)) [VV.tl m_1 1 (chG n_1)]))] 26), (14, VB.gone), (17, VB.cells [VV.sl (14) (1 + 1)] 26), (14, VB.vec (1 + 1) (catG 1 (fun (j : Nat) => List.take (1) (List.drop (j * (1)) [VV.tl m 1 (chG n)])) fun (j : Nat) => List.take (1) (List.drop (j * (1)) [VV.tl m_1 1 (chG n_1)])) (1) 23), (16, VB.vec 1 (fun (j : Nat) => List.take (1) (List.drop (j * (1)) [VV.tl m_1 1 (chG n_1)])) (1) 23), (15, VB.fam [] (6) (setF (fun (_ : Nat) => (0 : Int)) 0 [s.M 0 (0 + ((0 : Int) + (1 : Int)).toNat * (6) + 0), s.M 0 (0 + ((0 : Int) + (1 : Int)).toNat * (6) + 1), s.M 0 (0 + ((0 : Int) + (1 : Int)).toNat * (6) + 2), s.M 0 (0 + ((0 : Int) + (1 : Int)).toNat * (6) + 3), s.M 0 (0 + ((0 : Int) + (1 : Int)).toNat * (6) + 4), s.M 0 (0 + ((0 : Int) + (1 : Int)).toNat * (6) + 5)]) 80), (15, VB.fam [] (6) (fun (_ : Nat) => (0 : Int)) 80), (14, VB.vec 1 (fun (j : Nat) => List.take (1) (List.drop (j * (1)) [VV.tl m 1 (chG n)])) (1) 23), (13, VB.vec 1 (fun (j : Nat) => List.take (1) (List.drop (j * (1)) [VV.tl m 1 (chG n)])) (1) 23), (12, VB.fam [] (6) (setF (fun (_ : Nat) => (0 : Int)) 0 [s.M 0 (0 + Int.toNat (0 : Int) * (6) + 0), s.M 0 (0 + Int.toNat (0 : Int) * (6) + 1), s.M 0 (0 + Int.toNat (0 : Int) * (6) + 2), s.M 0 (0 + Int.toNat (0 : Int) * (6) + 3), s.M 0 (0 + Int.toNat (0 : Int) * (6) + 4), s.M 0 (0 + Int.toNat (0 : Int) * (6) + 5)]) 80), (12, VB.fam [] (6) (fun (_ : Nat) => (0 : Int)) 80), (7, VB.fam [] (2 * 6) (s.M 0) (80 : TypeId)), (8, VB.map [PK.int IntKind.i64, PK.int IntKind.i64, PK.int IntKind.i64, PK.int IntKind.i64, PK.int IntKind.i64, PK.int IntKind.i64, PK.int IntKind.i64, PK.int IntKind.i64] PK.bool s.es), (10, VB.cells [VV.func 44 [] [VV.ptr (VA.own (4) 0), VV.ptr (VA.own (9) 0), VV.ptr (VA.own (1) 0), VV.ptr (VA.own (11) 0)]] 78), (11, VB.cells [VV.func 40 [] [VV.ptr (VA.own (3) 0), VV.ptr (VA.own (10) 0), VV.ptr (VA.own (1) 0), VV.ptr (VA.own (6) 0)]] 88), (11, VB.cells [VV.nilf] 88), (10, VB.cells [VV.nilf] 78), (9, VB.cells [VV.mp (8)] 77), (9, VB.cells [VV.opq (Value.map none)] 77), (8, VB.map [PK.int IntKind.i64, PK.int IntKind.i64, PK.int IntKind.i64, PK.int IntKind.i64, PK.int IntKind.i64, PK.int IntKind.i64, PK.int IntKind.i64, PK.int IntKind.i64] PK.bool []), (5, VB.cells [VV.slice (VA.fa (7) 0 0) (↑([[d00, d01]].getD (Int.toNat (0 : Int)) []).length : Int).toNat (↑([[d00, d01]].getD (Int.toNat (0 : Int)) []).length : Int).toNat] 76), (7, VB.fam [] ((↑([[d00, d01]].getD (Int.toNat (0 : Int)) []).length : Int).toNat * (6)) (fun (_ : Nat) => (0 : Int)) 80), (6, VB.cells [VV.slice (VA.own (5) 0) (1) (1)] 75), (6, VB.cells [VV.nils] 75), (5, VB.cells [VV.nils] 76), (4, VB.cells [I (↑([[d00, d01]].getD (Int.toNat (0 : Int)) []).length : Int)] 3), (4, VB.cells [I 0] 3), (3, VB.cells [VV.ptr (VA.own (2) 0)] 72), (3, VB.cells [VV.nilp] 72), (2, VB.cells [VV.tl l.length 5 (stG l), VV.tl t.T.length 1 (dG t.T), I t.far, I t.least] 74), (1, VB.cells [VV.tl [[d00, d01]].length 1 (pthG [[d00, d01]])] 26), (0, VB.cells [VV.tl t.T.length 1 (dG t.T), I t.far, I t.least] 25)])) := by kernel_rfl

end Go.Sx.Bln

/- blend: Plan with 1 paths of 2 years. -/

namespace Go.Sx.Bln
open Go Go.Sx Go.Proofs
set_option maxRecDepth 1000000

theorem pln12_v {l : List Stk} {t : Tst} {d00 d01 : Int} (h1 : okAll l t = true) (h2 : okPaths [[d00, d01]] = true) (cf : Cfg l t [[d00, d01]] 2) (hpb : pthB [[d00, d01]]) : ∃ r h', CallsV Try.prog 17 [stD l, .agg (tsL t), pthD [[d00, d01]]] ⟨0, []⟩ r h' ∧ PlnK l t [[d00, d01]] 2 r h' := by
  have hl6 := cf.hl.1
  have htab : ∀ f T, tabS [asR l t, casksR l t, apR [[d00, d01]], findR1 l t [[d00, d01]] 2 2, listT] f = some T → SpOk Try.prog f T := tab_ok _ (fun x hx => by
    simp only [List.mem_cons, List.not_mem_nil, or_false] at hx
    rcases hx with rfl | rfl | rfl | rfl | rfl
    · exact asR_ok l t
    · exact casksR_ok l t
    · exact apR_ok _
    · exact findR1_ok cf 2
    · exact listT_ok)
  obtain ⟨r, h', hk, hc⟩ := of_callN (noL_good htab) (f := 17) (args := [stD l, .agg (tsL t), pthD [[d00, d01]]]) (h := ⟨0, []⟩) (K := PlnK l t [[d00, d01]] 2) (by
    refine cast (pl12_ev l t d00 d01 _).symm ⟨isD_l, ⟨⟨rfl, rfl, fun _ _ => rfl⟩, ⟨rfl, rfl⟩, ⟨rfl, rfl⟩, trivial⟩, cond_i (fun h => by rw [h1] at h; cases h) (fun _ => ⟨⟨rfl, rfl, fun _ _ => rfl⟩, hpb, cond_i (fun h => by rw [h2] at h; cases h) (fun _ => ?_)⟩)⟩
    refine ⟨hc61 rfl, hl6, 1, mostF l, fun _ _ => 0, [], ⟨rfl, rfl, rfl, rfl⟩, ⟨rfl, Nat.le_refl _⟩, ⟨rfl, rfl, rfl, rfl, rfl, rfl, rfl, rfl, rfl, rfl, rfl, rfl, trivial⟩, ⟨rfl, rfl, rfl⟩, ⟨Nat.le_refl _, (by show 1 < 2 ^ 1; decide), most_left cf.hl, lost_nil⟩, ?_⟩
    rintro b s ⟨p1, p2, p3, p4⟩
    refine cond_i (fun g => ?_) (fun g => ?_)
    · have g : b = false := by simpa using g
      subst g
      refine .inl ⟨?_, rfl⟩
      cases hx : planF l t [[d00, d01]] 2 2 1 (mostF l) with
      | none => exact hx
      | some x => rw [hx] at p1; cases p1
    · have g : b = true := by simpa using g
      subst g
      obtain ⟨x, hx⟩ : ∃ x, planF l t [[d00, d01]] 2 2 1 (mostF l) = some x := by
        cases hx : planF l t [[d00, d01]] 2 2 1 (mostF l) with
        | none => rw [hx] at p1; cases p1
        | some x => exact ⟨x, rfl⟩
      refine ⟨fun j => s.M 0 (0 * 6 + j), l.length, rfl, rfl, hl6, fun j => s.M 0 (1 * 6 + j), l.length, rfl, rfl, hl6, .inr ⟨x, _, _, _, hx, rfl, rfl, fun i hi => ?_⟩⟩
      have hi : i < 1 := hi
      match i, hi with
      | 0, _ =>
            refine tl_weak rfl (fun y hy => ?_)
            match y, hy with
            | 0, _ => exact wk_ch (fun j hj => p4 x hx 0 0 j (by omega) rfl (by omega) (by omega))
            | 1, _ => exact wk_ch (fun j hj => p4 x hx 0 1 j (by omega) rfl (by omega) (by omega))
            | _ + 2, hy => exact absurd hy (by omega)
      | _ + 1, hi => exact absurd hi (by omega))
  exact ⟨r, h', hc, hk⟩
end Go.Sx.Bln

/- blend: Plan with 1 paths of 3 years, evaluated. -/

namespace Go.Sx.Bln
open Go Go.Sx Go.Proofs
set_option maxRecDepth 1000000

theorem pl13_ev (l : List Stk) (t : Tst) (d00 d01 d02 : Int) (Q : VRes → VH → Prop) : callN Try.prog (tabS [asR l t, casksR l t, apR [[d00, d01, d02]], findR1 l t [[d00, d01, d02]] 3 3, listT]) noL 10 20 0 (.fn 17) [stD l, .agg (tsL t), pthD [[d00, d01, d02]]] ⟨0, []⟩ (fun r h => Q r h) =
  (isD (VH.mk (2) [(1, VB.cells [VV.tl [[d00, d01, d02]].length 1 (pthG [[d00, d01, d02]])] 26), (0, VB.cells [VV.tl t.T.length 1 (dG t.T), I t.far, I t.least] 25)]) 2 (VV.tl l.length 5 (stG l)) (stD l) ∧ isD (VH.mk (2) [(1, VB.cells [VV.tl [[d00, d01, d02]].length 1 (pthG [[d00, d01, d02]])] 26), (0, VB.cells [VV.tl t.T.length 1 (dG t.T), I t.far, I t.least] 25)]) 2 (VV.agg [VV.tl t.T.length 1 (dG t.T), I t.far, I t.least]) (VV.agg (tsL t)) ∧ bif !okAll l t then
 Q (VRes.ret (VV.tup [VV.nils, I 1])) (VH.mk (2) [(1, VB.cells [VV.tl [[d00, d01, d02]].length 1 (pthG [[d00, d01, d02]])] 26), (0, VB.cells [VV.tl t.T.length 1 (dG t.T), I t.far, I t.least] 25)])
 else isD (VH.mk (2) [(1, VB.cells [VV.tl [[d00, d01, d02]].length 1 (pthG [[d00, d01, d02]])] 26), (0, VB.cells [VV.tl t.T.length 1 (dG t.T), I t.far, I t.least] 25)]) 4 (VV.tl [[d00, d01, d02]].length 1 (pthG [[d00, d01, d02]])) (pthD [[d00, d01, d02]]) ∧ pthB [[d00, d01, d02]] ∧ bif !okPaths [[d00, d01, d02]] then
 Q (VRes.ret (VV.tup [VV.nils, I 2])) (VH.mk (2) [(1, VB.cells [VV.tl [[d00, d01, d02]].length 1 (pthG [[d00, d01, d02]])] 26), (0, VB.cells [VV.tl t.T.length 1 (dG t.T), I t.far, I t.least] 25)])
 else isD (maskH [0, 1, 2, 3, 4, 5, 6, 7, 8, 9, 10, 11] (VH.mk (12) ((10, VB.cells [VV.func 44 [] [VV.ptr (VA.own (4) 0), VV.ptr (VA.own (9) 0), VV.ptr (VA.own (1) 0), VV.ptr (VA.own (11) 0)]] 78) :: (11, VB.cells [VV.func 40 [] [VV.ptr (VA.own (3) 0), VV.ptr (VA.own (10) 0), VV.ptr (VA.own (1) 0), VV.ptr (VA.own (6) 0)]] 88) :: (11, VB.cells [VV.nilf] 88) :: (10, VB.cells [VV.nilf] 78) :: (9, VB.cells [VV.mp (8)] 77) :: (9, VB.cells [VV.opq (Value.map none)] 77) :: (8, VB.map ([PK.int IntKind.i64] ++ ([PK.int IntKind.i64] ++ ((List.replicate 6 [PK.int IntKind.i64]).flatten ++ []))) PK.bool []) :: (5, VB.cells [VV.slice (VA.fa (7) 0 0) (↑([[d00, d01, d02]].getD (Int.toNat (0 : Int)) []).length : Int).toNat (↑([[d00, d01, d02]].getD (Int.toNat (0 : Int)) []).length : Int).toNat] 76) :: ([(7, VB.fam [] ((↑([[d00, d01, d02]].getD (Int.toNat (0 : Int)) []).length : Int).toNat * (6)) (fun (_ : Nat) => (0 : Int)) 80)] ++ [(6, VB.cells [VV.slice (VA.own (5) 0) (1) (1)] 75), (6, VB.cells [VV.nils] 75), (5, VB.cells [VV.nils] 76), (4, VB.cells [I (↑([[d00, d01, d02]].getD (Int.toNat (0 : Int)) []).length : Int)] 3), (4, VB.cells [I 0] 3), (3, VB.cells [VV.ptr (VA.own (2) 0)] 72), (3, VB.cells [VV.nilp] 72), (2, VB.cells [VV.tl l.length 5 (stG l), VV.tl t.T.length 1 (dG t.T), I t.far, I t.least] 74), (1, VB.cells [VV.tl [[d00, d01, d02]].length 1 (pthG [[d00, d01, d02]])] 26), (0, VB.cells [VV.tl t.T.length 1 (dG t.T), I t.far, I t.least] 25)])))) 4 (VV.ptr (VA.own (2) 0)) (VV.tp (stD l :: tsL t)) ∧ l.length ≤ 6 ∧ ∃ (S' : Nat), ∃ (a : Nat → Int), ∃ (M : Mde), ∃ (es : Lst), (VV.ptr (VA.own 4 0) = VV.ptr (VA.own 4 0) ∧ VV.ptr (VA.own 9 0) = VV.ptr (VA.own 9 0) ∧ VV.ptr (VA.own 1 0) = VV.ptr (VA.own 1 0) ∧ VV.ptr (VA.own 11 0) = VV.ptr (VA.own 11 0)) ∧ (0 = 0 ∧ 12 ≤ 12) ∧ atL nsB1 (BP1 l t [[d00, d01, d02]] 3 M es) (VH.mk (12) ((10, VB.cells [VV.func 44 [] [VV.ptr (VA.own (4) 0), VV.ptr (VA.own (9) 0), VV.ptr (VA.own (1) 0), VV.ptr (VA.own (11) 0)]] 78) :: (11, VB.cells [VV.func 40 [] [VV.ptr (VA.own (3) 0), VV.ptr (VA.own (10) 0), VV.ptr (VA.own (1) 0), VV.ptr (VA.own (6) 0)]] 88) :: (11, VB.cells [VV.nilf] 88) :: (10, VB.cells [VV.nilf] 78) :: (9, VB.cells [VV.mp (8)] 77) :: (9, VB.cells [VV.opq (Value.map none)] 77) :: (8, VB.map ([PK.int IntKind.i64] ++ ([PK.int IntKind.i64] ++ ((List.replicate 6 [PK.int IntKind.i64]).flatten ++ []))) PK.bool []) :: (5, VB.cells [VV.slice (VA.fa (7) 0 0) (↑([[d00, d01, d02]].getD (Int.toNat (0 : Int)) []).length : Int).toNat (↑([[d00, d01, d02]].getD (Int.toNat (0 : Int)) []).length : Int).toNat] 76) :: ([(7, VB.fam [] ((↑([[d00, d01, d02]].getD (Int.toNat (0 : Int)) []).length : Int).toNat * (6)) (fun (_ : Nat) => (0 : Int)) 80)] ++ [(6, VB.cells [VV.slice (VA.own (5) 0) (1) (1)] 75), (6, VB.cells [VV.nils] 75), (5, VB.cells [VV.nils] 76), (4, VB.cells [I (↑([[d00, d01, d02]].getD (Int.toNat (0 : Int)) []).length : Int)] 3), (4, VB.cells [I 0] 3), (3, VB.cells [VV.ptr (VA.own (2) 0)] 72), (3, VB.cells [VV.nilp] 72), (2, VB.cells [VV.tl l.length 5 (stG l), VV.tl t.T.length 1 (dG t.T), I t.far, I t.least] 74), (1, VB.cells [VV.tl [[d00, d01, d02]].length 1 (pthG [[d00, d01, d02]])] 26), (0, VB.cells [VV.tl t.T.length 1 (dG t.T), I t.far, I t.least] 25)]))) ∧ ((↑3 : Int) - (↑3 : Int) = (↑3 : Int) - (↑3 : Int) ∧ (1 : Int) * (2 : Int) ^ min (↑[[d00, d01, d02]].length : Int).toNat IntKind.i64.bits - (1 : Int) = (↑S' : Int) ∧ [I (mostF l 0), I (mostF l 1), I (mostF l 2), I (mostF l 3), I (mostF l 4), I (mostF l 5)] = nL a) ∧ PreF l t [[d00, d01, d02]] 3 3 S' a es ∧ ∀ (b : Bool) (s : St), PostF l t [[d00, d01, d02]] 3 3 S' a M b s → bif !b then
 Q (VRes.ret (VV.tup [VV.nils, I 4])) (VH.mk (12) [(7, VB.fam [] (3 * 6) (s.M 0) (80 : TypeId)), (8, VB.map [PK.int IntKind.i64, PK.int IntKind.i64, PK.int IntKind.i64, PK.int IntKind.i64, PK.int IntKind.i64, PK.int IntKind.i64, PK.int IntKind.i64, PK.int IntKind.i64] PK.bool s.es), (10, VB.cells [VV.func 44 [] [VV.ptr (VA.own (4) 0), VV.ptr (VA.own (9) 0), VV.ptr (VA.own (1) 0), VV.ptr (VA.own (11) 0)]] 78), (11, VB.cells [VV.func 40 [] [VV.ptr (VA.own (3) 0), VV.ptr (VA.own (10) 0), VV.ptr (VA.own (1) 0), VV.ptr (VA.own (6) 0)]] 88), (11, VB.cells [VV.nilf] 88), (10, VB.cells [VV.nilf] 78), (9, VB.cells [VV.mp (8)] 77), (9, VB.cells [VV.opq (Value.map none)] 77), (8, VB.map [PK.int IntKind.i64, PK.int IntKind.i64, PK.int IntKind.i64, PK.int IntKind.i64, PK.int IntKind.i64, PK.int IntKind.i64, PK.int IntKind.i64, PK.int IntKind.i64] PK.bool []), (5, VB.cells [VV.slice (VA.fa (7) 0 0) (↑([[d00, d01, d02]].getD (Int.toNat (0 : Int)) []).length : Int).toNat (↑([[d00, d01, d02]].getD (Int.toNat (0 : Int)) []).length : Int).toNat] 76), (7, VB.fam [] ((↑([[d00, d01, d02]].getD (Int.toNat (0 : Int)) []).length : Int).toNat * (6)) (fun (_ : Nat) => (0 : Int)) 80), (6, VB.cells [VV.slice (VA.own (5) 0) (1) (1)] 75), (6, VB.cells [VV.nils] 75), (5, VB.cells [VV.nils] 76), (4, VB.cells [I (↑([[d00, d01, d02]].getD (Int.toNat (0 : Int)) []).length : Int)] 3), (4, VB.cells [I 0] 3), (3, VB.cells [VV.ptr (VA.own (2) 0)] 72), (3, VB.cells [VV.nilp] 72), (2, VB.cells [VV.tl l.length 5 (stG l), VV.tl t.T.length 1 (dG t.T), I t.far, I t.least] 74), (1, VB.cells [VV.tl [[d00, d01, d02]].length 1 (pthG [[d00, d01, d02]])] 26), (0, VB.cells [VV.tl t.T.length 1 (dG t.T), I t.far, I t.least] 25)])
 else ∃ (n : Nat → Int), ∃ (m : Nat), [I (setF (fun (_ : Nat) => (0 : Int)) 0 [s.M 0 (0 + Int.toNat (0 : Int) * (6) + 0), s.M 0 (0 + Int.toNat (0 : Int) * (6) + 1), s.M 0 (0 + Int.toNat (0 : Int) * (6) + 2), s.M 0 (0 + Int.toNat (0 : Int) * (6) + 3), s.M 0 (0 + Int.toNat (0 : Int) * (6) + 4), s.M 0 (0 + Int.toNat (0 : Int) * (6) + 5)] (0 + 0)), I (setF (fun (_ : Nat) => (0 : Int)) 0 [s.M 0 (0 + Int.toNat (0 : Int) * (6) + 0), s.M 0 (0 + Int.toNat (0 : Int) * (6) + 1), s.M 0 (0 + Int.toNat (0 : Int) * (6) + 2), s.M 0 (0 + Int.toNat (0 : Int) * (6) + 3), s.M 0 (0 + Int.toNat (0 : Int) * (6) + 4), s.M 0 (0 + Int.toNat (0 : Int) * (6) + 5)] (0 + 1)), I (setF (fun (_ : Nat) => (0 : Int)) 0 [s.M 0 (0 + Int.toNat (0 : Int) * (6) + 0), s.M 0 (0 + Int.toNat (0 : Int) * (6) + 1), s.M 0 (0 + Int.toNat (0 : Int) * (6) + 2), s.M 0 (0 + Int.toNat (0 : Int) * (6) + 3), s.M 0 (0 + Int.toNat (0 : Int) * (6) + 4), s.M 0 (0 + Int.toNat (0 : Int) * (6) + 5)] (0 + 2)), I (setF (fun (_ : Nat) => (0 : Int)) 0 [s.M 0 (0 + Int.toNat (0 : Int) * (6) + 0), s.M 0 (0 + Int.toNat (0 : Int) * (6) + 1), s.M 0 (0 + Int.toNat (0 : Int) * (6) + 2), s.M 0 (0 + Int.toNat (0 : Int) * (6) + 3), s.M 0 (0 + Int.toNat (0 : Int) * (6) + 4), s.M 0 (0 + Int.toNat (0 : Int) * (6) + 5)] (0 + 3)), I (setF (fun (_ : Nat) => (0 : Int)) 0 [s.M 0 (0 + Int.toNat (0 : Int) * (6) + 0), s.M 0 (0 + Int.toNat (0 : Int) * (6) + 1), s.M 0 (0 + Int.toNat (0 : Int) * (6) + 2), s.M 0 (0 + Int.toNat (0 : Int) * (6) + 3), s.M 0 (0 + Int.toNat (0 : Int) * (6) + 4), s.M 0 (0 + Int.toNat (0 : Int) * (6) + 5)] (0 + 4)), I (setF (fun (_ : Nat) => (0 : Int)) 0 [s.M 0 (0 + Int.toNat (0 : Int) * (6) + 0), s.M 0 (0 + Int.toNat (0 : Int) * (6) + 1), s.M 0 (0 + Int.toNat (0 : Int) * (6) + 2), s.M 0 (0 + Int.toNat (0 : Int) * (6) + 3), s.M 0 (0 + Int.toNat (0 : Int) * (6) + 4), s.M 0 (0 + Int.toNat (0 : Int) * (6) + 5)] (0 + 5))] = nL n ∧ (↑l.length : Int) = (↑m : Int) ∧ m ≤ 6 ∧ ∃ (n_1 : Nat → Int), ∃ (m_1 : Nat), [I (setF (fun (_ : Nat) => (0 : Int)) 0 [s.M 0 (0 + ((0 : Int) + (1 : Int)).toNat * (6) + 0), s.M 0 (0 + ((0 : Int) + (1 : Int)).toNat * (6) + 1), s.M 0 (0 + ((0 : Int) + (1 : Int)).toNat * (6) + 2), s.M 0 (0 + ((0 : Int) + (1 : Int)).toNat * (6) + 3), s.M 0 (0 + ((0 : Int) + (1 : Int)).toNat * (6) + 4), s.M 0 (0 + ((0 : Int) + (1 : Int)).toNat * (6) + 5)] (0 + 0)), I (setF (fun (_ : Nat) => (0 : Int)) 0 [s.M 0 (0 + ((0 : Int) + (1 : Int)).toNat * (6) + 0), s.M 0 (0 + ((0 : Int) + (1 : Int)).toNat * (6) + 1), s.M 0 (0 + ((0 : Int) + (1 : Int)).toNat * (6) + 2), s.M 0 (0 + ((0 : Int) + (1 : Int)).toNat * (6) + 3), s.M 0 (0 + ((0 : Int) + (1 : Int)).toNat * (6) + 4), s.M 0 (0 + ((0 : Int) + (1 : Int)).toNat * (6) + 5)] (0 + 1)), I (setF (fun (_ : Nat) => (0 : Int)) 0 [s.M 0 (0 + ((0 : Int) + (1 : Int)).toNat * (6) + 0), s.M 0 (0 + ((0 : Int) + (1 : Int)).toNat * (6) + 1), s.M 0 (0 + ((0 : Int) + (1 : Int)).toNat * (6) + 2), s.M 0 (0 + ((0 : Int) + (1 : Int)).toNat * (6) + 3), s.M 0 (0 + ((0 : Int) + (1 : Int)).toNat * (6) + 4), s.M 0 (0 + ((0 : Int) + (1 : Int)).toNat * (6) + 5)] (0 + 2)), I (setF (fun (_ : Nat) => (0 : Int)) 0 [s.M 0 (0 + ((0 : Int) + (1 : Int)).toNat * (6) + 0), s.M 0 (0 + ((0 : Int) + (1 : Int)).toNat * (6) + 1), s.M 0 (0 + ((0 : Int) + (1 : Int)).toNat * (6) + 2), s.M 0 (0 + ((0 : Int) + (1 : Int)).toNat * (6) + 3), s.M 0 (0 + ((0 : Int) + (1 : Int)).toNat * (6) + 4), s.M 0 (0 + ((0 : Int) + (1 : Int)).toNat * (6) + 5)] (0 + 3)), I (setF (fun (_ : Nat) => (0 : Int)) 0 [s.M 0 (0 + ((0 : Int) + (1 : Int)).toNat * (6) + 0), s.M 0 (0 + ((0 : Int) + (1 : Int)).toNat * (6) + 1), s.M 0 (0 + ((0 : Int) + (1 : Int)).toNat * (6) + 2), s.M 0 (0 + ((0 : Int) + (1 : Int)).toNat * (6) + 3), s.M 0 (0 + ((0 : Int) + (1 : Int)).toNat * (6) + 4), s.M 0 (0 + ((0 : Int) + (1 : Int)).toNat * (6) + 5)] (0 + 4)), I (setF (fun (_ : Nat) => (0 : Int)) 0 [s.M 0 (0 + ((0 : Int) + (1 : Int)).toNat * (6) + 0), s.M 0 (0 + ((0 : Int) + (1 : Int)).toNat * (6) + 1), s.M 0 (0 + ((0 : Int) + (1 : Int)).toNat * (6) + 2), s.M 0 (0 + ((0 : Int) + (1 : Int)).toNat * (6) + 3), s.M 0 (0 + ((0 : Int) + (1 : Int)).toNat * (6) + 4), s.M 0 (0 + ((0 : Int) + (1 : Int)).toNat * (6) + 5)] (0 + 5))] = nL n_1 ∧ (↑l.length : Int) = (↑m_1 : Int) ∧ m_1 ≤ 6 ∧ ∃ (n_2 : Nat → Int), ∃ (m_2 : Nat), [I (setF (fun (_ : Nat) => (0 : Int)) 0 [s.M 0 (0 + ((0 : Int) + (1 : Int) + (1 : Int)).toNat * (6) + 0), s.M 0 (0 + ((0 : Int) + (1 : Int) + (1 : Int)).toNat * (6) + 1), s.M 0 (0 + ((0 : Int) + (1 : Int) + (1 : Int)).toNat * (6) + 2), s.M 0 (0 + ((0 : Int) + (1 : Int) + (1 : Int)).toNat * (6) + 3), s.M 0 (0 + ((0 : Int) + (1 : Int) + (1 : Int)).toNat * (6) + 4), s.M 0 (0 + ((0 : Int) + (1 : Int) + (1 : Int)).toNat * (6) + 5)] (0 + 0)), I (setF (fun (_ : Nat) => (0 : Int)) 0 [s.M 0 (0 + ((0 : Int) + (1 : Int) + (1 : Int)).toNat * (6) + 0), s.M 0 (0 + ((0 : Int) + (1 : Int) + (1 : Int)).toNat * (6) + 1), s.M 0 (0 + ((0 : Int) + (1 : Int) + (1 : Int)).toNat * (6) + 2), s.M 0 (0 + ((0 : Int) + (1 : Int) + (1 : Int)).toNat * (6) + 3), s.M 0 (0 + ((0 : Int) + (1 : Int) + (1 : Int)).toNat * (6) + 4), s.M 0 (0 + ((0 : Int) + (1 : Int) + (1 : Int)).toNat * (6) + 5)] (0 + 1)), I (setF (fun (_ : Nat) => (0 : Int)) 0 [s.M 0 (0 + ((0 : Int) + (1 : Int) + (1 : Int)).toNat * (6) + 0), s.M 0 (0 + ((0 : Int) + (1 : Int) + (1 : Int)).toNat * (6) + 1), s.M 0 (0 + ((0 : Int) + (1 : Int) + (1 : Int)).toNat * (6) + 2), s.M 0 (0 + ((0 : Int) + (1 : Int) + (1 : Int)).toNat * (6) + 3), s.M 0 (0 + ((0 : Int) + (1 : Int) + (1 : Int)).toNat * (6) + 4), s.M 0 (0 + ((0 : Int) + (1 : Int) + (1 : Int)).toNat * (6) + 5)] (0 + 2)), I (setF (fun (_ : Nat) => (0 : Int)) 0 [s.M 0 (0 + ((0 : Int) + (1 : Int) + (1 : Int)).toNat * (6) + 0), s.M 0 (0 + ((0 : Int) + (1 : Int) + (1 : Int)).toNat * (6) + 1), s.M 0 (0 + ((0 : Int) + (1 : Int) + (1 : Int)).toNat * (6) + 2), s.M 0 (0 + ((0 : Int) + (1 : Int) + (1 : Int)).toNat * (6) + 3), s.M 0 (0 + ((0 : Int) + (1 : Int) + (1 : Int)).toNat * (6) + 4), s.M 0 (0 + ((0 : Int) + (1 : Int) + (1 : Int)).toNat * (6) + 5)] (0 + 3)), I (setF (fun (_ : Nat) => (0 : Int)) 0 [s.M 0 (0 + ((0 : Int) + (1 : Int) + (1 : Int)).toNat * (6) + 0), s.M 0 (0 + ((0 : Int) + (1 : Int) + (1 : Int)).toNat * (6) + 1), s.M 0 (0 + ((0 : Int) + (1 : Int) + (1 : Int)).toNat * (6) + 2), s.M 0 (0 + ((0 : Int) + (1 : Int) + (1 : Int)).toNat * (6) + 3), s.M 0 (0 + ((0 : Int) + (1 : Int) + (1 : Int)).toNat * (6) + 4), s.M 0 (0 + ((0 : Int) + (1 : Int) + (1 : Int)).toNat * (6) + 5)] (0 + 4)), I (setF (fun (_ : Nat) => (0 : Int)) 0 [s.M 0 (0 + ((0 : Int) + (1 : Int) + (1 : Int)).toNat * (6) + 0), s.M 0 (0 + ((0 : Int) + (1 : Int) + (1 : Int)).toNat * (6) + 1), s.M 0 (0 + ((0 : Int) + (1 : Int) + (1 : Int)).toNat * (6) + 2), s.M 0 (0 + ((0 : Int) + (1 : Int) + (1 : Int)).toNat * (6) + 3), s.M 0 (0 + ((0 : Int) + (1 : Int) + (1 : Int)).toNat * (6) + 4), s.M 0 (0 + ((0 : Int) + (1 : Int) + (1 : Int)).toNat * (6) + 5)] (0 + 5))] = nL n_2 ∧ (↑l.length : Int) = (↑m_2 : Int) ∧ m_2 ≤ 6 ∧ Q (VRes.ret (VV.tup [VV.sl (20) 1, I 0])) (VH.mk (21) [(20, VB.vec 1 (fun (j : Nat) => List.take (1) (List.drop (j * (1)) (List.take (1 * (1)) (List.drop 0 [VV.tl (1 + 1 + 1) (1) (catG (1 + 1) (catG 1 (fun (j : Nat) => List.take (1) (List.drop (j * (1)) [VV.tl m 1 (chG n)])) fun (j : Nat) => List.take (1) (List.drop (j * (1)) [VV.tl m_1 1 (chG n_1)])) fun (j : Nat) => List.take (1) (List.drop (j * (1)) [VV.tl m_2 1 (chG n_2)]))])))) (1) 26), (19, VB.cells [VV.tl (1 + 1 + 1) (1) (catG (1 + 1) (catG 1 (fun (j : Nat) => List.take (1) (List.drop (j * (1)) [VV.tl m 1 (chG n)])) fun (j : Nat) => List.take (1) (List.drop (j * (1)) [VV.tl m_1 1 (chG n_1)])) fun (j : Nat) => List.take (1) (List.drop (j * (1)) [VV.tl m_2 1 (chG n_2)]))] 26), (14, VB.gone), (19, VB.cells [VV.sl (14) (1 + 1 + 1)] 26), (14, VB.vec (1 + 1 + 1) (catG (1 + 1) (catG 1 (fun (j : Nat) => List.take (1) (List.drop (j * (1)) [VV.tl m 1 (chG n)])) fun (j : Nat) => List.take (1) (List.drop (j * (1)) [VV.tl m_1 1 (chG n_1)])) fun (j : Nat) => List.take (1) (List.drop (j * (1)) [VV.tl m_2 1 (chG n_2)])) (1) 23), (18, VB.vec 1 (fun (j : Nat) => List.take (1) (List.drop (j * (1)) [VV.tl m_2 1 (chG n_2)])) (1) 23), (17, VB.fam [] (6) (setF (fun (_ : Nat) => (0 : Int)) 0 [s.M 0 (0 + ((0 : Int) + (1 : Int) + (1 : Int)).toNat * (6) + 0), s.M 0 (0 + ((0 : Int) + (1 : Int) + (1 : Int)).toNat * (6) + 1), s.M 0 (0 + ((0 : Int) + (1 : Int) + (1 : Int)).toNat * (6) + 2), s.M 0 (0 + ((0 : Int) + (1 : Int) + (1 : Int)).toNat * (6) + 3), s.M 0 (0 + ((0 : Int) + (1 : Int) + (1 : Int)).toNat * (6) + 4), s.M 0 (0 + ((0 : Int) + (1 : Int) + (1 : Int)).toNat * (6) + 5)]) 80), (17, VB.fam [] (6) (fun (_ : Nat) => (0 : Int)) 80), (14, VB.vec (1 + 1) (catG 1 (fun (j : Nat) => List.take (1) (List.drop (j * (1)) [VV.tl m 1 (chG n)])) fun (j : Nat) => List.take (1) (List.drop (j * (1)) [VV.tl m_1 1 (chG n_1)])) (1) 23), (16, VB.vec 1 (fun (j : Nat) => List.take (1) (List.drop (j * (1)) [VV.tl m_1 1 (chG n_1)])) (1) 23), (15, VB.fam [] (6) (setF (fun (_ : Nat) => (0 : Int)) 0 [s.M 0 (0 + ((0 : Int) + (1 : Int)).toNat * (6) + 0), s.M 0 (0 + ((0 : Int) + (1 : Int)).toNat * (6) + 1), s.M 0 (0 + ((0 : Int) + (1 : Int)).toNat * (6) + 2), s.M 0 (0 + ((0 : Int) + (1 : Int)).toNat * (6) + 3), s.M 0 (0 + ((0 : Int) + (1 : Int)).toNat * (6) + 4), s.M 0 (0 + ((0 : Int) + (1 : Int)).toNat * (6) + 5)]) 80), (15, VB.fam [] (6) (fun (_ : Nat) => (0 : Int)) 80), (14, VB.vec 1 (fun (j : Nat) => List.take (1) (List.drop (j * (1)) [VV.tl m 1 (chG n)])) (1) 23), (13, VB.vec 1 (fun (j : Nat) => List.take (1) (List.drop (j * (1)) [VV.tl m 1 (chG n)])) (1) 23), (12, VB.fam [] (6) (setF (fun (_ : Nat) => (0 : Int)) 0 [s.M 0 (0 + Int.toNat (0 : Int) * (6) + 0), s.M 0 (0 + Int.toNat (0 : Int) * (6) + 1), s.M 0 (0 + Int.toNat (0 : Int) * (6) + 2), s.M 0 (0 + Int.toNat (0 : Int) * (6) + 3), s.M 0 (0 + Int.toNat (0 : Int) * (6) + 4), s.M 0 (0 + Int.toNat (0 : Int) * (6) + 5)]) 80), (12, VB.fam [] (6) (fun (_ : Nat) => (0 : Int)) 80), (7, VB.fam [] (3 * 6) (s.M 0) (80 : TypeId)), (8, VB.map [PK.int IntKind.i64, PK.int IntKind.i64, PK.int IntKind.i64, PK.int IntKind.i64, PK.int IntKind.i64, PK.int IntKind.i64, PK.int IntKind.i64, PK.int IntKind.i64] PK.bool s.es), (10, VB.cells [VV.func 44 [] [VV.ptr (VA.own (4) 0), VV.ptr (VA.own (9) 0), VV.ptr (VA.own (1) 0), VV.ptr (VA.own (11) 0)]] 78), (11, VB.cells [VV.func 40 [] [VV.ptr (VA.own (3) 0), VV.ptr (VA.own (10) 0), VV.ptr (VA.own (1) 0), VV.ptr (VA.own (6) 0)]] 88), (11, VB.cells [VV.nilf] 88), (10, VB.cells [VV.nilf] 78), (9, VB.cells [VV.mp (8)] 77), (9, VB.cells [VV.opq (Value.map none)] 77), (8, VB.map [PK.int IntKind.i64, PK.int IntKind.i64, PK.int IntKind.i64, PK.int IntKind.i64, PK.int IntKind.i64, PK.int IntKind.i64, PK.int IntKind.i64, PK.int IntKind.i64] PK.bool []), (5, VB.cells [VV.slice (VA.fa (7) 0 0) (↑([[d00, d01, d02]].getD (Int.toNat (0 : Int)) []).length : Int).toNat (↑([[d00, d01, d02]].getD (Int.toNat (0 : Int)) []).length : Int).toNat] 76), (7, VB.fam [] ((↑([[d00, d01, d02]].getD (Int.toNat (0 : Int)) []).length : Int).toNat * (6)) (fun (_ : Nat) => (0 : Int)) 80), (6, VB.cells [VV.slice (VA.own (5) 0) (1) (1)] 75), (6, VB.cells [VV.nils] 75), (5, VB.cells [VV.nils] 76), (4, VB.cells [I (↑([[d00, d01, d02]].getD (Int.toNat (0 : Int)) []).length : Int)] 3), (4, VB.cells [I 0] 3), (3, VB.cells [VV.ptr (VA.own (2) 0)] 72), (3, VB.cells [VV.nilp] 72), (2, VB.cells [VV.tl l.length 5 (stG l), VV.tl t.T.length 1 (dG t.T), I t.far, I t.least] 74), (1, VB.cells [VV.tl [[d00, d01, d02]].length 1 (pthG [[d00, d01, d02]])] 26), (0, VB.cells [VV.tl t.T.length 1 (dG t.T), I t.far, I t.least] 25)])) := by kernel_rfl

end Go.Sx.Bln

/- blend: Plan with 1 paths of 3 years. -/

namespace Go.Sx.Bln
open Go Go.Sx Go.Proofs
set_option maxRecDepth 1000000

theorem pln13_v {l : List Stk} {t : Tst} {d00 d01 d02 : Int} (h1 : okAll l t = true) (h2 : okPaths [[d00, d01, d02]] = true) (cf : Cfg l t [[d00, d01, d02]] 3) (hpb : pthB [[d00, d01, d02]]) : ∃ r h', CallsV Try.prog 17 [stD l, .agg (tsL t), pthD [[d00, d01, d02]]] ⟨0, []⟩ r h' ∧ PlnK l t [[d00, d01, d02]] 3 r h' := by
  have hl6 := cf.hl.1
  have htab : ∀ f T, tabS [asR l t, casksR l t, apR [[d00, d01, d02]], findR1 l t [[d00, d01, d02]] 3 3, listT] f = some T → SpOk Try.prog f T := tab_ok _ (fun x hx => by
    simp only [List.mem_cons, List.not_mem_nil, or_false] at hx
    rcases hx with rfl | rfl | rfl | rfl | rfl
    · exact asR_ok l t
    · exact casksR_ok l t
    · exact apR_ok _
    · exact findR1_ok cf 3
    · exact listT_ok)
  obtain ⟨r, h', hk, hc⟩ := of_callN (noL_good htab) (f := 17) (args := [stD l, .agg (tsL t), pthD [[d00, d01, d02]]]) (h := ⟨0, []⟩) (K := PlnK l t [[d00, d01, d02]] 3) (by
    refine cast (pl13_ev l t d00 d01 d02 _).symm ⟨isD_l, ⟨⟨rfl, rfl, fun _ _ => rfl⟩, ⟨rfl, rfl⟩, ⟨rfl, rfl⟩, trivial⟩, cond_i (fun h => by rw [h1] at h; cases h) (fun _ => ⟨⟨rfl, rfl, fun _ _ => rfl⟩, hpb, cond_i (fun h => by rw [h2] at h; cases h) (fun _ => ?_)⟩)⟩
    refine ⟨hc61 rfl, hl6, 1, mostF l, fun _ _ => 0, [], ⟨rfl, rfl, rfl, rfl⟩, ⟨rfl, Nat.le_refl _⟩, ⟨rfl, rfl, rfl, rfl, rfl, rfl, rfl, rfl, rfl, rfl, rfl, rfl, trivial⟩, ⟨rfl, rfl, rfl⟩, ⟨Nat.le_refl _, (by show 1 < 2 ^ 1; decide), most_left cf.hl, lost_nil⟩, ?_⟩
    rintro b s ⟨p1, p2, p3, p4⟩
    refine cond_i (fun g => ?_) (fun g => ?_)
    · have g : b = false := by simpa using g
      subst g
      refine .inl ⟨?_, rfl⟩
      cases hx : planF l t [[d00, d01, d02]] 3 3 1 (mostF l) with
      | none => exact hx
      | some x => rw [hx] at p1; cases p1
    · have g : b = true := by simpa using g
      subst g
      obtain ⟨x, hx⟩ : ∃ x, planF l t [[d00, d01, d02]] 3 3 1 (mostF l) = some x := by
        cases hx : planF l t [[d00, d01, d02]] 3 3 1 (mostF l) with
        | none => rw [hx] at p1; cases p1
        | some x => exact ⟨x, rfl⟩
      refine ⟨fun j => s.M 0 (0 * 6 + j), l.length, rfl, rfl, hl6, fun j => s.M 0 (1 * 6 + j), l.length, rfl, rfl, hl6, fun j => s.M 0 (2 * 6 + j), l.length, rfl, rfl, hl6, .inr ⟨x, _, _, _, hx, rfl, rfl, fun i hi => ?_⟩⟩
      have hi : i < 1 := hi
      match i, hi with
      | 0, _ =>
            refine tl_weak rfl (fun y hy => ?_)
            match y, hy with
            | 0, _ => exact wk_ch (fun j hj => p4 x hx 0 0 j (by omega) rfl (by omega) (by omega))
            | 1, _ => exact wk_ch (fun j hj => p4 x hx 0 1 j (by omega) rfl (by omega) (by omega))
            | 2, _ => exact wk_ch (fun j hj => p4 x hx 0 2 j (by omega) rfl (by omega) (by omega))
            | _ + 3, hy => exact absurd hy (by omega)
      | _ + 1, hi => exact absurd hi (by omega))
  exact ⟨r, h', hc, hk⟩
end Go.Sx.Bln

/- blend: Plan with 1 paths of 4 years, evaluated. -/

namespace Go.Sx.Bln
open Go Go.Sx Go.Proofs
set_option maxRecDepth 1000000

theorem pl14_ev (l : List Stk) (t : Tst) (d00 d01 d02 d03 : Int) (Q : VRes → VH → Prop) : callN Try.prog (tabS [asR l t, casksR l t, apR [[d00, d01, d02, d03]], findR1 l t [[d00, d01, d02, d03]] 4 4, listT]) noL 10 20 0 (.fn 17) [stD l, .agg (tsL t), pthD [[d00, d01, d02, d03]]] ⟨0, []⟩ (fun r h => Q r h) =
  (isD (VH.mk (2) [(1, VB.cells [VV.tl [[d00, d01, d02, d03]].length 1 (pthG [[d00, d01, d02, d03]])] 26), (0, VB.cells [VV.tl t.T.length 1 (dG t.T), I t.far, I t.least] 25)]) 2 (VV.tl l.length 5 (stG l)) (stD l) ∧ isD (VH.mk (2) [(1, VB.cells [VV.tl [[d00, d01, d02, d03]].length 1 (pthG [[d00, d01, d02, d03]])] 26), (0, VB.cells [VV.tl t.T.length 1 (dG t.T), I t.far, I t.least] 25)]) 2 (VV.agg [VV.tl t.T.length 1 (dG t.T), I t.far, I t.least]) (VV.agg (tsL t)) ∧ bif !okAll l t then
 Q (VRes.ret (VV.tup [VV.nils, I 1])) (VH.mk (2) [(1, VB.cells [VV.tl [[d00, d01, d02, d03]].length 1 (pthG [[d00, d01, d02, d03]])] 26), (0, VB.cells [VV.tl t.T.length 1 (dG t.T), I t.far, I t.least] 25)])
 else isD (VH.mk (2) [(1, VB.cells [VV.tl [[d00, d01, d02, d03]].length 1 (pthG [[d00, d01, d02, d03]])] 26), (0, VB.cells [VV.tl t.T.length 1 (dG t.T), I t.far, I t.least] 25)]) 4 (VV.tl [[d00, d01, d02, d03]].length 1 (pthG [[d00, d01, d02, d03]])) (pthD [[d00, d01, d02, d03]]) ∧ pthB [[d00, d01, d02, d03]] ∧ bif !okPaths [[d00, d01, d02, d03]] then
 Q (VRes.ret (VV.tup [VV.nils, I 2])) (VH.mk (2) [(1, VB.cells [VV.tl [[d00, d01, d02, d03]].length 1 (pthG [[d00, d01, d02, d03]])] 26), (0, VB.cells [VV.tl t.T.length 1 (dG t.T), I t.far, I t.least] 25)])
 else isD (maskH [0, 1, 2, 3, 4, 5, 6, 7, 8, 9, 10, 11] (VH.mk (12) ((10, VB.cells [VV.func 44 [] [VV.ptr (VA.own (4) 0), VV.ptr (VA.own (9) 0), VV.ptr (VA.own (1) 0), VV.ptr (VA.own (11) 0)]] 78) :: (11, VB.cells [VV.func 40 [] [VV.ptr (VA.own (3) 0), VV.ptr (VA.own (10) 0), VV.ptr (VA.own (1) 0), VV.ptr (VA.own (6) 0)]] 88) :: (11, VB.cells [VV.nilf] 88) :: (10, VB.cells [VV.nilf] 78) :: (9, VB.cells [VV.mp (8)] 77) :: (9, VB.cells [VV.opq (Value.map none)] 77) :: (8, VB.map ([PK.int IntKind.i64] ++ ([PK.int IntKind.i64] ++ ((List.replicate 6 [PK.int IntKind.i64]).flatten ++ []))) PK.bool []) :: (5, VB.cells [VV.slice (VA.fa (7) 0 0) (↑([[d00, d01, d02, d03]].getD (Int.toNat (0 : Int)) []).length : Int).toNat (↑([[d00, d01, d02, d03]].getD (Int.toNat (0 : Int)) []).length : Int).toNat] 76) :: ([(7, VB.fam [] ((↑([[d00, d01, d02, d03]].getD (Int.toNat (0 : Int)) []).length : Int).toNat * (6)) (fun (_ : Nat) => (0 : Int)) 80)] ++ [(6, VB.cells [VV.slice (VA.own (5) 0) (1) (1)] 75), (6, VB.cells [VV.nils] 75), (5, VB.cells [VV.nils] 76), (4, VB.cells [I (↑([[d00, d01, d02, d03]].getD (Int.toNat (0 : Int)) []).length : Int)] 3), (4, VB.cells [I 0] 3), (3, VB.cells [VV.ptr (VA.own (2) 0)] 72), (3, VB.cells [VV.nilp] 72), (2, VB.cells [VV.tl l.length 5 (stG l), VV.tl t.T.length 1 (dG t.T), I t.far, I t.least] 74), (1, VB.cells [VV.tl [[d00, d01, d02, d03]].length 1 (pthG [[d00, d01, d02, d03]])] 26), (0, VB.cells [VV.tl t.T.length 1 (dG t.T), I t.far, I t.least] 25)])))) 4 (VV.ptr (VA.own (2) 0)) (VV.tp (stD l :: tsL t)) ∧ l.length ≤ 6 ∧ ∃ (S' : Nat), ∃ (a : Nat → Int), ∃ (M : Mde), ∃ (es : Lst), (VV.ptr (VA.own 4 0) = VV.ptr (VA.own 4 0) ∧ VV.ptr (VA.own 9 0) = VV.ptr (VA.own 9 0) ∧ VV.ptr (VA.own 1 0) = VV.ptr (VA.own 1 0) ∧ VV.ptr (VA.own 11 0) = VV.ptr (VA.own 11 0)) ∧ (0 = 0 ∧ 12 ≤ 12) ∧ atL nsB1 (BP1 l t [[d00, d01, d02, d03]] 4 M es) (VH.mk (12) ((10, VB.cells [VV.func 44 [] [VV.ptr (VA.own (4) 0), VV.ptr (VA.own (9) 0), VV.ptr (VA.own (1) 0), VV.ptr (VA.own (11) 0)]] 78) :: (11, VB.cells [VV.func 40 [] [VV.ptr (VA.own (3) 0), VV.ptr (VA.own (10) 0), VV.ptr (VA.own (1) 0), VV.ptr (VA.own (6) 0)]] 88) :: (11, VB.cells [VV.nilf] 88) :: (10, VB.cells [VV.nilf] 78) :: (9, VB.cells [VV.mp (8)] 77) :: (9, VB.cells [VV.opq (Value.map none)] 77) :: (8, VB.map ([PK.int IntKind.i64] ++ ([PK.int IntKind.i64] ++ ((List.replicate 6 [PK.int IntKind.i64]).flatten ++ []))) PK.bool []) :: (5, VB.cells [VV.slice (VA.fa (7) 0 0) (↑([[d00, d01, d02, d03]].getD (Int.toNat (0 : Int)) []).length : Int).toNat (↑([[d00, d01, d02, d03]].getD (Int.toNat (0 : Int)) []).length : Int).toNat] 76) :: ([(7, VB.fam [] ((↑([[d00, d01, d02, d03]].getD (Int.toNat (0 : Int)) []).length : Int).toNat * (6)) (fun (_ : Nat) => (0 : Int)) 80)] ++ [(6, VB.cells [VV.slice (VA.own (5) 0) (1) (1)] 75), (6, VB.cells [VV.nils] 75), (5, VB.cells [VV.nils] 76), (4, VB.cells [I (↑([[d00, d01, d02, d03]].getD (Int.toNat (0 : Int)) []).length : Int)] 3), (4, VB.cells [I 0] 3), (3, VB.cells [VV.ptr (VA.own (2) 0)] 72), (3, VB.cells [VV.nilp] 72), (2, VB.cells [VV.tl l.length 5 (stG l), VV.tl t.T.length 1 (dG t.T), I t.far, I t.least] 74), (1, VB.cells [VV.tl [[d00, d01, d02, d03]].length 1 (pthG [[d00, d01, d02, d03]])] 26), (0, VB.cells [VV.tl t.T.length 1 (dG t.T), I t.far, I t.least] 25)]))) ∧ ((↑4 : Int) - (↑4 : Int) = (↑4 : Int) - (↑4 : Int) ∧ (1 : Int) * (2 : Int) ^ min (↑[[d00, d01, d02, d03]].length : Int).toNat IntKind.i64.bits - (1 : Int) = (↑S' : Int) ∧ [I (mostF l 0), I (mostF l 1), I (mostF l 2), I (mostF l 3), I (mostF l 4), I (mostF l 5)] = nL a) ∧ PreF l t [[d00, d01, d02, d03]] 4 4 S' a es ∧ ∀ (b : Bool) (s : St), PostF l t [[d00, d01, d02, d03]] 4 4 S' a M b s → bif !b then
 Q (VRes.ret (VV.tup [VV.nils, I 4])) (VH.mk (12) [(7, VB.fam [] (4 * 6) (s.M 0) (80 : TypeId)), (8, VB.map [PK.int IntKind.i64, PK.int IntKind.i64, PK.int IntKind.i64, PK.int IntKind.i64, PK.int IntKind.i64, PK.int IntKind.i64, PK.int IntKind.i64, PK.int IntKind.i64] PK.bool s.es), (10, VB.cells [VV.func 44 [] [VV.ptr (VA.own (4) 0), VV.ptr (VA.own (9) 0), VV.ptr (VA.own (1) 0), VV.ptr (VA.own (11) 0)]] 78), (11, VB.cells [VV.func 40 [] [VV.ptr (VA.own (3) 0), VV.ptr (VA.own (10) 0), VV.ptr (VA.own (1) 0), VV.ptr (VA.own (6) 0)]] 88), (11, VB.cells [VV.nilf] 88), (10, VB.cells [VV.nilf] 78), (9, VB.cells [VV.mp (8)] 77), (9, VB.cells [VV.opq (Value.map none)] 77), (8, VB.map [PK.int IntKind.i64, PK.int IntKind.i64, PK.int IntKind.i64, PK.int IntKind.i64, PK.int IntKind.i64, PK.int IntKind.i64, PK.int IntKind.i64, PK.int IntKind.i64] PK.bool []), (5, VB.cells [VV.slice (VA.fa (7) 0 0) (↑([[d00, d01, d02, d03]].getD (Int.toNat (0 : Int)) []).length : Int).toNat (↑([[d00, d01, d02, d03]].getD (Int.toNat (0 : Int)) []).length : Int).toNat] 76), (7, VB.fam [] ((↑([[d00, d01, d02, d03]].getD (Int.toNat (0 : Int)) []).length : Int).toNat * (6)) (fun (_ : Nat) => (0 : Int)) 80), (6, VB.cells [VV.slice (VA.own (5) 0) (1) (1)] 75), (6, VB.cells [VV.nils] 75), (5, VB.cells [VV.nils] 76), (4, VB.cells [I (↑([[d00, d01, d02, d03]].getD (Int.toNat (0 : Int)) []).length : Int)] 3), (4, VB.cells [I 0] 3), (3, VB.cells [VV.ptr (VA.own (2) 0)] 72), (3, VB.cells [VV.nilp] 72), (2, VB.cells [VV.tl l.length 5 (stG l), VV.tl t.T.length 1 (dG t.T), I t.far, I t.least] 74), (1, VB.cells [VV.tl [[d00, d01, d02, d03]].length 1 (pthG [[d00, d01, d02, d03]])] 26), (0, VB.cells [VV.tl t.T.length 1 (dG t.T), I t.far, I t.least] 25)])
 else ∃ (n : Nat → Int), ∃ (m : Nat), [I (setF (fun (_ : Nat) => (0 : Int)) 0 [s.M 0 (0 + Int.toNat (0 : Int) * (6) + 0), s.M 0 (0 + Int.toNat (0 : Int) * (6) + 1), s.M 0 (0 + Int.toNat (0 : Int) * (6) + 2), s.M 0 (0 + Int.toNat (0 : Int) * (6) + 3), s.M 0 (0 + Int.toNat (0 : Int) * (6) + 4), s.M 0 (0 + Int.toNat (0 : Int) * (6) + 5)] (0 + 0)), I (setF (fun (_ : Nat) => (0 : Int)) 0 [s.M 0 (0 + Int.toNat (0 : Int) * (6) + 0), s.M 0 (0 + Int.toNat (0 : Int) * (6) + 1), s.M 0 (0 + Int.toNat (0 : Int) * (6) + 2), s.M 0 (0 + Int.toNat (0 : Int) * (6) + 3), s.M 0 (0 + Int.toNat (0 : Int) * (6) + 4), s.M 0 (0 + Int.toNat (0 : Int) * (6) + 5)] (0 + 1)), I (setF (fun (_ : Nat) => (0 : Int)) 0 [s.M 0 (0 + Int.toNat (0 : Int) * (6) + 0), s.M 0 (0 + Int.toNat (0 : Int) * (6) + 1), s.M 0 (0 + Int.toNat (0 : Int) * (6) + 2), s.M 0 (0 + Int.toNat (0 : Int) * (6) + 3), s.M 0 (0 + Int.toNat (0 : Int) * (6) + 4), s.M 0 (0 + Int.toNat (0 : Int) * (6) + 5)] (0 + 2)), I (setF (fun (_ : Nat) => (0 : Int)) 0 [s.M 0 (0 + Int.toNat (0 : Int) * (6) + 0), s.M 0 (0 + Int.toNat (0 : Int) * (6) + 1), s.M 0 (0 + Int.toNat (0 : Int) * (6) + 2), s.M 0 (0 + Int.toNat (0 : Int) * (6) + 3), s.M 0 (0 + Int.toNat (0 : Int) * (6) + 4), s.M 0 (0 + Int.toNat (0 : Int) * (6) + 5)] (0 + 3)), I (setF (fun (_ : Nat) => (0 : Int)) 0 [s.M 0 (0 + Int.toNat (0 : Int) * (6) + 0), s.M 0 (0 + Int.toNat (0 : Int) * (6) + 1), s.M 0 (0 + Int.toNat (0 : Int) * (6) + 2), s.M 0 (0 + Int.toNat (0 : Int) * (6) + 3), s.M 0 (0 + Int.toNat (0 : Int) * (6) + 4), s.M 0 (0 + Int.toNat (0 : Int) * (6) + 5)] (0 + 4)), I (setF (fun (_ : Nat) => (0 : Int)) 0 [s.M 0 (0 + Int.toNat (0 : Int) * (6) + 0), s.M 0 (0 + Int.toNat (0 : Int) * (6) + 1), s.M 0 (0 + Int.toNat (0 : Int) * (6) + 2), s.M 0 (0 + Int.toNat (0 : Int) * (6) + 3), s.M 0 (0 + Int.toNat (0 : Int) * (6) + 4), s.M 0 (0 + Int.toNat (0 : Int) * (6) + 5)] (0 + 5))] = nL n ∧ (↑l.length : Int) = (↑m : Int) ∧ m ≤ 6 ∧ ∃ (n_1 : Nat → Int), ∃ (m_1 : Nat), [I (setF (fun (_ : Nat) => (0 : Int)) 0 [s.M 0 (0 + ((0 : Int) + (1 : Int)).toNat * (6) + 0), s.M 0 (0 + ((0 : Int) + (1 : Int)).toNat * (6) + 1), s.M 0 (0 + ((0 : Int) + (1 : Int)).toNat * (6) + 2), s.M 0 (0 + ((0 : Int) + (1 : Int)).toNat * (6) + 3), s.M 0 (0 + ((0 : Int) + (1 : Int)).toNat * (6) + 4), s.M 0 (0 + ((0 : Int) + (1 : Int)).toNat * (6) + 5)] (0 + 0)), I (setF (fun (_ : Nat) => (0 : Int)) 0 [s.M 0 (0 + ((0 : Int) + (1 : Int)).toNat * (6) + 0), s.M 0 (0 + ((0 : Int) + (1 : Int)).toNat * (6) + 1), s.M 0 (0 + ((0 : Int) + (1 : Int)).toNat * (6) + 2), s.M 0 (0 + ((0 : Int) + (1 : Int)).toNat * (6) + 3), s.M 0 (0 + ((0 : Int) + (1 : Int)).toNat * (6) + 4), s.M 0 (0 + ((0 : Int) + (1 : Int)).toNat * (6) + 5)] (0 + 1)), I (setF (fun (_ : Nat) => (0 : Int)) 0 [s.M 0 (0 + ((0 : Int) + (1 : Int)).toNat * (6) + 0), s.M 0 (0 + ((0 : Int) + (1 : Int)).toNat * (6) + 1), s.M 0 (0 + ((0 : Int) + (1 : Int)).toNat * (6) + 2), s.M 0 (0 + ((0 : Int) + (1 : Int)).toNat * (6) + 3), s.M 0 (0 + ((0 : Int) + (1 : Int)).toNat * (6) + 4), s.M 0 (0 + ((0 : Int) + (1 : Int)).toNat * (6) + 5)] (0 + 2)), I (setF (fun (_ : Nat) => (0 : Int)) 0 [s.M 0 (0 + ((0 : Int) + (1 : Int)).toNat * (6) + 0), s.M 0 (0 + ((0 : Int) + (1 : Int)).toNat * (6) + 1), s.M 0 (0 + ((0 : Int) + (1 : Int)).toNat * (6) + 2), s.M 0 (0 + ((0 : Int) + (1 : Int)).toNat * (6) + 3), s.M 0 (0 + ((0 : Int) + (1 : Int)).toNat * (6) + 4), s.M 0 (0 + ((0 : Int) + (1 : Int)).toNat * (6) + 5)] (0 + 3)), I (setF (fun (_ : Nat) => (0 : Int)) 0 [s.M 0 (0 + ((0 : Int) + (1 : Int)).toNat * (6) + 0), s.M 0 (0 + ((0 : Int) + (1 : Int)).toNat * (6) + 1), s.M 0 (0 + ((0 : Int) + (1 : Int)).toNat * (6) + 2), s.M 0 (0 + ((0 : Int) + (1 : Int)).toNat * (6) + 3), s.M 0 (0 + ((0 : Int) + (1 : Int)).toNat * (6) + 4), s.M 0 (0 + ((0 : Int) + (1 : Int)).toNat * (6) + 5)] (0 + 4)), I (setF (fun (_ : Nat) => (0 : Int)) 0 [s.M 0 (0 + ((0 : Int) + (1 : Int)).toNat * (6) + 0), s.M 0 (0 + ((0 : Int) + (1 : Int)).toNat * (6) + 1), s.M 0 (0 + ((0 : Int) + (1 : Int)).toNat * (6) + 2), s.M 0 (0 + ((0 : Int) + (1 : Int)).toNat * (6) + 3), s.M 0 (0 + ((0 : Int) + (1 : Int)).toNat * (6) + 4), s.M 0 (0 + ((0 : Int) + (1 : Int)).toNat * (6) + 5)] (0 + 5))] = nL n_1 ∧ (↑l.length : Int) = (↑m_1 : Int) ∧ m_1 ≤ 6 ∧ ∃ (n_2 : Nat → Int), ∃ (m_2 : Nat), [I (setF (fun (_ : Nat) => (0 : Int)) 0 [s.M 0 (0 + ((0 : Int) + (1 : Int) + (1 : Int)).toNat * (6) + 0), s.M 0 (0 + ((0 : Int) + (1 : Int) + (1 : Int)).toNat * (6) + 1), s.M 0 (0 + ((0 : Int) + (1 : Int) + (1 : Int)).toNat * (6) + 2), s.M 0 (0 + ((0 : Int) + (1 : Int) + (1 : Int)).toNat * (6) + 3), s.M 0 (0 + ((0 : Int) + (1 : Int) + (1 : Int)).toNat * (6) + 4), s.M 0 (0 + ((0 : Int) + (1 : Int) + (1 : Int)).toNat * (6) + 5)] (0 + 0)), I (setF (fun (_ : Nat) => (0 : Int)) 0 [s.M 0 (0 + ((0 : Int) + (1 : Int) + (1 : Int)).toNat * (6) + 0), s.M 0 (0 + ((0 : Int) + (1 : Int) + (1 : Int)).toNat * (6) + 1), s.M 0 (0 + ((0 : Int) + (1 : Int) + (1 : Int)).toNat * (6) + 2), s.M 0 (0 + ((0 : Int) + (1 : Int) + (1 : Int)).toNat * (6) + 3), s.M 0 (0 + ((0 : Int) + (1 : Int) + (1 : Int)).toNat * (6) + 4), s.M 0 (0 + ((0 : Int) + (1 : Int) + (1 : Int)).toNat * (6) + 5)] (0 + 1)), I (setF (fun (_ : Nat) => (0 : Int)) 0 [s.M 0 (0 + ((0 : Int) + (1 : Int) + (1 : Int)).toNat * (6) + 0), s.M 0 (0 + ((0 : Int) + (1 : Int) + (1 : Int)).toNat * (6) + 1), s.M 0 (0 + ((0 : Int) + (1 : Int) + (1 : Int)).toNat * (6) + 2), s.M 0 (0 + ((0 : Int) + (1 : Int) + (1 : Int)).toNat * (6) + 3), s.M 0 (0 + ((0 : Int) + (1 : Int) + (1 : Int)).toNat * (6) + 4), s.M 0 (0 + ((0 : Int) + (1 : Int) + (1 : Int)).toNat * (6) + 5)] (0 + 2)), I (setF (fun (_ : Nat) => (0 : Int)) 0 [s.M 0 (0 + ((0 : Int) + (1 : Int) + (1 : Int)).toNat * (6) + 0), s.M 0 (0 + ((0 : Int) + (1 : Int) + (1 : Int)).toNat * (6) + 1), s.M 0 (0 + ((0 : Int) + (1 : Int) + (1 : Int)).toNat * (6) + 2), s.M 0 (0 + ((0 : Int) + (1 : Int) + (1 : Int)).toNat * (6) + 3), s.M 0 (0 + ((0 : Int) + (1 : Int) + (1 : Int)).toNat * (6) + 4), s.M 0 (0 + ((0 : Int) + (1 : Int) + (1 : Int)).toNat * (6) + 5)] (0 + 3)), I (setF (fun (_ : Nat) => (0 : Int)) 0 [s.M 0 (0 + ((0 : Int) + (1 : Int) + (1 : Int)).toNat * (6) + 0), s.M 0 (0 + ((0 : Int) + (1 : Int) + (1 : Int)).toNat * (6) + 1), s.M 0 (0 + ((0 : Int) + (1 : Int) + (1 : Int)).toNat * (6) + 2), s.M 0 (0 + ((0 : Int) + (1 : Int) + (1 : Int)).toNat * (6) + 3), s.M 0 (0 + ((0 : Int) + (1 : Int) + (1 : Int)).toNat * (6) + 4), s.M 0 (0 + ((0 : Int) + (1 : Int) + (1 : Int)).toNat * (6) + 5)] (0 + 4)), I (setF (fun (_ : Nat) => (0 : Int)) 0 [s.M 0 (0 + ((0 : Int) + (1 : Int) + (1 : Int)).toNat * (6) + 0), s.M 0 (0 + ((0 : Int) + (1 : Int) + (1 : Int)).toNat * (6) + 1), s.M 0 (0 + ((0 : Int) + (1 : Int) + (1 : Int)).toNat * (6) + 2), s.M 0 (0 + ((0 : Int) + (1 : Int) + (1 : Int)).toNat * (6) + 3), s.M 0 (0 + ((0 : Int) + (1 : Int) + (1 : Int)).toNat * (6) + 4), s.M 0 (0 + ((0 : Int) + (1 : Int) + (1 : Int)).toNat * (6) + 5)] (0 + 5))] = nL n_2 ∧ (↑l.length : Int) = (↑m_2 : Int) ∧ m_2 ≤ 6 ∧ ∃ (n_3 : Nat → Int), ∃ (m_3 : Nat), [I (setF (fun (_ : Nat) => (0 : Int)) 0 [s.M 0 (0 + ((0 : Int) + (1 : Int) + (1 : Int) + (1 : Int)).toNat * (6) + 0), s.M 0 (0 + ((0 : Int) + (1 : Int) + (1 : Int) + (1 : Int)).toNat * (6) + 1), s.M 0 (0 + ((0 : Int) + (1 : Int) + (1 : Int) + (1 : Int)).toNat * (6) + 2), s.M 0 (0 + ((0 : Int) + (1 : Int) + (1 : Int) + (1 : Int)).toNat * (6) + 3), s.M 0 (0 + ((0 : Int) + (1 : Int) + (1 : Int) + (1 : Int)).toNat * (6) + 4), s.M 0 (0 + ((0 : Int) + (1 : Int) + (1 : Int) + (1 : Int)).toNat * (6) + 5)] (0 + 0)), I (setF (fun (_ : Nat) => (0 : Int)) 0 [s.M 0 (0 + ((0 : Int) + (1 : Int) + (1 : Int) + (1 : Int)).toNat * (6) + 0), s.M 0 (0 + ((0 : Int) + (1 : Int) + (1 : Int) + (1 : Int)).toNat * (6) + 1), s.M 0 (0 + ((0 : Int) + (1 : Int) + (1 : Int) + (1 : Int)).toNat * (6) + 2), s.M 0 (0 + ((0 : Int) + (1 : Int) + (1 : Int) + (1 : Int)).toNat * (6) + 3), s.M 0 (0 + ((0 : Int) + (1 : Int) + (1 : Int) + (1 : Int)).toNat * (6) + 4), s.M 0 (0 + ((0 : Int) + (1 : Int) + (1 : Int) + (1 : Int)).toNat * (6) + 5)] (0 + 1)), I (setF (fun (_ : Nat) => (0 : Int)) 0 [s.M 0 (0 + ((0 : Int) + (1 : Int) + (1 : Int) + (1 : Int)).toNat * (6) + 0), s.M 0 (0 + ((0 : Int) + (1 : Int) + (1 : Int) + (1 : Int)).toNat * (6) + 1), s.M 0 (0 + ((0 : Int) + (1 : Int) + (1 : Int) + (1 : Int)).toNat * (6) + 2), s.M 0 (0 + ((0 : Int) + (1 : Int) + (1 : Int) + (1 : Int)).toNat * (6) + 3), s.M 0 (0 + ((0 : Int) + (1 : Int) + (1 : Int) + (1 : Int)).toNat * (6) + 4), s.M 0 (0 + ((0 : Int) + (1 : Int) + (1 : Int) + (1 : Int)).toNat * (6) + 5)] (0 + 2)), I (setF (fun (_ : Nat) => (0 : Int)) 0 [s.M 0 (0 + ((0 : Int) + (1 : Int) + (1 : Int) + (1 : Int)).toNat * (6) + 0), s.M 0 (0 + ((0 : Int) + (1 : Int) + (1 : Int) + (1 : Int)).toNat * (6) + 1), s.M 0 (0 + ((0 : Int) + (1 : Int) + (1 : Int) + (1 : Int)).toNat * (6) + 2), s.M 0 (0 + ((0 : Int) + (1 : Int) + (1 : Int) + (1 : Int)).toNat * (6) + 3), s.M 0 (0 + ((0 : Int) + (1 : Int) + (1 : Int) + (1 : Int)).toNat * (6) + 4), s.M 0 (0 + ((0 : Int) + (1 : Int) + (1 : Int) + (1 : Int)).toNat * (6) + 5)] (0 + 3)), I (setF (fun (_ : Nat) => (0 : Int)) 0 [s.M 0 (0 + ((0 : Int) + (1 : Int) + (1 : Int) + (1 : Int)).toNat * (6) + 0), s.M 0 (0 + ((0 : Int) + (1 : Int) + (1 : Int) + (1 : Int)).toNat * (6) + 1), s.M 0 (0 + ((0 : Int) + (1 : Int) + (1 : Int) + (1 : Int)).toNat * (6) + 2), s.M 0 (0 + ((0 : Int) + (1 : Int) + (1 : Int) + (1 : Int)).toNat * (6) + 3), s.M 0 (0 + ((0 : Int) + (1 : Int) + (1 : Int) + (1 : Int)).toNat * (6) + 4), s.M 0 (0 + ((0 : Int) + (1 : Int) + (1 : Int) + (1 : Int)).toNat * (6) + 5)] (0 + 4)), I (setF (fun (_ : Nat) => (0 : Int)) 0 [s.M 0 (0 + ((0 : Int) + (1 : Int) + (1 : Int) + (1 : Int)).toNat * (6) + 0), s.M 0 (0 + ((0 : Int) + (1 : Int) + (1 : Int) + (1 : Int)).toNat * (6) + 1), s.M 0 (0 + ((0 : Int) + (1 : Int) + (1 : Int) + (1 : Int)).toNat * (6) + 2), s.M 0 (0 + ((0 : Int) + (1 : Int) + (1 : Int) + (1 : Int)).toNat * (6) + 3), s.M 0 (0 + ((0 : Int) + (1 : Int) + (1 : Int) + (1 : Int)).toNat * (6) + 4), s.M 0 (0 + ((0 : Int) + (1 : Int) + (1 : Int) + (1 : Int)).toNat * (6) + 5)] (0 + 5))] = nL n_3 ∧ (↑l.length : Int) = (↑m_3 : Int) ∧ m_3 ≤ 6 ∧ Q (VRes.ret (VV.tup [VV.sl (22) 1, I 0])) (VH.mk (23) [(22, VB.vec 1 (fun (j : Nat) => List.take (1) (List.drop (j * (1)) (List.take (1 * (1)) (List.drop 0 [VV.tl (1 + 1 + 1 + 1) (1) (catG (1 + 1 + 1) (catG (1 + 1) (catG 1 (fun (j : Nat) => List.take (1) (List.drop (j * (1)) [VV.tl m 1 (chG n)])) fun (j : Nat) => List.take (1) (List.drop (j * (1)) [VV.tl m_1 1 (chG n_1)])) fun (j : Nat) => List.take (1) (List.drop (j * (1)) [VV.tl m_2 1 (chG n_2)])) fun (j : Nat) => List.take (1) (List.drop (j * (1)) [VV.tl m_3 1 (chG n_3)]))])))) (1) 26), (21, VB.cells [VV.tl (1 + 1 + 1 + 1) (1) (catG (1 + 1 + 1) (catG (1 + 1) (catG 1 (fun (j : Nat) => List.take (1) (List.drop (j * (1)) [VV.tl m 1 (chG n)])) fun (j : Nat) => List.take (1) (List.drop (j * (1)) [VV.tl m_1 1 (chG n_1)])) fun (j : Nat) => List.take (1) (List.drop (j * (1)) [VV.tl m_2 1 (chG n_2)])) fun (j : Nat) => List.take (1) (List.drop (j * (1)) [VV.tl m_3 1 (chG n_3)]))] 26), (14, VB.gone), (21, VB.cells [VV.sl (14) (1 + 1 + 1 + 1)] 26), (14, VB.vec (1 + 1 + 1 + 1) (catG (1 + 1 + 1) (catG (1 + 1) (catG 1 (fun (j : Nat) => List.take (1) (List.drop (j * (1)) [VV.tl m 1 (chG n)])) fun (j : Nat) => List.take (1) (List.drop (j * (1)) [VV.tl m_1 1 (chG n_1)])) fun (j : Nat) => List.take (1) (List.drop (j * (1)) [VV.tl m_2 1 (chG n_2)])) fun (j : Nat) => List.take (1) (List.drop (j * (1)) [VV.tl m_3 1 (chG n_3)])) (1) 23), (20, VB.vec 1 (fun (j : Nat) => List.take (1) (List.drop (j * (1)) [VV.tl m_3 1 (chG n_3)])) (1) 23), (19, VB.fam [] (6) (setF (fun (_ : Nat) => (0 : Int)) 0 [s.M 0 (0 + ((0 : Int) + (1 : Int) + (1 : Int) + (1 : Int)).toNat * (6) + 0), s.M 0 (0 + ((0 : Int) + (1 : Int) + (1 : Int) + (1 : Int)).toNat * (6) + 1), s.M 0 (0 + ((0 : Int) + (1 : Int) + (1 : Int) + (1 : Int)).toNat * (6) + 2), s.M 0 (0 + ((0 : Int) + (1 : Int) + (1 : Int) + (1 : Int)).toNat * (6) + 3), s.M 0 (0 + ((0 : Int) + (1 : Int) + (1 : Int) + (1 : Int)).toNat * (6) + 4), s.M 0 (0 + ((0 : Int) + (1 : Int) + (1 : Int) + (1 : Int)).toNat * (6) + 5)]) 80), (19, VB.fam [] (6) (fun (_ : Nat) => (0 : Int)) 80), (14, VB.vec (1 + 1 + 1) (catG (1 + 1) (catG 1 (fun (j : Nat) => List.take (1) (List.drop (j * (1)) [VV.tl m 1 (chG n)])) fun (j : Nat) => List.take (1) (List.drop (j * (1)) [VV.tl m_1 1 (chG n_1)])) fun (j : Nat) => List.take (1) (List.drop (j * (1)) [VV.tl m_2 1 (chG n_2)])) (1) 23), (18, VB.vec 1 (fun (j : Nat) => List.take (1) (List.drop (j * (1)) [VV.tl m_2 1 (chG n_2)])) (1) 23), (17, VB.fam [] (6) (setF (fun (_ : Nat) => (0 : Int)) 0 [s.M 0 (0 + ((0 : Int) + (1 : Int) + (1 : Int)).toNat * (6) + 0), s.M 0 (0 + ((0 : Int) + (1 : Int) + (1 : Int)).toNat * (6) + 1), s.M 0 (0 + ((0 : Int) + (1 : Int) + (1 : Int)).toNat * (6) + 2), s.M 0 (0 + ((0 : Int) + (1 : Int) + (1 : Int)).toNat * (6) + 3), s.M 0 (0 + ((0 : Int) + (1 : Int) + (1 : Int)).toNat * (6) + 4), s.M 0 (0 + ((0 : Int) + (1 : Int) + (1 : Int)).toNat * (6) + 5)]) 80), (17, VB.fam [] (6) (fun (_ : Nat) => (0 : Int)) 80), (14, VB.vec (1 + 1) (catG 1 (fun (j : Nat) => List.take (1) (List.drop (j * (1)) [VV.tl m 1 (chG n)])) fun (j : Nat) => List.take (1) (List.drop (j * (1)) [VV.tl m_1 1 (chG n_1)])) (1) 23), (16, VB.vec 1 (fun (j : Nat) => List.take (1) (List.drop (j * (1)) [VV.tl m_1 1 (chG n_1)])) (1) 23), (15, VB.fam [] (6) (setF (fun (_ : Nat) => (0 : Int)) 0 [s.M 0 (0 + ((0 : Int) + (1 : Int)).toNat * (6) + 0), s.M 0 (0 + ((0 : Int) + (1 : Int)).toNat * (6) + 1), s.M 0 (0 + ((0 : Int) + (1 : Int)).toNat * (6) + 2), s.M 0 (0 + ((0 : Int) + (1 : Int)).toNat * (6) + 3), s.M 0 (0 + ((0 : Int) + (1 : Int)).toNat * (6) + 4), s.M 0 (0 + ((0 : Int) + (1 : Int)).toNat * (6) + 5)]) 80), (15, VB.fam [] (6) (fun (_ : Nat) => (0 : Int)) 80), (14, VB.vec 1 (fun (j : Nat) => List.take (1) (List.drop (j * (1)) [VV.tl m 1 (chG n)])) (1) 23), (13, VB.vec 1 (fun (j : Nat) => List.take (1) (List.drop (j * (1)) [VV.tl m 1 (chG n)])) (1) 23), (12, VB.fam [] (6) (setF (fun (_ : Nat) => (0 : Int)) 0 [s.M 0 (0 + Int.toNat (0 : Int) * (6) + 0), s.M 0 (0 + Int.toNat (0 : Int) * (6) + 1), s.M 0 (0 + Int.toNat (0 : Int) * (6) + 2), s.M 0 (0 + Int.toNat (0 : Int) * (6) + 3), s.M 0 (0 + Int.toNat (0 : Int) * (6) + 4), s.M 0 (0 + Int.toNat (0 : Int) * (6) + 5)]) 80), (12, VB.fam [] (6) (fun (_ : Nat) => (0 : Int)) 80), (7, VB.fam [] (4 * 6) (s.M 0) (80 : TypeId)), (8, VB.map [PK.int IntKind.i64, PK.int IntKind.i64, PK.int IntKind.i64, PK.int IntKind.i64, PK.int IntKind.i64, PK.int IntKind.i64, PK.int IntKind.i64, PK.int IntKind.i64] PK.bool s.es), (10, VB.cells [VV.func 44 [] [VV.ptr (VA.own (4) 0), VV.ptr (VA.own (9) 0), VV.ptr (VA.own (1) 0), VV.ptr (VA.own (11) 0)]] 78), (11, VB.cells [VV.func 40 [] [VV.ptr (VA.own (3) 0), VV.ptr (VA.own (10) 0), VV.ptr (VA.own (1) 0), VV.ptr (VA.own (6) 0)]] 88), (11, VB.cells [VV.nilf] 88), (10, VB.cells [VV.nilf] 78), (9, VB.cells [VV.mp (8)] 77), (9, VB.cells [VV.opq (Value.map none)] 77), (8, VB.map [PK.int IntKind.i64, PK.int IntKind.i64, PK.int IntKind.i64, PK.int IntKind.i64, PK.int IntKind.i64, PK.int IntKind.i64, PK.int IntKind.i64, PK.int IntKind.i64] PK.bool []), (5, VB.cells [VV.slice (VA.fa (7) 0 0) (↑([[d00, d01, d02, d03]].getD (Int.toNat (0 : Int)) []).length : Int).toNat (↑([[d00, d01, d02, d03]].getD (Int.toNat (0 : Int)) []).length : Int).toNat] 76), (7, VB.fam [] ((↑([[d00, d01, d02, d03]].getD (Int.toNat (0 : Int)) []).length : Int).toNat * (6)) (fun (_ : Nat) => (0 : Int)) 80), (6, VB.cells [VV.slice (VA.own (5) 0) (1) (1)] 75), (6, VB.cells [VV.nils] 75), (5, VB.cells [VV.nils] 76), (4, VB.cells [I (↑([[d00, d01, d02, d03]].getD (Int.toNat (0 : Int)) []).length : Int)] 3), (4, VB.cells [I 0] 3), (3, VB.cells [VV.ptr (VA.own (2) 0)] 72), (3, VB.cells [VV.nilp] 72), (2, VB.cells [VV.tl l.length 5 (stG l), VV.tl t.T.length 1 (dG t.T), I t.far, I t.least] 74), (1, VB.cells [VV.tl [[d00, d01, d02, d03]].length 1 (pthG [[d00, d01, d02, d03]])] 26), (0, VB.cells [VV.tl t.T.length 1 (dG t.T), I t.far, I t.least] 25)])) := by kernel_rfl

end Go.Sx.Bln

/- blend: Plan with 1 paths of 4 years. -/

namespace Go.Sx.Bln
open Go Go.Sx Go.Proofs
set_option maxRecDepth 1000000

theorem pln14_v {l : List Stk} {t : Tst} {d00 d01 d02 d03 : Int} (h1 : okAll l t = true) (h2 : okPaths [[d00, d01, d02, d03]] = true) (cf : Cfg l t [[d00, d01, d02, d03]] 4) (hpb : pthB [[d00, d01, d02, d03]]) : ∃ r h', CallsV Try.prog 17 [stD l, .agg (tsL t), pthD [[d00, d01, d02, d03]]] ⟨0, []⟩ r h' ∧ PlnK l t [[d00, d01, d02, d03]] 4 r h' := by
  have hl6 := cf.hl.1
  have htab : ∀ f T, tabS [asR l t, casksR l t, apR [[d00, d01, d02, d03]], findR1 l t [[d00, d01, d02, d03]] 4 4, listT] f = some T → SpOk Try.prog f T := tab_ok _ (fun x hx => by
    simp only [List.mem_cons, List.not_mem_nil, or_false] at hx
    rcases hx with rfl | rfl | rfl | rfl | rfl
    · exact asR_ok l t
    · exact casksR_ok l t
    · exact apR_ok _
    · exact findR1_ok cf 4
    · exact listT_ok)
  obtain ⟨r, h', hk, hc⟩ := of_callN (noL_good htab) (f := 17) (args := [stD l, .agg (tsL t), pthD [[d00, d01, d02, d03]]]) (h := ⟨0, []⟩) (K := PlnK l t [[d00, d01, d02, d03]] 4) (by
    refine cast (pl14_ev l t d00 d01 d02 d03 _).symm ⟨isD_l, ⟨⟨rfl, rfl, fun _ _ => rfl⟩, ⟨rfl, rfl⟩, ⟨rfl, rfl⟩, trivial⟩, cond_i (fun h => by rw [h1] at h; cases h) (fun _ => ⟨⟨rfl, rfl, fun _ _ => rfl⟩, hpb, cond_i (fun h => by rw [h2] at h; cases h) (fun _ => ?_)⟩)⟩
    refine ⟨hc61 rfl, hl6, 1, mostF l, fun _ _ => 0, [], ⟨rfl, rfl, rfl, rfl⟩, ⟨rfl, Nat.le_refl _⟩, ⟨rfl, rfl, rfl, rfl, rfl, rfl, rfl, rfl, rfl, rfl, rfl, rfl, trivial⟩, ⟨rfl, rfl, rfl⟩, ⟨Nat.le_refl _, (by show 1 < 2 ^ 1; decide), most_left cf.hl, lost_nil⟩, ?_⟩
    rintro b s ⟨p1, p2, p3, p4⟩
    refine cond_i (fun g => ?_) (fun g => ?_)
    · have g : b = false := by simpa using g
      subst g
      refine .inl ⟨?_, rfl⟩
      cases hx : planF l t [[d00, d01, d02, d03]] 4 4 1 (mostF l) with
      | none => exact hx
      | some x => rw [hx] at p1; cases p1
    · have g : b = true := by simpa using g
      subst g
      obtain ⟨x, hx⟩ : ∃ x, planF l t [[d00, d01, d02, d03]] 4 4 1 (mostF l) = some x := by
        cases hx : planF l t [[d00, d01, d02, d03]] 4 4 1 (mostF l) with
        | none => rw [hx] at p1; cases p1
        | some x => exact ⟨x, rfl⟩
      refine ⟨fun j => s.M 0 (0 * 6 + j), l.length, rfl, rfl, hl6, fun j => s.M 0 (1 * 6 + j), l.length, rfl, rfl, hl6, fun j => s.M 0 (2 * 6 + j), l.length, rfl, rfl, hl6, fun j => s.M 0 (3 * 6 + j), l.length, rfl, rfl, hl6, .inr ⟨x, _, _, _, hx, rfl, rfl, fun i hi => ?_⟩⟩
      have hi : i < 1 := hi
      match i, hi with
      | 0, _ =>
            refine tl_weak rfl (fun y hy => ?_)
            match y, hy with
            | 0, _ => exact wk_ch (fun j hj => p4 x hx 0 0 j (by omega) rfl (by omega) (by omega))
            | 1, _ => exact wk_ch (fun j hj => p4 x hx 0 1 j (by omega) rfl (by omega) (by omega))
            | 2, _ => exact wk_ch (fun j hj => p4 x hx 0 2 j (by omega) rfl (by omega) (by omega))
            | 3, _ => exact wk_ch (fun j hj => p4 x hx 0 3 j (by omega) rfl (by omega) (by omega))
            | _ + 4, hy => exact absurd hy (by omega)
      | _ + 1, hi => exact absurd hi (by omega))
  exact ⟨r, h', hc, hk⟩
end Go.Sx.Bln

/- blend: Plan of one path, and Lasts. -/

namespace Go.Sx.Bln
open Go Go.Sx Go.Proofs
set_option maxRecDepth 1000000

theorem asK_ok (l : List Stk) (t : Tst) (b : Bool) : SpOk Try.prog (asK l t b).1 (asK l t b).2 := by
  intro lock args h K hK
  simp only [asK] at hK
  split at hK
  · obtain ⟨h1, h2, rfl, hK⟩ := hK
    exact asT_ok lock _ h K ⟨l, t, h1, h2, hK⟩
  · exact hK.elim
theorem apK_ok (p : List (List Int)) (b : Bool) : SpOk Try.prog (apK p b).1 (apK p b).2 := by
  intro lock args h K hK
  simp only [apK] at hK
  split at hK
  · obtain ⟨h1, ⟨h2, rfl⟩, hK⟩ := hK
    exact apR_ok p lock _ h K ⟨h1, h2, hK⟩
  · exact hK.elim

section
variable {l : List Stk} {t : Tst} {p : List (List Int)} {m : Int}

/-- What good paths are like. -/
theorem paths_of (h : okPaths p = true) : (1 ≤ p.length ∧ p.length ≤ 4) ∧ (1 ≤ (p.getD 0 []).length ∧ (p.getD 0 []).length ≤ 4) ∧ (∀ i, i < p.length → (p.getD i []).length = (p.getD 0 []).length) ∧ ndB p := by
  unfold okPaths at h
  simp only [Bool.and_eq_true, decide_eq_true_eq, Bool.not_eq_true'] at h
  obtain ⟨⟨h1, h2⟩, h3⟩ := h
  unfold anyPt at h3
  rw [List.any_eq_false] at h3
  have h4 : ∀ i, i < p.length → (p.getD i []).length = (p.getD 0 []).length ∧ anyNd (p.getD i []) = false := fun i hi => by
    have := h3 i (List.mem_range.2 hi)
    unfold qPt okPt at this
    simpa using this
  refine ⟨h1, h2, fun i hi => (h4 i hi).1, fun i j => ?_⟩
  by_cases hi : i < p.length
  · have h5 := (h4 i hi).2
    by_cases hj : j < (p.getD i []).length
    · unfold anyNd at h5
      rw [List.any_eq_false] at h5
      have := h5 j (List.mem_range.2 hj)
      unfold qNd okW at this
      simpa using this
    · rw [List.getD_eq_getElem?_getD (l := p.getD i []), List.getElem?_eq_none (by omega)]
      exact ⟨by decide, by decide⟩
  · rw [List.getD_eq_getElem?_getD (l := p), List.getElem?_eq_none (by omega)]
    exact ⟨by simp, by simp⟩
theorem cfg_of (ho : okAll l t = true) (h : okPaths p = true) : Cfg l t p (p.getD 0 []).length := by
  obtain ⟨hl, hp, ht, _⟩ := okAll_l ho
  obtain ⟨h1, h2, h3, h4⟩ := paths_of h
  exact ⟨hl, hp, okT_tB ht, h2.2, h1.2, h3, h4⟩

/-- Plan of good stocks and paths, told as data. -/
def PlnOut (l : List Stk) (t : Tst) (p : List (List Int)) : Prop := ∃ r h', CallsV Try.prog 17 [stD l, .agg (tsL t), pthD p] ⟨0, []⟩ r h' ∧ ((plE l t p ≠ 0 ∧ r = .ret (.tup [.nils, I (plE l t p)])) ∨ (plE l t p = 0 ∧ ∃ x, planF l t p (p.getD 0 []).length (p.getD 0 []).length (2 ^ p.length - 1) (mostF l) = some x ∧ r = .ret (.tup [plnD l.length p.length (p.getD 0 []).length x, I 0])))
theorem plE_1 (h : okAll l t = false) : plE l t p = 1 := by unfold plE; rw [if_pos h]
theorem plE_2 (h : okAll l t = true) (h2 : okPaths p = false) : plE l t p = 2 := by unfold plE; rw [if_neg (by rw [h]; simp), if_pos h2]
theorem plE_n (h : okAll l t = true) (h2 : okPaths p = true) (h3 : planF l t p (p.getD 0 []).length (p.getD 0 []).length (2 ^ p.length - 1) (mostF l) = none) : plE l t p = 4 := by unfold plE; rw [if_neg (by rw [h]; simp), if_neg (by rw [h2]; simp), h3]
theorem plE_s (h : okAll l t = true) (h2 : okPaths p = true) {x : Rsl} (h3 : planF l t p (p.getD 0 []).length (p.getD 0 []).length (2 ^ p.length - 1) (mostF l) = some x) : plE l t p = 0 := by unfold plE; rw [if_neg (by rw [h]; simp), if_neg (by rw [h2]; simp), h3]
theorem pln_out (ho : okAll l t = true) (hp : okPaths p = true) {r : VRes} {h' : VH} (hc : CallsV Try.prog 17 [stD l, .agg (tsL t), pthD p] ⟨0, []⟩ r h') (hk : PlnK l t p (p.getD 0 []).length r h') : PlnOut l t p := by
  rcases pln_tell hc hk with ⟨h1, h2, hc2⟩ | ⟨x, h2, h1, hc2⟩
  · exact ⟨_, _, hc2, .inl ⟨by rw [plE_n ho hp h1]; decide, by rw [plE_n ho hp h1]⟩⟩
  · exact ⟨_, _, hc2, .inr ⟨plE_s ho hp h1, x, h1, rfl⟩⟩
theorem plnE_v (h : okAll l t = false ∨ (pthB p ∧ okPaths p = false)) : PlnOut l t p := by
  cases ho : okAll l t with
  | false =>
    obtain ⟨r, h', rfl, hc⟩ := of_callN (noL_good (tab1 (asK_ok l t false))) (f := 17) (args := [stD l, .agg (tsL t), pthD p]) (h := ⟨0, []⟩) (K := fun r _ => r = .ret (.tup [.nils, I 1])) (cast (ple1_ev l t p _).symm ⟨isD_l, isD_t, ho, rfl⟩)
    exact ⟨_, _, hc, .inl ⟨by rw [plE_1 ho]; decide, by rw [plE_1 ho]⟩⟩
  | true =>
    obtain ⟨hb, hp⟩ := h.resolve_left (by rw [ho]; simp)
    have htab : ∀ f T, tabS [asK l t true, apK p false] f = some T → SpOk Try.prog f T := tab_ok _ (fun x hx => by
      simp only [List.mem_cons, List.not_mem_nil, or_false] at hx
      rcases hx with rfl | rfl
      · exact asK_ok l t true
      · exact apK_ok p false)
    obtain ⟨r, h', rfl, hc⟩ := of_callN (noL_good htab) (f := 17) (args := [stD l, .agg (tsL t), pthD p]) (h := ⟨0, []⟩) (K := fun r _ => r = .ret (.tup [.nils, I 2])) (cast (ple2_ev l t p _).symm ⟨isD_l, isD_t, ho, ⟨rfl, rfl, fun _ _ => rfl⟩, ⟨hb, hp⟩, rfl⟩)
    exact ⟨_, _, hc, .inl ⟨by rw [plE_2 ho hp]; decide, by rw [plE_2 ho hp]⟩⟩

/-- Plan of one path. -/
theorem plnO_v {d : List Int} (hd : d.length ≤ 100000) : PlnOut l t [d] := by
  cases ho : okAll l t with
  | false => exact plnE_v (.inl ho)
  | true =>
    have hb : pthB [d] := ⟨⟨Nat.le_refl _, by show 1 ≤ 100000; omega⟩, fun i => by
      match i with
      | 0 => exact hd
      | _ + 1 => exact Nat.zero_le _⟩
    cases hp : okPaths [d] with
    | false => exact plnE_v (.inr ⟨hb, hp⟩)
    | true =>
      have cf := cfg_of (l := l) (t := t) ho hp
      have hY : 1 ≤ d.length ∧ d.length ≤ 4 := (paths_of hp).2.1
      match d, hY with
      | [a], _ => obtain ⟨r, h', hc, hk⟩ := pln11_v ho hp cf hb; exact pln_out ho hp hc hk
      | [a, b], _ => obtain ⟨r, h', hc, hk⟩ := pln12_v ho hp cf hb; exact pln_out ho hp hc hk
      | [a, b, c], _ => obtain ⟨r, h', hc, hk⟩ := pln13_v ho hp cf hb; exact pln_out ho hp hc hk
      | [a, b, c, e], _ => obtain ⟨r, h', hc, hk⟩ := pln14_v ho hp cf hb; exact pln_out ho hp hc hk
      | _ :: _ :: _ :: _ :: _ :: _, h => exact absurd h.2 (by simp only [List.length_cons]; omega)
      | [], h => exact absurd h.1 (by simp)

theorem plnO_any {d : List Int} (hd : d.length ≤ 100000) : ∃ h', CallsV Try.prog 17 [stD l, .agg (tsL t), pthD [d]] ⟨0, []⟩ (.ret (.tup [.any, I (plE l t [d])])) h' := by
  obtain ⟨r, h', hc, ⟨_, rfl⟩ | ⟨he, x, _, rfl⟩⟩ := plnO_v (l := l) (t := t) hd
  · refine ⟨h', calls_res hc (fun R x hx => ?_)⟩
    obtain ⟨xs, ⟨y, ys, _, h2, rfl⟩, rfl⟩ := hx
    exact ⟨_, ⟨y, ys, trivial, h2, rfl⟩, rfl⟩
  · refine ⟨h', calls_res hc (fun R x hx => ?_)⟩
    obtain ⟨xs, ⟨y, ys, _, h2, rfl⟩, rfl⟩ := hx
    rw [he]
    exact ⟨_, ⟨y, ys, trivial, h2, rfl⟩, rfl⟩
theorem plR1_ok (l : List Stk) (t : Tst) : SpOk Try.prog (plR1 l t).1 (plR1 l t).2 := by
  intro lock args h K hK
  simp only [plR1] at hK
  split at hK
  · obtain ⟨h1, h2, d, h3, h4, hK⟩ := hK
    obtain ⟨h', hc⟩ := plnO_any (l := l) (t := t) h4
    exact ⟨_, h, hK _ rfl, lockP_refl _ _, calls_lendDP 4 hc rfl ⟨h1, h2, h3, trivial⟩⟩
  · exact hK.elim

/-- How many years stocks last. -/
def lasF (l : List Stk) (t : Tst) (m : Int) : Int := if plE l t [[m]] ≠ 0 then 0 else if plE l t [[m, m]] ≠ 0 then 1 else if plE l t [[m, m, m]] ≠ 0 then 2 else if plE l t [[m, m, m, m]] ≠ 0 then 3 else 4
def lasE (l : List Stk) (t : Tst) (m : Int) : Int := if okAll l t = false then 1 else if ¬ (0 ≤ m ∧ m ≤ 1048576) then 2 else 0
def lasN (l : List Stk) (t : Tst) (m : Int) : Int := if lasE l t m ≠ 0 then 0 else lasF l t m

theorem isD_pth {h : VH} {a b : Nat} {n : Nat} {d : List Int} {ty ty2 : TypeId} {g : Nat → List VV} (hn : d.length = n) (hb : h.at b = .cells [.sl a n] ty) (ha : h.at a = .vec n g 1 ty2) (hg : ∀ j, j < n → g j = dG d j) : isD h 4 (.slice (.own b 0) 1 1) (pthD [d]) := by
  refine ⟨rfl, Nat.le_refl _, _, _, hb, Nat.le_refl _, fun j hj => ?_⟩
  obtain rfl : j = 0 := by omega
  exact ⟨⟨⟨hn, Nat.le_refl _, _, _, ha, hg⟩, trivial⟩, rfl⟩

theorem lasts_v : ∃ h', CallsV Try.prog 22 [stD l, .agg (tsL t), I m] ⟨0, []⟩ (.ret (.tup [I (lasN l t m), I (lasE l t m)])) h' := by
  cases ho : okAll l t with
  | false =>
    obtain ⟨r, h', rfl, hc⟩ := of_callN (noL_good (tab1 (asK_ok l t false))) (f := 22) (args := [stD l, .agg (tsL t), I m]) (h := ⟨0, []⟩) (K := fun r _ => r = .ret (.tup [I 0, I 1])) (cast (la1_ev l t m _).symm ⟨isD_l, isD_t, ho, rfl⟩)
    have e1 : lasE l t m = 1 := by unfold lasE; rw [if_pos ho]
    have e2 : lasN l t m = 0 := by unfold lasN; rw [if_pos (by rw [e1]; decide)]
    exact ⟨h', by rw [e1, e2]; exact hc⟩
  | true =>
    have htab : ∀ f T, tabS [asK l t true, plR1 l t] f = some T → SpOk Try.prog f T := tab_ok _ (fun x hx => by
      simp only [List.mem_cons, List.not_mem_nil, or_false] at hx
      rcases hx with rfl | rfl
      · exact asK_ok l t true
      · exact plR1_ok l t)
    obtain ⟨r, h', rfl, hc⟩ := of_callN (noL_good htab) (f := 22) (args := [stD l, .agg (tsL t), I m]) (h := ⟨0, []⟩) (K := fun r _ => r = .ret (.tup [I (lasN l t m), I (lasE l t m)])) (by
      refine cast (la_ev l t m _).symm ⟨isD_l, isD_t, ho, ?_⟩
      by_cases h0 : 0 ≤ m
      · refine cond_dk h0 (cond_nd (fun h1 => ?_) (fun h1 => ?_))
        · have e1 : lasE l t m = 2 := by unfold lasE; rw [if_neg (by rw [ho]; simp), if_pos (fun h => h1 h.2)]
          have e2 : lasN l t m = 0 := by unfold lasN; rw [if_pos (by rw [e1]; decide)]
          rw [e1, e2]
        · have e1 : lasE l t m = 0 := by unfold lasE; rw [if_neg (by rw [ho]; simp), if_neg (fun h => h ⟨h0, h1⟩)]
          have e2 : lasN l t m = lasF l t m := by unfold lasN; rw [if_neg (fun h => h e1)]
          rw [e1, e2]
          unfold lasF
          refine ⟨isD_l, isD_t, [m], isD_pth rfl rfl rfl (fun j hj => by match j, hj with | 0, _ => rfl | _ + 1, hj => exact absurd hj (by simp)), by simp, fun e he => cond_nd (fun h => ?_) (fun h => ?_)⟩
          · rw [if_pos (by rw [← he]; exact h)]
          rw [if_neg (fun hn => hn (he.symm.trans h))]
          refine ⟨isD_l, isD_t, [m, m], isD_pth rfl rfl rfl (fun j hj => by match j, hj with | 0, _ => rfl | 1, _ => rfl | _ + 2, hj => exact absurd hj (by simp)), by simp, fun e he => cond_nd (fun h => ?_) (fun h => ?_)⟩
          · rw [if_pos (by rw [← he]; exact h)]; rfl
          rw [if_neg (fun hn => hn (he.symm.trans h))]
          refine ⟨isD_l, isD_t, [m, m, m], isD_pth rfl rfl rfl (fun j hj => by match j, hj with | 0, _ => rfl | 1, _ => rfl | 2, _ => rfl | _ + 3, hj => exact absurd hj (by simp)), by simp, fun e he => cond_nd (fun h => ?_) (fun h => ?_)⟩
          · rw [if_pos (by rw [← he]; exact h)]; rfl
          rw [if_neg (fun hn => hn (he.symm.trans h))]
          refine ⟨isD_l, isD_t, [m, m, m, m], isD_pth rfl rfl rfl (fun j hj => by match j, hj with | 0, _ => rfl | 1, _ => rfl | 2, _ => rfl | 3, _ => rfl | _ + 4, hj => exact absurd hj (by simp)), by simp, fun e he => cond_nd (fun h => ?_) (fun h => ?_)⟩
          · rw [if_pos (by rw [← he]; exact h)]; rfl
          rw [if_neg (fun hn => hn (he.symm.trans h))]
      · refine cond_d (fun h => (h0 h).elim) (fun _ => ?_)
        have e1 : lasE l t m = 2 := by unfold lasE; rw [if_neg (by rw [ho]; simp), if_pos (fun h => h0 h.1)]
        have e2 : lasN l t m = 0 := by unfold lasN; rw [if_pos (by rw [e1]; decide)]
        rw [e1, e2])
    exact ⟨h', hc⟩
/-- Lasts, as a row. -/
def laR (l : List Stk) (t : Tst) : FuncId × Spec1 := (22, fun _ args h K => match args with
  | [x, z, .int .i64 m] => isD h 4 x (stD l) ∧ isD h 4 z (.agg (tsL t)) ∧ ∀ n e : Int, n = lasN l t m ∧ e = lasE l t m → K (.ret (.tup [I n, I e])) h
  | _ => False)
theorem laR_ok (l : List Stk) (t : Tst) : SpOk Try.prog (laR l t).1 (laR l t).2 := by
  intro lock args h K hK
  simp only [laR] at hK
  split at hK
  · obtain ⟨h1, h2, hK⟩ := hK
    obtain ⟨h', hc⟩ := lasts_v (l := l) (t := t)
    exact ⟨_, h, hK _ _ ⟨rfl, rfl⟩, lockP_refl _ _, calls_lendDP 4 hc rfl ⟨h1, h2, ⟨rfl, rfl⟩, trivial⟩⟩
  · exact hK.elim
end
end Go.Sx.Bln

/- blend: the law BlendNames, evaluated. -/

namespace Go.Sx.Bln
open Go Go.Sx Go.Proofs
set_option maxRecDepth 1000000

/-- The chapter's examples. -/
def nmV (a b y : Int) : Vt := bif decide (a = 1) then (bif decide (b = 1) then ⟨200, 80, 10, [⟨505, 515⟩, ⟨95, 105⟩], true⟩ else ⟨100, 50, 12, [⟨480, 490⟩, ⟨60, 70⟩], false⟩) else (bif decide (y = 0) then ⟨200, 90, 8, [⟨500, 500⟩, ⟨100, 100⟩], false⟩ else ⟨200, 90, 10, [⟨500, 500⟩, ⟨100, 100⟩], true⟩)
def nmC (y : Int) : Int := bif decide (y = 0) then 80 else 200
def nmB (u : Int) : Int := bif decide (u = 2) then 110 else 94
def nmL (m : Int) : Int := bif decide (m = 150) then 4 else 1
def blNm : FuncId × Spec1 := (24, fun _ args h K => match args with
  | [x, z, .int .i64 y, .sl m L] => match h.at m with
    | .vec _ g _ _ => match g 0, g 1, g 2 with
      | [.int .i64 a], [.int .i64 b], [.int .i64 c] => isD h 4 x (stD L0) ∧ isD h 4 z (.agg (tsL T0)) ∧ isD h 4 (.sl m L) (inD [a, b, c]) ∧ (bldE L0 T0 y [a, b, c] = 0 ∧ vtF L0 T0 (chD [a, b, c]) y = nmV a b y) ∧ K (.ret (.tup [vtV (nmV a b y) h.nx, I 0])) (h.new (vtB (nmV a b y)))
      | _, _, _ => False
    | _ => False
  | _ => False)
noncomputable def chNm : FuncId × Spec1 := (18, fun _ args h K => match args with
  | [x, z, .int .i64 y, .int .i64 m] => x = stD L0 ∧ z = .agg (tsL T0) ∧ (bif (decide (y = 0) && decide (m = 500)) then (chpE L0 T0 y m = 4 ∧ K (rErr 4) h) else (chpE L0 T0 y m = 0 ∧ ∀ c, chpF L0 T0 y m = some c → costF L0 c = nmC y ∧ K (.ret (.tup [.tl L0.length 1 (chG c), I (nmC y), I 0])) h))
  | _ => False)
def bnNm : FuncId × Spec1 := (35, fun _ args h K => match args with
  | [x, z, .int .i64 y, .int .i64 m, w, .int .i64 u] => isD h 4 x (stD L0) ∧ isD h 4 z (.agg (tsL T0)) ∧ ∃ D : List Int, isD h 4 w (inD D) ∧ (D.length ≤ 100000 ∧ bndV L0 T0 y m u D = nmB u) ∧ ∀ e : Int, e = bndE L0 T0 y m u D → K (.ret (.tup [I (nmB u), I e])) h
  | _ => False)
def laNm : FuncId × Spec1 := (22, fun _ args h K => match args with
  | [x, z, .int .i64 m] => isD h 4 x (stD L0) ∧ isD h 4 z (.agg (tsL T0)) ∧ lasN L0 T0 m = nmL m ∧ ∀ e : Int, e = lasE L0 T0 m → K (.ret (.tup [I (nmL m), I e])) h
  | _ => False)
def hpNm1 : VH := VH.mk (2) [(1, VB.vec 3 (fun (j : Nat) => List.take (1) (List.drop (j * (1)) [I 1, I 1, I 0])) (1) 3), (0, VB.cells [VV.tl T0.T.length 1 (dG T0.T), I T0.far, I T0.least] 25), (0, VB.cells [VV.nils, I 0, I 0] 25)]
def hpNm2 : VH := VH.mk (5) ((4, VB.vec 3 (fun (j : Nat) => List.take (1) (List.drop (j * (1)) [I 1, I 0, I 0])) (1) 3) :: (3, VB.cells [I (nmV (1 : Int) (1 : Int) (0 : Int)).v, I (nmV (1 : Int) (1 : Int) (0 : Int)).c, I (nmV (1 : Int) (1 : Int) (0 : Int)).a, VV.sl hpNm1.nx (nmV (1 : Int) (1 : Int) (0 : Int)).P.length, VV.bool (nmV (1 : Int) (1 : Int) (0 : Int)).k] 49) :: (3, VB.cells [I 0, I 0, I 0, VV.nils, VV.bool false] 49) :: (hpNm1.nx, vtB (nmV (1 : Int) (1 : Int) (0 : Int))) :: hpNm1.bs)
def hpNm3 : VH := VH.mk (8) ((7, VB.vec 3 (fun (j : Nat) => List.take (1) (List.drop (j * (1)) [I 0, I 0, I 1])) (1) 3) :: (6, VB.cells [I (nmV (1 : Int) (0 : Int) (0 : Int)).v, I (nmV (1 : Int) (0 : Int) (0 : Int)).c, I (nmV (1 : Int) (0 : Int) (0 : Int)).a, VV.sl hpNm2.nx (nmV (1 : Int) (0 : Int) (0 : Int)).P.length, VV.bool (nmV (1 : Int) (0 : Int) (0 : Int)).k] 49) :: (6, VB.cells [I 0, I 0, I 0, VV.nils, VV.bool false] 49) :: (hpNm2.nx, vtB (nmV (1 : Int) (0 : Int) (0 : Int))) :: hpNm2.bs)
def hpNm4 : VH := VH.mk (11) ((10, VB.vec 3 (fun (j : Nat) => List.take (1) (List.drop (j * (1)) [I 0, I 0, I 1])) (1) 3) :: (9, VB.cells [I (nmV (0 : Int) (0 : Int) (0 : Int)).v, I (nmV (0 : Int) (0 : Int) (0 : Int)).c, I (nmV (0 : Int) (0 : Int) (0 : Int)).a, VV.sl hpNm3.nx (nmV (0 : Int) (0 : Int) (0 : Int)).P.length, VV.bool (nmV (0 : Int) (0 : Int) (0 : Int)).k] 49) :: (9, VB.cells [I 0, I 0, I 0, VV.nils, VV.bool false] 49) :: (hpNm3.nx, vtB (nmV (0 : Int) (0 : Int) (0 : Int))) :: hpNm3.bs)
def hpNm5 : VH := VH.mk (14) ((13, VB.vec 2 (fun (j : Nat) => List.take (2) (List.drop (j * (2)) [I 505, I 515, I 95, I 105])) (2) 34) :: (12, VB.cells [I (nmV (0 : Int) (0 : Int) (2 : Int)).v, I (nmV (0 : Int) (0 : Int) (2 : Int)).c, I (nmV (0 : Int) (0 : Int) (2 : Int)).a, VV.sl hpNm4.nx (nmV (0 : Int) (0 : Int) (2 : Int)).P.length, VV.bool (nmV (0 : Int) (0 : Int) (2 : Int)).k] 49) :: (12, VB.cells [I 0, I 0, I 0, VV.nils, VV.bool false] 49) :: (hpNm4.nx, vtB (nmV (0 : Int) (0 : Int) (2 : Int))) :: hpNm4.bs)
def hpNm6 : VH := VH.mk (15) ((14, VB.vec 3 (fun (j : Nat) => List.take (1) (List.drop (j * (1)) [I 1, I 1, I 0])) (1) 3) :: (13, VB.vec 2 (fun (j : Nat) => List.take (2) (List.drop (j * (2)) [I 505, I 515, I 95, I 105])) (2) 34) :: (12, VB.cells [I (nmV (0 : Int) (0 : Int) (2 : Int)).v, I (nmV (0 : Int) (0 : Int) (2 : Int)).c, I (nmV (0 : Int) (0 : Int) (2 : Int)).a, VV.sl hpNm4.nx (nmV (0 : Int) (0 : Int) (2 : Int)).P.length, VV.bool (nmV (0 : Int) (0 : Int) (2 : Int)).k] 49) :: (12, VB.cells [I 0, I 0, I 0, VV.nils, VV.bool false] 49) :: (hpNm4.nx, vtB (nmV (0 : Int) (0 : Int) (2 : Int))) :: hpNm4.bs)
def hpNm7 : VH := VH.mk (16) ((15, VB.vec 3 (fun (j : Nat) => List.take (1) (List.drop (j * (1)) [I 1, I 2, I 1])) (1) 3) :: (14, VB.vec 3 (fun (j : Nat) => List.take (1) (List.drop (j * (1)) [I 1, I 1, I 0])) (1) 3) :: (13, VB.vec 2 (fun (j : Nat) => List.take (2) (List.drop (j * (2)) [I 505, I 515, I 95, I 105])) (2) 34) :: (12, VB.cells [I (nmV (0 : Int) (0 : Int) (2 : Int)).v, I (nmV (0 : Int) (0 : Int) (2 : Int)).c, I (nmV (0 : Int) (0 : Int) (2 : Int)).a, VV.sl hpNm4.nx (nmV (0 : Int) (0 : Int) (2 : Int)).P.length, VV.bool (nmV (0 : Int) (0 : Int) (2 : Int)).k] 49) :: (12, VB.cells [I 0, I 0, I 0, VV.nils, VV.bool false] 49) :: (hpNm4.nx, vtB (nmV (0 : Int) (0 : Int) (2 : Int))) :: hpNm4.bs)
def hpNm8 : VH := VH.mk (17) ((16, VB.vec 5 (fun (j : Nat) => List.take (1) (List.drop (j * (1)) [I 1, I 0, I 0, I 0, I 0])) (1) 3) :: (15, VB.vec 3 (fun (j : Nat) => List.take (1) (List.drop (j * (1)) [I 1, I 2, I 1])) (1) 3) :: (14, VB.vec 3 (fun (j : Nat) => List.take (1) (List.drop (j * (1)) [I 1, I 1, I 0])) (1) 3) :: (13, VB.vec 2 (fun (j : Nat) => List.take (2) (List.drop (j * (2)) [I 505, I 515, I 95, I 105])) (2) 34) :: (12, VB.cells [I (nmV (0 : Int) (0 : Int) (2 : Int)).v, I (nmV (0 : Int) (0 : Int) (2 : Int)).c, I (nmV (0 : Int) (0 : Int) (2 : Int)).a, VV.sl hpNm4.nx (nmV (0 : Int) (0 : Int) (2 : Int)).P.length, VV.bool (nmV (0 : Int) (0 : Int) (2 : Int)).k] 49) :: (12, VB.cells [I 0, I 0, I 0, VV.nils, VV.bool false] 49) :: (hpNm4.nx, vtB (nmV (0 : Int) (0 : Int) (2 : Int))) :: hpNm4.bs)
def hpNm9 : VH := VH.mk (18) ((17, VB.vec 5 (fun (j : Nat) => List.take (1) (List.drop (j * (1)) [I 1, I 0, I 0, I 0, I 0])) (1) 3) :: (16, VB.vec 5 (fun (j : Nat) => List.take (1) (List.drop (j * (1)) [I 1, I 0, I 0, I 0, I 0])) (1) 3) :: (15, VB.vec 3 (fun (j : Nat) => List.take (1) (List.drop (j * (1)) [I 1, I 2, I 1])) (1) 3) :: (14, VB.vec 3 (fun (j : Nat) => List.take (1) (List.drop (j * (1)) [I 1, I 1, I 0])) (1) 3) :: (13, VB.vec 2 (fun (j : Nat) => List.take (2) (List.drop (j * (2)) [I 505, I 515, I 95, I 105])) (2) 34) :: (12, VB.cells [I (nmV (0 : Int) (0 : Int) (2 : Int)).v, I (nmV (0 : Int) (0 : Int) (2 : Int)).c, I (nmV (0 : Int) (0 : Int) (2 : Int)).a, VV.sl hpNm4.nx (nmV (0 : Int) (0 : Int) (2 : Int)).P.length, VV.bool (nmV (0 : Int) (0 : Int) (2 : Int)).k] 49) :: (12, VB.cells [I 0, I 0, I 0, VV.nils, VV.bool false] 49) :: (hpNm4.nx, vtB (nmV (0 : Int) (0 : Int) (2 : Int))) :: hpNm4.bs)
theorem nm_ev (Q : VRes → Prop) : callN Try.prog (tabS [smR, blNm, svT, chNm, inR, bnNm, laNm, alT]) noL 10 20 0 (.fn 13) [] ⟨0, []⟩ (fun r _ => Q r) =
  (isD hpNm1 4 (VV.tl L0.length 5 (stG L0)) (stD L0) ∧ isD hpNm1 4 (VV.agg [VV.tl T0.T.length 1 (dG T0.T), I T0.far, I T0.least]) (VV.agg (tsL T0)) ∧ isD hpNm1 4 (VV.sl (1) 3) (inD [(1 : Int), (1 : Int), (0 : Int)]) ∧ ((0 : Int) = (0 : Int) ∧ nmV (1 : Int) (1 : Int) (0 : Int) = nmV (1 : Int) (1 : Int) (0 : Int)) ∧ isD hpNm2 4 (VV.tl L0.length 5 (stG L0)) (stD L0) ∧ isD hpNm2 4 (VV.agg [VV.tl T0.T.length 1 (dG T0.T), I T0.far, I T0.least]) (VV.agg (tsL T0)) ∧ isD hpNm2 4 (VV.sl (4) 3) (inD [(1 : Int), (0 : Int), (0 : Int)]) ∧ ((0 : Int) = (0 : Int) ∧ nmV (1 : Int) (0 : Int) (0 : Int) = nmV (1 : Int) (0 : Int) (0 : Int)) ∧ isD hpNm3 4 (VV.tl L0.length 5 (stG L0)) (stD L0) ∧ isD hpNm3 4 (VV.agg [VV.tl T0.T.length 1 (dG T0.T), I T0.far, I T0.least]) (VV.agg (tsL T0)) ∧ isD hpNm3 4 (VV.sl (7) 3) (inD [(0 : Int), (0 : Int), (1 : Int)]) ∧ ((0 : Int) = (0 : Int) ∧ nmV (0 : Int) (0 : Int) (0 : Int) = nmV (0 : Int) (0 : Int) (0 : Int)) ∧ isD hpNm4 4 (VV.tl L0.length 5 (stG L0)) (stD L0) ∧ isD hpNm4 4 (VV.agg [VV.tl T0.T.length 1 (dG T0.T), I T0.far, I T0.least]) (VV.agg (tsL T0)) ∧ isD hpNm4 4 (VV.sl (10) 3) (inD [(0 : Int), (0 : Int), (1 : Int)]) ∧ ((0 : Int) = (0 : Int) ∧ nmV (0 : Int) (0 : Int) (2 : Int) = nmV (0 : Int) (0 : Int) (2 : Int)) ∧ ∃ (V : Vt), isD hpNm5 3 (VV.agg [I (nmV (1 : Int) (1 : Int) (0 : Int)).v, I (nmV (1 : Int) (1 : Int) (0 : Int)).c, I (nmV (1 : Int) (1 : Int) (0 : Int)).a, VV.sl hpNm1.nx (nmV (1 : Int) (1 : Int) (0 : Int)).P.length, VV.bool (nmV (1 : Int) (1 : Int) (0 : Int)).k]) (VV.agg (vtL V)) ∧ isD hpNm5 3 (VV.agg [I 200, I 80, I 10, VV.sl (13) 2, VV.bool true]) (VV.agg (vtL V)) ∧ V.P.length ≤ 100000 ∧ stD L0 = stD L0 ∧ VV.agg (tsL T0) = VV.agg (tsL T0) ∧ (0 : Int) = (0 : Int) ∧ ∀ (c : Nat → Int), chpF L0 T0 (0 : Int) (150 : Int) = some c → costF L0 c = nmC (0 : Int) ∧ stD L0 = stD L0 ∧ VV.agg (tsL T0) = VV.agg (tsL T0) ∧ (4 : Int) = (4 : Int) ∧ stD L0 = stD L0 ∧ VV.agg (tsL T0) = VV.agg (tsL T0) ∧ (0 : Int) = (0 : Int) ∧ ∀ (c_1 : Nat → Int), chpF L0 T0 (2 : Int) (500 : Int) = some c_1 → costF L0 c_1 = nmC (2 : Int) ∧ ∃ (L : Nat), ∃ (n : Nat → Int), isD hpNm6 2 (VV.tl L0.length 1 (chG c)) (d1 L n) ∧ isD hpNm6 2 (VV.sl (14) 3) (d1 L n) ∧ L ≤ 100000 ∧ ∃ (L : Nat), ∃ (n : Nat → Int), isD hpNm7 2 (VV.tl L0.length 1 (chG c_1)) (d1 L n) ∧ isD hpNm7 2 (VV.sl (15) 3) (d1 L n) ∧ L ≤ 100000 ∧ isD hpNm8 4 (VV.tl L0.length 5 (stG L0)) (stD L0) ∧ isD hpNm8 4 (VV.agg [VV.tl T0.T.length 1 (dG T0.T), I T0.far, I T0.least]) (VV.agg (tsL T0)) ∧ ∃ (D : List Int), isD hpNm8 4 (VV.sl (16) 5) (inD D) ∧ (D.length ≤ 100000 ∧ bndV L0 T0 (0 : Int) (300 : Int) (2 : Int) D = nmB (2 : Int)) ∧ ∀ (e : Int), e = bndE L0 T0 (0 : Int) (300 : Int) (2 : Int) D → isD hpNm9 4 (VV.tl L0.length 5 (stG L0)) (stD L0) ∧ isD hpNm9 4 (VV.agg [VV.tl T0.T.length 1 (dG T0.T), I T0.far, I T0.least]) (VV.agg (tsL T0)) ∧ ∃ (D : List Int), isD hpNm9 4 (VV.sl (17) 5) (inD D) ∧ (D.length ≤ 100000 ∧ bndV L0 T0 (0 : Int) (300 : Int) (3 : Int) D = nmB (3 : Int)) ∧ ∀ (e : Int), e = bndE L0 T0 (0 : Int) (300 : Int) (3 : Int) D → isD hpNm9 4 (VV.tl L0.length 5 (stG L0)) (stD L0) ∧ isD hpNm9 4 (VV.agg [VV.tl T0.T.length 1 (dG T0.T), I T0.far, I T0.least]) (VV.agg (tsL T0)) ∧ nmL (150 : Int) = nmL (150 : Int) ∧ ∀ (e : Int), e = lasE L0 T0 (150 : Int) → isD hpNm9 4 (VV.tl L0.length 5 (stG L0)) (stD L0) ∧ isD hpNm9 4 (VV.agg [VV.tl T0.T.length 1 (dG T0.T), I T0.far, I T0.least]) (VV.agg (tsL T0)) ∧ nmL (300 : Int) = nmL (300 : Int) ∧ ∀ (e : Int), e = lasE L0 T0 (300 : Int) → Q (VRes.ret (VV.bool (decide (nmL (300 : Int) = (1 : Int)))))) := by kernel_rfl

end Go.Sx.Bln

/- blend: the law BlendNames holds. -/

namespace Go.Sx.Bln
open Go Go.Sx Go.Proofs
set_option maxRecDepth 1000000

theorem blNm_ok : SpOk Try.prog blNm.1 blNm.2 := by
  intro lock args h K hK
  simp only [blNm] at hK
  split at hK
  · split at hK
    · split at hK
      · obtain ⟨h1, h2, h3, ⟨h4, h5⟩, hK⟩ := hK
        exact bldT_ok lock _ h K ⟨L0, T0, _, h1, h2, h3, fun h => (h h4).elim, fun _ V hV => by rw [hV, h5]; exact hK⟩
      · exact hK.elim
    · exact hK.elim
  · exact hK.elim
theorem chNm_ok : SpOk Try.prog chNm.1 chNm.2 := by
  intro lock args h K hK
  simp only [chNm] at hK
  split at hK
  · rename_i x z y m
    obtain ⟨rfl, rfl, hK⟩ := hK
    refine cheapR_ok L0 T0 lock _ h K ⟨rfl, rfl, fun he => ?_, fun he c hc => ?_⟩
    · cases hb : (decide (y = 0) && decide (m = 500)) with
      | true =>
        rw [hb] at hK
        obtain ⟨h1, hK⟩ := hK
        rw [h1]; exact hK
      | false =>
        rw [hb] at hK
        exact (he hK.1).elim
    · cases hb : (decide (y = 0) && decide (m = 500)) with
      | true =>
        rw [hb] at hK
        obtain ⟨h1, hK⟩ := hK
        rw [he] at h1; cases h1
      | false =>
        rw [hb] at hK
        obtain ⟨h1, h2⟩ := hK.2 c hc
        rw [← h1] at h2
        exact h2
  · exact hK.elim
theorem bnNm_ok : SpOk Try.prog bnNm.1 bnNm.2 := by
  intro lock args h K hK
  simp only [bnNm] at hK
  split at hK
  · obtain ⟨h1, h2, D, h3, ⟨h4, h5⟩, hK⟩ := hK
    exact bndT_ok lock _ h K ⟨L0, T0, D, h1, h2, h3, h4, by rw [h5]; exact hK _ rfl⟩
  · exact hK.elim
theorem laNm_ok : SpOk Try.prog laNm.1 laNm.2 := by
  intro lock args h K hK
  simp only [laNm] at hK
  split at hK
  · obtain ⟨h1, h2, h3, hK⟩ := hK
    exact laR_ok L0 T0 lock _ h K ⟨h1, h2, fun n e ⟨hn, he⟩ => by rw [hn, h3]; exact hK _ he⟩
  · exact hK.elim

theorem chp1 : (chpF L0 T0 0 150).map (fun c => (c 0, c 1, c 2, costF L0 c)) = some (1, 1, 0, 80) := by decide +kernel
theorem chp2 : (chpF L0 T0 2 500).map (fun c => (c 0, c 1, c 2, costF L0 c)) = some (1, 2, 1, 200) := by decide +kernel

theorem isD_n3 {h : VH} {n : Nat} {ty : TypeId} {a b d : Int} {c : Nat → Int} (hm : h.at n = .vec 3 (fun j => List.take 1 (List.drop (j * 1) [I a, I b, I d])) 1 ty) (h0 : c 0 = a) (h1 : c 1 = b) (h2 : c 2 = d) : isD h 2 (.sl n 3) (d1 3 c) := by
  subst h0; subst h1; subst h2
  refine ⟨rfl, Nat.le_refl _, _, _, hm, fun j hj => ?_⟩
  match j, hj with
  | 0, _ => rfl
  | 1, _ => rfl
  | 2, _ => rfl
  | _ + 3, hj => omega

theorem nm_tab : ∀ f T, tabS [smR, blNm, svT, chNm, inR, bnNm, laNm, alT] f = some T → SpOk Try.prog f T := tab_ok _ (fun x hx => by
  simp only [List.mem_cons, List.not_mem_nil, or_false] at hx
  rcases hx with rfl | rfl | rfl | rfl | rfl | rfl | rfl | rfl
  · exact smR_ok
  · exact blNm_ok
  · exact svT_ok
  · exact chNm_ok
  · exact inR_ok
  · exact bnNm_ok
  · exact laNm_ok
  · exact alT_ok)
theorem isD_L {h : VH} : isD h 4 (.tl L0.length 5 (stG L0)) (stD L0) := ⟨rfl, rfl, fun _ _ => rfl⟩
theorem isD_T {h : VH} : isD h 4 (.agg [.tl T0.T.length 1 (dG T0.T), I T0.far, I T0.least]) (.agg (tsL T0)) := isD_t
theorem isD_5 {h : VH} {n : Nat} {ty : TypeId} {a b d e f : Int} (hm : h.at n = .vec 5 (fun j => List.take 1 (List.drop (j * 1) [I a, I b, I d, I e, I f])) 1 ty) : isD h 4 (.sl n 5) (inD [a, b, d, e, f]) := by
  refine ⟨rfl, Nat.le_refl _, _, _, hm, fun j hj => ?_⟩
  match j, hj with
  | 0, _ => rfl
  | 1, _ => rfl
  | 2, _ => rfl
  | 3, _ => rfl
  | 4, _ => rfl
  | _ + 5, hj => omega
theorem isD_3 {h : VH} {n : Nat} {ty : TypeId} {a b d : Int} (hm : h.at n = .vec 3 (fun j => List.take 1 (List.drop (j * 1) [I a, I b, I d])) 1 ty) : isD h 4 (.sl n 3) (inD [a, b, d]) := by
  refine ⟨rfl, Nat.le_refl _, _, _, hm, fun j hj => ?_⟩
  match j, hj with
  | 0, _ => rfl
  | 1, _ => rfl
  | 2, _ => rfl
  | _ + 3, hj => omega

theorem nm_v : ∃ h', CallsV Try.prog 13 [] ⟨0, []⟩ (.ret (.bool true)) h' := by
  obtain ⟨r, h', rfl, hc⟩ := of_callN (noL_good nm_tab) (f := 13) (args := []) (h := ⟨0, []⟩) (K := fun r _ => r = .ret (.bool true)) (by
    refine cast (nm_ev _).symm ⟨isD_L, isD_T, isD_3 rfl, ⟨rfl, rfl⟩, isD_L, isD_T, isD_3 rfl, ⟨rfl, rfl⟩, isD_L, isD_T, isD_3 rfl, ⟨rfl, rfl⟩, isD_L, isD_T, isD_3 rfl, ⟨rfl, rfl⟩, nmV 1 1 0, ⟨⟨rfl, rfl⟩, ⟨rfl, rfl⟩, ⟨rfl, rfl⟩, ⟨rfl, by decide, _, _, rfl, fun _ _ => rfl⟩, ⟨rfl, rfl⟩, trivial⟩, ⟨⟨rfl, rfl⟩, ⟨rfl, rfl⟩, ⟨rfl, rfl⟩, ⟨rfl, by decide, _, _, rfl, fun j hj => ?_⟩, ⟨rfl, rfl⟩, trivial⟩, by decide, rfl, rfl, rfl, fun c hc => ?_⟩
    · match j, hj with
      | 0, _ => rfl
      | 1, _ => rfl
      | _ + 2, hj => exact absurd hj (by omega)
    have h1 := chp1
    rw [hc] at h1
    have h1 : (c 0, c 1, c 2, costF L0 c) = (1, 1, 0, 80) := by simpa using h1
    simp only [Prod.mk.injEq] at h1
    obtain ⟨c0, c1, c2, c3⟩ := h1
    refine ⟨c3, rfl, rfl, rfl, rfl, rfl, rfl, fun d hd => ?_⟩
    have h2 := chp2
    rw [hd] at h2
    have h2 : (d 0, d 1, d 2, costF L0 d) = (1, 2, 1, 200) := by simpa using h2
    simp only [Prod.mk.injEq] at h2
    obtain ⟨d0, d1', d2, d3⟩ := h2
    exact ⟨d3, 3, c, ⟨rfl, rfl, fun _ _ => rfl⟩, isD_n3 rfl c0 c1 c2, by omega, 3, d, ⟨rfl, rfl, fun _ _ => rfl⟩, isD_n3 rfl d0 d1' d2, by omega, isD_L, isD_T, [1, 0, 0, 0, 0], isD_5 rfl, ⟨by decide, by decide +kernel⟩, fun _ _ => ⟨isD_L, isD_T, [1, 0, 0, 0, 0], isD_5 rfl, ⟨by decide, by decide +kernel⟩, fun _ _ => ⟨isD_L, isD_T, rfl, fun _ _ => ⟨isD_L, isD_T, rfl, fun _ _ => rfl⟩⟩⟩⟩)
  exact ⟨h', hc⟩
end Go.Sx.Bln
