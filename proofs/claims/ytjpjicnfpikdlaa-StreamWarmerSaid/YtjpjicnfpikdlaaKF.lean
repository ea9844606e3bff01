/- stream: Ke1 Ke2 Ke3 Ke4 Ke5 Ke6, in one text. -/
import Derived.Test.YtjpjicnfpikdlaaKE
/- stream: the document's fits, evaluated. -/

namespace Go.Sx.Str
open Go Go.Sx Go.Proofs
set_option maxRecDepth 100000

def ptI (P : List Pt) (i : Int) : List VV := ptL (pF P i)
def nil9 : Nat → List VV := fun j => List.take 9 (List.drop (j * 9) [])
def dsY : List Nat := [10, 12, 15, 3]
def VY (L : Nat) (i lim : Int) : List VV := [.bool false, .sl 4 L, I i, I lim]
def LY (a : Nat) (lim : Int) (xs : List Wt) : LT := fun lock t h K =>
  FitP lock h t ⟨5, [4].zip [vecW xs]⟩ (dsY.zip (VY xs.length a lim)) ∧ (a ≤ xs.length ∧ xs.length ≤ 200000) ∧
    (anyH lim (xs.drop a) = false → K .normal (dsY.zip (VY xs.length xs.length lim)) ⟨5, [4].zip [vecW xs]⟩) ∧
    (anyH lim (xs.drop a) = true → ∀ i : Int, K .ret (dsY.zip (VY xs.length i lim)) ⟨5, [4].zip [vecW xs]⟩)
theorem y0_ev (lim : Int) (xs : List Wt) (i : Int) (X : VEx → List VV → List VB → Prop) : codeE Try.prog (callN Try.prog noSpec noL 10 20) (fun _ => none) true 10 57 0 (loopB 0 (bodyOf Try.prog 43)) (dsY.zip (VY xs.length i lim)) ⟨5, [4].zip [vecW xs]⟩ (obs 5 dsY [4] X) =
  (bif decide (i < (↑xs.length : Int)) then
 bif decide ((0 : Int) ≤ i ∧ i < (↑xs.length : Int)) then
 bif xs.length.beq xs.length && true then
 bif xs.length.beq xs.length then
 bif decide ((xs.getD i.toNat w0).whi > lim) then
 X VEx.ret [VV.bool false, VV.sl 4 xs.length, I i, I lim] [vecW xs]
 else bif inK IntKind.i64 (i + (1 : Int)) then
 X VEx.normal [VV.bool false, VV.sl 4 xs.length, I (i + (1 : Int)), I lim] [vecW xs]
 else False
 else False
 else False
 else False
 else X (VEx.exit 0) [VV.bool false, VV.sl 4 xs.length, I i, I lim] [vecW xs]) := by kernel_rfl

theorem f43_ev (P : List Pt) (cap : Nat) (w : Wt) (a : Nat) (lim heat : Int) (Q : VRes → Prop) : spBL Try.prog 43 (tabS [rfT]) [(0, LY a lim (frL w (insP P a heat)))] 10 20 0 [.agg (wtL w), .slice (.el 0 [] 0 0) P.length cap, I a, I lim, I heat] ⟨1, [(0, ptsA P.length (pF P))]⟩ (fun r _ => Q r) =
  (bif decide ((0 : Int) ≤ (0 : Int) ∧ (0 : Int) ≤ (↑a : Int) ∧ (↑a : Int) ≤ (↑cap : Int)) then
 (∀ (j : Nat), j < ((↑a : Int) - (0 : Int)).toNat → (([] : List Int) = [] ∧ (0 : Int) ≤ (0 : Int) + (0 : Int) + (↑j : Int) ∧ (0 : Int) + (0 : Int) + (↑j : Int) < (↑P.length : Int)) ∧ ((ptI P) ((0 : Int) + (0 : Int) + (↑j : Int))).all VV.one = true) ∧ bif roomB (0 + ((↑a : Int) - (0 : Int)).toNat) (72) then
 bif (0 + ((↑a : Int) - (0 : Int)).toNat).beq (0 + ((↑a : Int) - (0 : Int)).toNat) then
 bif roomB (0 + ((↑a : Int) - (0 : Int)).toNat + 1) (72) then
 bif decide ((0 : Int) ≤ (↑a : Int) ∧ (↑a : Int) ≤ (↑P.length : Int) ∧ (↑P.length : Int) ≤ (↑cap : Int)) then
 (∀ (j : Nat), j < ((↑P.length : Int) - (↑a : Int)).toNat → (([] : List Int) = [] ∧ (0 : Int) ≤ (0 : Int) + (↑a : Int) + (↑j : Int) ∧ (0 : Int) + (↑a : Int) + (↑j : Int) < (↑P.length : Int)) ∧ ((ptI P) ((0 : Int) + (↑a : Int) + (↑j : Int))).all VV.one = true) ∧ bif (0 + ((↑a : Int) - (0 : Int)).toNat + 1).beq (0 + ((↑a : Int) - (0 : Int)).toNat + 1) then
 bif roomB (0 + ((↑a : Int) - (0 : Int)).toNat + 1 + ((↑P.length : Int) - (↑a : Int)).toNat) (72) then
 ∃ P_1, (isList (VH.mk (4) [(2, VB.vec (0 + ((↑a : Int) - (0 : Int)).toNat + 1 + ((↑P.length : Int) - (↑a : Int)).toNat) (catG (0 + ((↑a : Int) - (0 : Int)).toNat + 1) (catG (0 + ((↑a : Int) - (0 : Int)).toNat) (catG 0 nil9 fun j => (ptI P) ((0 : Int) + (0 : Int) + (↑j : Int))) fun j => List.take (9) (List.drop (j * (9)) [I 2, I 0, I 0, I 0, I 0, I heat, I heat, I 0, I 0])) fun j => (ptI P) ((0 : Int) + (↑a : Int) + (↑j : Int))) (9) 47), (2, VB.vec (0 + ((↑a : Int) - (0 : Int)).toNat + 1) (catG (0 + ((↑a : Int) - (0 : Int)).toNat) (catG 0 nil9 fun j => (ptI P) ((0 : Int) + (0 : Int) + (↑j : Int))) fun j => List.take (9) (List.drop (j * (9)) [I 2, I 0, I 0, I 0, I 0, I heat, I heat, I 0, I 0])) (9) 47), (3, VB.vec 1 (fun j => List.take (9) (List.drop (j * (9)) [I 2, I 0, I 0, I 0, I 0, I heat, I heat, I 0, I 0])) (9) 47), (2, VB.vec (0 + ((↑a : Int) - (0 : Int)).toNat) (catG 0 nil9 fun j => (ptI P) ((0 : Int) + (0 : Int) + (↑j : Int))) (9) 47), (2, VB.vec 0 nil9 (9) 47), (1, VB.cells [I w.flo, I w.fhi, I w.wlo, I w.whi] 25), (0, ptsA P.length (pF P))]) (VV.sl (2) (0 + ((↑a : Int) - (0 : Int)).toNat + 1 + ((↑P.length : Int) - (↑a : Int)).toNat)) P_1.length 9 (pG P_1) ∧ WOk w ∧ P_1.length ≤ 100000) ∧ bif !decide (rE w P_1 = (0 : Int)) then
 Q (VRes.ret (VV.bool false))
 else FitP 0 (VH.mk (4 + 1) [(4, vecW (frL w P_1)), (2, VB.vec (0 + ((↑a : Int) - (0 : Int)).toNat + 1 + ((↑P.length : Int) - (↑a : Int)).toNat) (catG (0 + ((↑a : Int) - (0 : Int)).toNat + 1) (catG (0 + ((↑a : Int) - (0 : Int)).toNat) (catG 0 nil9 fun j => (ptI P) ((0 : Int) + (0 : Int) + (↑j : Int))) fun j => List.take (9) (List.drop (j * (9)) [I 2, I 0, I 0, I 0, I 0, I heat, I heat, I 0, I 0])) fun j => (ptI P) ((0 : Int) + (↑a : Int) + (↑j : Int))) (9) 47), (2, VB.vec (0 + ((↑a : Int) - (0 : Int)).toNat + 1) (catG (0 + ((↑a : Int) - (0 : Int)).toNat) (catG 0 nil9 fun j => (ptI P) ((0 : Int) + (0 : Int) + (↑j : Int))) fun j => List.take (9) (List.drop (j * (9)) [I 2, I 0, I 0, I 0, I 0, I heat, I heat, I 0, I 0])) (9) 47), (3, VB.vec 1 (fun j => List.take (9) (List.drop (j * (9)) [I 2, I 0, I 0, I 0, I 0, I heat, I heat, I 0, I 0])) (9) 47), (2, VB.vec (0 + ((↑a : Int) - (0 : Int)).toNat) (catG 0 nil9 fun j => (ptI P) ((0 : Int) + (0 : Int) + (↑j : Int))) (9) 47), (2, VB.vec 0 nil9 (9) 47), (1, VB.cells [I w.flo, I w.fhi, I w.wlo, I w.whi] 25), (0, ptsA P.length (pF P))]) [(15, I (↑a : Int)), (42, I (↑a : Int)), (41, VV.bool false), (41, VV.bool !decide (rE w P_1 = (0 : Int))), (40, I (rE w P_1)), (14, I (rE w P_1)), (13, I (rI 0 w P_1)), (12, VV.sl (4) (frL w P_1).length), (39, I (rE w P_1)), (38, I (rI 0 w P_1)), (37, VV.sl (4) (frL w P_1).length), (33, VV.tup [VV.sl (4) (frL w P_1).length, I (rI 0 w P_1), I (rE w P_1)]), (36, frV (4) w P_1), (35, VV.sl (2) (0 + ((↑a : Int) - (0 : Int)).toNat + 1 + ((↑P.length : Int) - (↑a : Int)).toNat)), (34, VV.agg [I w.flo, I w.fhi, I w.wlo, I w.whi]), (11, VV.sl (2) (0 + ((↑a : Int) - (0 : Int)).toNat + 1 + ((↑P.length : Int) - (↑a : Int)).toNat)), (32, VV.sl (2) (0 + ((↑a : Int) - (0 : Int)).toNat + 1 + ((↑P.length : Int) - (↑a : Int)).toNat)), (31, VV.slice (VA.el 0 [] ((0 : Int) + (↑a : Int)) 0) ((↑P.length : Int) - (↑a : Int)).toNat (cap - (↑a : Int).toNat)), (30, I (↑a : Int)), (29, VV.slice (VA.el 0 [] (0 : Int) 0) P.length cap), (28, VV.sl (2) (0 + ((↑a : Int) - (0 : Int)).toNat + 1)), (11, VV.sl (2) (0 + ((↑a : Int) - (0 : Int)).toNat + 1)), (27, VV.sl (2) (0 + ((↑a : Int) - (0 : Int)).toNat + 1)), (26, VV.sl (3) 1), (25, VV.agg [I 2, I 0, I 0, I 0, I 0, I heat, I heat, I 0, I 0]), (24, VV.agg [I heat, I heat]), (23, I heat), (22, I heat), (21, VV.sl (2) (0 + ((↑a : Int) - (0 : Int)).toNat)), (11, VV.sl (2) (0 + ((↑a : Int) - (0 : Int)).toNat)), (20, VV.sl (2) (0 + ((↑a : Int) - (0 : Int)).toNat)), (19, VV.slice (VA.el 0 [] ((0 : Int) + (0 : Int)) 0) ((↑a : Int) - (0 : Int)).toNat (cap - Int.toNat (0 : Int))), (18, I (↑a : Int)), (17, VV.slice (VA.el 0 [] (0 : Int) 0) P.length cap), (16, VV.sl (2) 0), (10, VV.bool false), (5, VV.ptr (VA.own (1) 0)), (0, VV.agg (wtL w)), (1, VV.slice (VA.el 0 [] (0 : Int) 0) P.length cap), (2, I (↑a : Int)), (3, I lim), (4, I heat)] (VH.mk 5 ([4].zip [vecW (frL w (insP P a heat))])) (dsY.zip (VY (frL w (insP P a heat)).length (↑a : Int) lim)) ∧ (a ≤ (frL w (insP P a heat)).length ∧ (frL w (insP P a heat)).length ≤ 200000) ∧ (anyH lim (List.drop a (frL w (insP P a heat))) = false → Q (VRes.ret (VV.bool true))) ∧ (anyH lim (List.drop a (frL w (insP P a heat))) = true → ∀ (i : Int), Q (VRes.ret (VV.bool false)))
 else False
 else False
 else False
 else False
 else False
 else False
 else False) := by kernel_rfl


end Go.Sx.Str

/- stream: the document's fits as a row. -/

namespace Go.Sx.Str
open Go Go.Sx Go.Proofs
set_option maxRecDepth 100000

theorem vac_cap {f : FuncId} {x : VV} {q : VA} {n cap : Nat} {rest : List VV} {h h' : VH} {r : VRes} (hc : cap < n) : CallsV Try.prog f (x :: .slice q n cap :: rest) h r h' := by
  intro B R w xs em hx
  obtain ⟨_, _, _, ⟨y, _, hy, _, _⟩, _⟩ := hx
  obtain ⟨hl, _⟩ := hy
  omega

section
variable {P : List Pt} {a : Nat} {heat lim : Int} {w : Wt}

theorem ins_lt (ha : a ≤ P.length) {j : Nat} (h : j < a) : (insP P a heat).getD j p0 = P.getD j p0 := by
  unfold insP
  rw [List.getD_eq_getElem?_getD, List.getD_eq_getElem?_getD, List.getElem?_append_left (by rw [List.length_take]; omega), List.getElem?_take, if_pos h]
theorem ins_eq (ha : a ≤ P.length) : (insP P a heat).getD a p0 = mP heat := by
  unfold insP
  rw [List.getD_eq_getElem?_getD, List.getElem?_append_right (by rw [List.length_take]; omega), List.length_take, show a - min a P.length = 0 by omega]
  rfl
theorem ins_gt (ha : a ≤ P.length) {j : Nat} (h : a < j) : (insP P a heat).getD j p0 = P.getD (j - 1) p0 := by
  unfold insP
  rw [List.getD_eq_getElem?_getD, List.getD_eq_getElem?_getD, List.getElem?_append_right (by rw [List.length_take]; omega), List.length_take, show j - min a P.length = (j - 1 - a) + 1 by omega, List.getElem?_cons_succ, List.getElem?_drop, show a + (j - 1 - a) = j - 1 by omega]

/-- The elements of a list that is put together with one more point. -/
theorem ins_cat (ha : a ≤ P.length) {a' : Nat} (ha' : a' = a) {f1 f3 : Nat → List VV} (h1 : ∀ j, j < a → f1 j = pG P j) (h3 : ∀ j, f3 j = pG P (a + j)) (j : Nat) :
    catG (0 + a' + 1) (catG (0 + a') (catG 0 nil9 f1) fun j => List.take 9 (List.drop (j * 9) (ptL (mP heat)))) f3 j = pG (insP P a heat) j := by
  subst ha'
  rw [Nat.zero_add]
  simp only [catG]
  by_cases hj : j < a' + 1
  · rw [blt_t hj]
    by_cases hj2 : j < a'
    · rw [blt_t hj2, blt_f (Nat.not_lt_zero j)]
      simp only [cond_true, cond_false, Nat.sub_zero]
      rw [h1 j hj2]
      unfold pG
      rw [ins_lt ha hj2]
    · rw [blt_f hj2]
      have : j = a' := by omega
      subst this
      unfold pG
      rw [ins_eq ha]
      simp [ptL]
  · rw [blt_f hj]
    simp only [cond_false]
    rw [h3]
    unfold pG
    rw [ins_gt ha (by omega), show a' + (j - (a' + 1)) = j - 1 by omega]

theorem room72 {n : Nat} (h : n ≤ 1048576) : roomB n 72 = true := by
  simp only [roomB, Bool.and_eq_true]
  exact ⟨Nat.ble_eq_true_of_le (by omega), Nat.ble_eq_true_of_le (by omega)⟩

theorem ptI_pG {i : Int} {j : Nat} (h : i = j) : ptI P i = pG P j := by
  subst h
  unfold ptI pG pF
  rw [Int.toNat_natCast]

def OY (a : Nat) (lim : Int) (xs : List Wt) (i : Int) (x : VEx) (vs : List VV) (bs : List VB) : Prop :=
  (x = .exit 0 ∧ anyH lim (xs.drop i.toNat) = false ∧ vs = VY xs.length xs.length lim ∧ bs = [vecW xs]) ∨ (x = .ret ∧ anyH lim (xs.drop i.toNat) = true ∧ (∃ j : Int, vs = VY xs.length j lim) ∧ bs = [vecW xs])

theorem LY_ok {xs : List Wt} : LSound Try.prog true (.block 0 (.loop (loopB 0 (bodyOf Try.prog 43)))) 57 (LY a lim xs) := by
  by_cases hn : a ≤ xs.length ∧ xs.length ≤ 200000
  · obtain ⟨ha, hn⟩ := hn
    refine loop_row hmix good0 (un := 10) (ds := dsY) (ns := [4]) (nx := 5) (fun i : Int => VY xs.length i lim) (fun _ => [vecW xs]) (fun i => 0 ≤ i ∧ i ≤ xs.length) (fun i => (xs.length - i).toNat) (OY a lim xs) noL_ok ?_ ?_
    · rintro i ⟨h0, h1⟩
      rw [y0_ev]
      by_cases hlt : i < (xs.length : Int)
      · have hx : xs.length.beq xs.length = true := Nat.beq_refl _
        have hx2 : (xs.length.beq xs.length && true) = true := by rw [hx]; rfl
        have hj : i.toNat < xs.length := by omega
        refine cond_dk hlt (cond_dk ⟨h0, hlt⟩ (cond_k hx2 (cond_k hx (cond_d (fun hp => ?_) (fun hp => cond_r (by omega) ?_)))))
        · exact .inr ⟨rfl, any_yes hj (decide_eq_true hp), ⟨i, rfl⟩, rfl⟩
        · refine ⟨i + 1, ⟨by omega, by omega⟩, by dsimp only; omega, rfl, fitBs_refl _, fun e vs bs ho => ?_⟩
          have e1 := any_no hj (decide_eq_false hp : hiF lim (xs.getD i.toNat w0) = false)
          unfold OY at ho ⊢
          rw [e1]
          rw [show (i + 1).toNat = i.toNat + 1 by omega] at ho
          exact ho
      · refine cond_d (fun h => absurd h hlt) (fun _ => ?_)
        have : i = (xs.length : Int) := by omega
        subst this
        exact .inl ⟨rfl, by rw [List.drop_eq_nil_of_le (by omega)]; rfl, rfl, rfl⟩
    · rintro lock t h K ⟨hf, _, h1, h2⟩
      refine ⟨(a : Int), hf, ⟨by omega, by omega⟩, ?_⟩
      rintro x vs bs (⟨rfl, he, rfl, rfl⟩ | ⟨rfl, he, ⟨j, rfl⟩, rfl⟩)
      · rw [Int.toNat_natCast] at he; exact h1 he
      · rw [Int.toNat_natCast] at he; exact h2 he j
  · rintro lock t h K ⟨hf, hc, h1, _⟩
    exact (hn hc).elim

theorem fit43 {cap : Nat} (hw : WOk w) (ha : a ≤ P.length) (hn : P.length ≤ 90000) : ∃ h', CallsV Try.prog 43 [.agg (wtL w), .slice (.el 0 [] 0 0) P.length cap, I a, I lim, I heat] ⟨1, [(0, ptsA P.length (pF P))]⟩ (.ret (.bool (fitF w P a lim heat))) h' := by
  by_cases hcap : cap < P.length
  · exact ⟨⟨0, []⟩, vac_cap hcap⟩
  have hsp := spBL_ok hmix (tabs_ok (l := [rfT]) (fun x hx => by
      simp only [List.mem_singleton] at hx
      subst hx
      exact rfT_ok)) (f := 43) (l := [(0, LY a lim (frL w (insP P a heat)))]) (fun x hx => by
    simp only [List.mem_singleton] at hx
    subst hx
    exact ⟨by kernel_rfl, LY_ok⟩) (un := 10) (fu := 20)
  obtain ⟨r, h', hQ, hc⟩ := of_sp hsp (args := [.agg (wtL w), .slice (.el 0 [] 0 0) P.length cap, I a, I lim, I heat]) (h := ⟨1, [(0, ptsA P.length (pF P))]⟩)
    (K := fun r _ => r = .ret (.bool (fitF w P a lim heat)))
    (by
      refine cast (f43_ev P cap w a lim heat (fun r => r = .ret (.bool (fitF w P a lim heat)))).symm ?_
      have e1 : ((a : Int) - 0).toNat = a := by omega
      have e2 : ((P.length : Int) - a).toNat = P.length - a := by omega
      have hl := ins_len (heat := heat) ha
      have hlen : 0 + ((a : Int) - 0).toNat + 1 + ((P.length : Int) - a).toNat = (insP P a heat).length := by rw [hl, e1, e2]; omega
      refine cond_dk ⟨by omega, by omega, by omega⟩ ⟨fun j hj => ⟨⟨rfl, by omega, by omega⟩, rfl⟩, cond_k (room72 (by omega)) (cond_k (Nat.beq_refl _) (cond_k (room72 (by omega)) (cond_dk ⟨by omega, by omega, by omega⟩ ⟨fun j hj => ⟨⟨rfl, by omega, by omega⟩, rfl⟩, cond_k (Nat.beq_refl _) (cond_k (room72 (by omega)) ?_)⟩)))⟩
      refine ⟨insP P a heat, ⟨⟨hlen, _, _, rfl, fun j hj => ?_⟩, hw, by omega⟩, cond_nd (fun h0 => ?_) (fun h0 => ⟨⟨⟨rfl, rfl, VB.fit_refl _, trivial⟩, rfl, rfl, rfl, rfl, trivial⟩, ⟨?_, ?_⟩, fun hx => ?_, fun hx i => ?_⟩)⟩
      · exact ins_cat ha e1 (fun j hj => ptI_pG (by omega)) (fun j => ptI_pG (by omega)) j
      · unfold fitF
        rw [decide_eq_false h0]; rfl
      · rw [frL_0 h0, rL_len, hl]; omega
      · rw [frL_0 h0, rL_len, hl]; omega
      · rw [frL_0 h0] at hx
        unfold fitF
        rw [h0, hx]; rfl
      · rw [frL_0 h0] at hx
        unfold fitF
        rw [h0, hx]; rfl)
  subst hQ
  exact ⟨h', hc⟩

/-- The document's fits as a row. -/
def f43T : FuncId × Spec1 := (43, fun _ args h K => match args with
  | [.agg [.int .i64 x, .int .i64 b, .int .i64 c, .int .i64 d], v, .int .i64 at', .int .i64 lim, .int .i64 heat] => ∃ P : List Pt, (isList h v P.length 9 (pG P) ∧ WOk ⟨x, b, c, d⟩ ∧ (0 ≤ at' ∧ at' ≤ P.length) ∧ P.length ≤ 90000) ∧ K (.ret (.bool (fitF ⟨x, b, c, d⟩ P at'.toNat lim heat))) h
  | _ => False)

theorem f43T_ok : SpOk Try.prog f43T.1 f43T.2 := by
  intro lock args h K hK
  simp only [f43T] at hK
  split at hK
  · rename_i x b c d v at' lim heat
    obtain ⟨P, ⟨hl, hw, ⟨a0, a1⟩, hn⟩, hK⟩ := hK
    have hat : (at'.toNat : Int) = at' := Int.toNat_of_nonneg a0
    refine ⟨_, h, hK, lockP_refl _ _, calls_listsP (ags := [.v (.agg (wtL ⟨x, b, c, d⟩)), .l P.length 9 (pG P), .v (I at'), .v (I lim), .v (I heat)]) (fun cs => ?_) rfl ⟨_, rfl, rfl, _, _, rfl, hl, fun _ _ => rfl, _, rfl, rfl, _, rfl, rfl, _, rfl, rfl, rfl⟩⟩
    cases cs with
    | nil =>
      have := fit43 (P := P) (a := at'.toNat) (w := ⟨x, b, c, d⟩) (lim := lim) (heat := heat) (cap := 0) hw (by omega) hn
      rw [hat] at this
      exact this
    | cons c' cs =>
      have := fit43 (P := P) (a := at'.toNat) (w := ⟨x, b, c, d⟩) (lim := lim) (heat := heat) (cap := c') hw (by omega) hn
      rw [hat] at this
      exact this
  · exact hK.elim
end
end Go.Sx.Str

/- stream: the document's Room, evaluated. -/

namespace Go.Sx.Str
open Go Go.Sx Go.Proofs
set_option maxRecDepth 100000

def dsC : List Nat := [13, 14, 4, 1, 2, 3]
def VC (n cap : Nat) (at' lim lo hi : Int) : List VV := [I lo, I hi, .ptr (.own 1 0), .slice (.el 0 [] 0 0) n cap, I at', I lim]
def BC (P : List Pt) (w : Wt) : List VB := [ptsA P.length (pF P), .cells (wtL w) 25]
def LC (P : List Pt) (cap : Nat) (w : Wt) (at' lim : Int) : LT := fun lock t h K =>
  FitP lock h t ⟨3, [0, 1].zip (BC P w)⟩ (dsC.zip (VC P.length cap at' lim 0 1099511627776)) ∧ (WOk w ∧ (0 ≤ at' ∧ at' ≤ P.length) ∧ P.length ≤ 90000) ∧ K .normal (dsC.zip (VC P.length cap at' lim (bsR w P at' lim) (bsR w P at' lim))) ⟨3, [0, 1].zip (BC P w)⟩
def t20 : List (FuncId × Spec1) := [waT 23, inT 39, flT 14, f43T]
theorem c0_ev (P : List Pt) (cap : Nat) (w : Wt) (at' lim lo hi : Int) (X : VEx → List VV → List VB → Prop) : codeE Try.prog (callN Try.prog (tabS t20) noL 10 20) (fun _ => none) true 10 63 0 (loopB 0 (bodyOf Try.prog 20)) (dsC.zip (VC P.length cap at' lim lo hi)) ⟨3, [0, 1].zip (BC P w)⟩ (obs 3 dsC [0, 1] X) =
  (bif decide (lo < hi) then
 bif inK IntKind.i64 (lo + hi) then
 bif inK IntKind.i64 (lo + hi + (1 : Int)) then
 bif inK IntKind.i64 (quoZ (lo + hi + (1 : Int)) (2 : Int)) then
 ∃ P_1, (isList (VH.mk 3 ([0, 1].zip (BC P w))) (VV.slice (VA.el 0 [] (0 : Int) 0) P.length cap) P_1.length 9 (pG P_1) ∧ WOk w ∧ ((0 : Int) ≤ at' ∧ at' ≤ (↑P_1.length : Int)) ∧ P_1.length ≤ 90000) ∧ bif fitF w P_1 at'.toNat lim (quoZ (lo + hi + (1 : Int)) (2 : Int)) then
 X VEx.normal [I (quoZ (lo + hi + (1 : Int)) (2 : Int)), I hi, VV.ptr (VA.own 1 0), VV.slice (VA.el 0 [] (0 : Int) 0) P.length cap, I at', I lim] [ptsA P.length (pF P), VB.cells (wtL w) (25 : TypeId)]
 else bif inK IntKind.i64 (quoZ (lo + hi + (1 : Int)) (2 : Int) - (1 : Int)) then
 X VEx.normal [I lo, I (quoZ (lo + hi + (1 : Int)) (2 : Int) - (1 : Int)), VV.ptr (VA.own 1 0), VV.slice (VA.el 0 [] (0 : Int) 0) P.length cap, I at', I lim] [ptsA P.length (pF P), VB.cells (wtL w) (25 : TypeId)]
 else False
 else False
 else False
 else False
 else X (VEx.exit 0) [I lo, I hi, VV.ptr (VA.own 1 0), VV.slice (VA.el 0 [] (0 : Int) 0) P.length cap, I at', I lim] [ptsA P.length (pF P), VB.cells (wtL w) (25 : TypeId)]) := by kernel_rfl

theorem f20_ev (P : List Pt) (cap : Nat) (w : Wt) (at' lim : Int) (Q : VRes → Prop) : spBL Try.prog 20 (tabS t20) [(0, LC P cap w at' lim)] 10 20 0 [.agg (wtL w), .slice (.el 0 [] 0 0) P.length cap, I at', I lim] ⟨1, [(0, ptsA P.length (pF P))]⟩ (fun r _ => Q r) =
  (bif !watB w then
 Q (VRes.ret (VV.tup [I 0, I 1]))
 else bif !inB lim (0 : Int) (100000 : Int) then
 Q (VRes.ret (VV.tup [I 0, I 2]))
 else bif !inB at' (0 : Int) (↑P.length : Int) then
 Q (VRes.ret (VV.tup [I 0, I 2]))
 else ∃ P_1, isList (VH.mk (2) [(1, VB.cells (wtL w) 25), (0, ptsA P.length (pF P))]) (VV.slice (VA.el 0 [] (0 : Int) 0) P.length cap) P_1.length 9 (pG P_1) ∧ bif !decide (flE w P_1 = (0 : Int)) then
 Q (VRes.ret (VV.tup [I 0, I (flE w P_1)]))
 else ∃ P_2, (isList (VH.mk (2 + 1) [(2, vecW (flL w P_1)), (1, VB.cells (wtL w) 25), (0, ptsA P.length (pF P))]) (VV.slice (VA.el 0 [] (0 : Int) 0) P.length cap) P_2.length 9 (pG P_2) ∧ WOk w ∧ ((0 : Int) ≤ at' ∧ at' ≤ (↑P_2.length : Int)) ∧ P_2.length ≤ 90000) ∧ bif !fitF w P_2 at'.toNat lim (0 : Int) then
 Q (VRes.ret (VV.tup [I 0, I 11]))
 else FitP 0 (VH.mk 3 ([0, 1].zip (BC P w))) (dsC.zip (VC P.length cap at' lim (0 : Int) (1099511627776 : Int))) (VH.mk 3 ([0, 1].zip (BC P w))) (dsC.zip (VC P.length cap at' lim (0 : Int) (1099511627776 : Int))) ∧ (WOk w ∧ ((0 : Int) ≤ at' ∧ at' ≤ (↑P.length : Int)) ∧ P.length ≤ 90000) ∧ Q (VRes.ret (VV.tup [I (bsR w P at' lim), I 0]))) := by kernel_rfl


end Go.Sx.Str

/- stream: the document's Room as a row. -/

namespace Go.Sx.Str
open Go Go.Sx Go.Proofs
set_option maxRecDepth 100000

theorem t20_ok : ∀ x ∈ t20, SpOk Try.prog x.1 x.2 := by
  intro x hx
  simp only [t20, List.mem_cons, List.not_mem_nil, or_false] at hx
  rcases hx with rfl | rfl | rfl | rfl
  · exact waT_ok wa23_v
  · exact inT_ok in_v
  · exact fl14_ok
  · exact f43T_ok

section
variable {P : List Pt} {cap : Nat} {w : Wt} {at' lim : Int}

structure IC (P : List Pt) (w : Wt) (at' : Int) (s : SB) : Prop where
  w : WOk w
  a : 0 ≤ at' ∧ at' ≤ P.length
  n : P.length ≤ 90000
  b : 0 ≤ s.lo ∧ s.lo ≤ s.hi ∧ s.hi ≤ 1099511627776
  m : s.hi - s.lo < ((2 ^ s.m : Nat) : Int)

def OC (w : Wt) (P : List Pt) (cap : Nat) (at' lim : Int) (s : SB) (e : VEx) (vs : List VV) (bs : List VB) : Prop :=
  e = .exit 0 ∧ vs = VC P.length cap at' lim (bsF (fitF w P at'.toNat lim) s.m s.lo s.hi) (bsF (fitF w P at'.toNat lim) s.m s.lo s.hi) ∧ bs = BC P w

theorem c0_round (m : Nat) (lo hi : Int) (h : IC P w at' ⟨m, lo, hi⟩) : codeE Try.prog (callN Try.prog (tabS t20) noL 10 20) (fun _ => none) true 10 63 0 (loopB 0 (bodyOf Try.prog 20)) (dsC.zip (VC P.length cap at' lim lo hi)) ⟨3, [0, 1].zip (BC P w)⟩
    (obs 3 dsC [0, 1] (RoundQ (fun s : SB => VC P.length cap at' lim s.lo s.hi) (fun _ => BC P w) (IC P w at') (fun s => (s.hi - s.lo).toNat) (OC w P cap at' lim) ⟨m, lo, hi⟩)) := by
  obtain ⟨hw, ha, hn, hb, hm⟩ := h
  dsimp only at hb hm
  rw [c0_ev]
  by_cases hlt : lo < hi
  · have eq : quoZ (lo + hi + 1) 2 = (lo + hi + 1) / 2 := by rw [quoZ_nn (by omega)]
    rw [eq]
    cases m with
    | zero => simp at hm; omega
    | succ m =>
      rw [pow_pos2] at hm
      refine cond_dk hlt (cond_r (by omega) (cond_r (by omega) (cond_r (by omega) ⟨P, ⟨isList_arr rfl, hw, ha, hn⟩, cond_b (fun hp => ?_) (fun hp => cond_r (by omega) ?_)⟩)))
      · refine ⟨⟨m, (lo + hi + 1) / 2, hi⟩, ⟨hw, ha, hn, by dsimp only; omega, by dsimp only; omega⟩, by dsimp only; omega, rfl, fitBs_refl _, ?_⟩
        rintro e vs bs ho
        unfold OC at ho ⊢
        rw [bs_yes hlt hp]
        exact ho
      · refine ⟨⟨m, lo, (lo + hi + 1) / 2 - 1⟩, ⟨hw, ha, hn, by dsimp only; omega, by dsimp only; omega⟩, by dsimp only; omega, rfl, fitBs_refl _, ?_⟩
        rintro e vs bs ho
        unfold OC at ho ⊢
        rw [bs_no hlt hp]
        exact ho
  · refine cond_d (fun h => absurd h hlt) (fun _ => ?_)
    have : hi = lo := by omega
    subst this
    refine ⟨rfl, ?_, rfl⟩
    rw [bs_end hlt]
    rfl

theorem LC_ok : LSound Try.prog true (.block 0 (.loop (loopB 0 (bodyOf Try.prog 20)))) 63 (LC P cap w at' lim) := by
  refine loop_row hmix (tab_good hmix t20_ok 20) (un := 10) (ds := dsC) (ns := [0, 1]) (nx := 3) (fun s : SB => VC P.length cap at' lim s.lo s.hi) (fun _ => BC P w) (IC P w at') (fun s => (s.hi - s.lo).toNat) (OC w P cap at' lim) noL_ok (fun s h => c0_round s.m s.lo s.hi h) ?_
  rintro lock t h K ⟨hf, ⟨hw, ha, hn⟩, hK⟩
  refine ⟨⟨41, 0, 1099511627776⟩, hf, ⟨hw, ha, hn, by dsimp only; omega, by dsimp only; decide⟩, ?_⟩
  rintro e vs bs ⟨rfl, rfl, rfl⟩
  exact hK
end

theorem room20 (w : Wt) (P : List Pt) (at' lim : Int) (cap : Nat) : ∃ h', CallsV Try.prog 20 [.agg (wtL w), .slice (.el 0 [] 0 0) P.length cap, I at', I lim] ⟨1, [(0, ptsA P.length (pF P))]⟩ (.ret (rmV w P at' lim)) h' := by
  have hsp := spBL_ok hmix (tabs_ok t20_ok) (f := 20) (l := [(0, LC P cap w at' lim)]) (fun x hx => by
    simp only [List.mem_singleton] at hx
    subst hx
    exact ⟨by kernel_rfl, LC_ok⟩) (un := 10) (fu := 20)
  obtain ⟨r, h', hQ, hc⟩ := of_sp hsp (args := [.agg (wtL w), .slice (.el 0 [] 0 0) P.length cap, I at', I lim]) (h := ⟨1, [(0, ptsA P.length (pF P))]⟩)
    (K := fun r _ => r = .ret (rmV w P at' lim))
    (by
      refine cast (f20_ev P cap w at' lim (fun r => r = .ret (rmV w P at' lim))).symm ?_
      have fin : ∀ e : Int, e ≠ 0 → rmE w P at' lim = e → VRes.ret (.tup [I 0, I e]) = .ret (rmV w P at' lim) := fun e h0 h => by
        unfold rmV
        rw [rmH_1 (by rw [h]; exact h0), h]
      refine cond_b (fun h1 => ?_) (fun h1 => cond_b (fun h2 => ?_) (fun h2 => cond_b (fun h3 => ?_) (fun h3 => ⟨P, isList_arr rfl, cond_nd (fun h4 => ?_) (fun h4 => ?_)⟩)))
      · exact fin 1 (by decide) (rm1 (by simpa using h1))
      · exact fin 2 (by decide) (rm2 (by simpa using h1) (by simpa using h2))
      · exact fin 2 (by decide) (rm3 (by simpa using h1) (by simpa using h2) (by simpa using h3))
      · exact fin _ h4 (rm4 (by simpa using h1) (by simpa using h2) (by simpa using h3) h4)
      · obtain ⟨l1, l2, l3⟩ := flE_len h4
        have hat := inB_iff.1 (show inB at' 0 P.length = true by simpa using h3)
        refine ⟨P, ⟨isList_arr rfl, watB_iff.1 l2, hat, by omega⟩, cond_b (fun h5 => ?_) (fun h5 => ⟨fitP_self rfl, ⟨watB_iff.1 l2, hat, by omega⟩, ?_⟩)⟩
        · exact fin 11 (by decide) (rm5 (by simpa using h1) (by simpa using h2) (by simpa using h3) h4 (by simpa using h5))
        · have h6 := rm6 (by simpa using h1) (by simpa using h2) (by simpa using h3) h4 (show fitF w P at'.toNat lim 0 = true by simpa using h5)
          unfold rmV
          rw [rmH_0 h6, h6])
  subst hQ
  exact ⟨h', hc⟩

theorem rm20_ok : SpOk Try.prog (rmT 20).1 (rmT 20).2 := rmT_ok room20
end Go.Sx.Str

/- stream: awake, evaluated. -/

namespace Go.Sx.Str
open Go Go.Sx Go.Proofs
set_option maxRecDepth 100000

def tAw : List (FuncId × Spec1) := [flT 13, wmT 15, rmT 19, inT18]
theorem aw_ev (Q : VRes → Prop) : callN Try.prog (tabS tAw) noL 60 20 0 (.fn 12) [] ⟨0, []⟩ (fun r _ => Q r) =
  (∃ P, isList (VH.mk (3) [(2, VB.cells [I 1000, I 1200, I 8000, I 9000] 25), (2, VB.cells [I 0, I 0, I 0, I 0] 25), (0, VB.cells [I 1000, I 1200, I 8000, I 9000] 25), (1, VB.vec 4 (fun j => List.take (9) (List.drop (j * (9)) [I 2, I 0, I 0, I 0, I 0, I 1000000, I 1200000, I 0, I 0, I 1, I 200, I 200, I 0, I 0, I 0, I 0, I 0, I 0, I 0, I 100, I 400, I 12000, I 14000, I 0, I 0, I 0, I 0, I 3, I 0, I 0, I 5000, I 6000, I 0, I 0, I 1000, I 2000])) (9) 47), (0, VB.cells [I 0, I 0, I 0, I 0] 25)]) (VV.sl (1) 4) P.length 9 (pG P) ∧ ∃ P_1, isList (VH.mk (3 + 1) [(3, vecW (flL (Wt.mk (1000 : Int) (1200 : Int) (8000 : Int) (9000 : Int)) P)), (2, VB.cells [I 1000, I 1200, I 8000, I 9000] 25), (2, VB.cells [I 0, I 0, I 0, I 0] 25), (0, VB.cells [I 1000, I 1200, I 8000, I 9000] 25), (1, VB.vec 4 (fun j => List.take (9) (List.drop (j * (9)) [I 2, I 0, I 0, I 0, I 0, I 1000000, I 1200000, I 0, I 0, I 1, I 200, I 200, I 0, I 0, I 0, I 0, I 0, I 0, I 0, I 100, I 400, I 12000, I 14000, I 0, I 0, I 0, I 0, I 3, I 0, I 0, I 5000, I 6000, I 0, I 0, I 1000, I 2000])) (9) 47), (0, VB.cells [I 0, I 0, I 0, I 0] 25)]) (VV.sl (1) 4) P_1.length 9 (pG P_1) ∧ ∃ P_2, isList (VH.mk (3 + 1 + 2) [(3 + 1 + 1, vecI (wmP (Wt.mk (1000 : Int) (1200 : Int) (8000 : Int) (9000 : Int)) P_1 (8500 : Int))), (3 + 1, vecI (wmS (Wt.mk (1000 : Int) (1200 : Int) (8000 : Int) (9000 : Int)) P_1 (8500 : Int))), (3, vecW (flL (Wt.mk (1000 : Int) (1200 : Int) (8000 : Int) (9000 : Int)) P)), (2, VB.cells [I 1000, I 1200, I 8000, I 9000] 25), (2, VB.cells [I 0, I 0, I 0, I 0] 25), (0, VB.cells [I 1000, I 1200, I 8000, I 9000] 25), (1, VB.vec 4 (fun j => List.take (9) (List.drop (j * (9)) [I 2, I 0, I 0, I 0, I 0, I 1000000, I 1200000, I 0, I 0, I 1, I 200, I 200, I 0, I 0, I 0, I 0, I 0, I 0, I 0, I 100, I 400, I 12000, I 14000, I 0, I 0, I 0, I 0, I 3, I 0, I 0, I 5000, I 6000, I 0, I 0, I 1000, I 2000])) (9) 47), (0, VB.cells [I 0, I 0, I 0, I 0] 25)]) (VV.sub (1) 4 (9) (Int.toNat (0 : Int)) ((1 : Int) - (0 : Int)).toNat) P_2.length 9 (pG P_2) ∧ bif !decide ((↑(flL (Wt.mk (1000 : Int) (1200 : Int) (8000 : Int) (9000 : Int)) P).length : Int) = (4 : Int)) then
 Q (VRes.ret (VV.bool false))
 else bif !decide (flI (Wt.mk (1000 : Int) (1200 : Int) (8000 : Int) (9000 : Int)) P = (4 : Int)) then
 Q (VRes.ret (VV.bool false))
 else bif !decide (flE (Wt.mk (1000 : Int) (1200 : Int) (8000 : Int) (9000 : Int)) P = (0 : Int)) then
 Q (VRes.ret (VV.bool false))
 else bif decide ((0 : Int) ≤ (2 : Int) ∧ (2 : Int) < (↑(flL (Wt.mk (1000 : Int) (1200 : Int) (8000 : Int) (9000 : Int)) P).length : Int)) then
 bif (flL (Wt.mk (1000 : Int) (1200 : Int) (8000 : Int) (9000 : Int)) P).length.beq (flL (Wt.mk (1000 : Int) (1200 : Int) (8000 : Int) (9000 : Int)) P).length && true then
 bif (flL (Wt.mk (1000 : Int) (1200 : Int) (8000 : Int) (9000 : Int)) P).length.beq (flL (Wt.mk (1000 : Int) (1200 : Int) (8000 : Int) (9000 : Int)) P).length then
 bif !(decide (((flL (Wt.mk (1000 : Int) (1200 : Int) (8000 : Int) (9000 : Int)) P).getD (Int.toNat (2 : Int)) w0).flo = (900 : Int)) && (decide (((flL (Wt.mk (1000 : Int) (1200 : Int) (8000 : Int) (9000 : Int)) P).getD (Int.toNat (2 : Int)) w0).fhi = (1400 : Int)) && true) && (decide (((flL (Wt.mk (1000 : Int) (1200 : Int) (8000 : Int) (9000 : Int)) P).getD (Int.toNat (2 : Int)) w0).wlo = (9120 : Int)) && (decide (((flL (Wt.mk (1000 : Int) (1200 : Int) (8000 : Int) (9000 : Int)) P).getD (Int.toNat (2 : Int)) w0).whi = (11467 : Int)) && true) && true)) then
 Q (VRes.ret (VV.bool false))
 else bif decide ((0 : Int) ≤ (3 : Int) ∧ (3 : Int) < (↑(flL (Wt.mk (1000 : Int) (1200 : Int) (8000 : Int) (9000 : Int)) P).length : Int)) then
 bif (flL (Wt.mk (1000 : Int) (1200 : Int) (8000 : Int) (9000 : Int)) P).length.beq (flL (Wt.mk (1000 : Int) (1200 : Int) (8000 : Int) (9000 : Int)) P).length && true then
 bif (flL (Wt.mk (1000 : Int) (1200 : Int) (8000 : Int) (9000 : Int)) P).length.beq (flL (Wt.mk (1000 : Int) (1200 : Int) (8000 : Int) (9000 : Int)) P).length then
 bif !(decide (((flL (Wt.mk (1000 : Int) (1200 : Int) (8000 : Int) (9000 : Int)) P).getD (Int.toNat (3 : Int)) w0).flo = (900 : Int)) && (decide (((flL (Wt.mk (1000 : Int) (1200 : Int) (8000 : Int) (9000 : Int)) P).getD (Int.toNat (3 : Int)) w0).fhi = (1400 : Int)) && true) && (decide (((flL (Wt.mk (1000 : Int) (1200 : Int) (8000 : Int) (9000 : Int)) P).getD (Int.toNat (3 : Int)) w0).wlo = (8296 : Int)) && (decide (((flL (Wt.mk (1000 : Int) (1200 : Int) (8000 : Int) (9000 : Int)) P).getD (Int.toNat (3 : Int)) w0).whi = (10921 : Int)) && true) && true)) then
 Q (VRes.ret (VV.bool false))
 else ∃ xs, (isList (VH.mk (25) [(24, VB.vec 3 (fun j => List.take (1) (List.drop (j * (1)) [I 0, I 1, I 2])) (1) 3), (12, VB.cells [I ((10 : Int) - (6 : Int) + (6 : Int)), I ((10 : Int) - (6 : Int) + (6 : Int)), I ((5 : Int) - (5 : Int) + (5 : Int)), I 10, I 0, I 0, I 0, I 0, I 0, I 0, I 0, I 0, I 0, I 0, I 0, I 0, I 0, I 0, I 0, I 0, I 0, I 0, I 0, I 0, I 0, I 0, I 0, I 0, I 0, I 0, I 0, I 0, I 0, I 0, I 0, I 0, I 0, I 0, I 0, I 0, I 0, I 0, I 0, I 0, I 0, I 0, I 0, I 0, I 0, I 0, I 0, I 0, I 0, I 0, I 0, I 0, I 0, I 0, I 0, I 0, I 0, I 0, I 0, I 0, I 0, I 0, I 0, I 0, I 0, I 0, I 0, I 0, I 0, I 0, I 0, I 0, I 0, I 0, I 0, I 0, I 0, I 0, I 0, I 0, I 0, I 0, I 0, I 0, I 0, I 0, I 0, I 0, I 0, I 0, I 0, I 0, I 0, I 0, I 0, I 0, I 0, I 0, I 0, I 0, I 0, I 0, I 0, I 0, I 0, I 0, I 0, I 0, I 0, I 0, I 0, I 0, I 0, I 0, I 0, I 0, I 0, I 0, I 0, I 0, I 0, I 0, I 0, I 0, I 0, I 0, I 0, I 0, I 0, I 0, I 0, I 0, I 0, I 0, I 0, I 0, I 0, I 0, I 0, I 0, I 0, I 0, I 0, I 0, I 0, I 0, I 0, I 0, I 0, I 0, I 0, I 0, I 0, I 0, I 0, I 0, I 0, I 0, I 0, I 0, I 0, I 0, I 0, I 0] 81), (12, VB.cells [I ((10 : Int) - (6 : Int) + (6 : Int)), I ((10 : Int) - (6 : Int)), I ((5 : Int) - (5 : Int) + (5 : Int)), I 10, I 0, I 0, I 0, I 0, I 0, I 0, I 0, I 0, I 0, I 0, I 0, I 0, I 0, I 0, I 0, I 0, I 0, I 0, I 0, I 0, I 0, I 0, I 0, I 0, I 0, I 0, I 0, I 0, I 0, I 0, I 0, I 0, I 0, I 0, I 0, I 0, I 0, I 0, I 0, I 0, I 0, I 0, I 0, I 0, I 0, I 0, I 0, I 0, I 0, I 0, I 0, I 0, I 0, I 0, I 0, I 0, I 0, I 0, I 0, I 0, I 0, I 0, I 0, I 0, I 0, I 0, I 0, I 0, I 0, I 0, I 0, I 0, I 0, I 0, I 0, I 0, I 0, I 0, I 0, I 0, I 0, I 0, I 0, I 0, I 0, I 0, I 0, I 0, I 0, I 0, I 0, I 0, I 0, I 0, I 0, I 0, I 0, I 0, I 0, I 0, I 0, I 0, I 0, I 0, I 0, I 0, I 0, I 0, I 0, I 0, I 0, I 0, I 0, I 0, I 0, I 0, I 0, I 0, I 0, I 0, I 0, I 0, I 0, I 0, I 0, I 0, I 0, I 0, I 0, I 0, I 0, I 0, I 0, I 0, I 0, I 0, I 0, I 0, I 0, I 0, I 0, I 0, I 0, I 0, I 0, I 0, I 0, I 0, I 0, I 0, I 0, I 0, I 0, I 0, I 0, I 0, I 0, I 0, I 0, I 0, I 0, I 0, I 0, I 0] 81), (13, VB.cells [VV.sub (20) (1 + 1) (1) (Int.toNat (0 : Int) + Int.toNat (0 : Int)) ((0 : Int) - (0 : Int)).toNat] 33), (12, VB.cells [I ((10 : Int) - (6 : Int)), I ((10 : Int) - (6 : Int)), I ((5 : Int) - (5 : Int) + (5 : Int)), I 10, I 0, I 0, I 0, I 0, I 0, I 0, I 0, I 0, I 0, I 0, I 0, I 0, I 0, I 0, I 0, I 0, I 0, I 0, I 0, I 0, I 0, I 0, I 0, I 0, I 0, I 0, I 0, I 0, I 0, I 0, I 0, I 0, I 0, I 0, I 0, I 0, I 0, I 0, I 0, I 0, I 0, I 0, I 0, I 0, I 0, I 0, I 0, I 0, I 0, I 0, I 0, I 0, I 0, I 0, I 0, I 0, I 0, I 0, I 0, I 0, I 0, I 0, I 0, I 0, I 0, I 0, I 0, I 0, I 0, I 0, I 0, I 0, I 0, I 0, I 0, I 0, I 0, I 0, I 0, I 0, I 0, I 0, I 0, I 0, I 0, I 0, I 0, I 0, I 0, I 0, I 0, I 0, I 0, I 0, I 0, I 0, I 0, I 0, I 0, I 0, I 0, I 0, I 0, I 0, I 0, I 0, I 0, I 0, I 0, I 0, I 0, I 0, I 0, I 0, I 0, I 0, I 0, I 0, I 0, I 0, I 0, I 0, I 0, I 0, I 0, I 0, I 0, I 0, I 0, I 0, I 0, I 0, I 0, I 0, I 0, I 0, I 0, I 0, I 0, I 0, I 0, I 0, I 0, I 0, I 0, I 0, I 0, I 0, I 0, I 0, I 0, I 0, I 0, I 0, I 0, I 0, I 0, I 0, I 0, I 0, I 0, I 0, I 0, I 0] 81), (13, VB.cells [VV.sub (20) (1 + 1) (1) (Int.toNat (0 : Int)) ((↑1 : Int) - (0 : Int)).toNat] 33), (16, VB.cells [VV.bool true] 4), (15, VB.cells [I (max (max (0 : Int) ((0 : Int) + (2 : Int))) ((0 : Int) + (1 : Int) + (1 : Int) + (1 : Int)))] 3), (14, VB.cells [VV.sl (23) (0 + (1 + 1))] 33), (23, VB.vec (0 + (1 + 1)) (catG 0 (fun j => List.take (1) (List.drop (j * (1)) [])) (catG 1 (fun j => List.take (1) (List.drop (j * (1)) [I 0])) fun j => List.take (1) (List.drop (j * (1)) [I ((0 : Int) + (1 : Int) + (1 : Int))]))) (1) 3), (23, VB.vec 0 (fun j => List.take (1) (List.drop (j * (1)) [])) (1) 3), (13, VB.cells [VV.sl (20) (1 + 1)] 33), (20, VB.vec (1 + 1) (catG 1 (fun j => List.take (1) (List.drop (j * (1)) [I 0])) fun j => List.take (1) (List.drop (j * (1)) [I ((0 : Int) + (1 : Int) + (1 : Int))])) (1) 3), (22, VB.vec 1 (fun j => List.take (1) (List.drop (j * (1)) [I ((0 : Int) + (1 : Int) + (1 : Int))])) (1) 3), (12, VB.cells [I ((10 : Int) - (6 : Int)), I ((10 : Int) - (6 : Int)), I ((5 : Int) - (5 : Int)), I 10, I 0, I 0, I 0, I 0, I 0, I 0, I 0, I 0, I 0, I 0, I 0, I 0, I 0, I 0, I 0, I 0, I 0, I 0, I 0, I 0, I 0, I 0, I 0, I 0, I 0, I 0, I 0, I 0, I 0, I 0, I 0, I 0, I 0, I 0, I 0, I 0, I 0, I 0, I 0, I 0, I 0, I 0, I 0, I 0, I 0, I 0, I 0, I 0, I 0, I 0, I 0, I 0, I 0, I 0, I 0, I 0, I 0, I 0, I 0, I 0, I 0, I 0, I 0, I 0, I 0, I 0, I 0, I 0, I 0, I 0, I 0, I 0, I 0, I 0, I 0, I 0, I 0, I 0, I 0, I 0, I 0, I 0, I 0, I 0, I 0, I 0, I 0, I 0, I 0, I 0, I 0, I 0, I 0, I 0, I 0, I 0, I 0, I 0, I 0, I 0, I 0, I 0, I 0, I 0, I 0, I 0, I 0, I 0, I 0, I 0, I 0, I 0, I 0, I 0, I 0, I 0, I 0, I 0, I 0, I 0, I 0, I 0, I 0, I 0, I 0, I 0, I 0, I 0, I 0, I 0, I 0, I 0, I 0, I 0, I 0, I 0, I 0, I 0, I 0, I 0, I 0, I 0, I 0, I 0, I 0, I 0, I 0, I 0, I 0, I 0, I 0, I 0, I 0, I 0, I 0, I 0, I 0, I 0, I 0, I 0, I 0, I 0, I 0, I 0] 81), (21, VB.cells [I 0, I 4, I 1, I 5] 67), (21, VB.cells [I 0, I 0, I 0, I 0] 67), (13, VB.cells [VV.sl (20) 1] 33), (20, VB.vec 1 (fun j => List.take (1) (List.drop (j * (1)) [I 0])) (1) 3), (19, VB.vec 1 (fun j => List.take (1) (List.drop (j * (1)) [I 0])) (1) 3), (12, VB.cells [I ((10 : Int) - (6 : Int)), I ((10 : Int) - (6 : Int)), I 5, I 10, I 0, I 0, I 0, I 0, I 0, I 0, I 0, I 0, I 0, I 0, I 0, I 0, I 0, I 0, I 0, I 0, I 0, I 0, I 0, I 0, I 0, I 0, I 0, I 0, I 0, I 0, I 0, I 0, I 0, I 0, I 0, I 0, I 0, I 0, I 0, I 0, I 0, I 0, I 0, I 0, I 0, I 0, I 0, I 0, I 0, I 0, I 0, I 0, I 0, I 0, I 0, I 0, I 0, I 0, I 0, I 0, I 0, I 0, I 0, I 0, I 0, I 0, I 0, I 0, I 0, I 0, I 0, I 0, I 0, I 0, I 0, I 0, I 0, I 0, I 0, I 0, I 0, I 0, I 0, I 0, I 0, I 0, I 0, I 0, I 0, I 0, I 0, I 0, I 0, I 0, I 0, I 0, I 0, I 0, I 0, I 0, I 0, I 0, I 0, I 0, I 0, I 0, I 0, I 0, I 0, I 0, I 0, I 0, I 0, I 0, I 0, I 0, I 0, I 0, I 0, I 0, I 0, I 0, I 0, I 0, I 0, I 0, I 0, I 0, I 0, I 0, I 0, I 0, I 0, I 0, I 0, I 0, I 0, I 0, I 0, I 0, I 0, I 0, I 0, I 0, I 0, I 0, I 0, I 0, I 0, I 0, I 0, I 0, I 0, I 0, I 0, I 0, I 0, I 0, I 0, I 0, I 0, I 0, I 0, I 0, I 0, I 0, I 0, I 0] 81), (12, VB.cells [I ((10 : Int) - (6 : Int)), I 10, I 5, I 10, I 0, I 0, I 0, I 0, I 0, I 0, I 0, I 0, I 0, I 0, I 0, I 0, I 0, I 0, I 0, I 0, I 0, I 0, I 0, I 0, I 0, I 0, I 0, I 0, I 0, I 0, I 0, I 0, I 0, I 0, I 0, I 0, I 0, I 0, I 0, I 0, I 0, I 0, I 0, I 0, I 0, I 0, I 0, I 0, I 0, I 0, I 0, I 0, I 0, I 0, I 0, I 0, I 0, I 0, I 0, I 0, I 0, I 0, I 0, I 0, I 0, I 0, I 0, I 0, I 0, I 0, I 0, I 0, I 0, I 0, I 0, I 0, I 0, I 0, I 0, I 0, I 0, I 0, I 0, I 0, I 0, I 0, I 0, I 0, I 0, I 0, I 0, I 0, I 0, I 0, I 0, I 0, I 0, I 0, I 0, I 0, I 0, I 0, I 0, I 0, I 0, I 0, I 0, I 0, I 0, I 0, I 0, I 0, I 0, I 0, I 0, I 0, I 0, I 0, I 0, I 0, I 0, I 0, I 0, I 0, I 0, I 0, I 0, I 0, I 0, I 0, I 0, I 0, I 0, I 0, I 0, I 0, I 0, I 0, I 0, I 0, I 0, I 0, I 0, I 0, I 0, I 0, I 0, I 0, I 0, I 0, I 0, I 0, I 0, I 0, I 0, I 0, I 0, I 0, I 0, I 0, I 0, I 0, I 0, I 0, I 0, I 0, I 0, I 0] 81), (18, VB.cells [I 0, I 4, I 2, I 6] 67), (18, VB.cells [I 0, I 0, I 0, I 0] 67), (17, VB.cells [VV.func 45 [] [VV.ptr (VA.own (13) 0), VV.ptr (VA.own (8) 0), VV.ptr (VA.own (14) 0), VV.ptr (VA.own (15) 0), VV.ptr (VA.own (16) 0), VV.ptr (VA.own (12) 0), VV.ptr (VA.own (17) 0)]] 82), (17, VB.cells [VV.nilf] 82), (16, VB.cells [VV.bool false] 4), (16, VB.cells [VV.bool false] 4), (15, VB.cells [I ((↑4 : Int) + (1 : Int))] 3), (15, VB.cells [I 0] 3), (14, VB.cells [VV.nils] 33), (13, VB.cells [VV.nils] 33), (12, VB.cells [I 10, I 10, I 5, I 10, I 0, I 0, I 0, I 0, I 0, I 0, I 0, I 0, I 0, I 0, I 0, I 0, I 0, I 0, I 0, I 0, I 0, I 0, I 0, I 0, I 0, I 0, I 0, I 0, I 0, I 0, I 0, I 0, I 0, I 0, I 0, I 0, I 0, I 0, I 0, I 0, I 0, I 0, I 0, I 0, I 0, I 0, I 0, I 0, I 0, I 0, I 0, I 0, I 0, I 0, I 0, I 0, I 0, I 0, I 0, I 0, I 0, I 0, I 0, I 0, I 0, I 0, I 0, I 0, I 0, I 0, I 0, I 0, I 0, I 0, I 0, I 0, I 0, I 0, I 0, I 0, I 0, I 0, I 0, I 0, I 0, I 0, I 0, I 0, I 0, I 0, I 0, I 0, I 0, I 0, I 0, I 0, I 0, I 0, I 0, I 0, I 0, I 0, I 0, I 0, I 0, I 0, I 0, I 0, I 0, I 0, I 0, I 0, I 0, I 0, I 0, I 0, I 0, I 0, I 0, I 0, I 0, I 0, I 0, I 0, I 0, I 0, I 0, I 0, I 0, I 0, I 0, I 0, I 0, I 0, I 0, I 0, I 0, I 0, I 0, I 0, I 0, I 0, I 0, I 0, I 0, I 0, I 0, I 0, I 0, I 0, I 0, I 0, I 0, I 0, I 0, I 0, I 0, I 0, I 0, I 0, I 0, I 0, I 0, I 0, I 0, I 0, I 0, I 0] 81), (12, VB.cells [I 0, I 0, I 0, I 0, I 0, I 0, I 0, I 0, I 0, I 0, I 0, I 0, I 0, I 0, I 0, I 0, I 0, I 0, I 0, I 0, I 0, I 0, I 0, I 0, I 0, I 0, I 0, I 0, I 0, I 0, I 0, I 0, I 0, I 0, I 0, I 0, I 0, I 0, I 0, I 0, I 0, I 0, I 0, I 0, I 0, I 0, I 0, I 0, I 0, I 0, I 0, I 0, I 0, I 0, I 0, I 0, I 0, I 0, I 0, I 0, I 0, I 0, I 0, I 0, I 0, I 0, I 0, I 0, I 0, I 0, I 0, I 0, I 0, I 0, I 0, I 0, I 0, I 0, I 0, I 0, I 0, I 0, I 0, I 0, I 0, I 0, I 0, I 0, I 0, I 0, I 0, I 0, I 0, I 0, I 0, I 0, I 0, I 0, I 0, I 0, I 0, I 0, I 0, I 0, I 0, I 0, I 0, I 0, I 0, I 0, I 0, I 0, I 0, I 0, I 0, I 0, I 0, I 0, I 0, I 0, I 0, I 0, I 0, I 0, I 0, I 0, I 0, I 0, I 0, I 0, I 0, I 0, I 0, I 0, I 0, I 0, I 0, I 0, I 0, I 0, I 0, I 0, I 0, I 0, I 0, I 0, I 0, I 0, I 0, I 0, I 0, I 0, I 0, I 0, I 0, I 0, I 0, I 0, I 0, I 0, I 0, I 0, I 0, I 0, I 0, I 0, I 0, I 0] 81), (11, VB.cells [I 0, I 4, I 1, I 5] 67), (10, VB.cells [I 0, I 4, I 2, I 6] 67), (9, VB.cells [VV.sl (6) 4] 33), (8, VB.cells [VV.sl (7) 2] 42), (7, VB.vec 2 (fun j => List.take (4) (List.drop (j * (4)) [I 0, I 4, I 2, I 6, I 0, I 4, I 1, I 5])) (4) 67), (6, VB.vec 4 (fun j => List.take (1) (List.drop (j * (1)) [I 10, I 10, I 5, I 10])) (1) 3), (3 + 1 + 1, vecI (wmP (Wt.mk (1000 : Int) (1200 : Int) (8000 : Int) (9000 : Int)) P_1 (8500 : Int))), (3 + 1, vecI (wmS (Wt.mk (1000 : Int) (1200 : Int) (8000 : Int) (9000 : Int)) P_1 (8500 : Int))), (3, vecW (flL (Wt.mk (1000 : Int) (1200 : Int) (8000 : Int) (9000 : Int)) P)), (2, VB.cells [I 1000, I 1200, I 8000, I 9000] 25), (2, VB.cells [I 0, I 0, I 0, I 0] 25), (0, VB.cells [I 1000, I 1200, I 8000, I 9000] 25), (1, VB.vec 4 (fun j => List.take (9) (List.drop (j * (9)) [I 2, I 0, I 0, I 0, I 0, I 1000000, I 1200000, I 0, I 0, I 1, I 200, I 200, I 0, I 0, I 0, I 0, I 0, I 0, I 0, I 100, I 400, I 12000, I 14000, I 0, I 0, I 0, I 0, I 3, I 0, I 0, I 5000, I 6000, I 0, I 0, I 1000, I 2000])) (9) 47), (0, VB.cells [I 0, I 0, I 0, I 0] 25)]) (VV.sl (3 + 1) (wmS (Wt.mk (1000 : Int) (1200 : Int) (8000 : Int) (9000 : Int)) P_1 (8500 : Int)).length) xs.length 1 (iG xs) ∧ isList (VH.mk (25) [(24, VB.vec 3 (fun j => List.take (1) (List.drop (j * (1)) [I 0, I 1, I 2])) (1) 3), (12, VB.cells [I ((10 : Int) - (6 : Int) + (6 : Int)), I ((10 : Int) - (6 : Int) + (6 : Int)), I ((5 : Int) - (5 : Int) + (5 : Int)), I 10, I 0, I 0, I 0, I 0, I 0, I 0, I 0, I 0, I 0, I 0, I 0, I 0, I 0, I 0, I 0, I 0, I 0, I 0, I 0, I 0, I 0, I 0, I 0, I 0, I 0, I 0, I 0, I 0, I 0, I 0, I 0, I 0, I 0, I 0, I 0, I 0, I 0, I 0, I 0, I 0, I 0, I 0, I 0, I 0, I 0, I 0, I 0, I 0, I 0, I 0, I 0, I 0, I 0, I 0, I 0, I 0, I 0, I 0, I 0, I 0, I 0, I 0, I 0, I 0, I 0, I 0, I 0, I 0, I 0, I 0, I 0, I 0, I 0, I 0, I 0, I 0, I 0, I 0, I 0, I 0, I 0, I 0, I 0, I 0, I 0, I 0, I 0, I 0, I 0, I 0, I 0, I 0, I 0, I 0, I 0, I 0, I 0, I 0, I 0, I 0, I 0, I 0, I 0, I 0, I 0, I 0, I 0, I 0, I 0, I 0, I 0, I 0, I 0, I 0, I 0, I 0, I 0, I 0, I 0, I 0, I 0, I 0, I 0, I 0, I 0, I 0, I 0, I 0, I 0, I 0, I 0, I 0, I 0, I 0, I 0, I 0, I 0, I 0, I 0, I 0, I 0, I 0, I 0, I 0, I 0, I 0, I 0, I 0, I 0, I 0, I 0, I 0, I 0, I 0, I 0, I 0, I 0, I 0, I 0, I 0, I 0, I 0, I 0, I 0] 81), (12, VB.cells [I ((10 : Int) - (6 : Int) + (6 : Int)), I ((10 : Int) - (6 : Int)), I ((5 : Int) - (5 : Int) + (5 : Int)), I 10, I 0, I 0, I 0, I 0, I 0, I 0, I 0, I 0, I 0, I 0, I 0, I 0, I 0, I 0, I 0, I 0, I 0, I 0, I 0, I 0, I 0, I 0, I 0, I 0, I 0, I 0, I 0, I 0, I 0, I 0, I 0, I 0, I 0, I 0, I 0, I 0, I 0, I 0, I 0, I 0, I 0, I 0, I 0, I 0, I 0, I 0, I 0, I 0, I 0, I 0, I 0, I 0, I 0, I 0, I 0, I 0, I 0, I 0, I 0, I 0, I 0, I 0, I 0, I 0, I 0, I 0, I 0, I 0, I 0, I 0, I 0, I 0, I 0, I 0, I 0, I 0, I 0, I 0, I 0, I 0, I 0, I 0, I 0, I 0, I 0, I 0, I 0, I 0, I 0, I 0, I 0, I 0, I 0, I 0, I 0, I 0, I 0, I 0, I 0, I 0, I 0, I 0, I 0, I 0, I 0, I 0, I 0, I 0, I 0, I 0, I 0, I 0, I 0, I 0, I 0, I 0, I 0, I 0, I 0, I 0, I 0, I 0, I 0, I 0, I 0, I 0, I 0, I 0, I 0, I 0, I 0, I 0, I 0, I 0, I 0, I 0, I 0, I 0, I 0, I 0, I 0, I 0, I 0, I 0, I 0, I 0, I 0, I 0, I 0, I 0, I 0, I 0, I 0, I 0, I 0, I 0, I 0, I 0, I 0, I 0, I 0, I 0, I 0, I 0] 81), (13, VB.cells [VV.sub (20) (1 + 1) (1) (Int.toNat (0 : Int) + Int.toNat (0 : Int)) ((0 : Int) - (0 : Int)).toNat] 33), (12, VB.cells [I ((10 : Int) - (6 : Int)), I ((10 : Int) - (6 : Int)), I ((5 : Int) - (5 : Int) + (5 : Int)), I 10, I 0, I 0, I 0, I 0, I 0, I 0, I 0, I 0, I 0, I 0, I 0, I 0, I 0, I 0, I 0, I 0, I 0, I 0, I 0, I 0, I 0, I 0, I 0, I 0, I 0, I 0, I 0, I 0, I 0, I 0, I 0, I 0, I 0, I 0, I 0, I 0, I 0, I 0, I 0, I 0, I 0, I 0, I 0, I 0, I 0, I 0, I 0, I 0, I 0, I 0, I 0, I 0, I 0, I 0, I 0, I 0, I 0, I 0, I 0, I 0, I 0, I 0, I 0, I 0, I 0, I 0, I 0, I 0, I 0, I 0, I 0, I 0, I 0, I 0, I 0, I 0, I 0, I 0, I 0, I 0, I 0, I 0, I 0, I 0, I 0, I 0, I 0, I 0, I 0, I 0, I 0, I 0, I 0, I 0, I 0, I 0, I 0, I 0, I 0, I 0, I 0, I 0, I 0, I 0, I 0, I 0, I 0, I 0, I 0, I 0, I 0, I 0, I 0, I 0, I 0, I 0, I 0, I 0, I 0, I 0, I 0, I 0, I 0, I 0, I 0, I 0, I 0, I 0, I 0, I 0, I 0, I 0, I 0, I 0, I 0, I 0, I 0, I 0, I 0, I 0, I 0, I 0, I 0, I 0, I 0, I 0, I 0, I 0, I 0, I 0, I 0, I 0, I 0, I 0, I 0, I 0, I 0, I 0, I 0, I 0, I 0, I 0, I 0, I 0] 81), (13, VB.cells [VV.sub (20) (1 + 1) (1) (Int.toNat (0 : Int)) ((↑1 : Int) - (0 : Int)).toNat] 33), (16, VB.cells [VV.bool true] 4), (15, VB.cells [I (max (max (0 : Int) ((0 : Int) + (2 : Int))) ((0 : Int) + (1 : Int) + (1 : Int) + (1 : Int)))] 3), (14, VB.cells [VV.sl (23) (0 + (1 + 1))] 33), (23, VB.vec (0 + (1 + 1)) (catG 0 (fun j => List.take (1) (List.drop (j * (1)) [])) (catG 1 (fun j => List.take (1) (List.drop (j * (1)) [I 0])) fun j => List.take (1) (List.drop (j * (1)) [I ((0 : Int) + (1 : Int) + (1 : Int))]))) (1) 3), (23, VB.vec 0 (fun j => List.take (1) (List.drop (j * (1)) [])) (1) 3), (13, VB.cells [VV.sl (20) (1 + 1)] 33), (20, VB.vec (1 + 1) (catG 1 (fun j => List.take (1) (List.drop (j * (1)) [I 0])) fun j => List.take (1) (List.drop (j * (1)) [I ((0 : Int) + (1 : Int) + (1 : Int))])) (1) 3), (22, VB.vec 1 (fun j => List.take (1) (List.drop (j * (1)) [I ((0 : Int) + (1 : Int) + (1 : Int))])) (1) 3), (12, VB.cells [I ((10 : Int) - (6 : Int)), I ((10 : Int) - (6 : Int)), I ((5 : Int) - (5 : Int)), I 10, I 0, I 0, I 0, I 0, I 0, I 0, I 0, I 0, I 0, I 0, I 0, I 0, I 0, I 0, I 0, I 0, I 0, I 0, I 0, I 0, I 0, I 0, I 0, I 0, I 0, I 0, I 0, I 0, I 0, I 0, I 0, I 0, I 0, I 0, I 0, I 0, I 0, I 0, I 0, I 0, I 0, I 0, I 0, I 0, I 0, I 0, I 0, I 0, I 0, I 0, I 0, I 0, I 0, I 0, I 0, I 0, I 0, I 0, I 0, I 0, I 0, I 0, I 0, I 0, I 0, I 0, I 0, I 0, I 0, I 0, I 0, I 0, I 0, I 0, I 0, I 0, I 0, I 0, I 0, I 0, I 0, I 0, I 0, I 0, I 0, I 0, I 0, I 0, I 0, I 0, I 0, I 0, I 0, I 0, I 0, I 0, I 0, I 0, I 0, I 0, I 0, I 0, I 0, I 0, I 0, I 0, I 0, I 0, I 0, I 0, I 0, I 0, I 0, I 0, I 0, I 0, I 0, I 0, I 0, I 0, I 0, I 0, I 0, I 0, I 0, I 0, I 0, I 0, I 0, I 0, I 0, I 0, I 0, I 0, I 0, I 0, I 0, I 0, I 0, I 0, I 0, I 0, I 0, I 0, I 0, I 0, I 0, I 0, I 0, I 0, I 0, I 0, I 0, I 0, I 0, I 0, I 0, I 0, I 0, I 0, I 0, I 0, I 0, I 0] 81), (21, VB.cells [I 0, I 4, I 1, I 5] 67), (21, VB.cells [I 0, I 0, I 0, I 0] 67), (13, VB.cells [VV.sl (20) 1] 33), (20, VB.vec 1 (fun j => List.take (1) (List.drop (j * (1)) [I 0])) (1) 3), (19, VB.vec 1 (fun j => List.take (1) (List.drop (j * (1)) [I 0])) (1) 3), (12, VB.cells [I ((10 : Int) - (6 : Int)), I ((10 : Int) - (6 : Int)), I 5, I 10, I 0, I 0, I 0, I 0, I 0, I 0, I 0, I 0, I 0, I 0, I 0, I 0, I 0, I 0, I 0, I 0, I 0, I 0, I 0, I 0, I 0, I 0, I 0, I 0, I 0, I 0, I 0, I 0, I 0, I 0, I 0, I 0, I 0, I 0, I 0, I 0, I 0, I 0, I 0, I 0, I 0, I 0, I 0, I 0, I 0, I 0, I 0, I 0, I 0, I 0, I 0, I 0, I 0, I 0, I 0, I 0, I 0, I 0, I 0, I 0, I 0, I 0, I 0, I 0, I 0, I 0, I 0, I 0, I 0, I 0, I 0, I 0, I 0, I 0, I 0, I 0, I 0, I 0, I 0, I 0, I 0, I 0, I 0, I 0, I 0, I 0, I 0, I 0, I 0, I 0, I 0, I 0, I 0, I 0, I 0, I 0, I 0, I 0, I 0, I 0, I 0, I 0, I 0, I 0, I 0, I 0, I 0, I 0, I 0, I 0, I 0, I 0, I 0, I 0, I 0, I 0, I 0, I 0, I 0, I 0, I 0, I 0, I 0, I 0, I 0, I 0, I 0, I 0, I 0, I 0, I 0, I 0, I 0, I 0, I 0, I 0, I 0, I 0, I 0, I 0, I 0, I 0, I 0, I 0, I 0, I 0, I 0, I 0, I 0, I 0, I 0, I 0, I 0, I 0, I 0, I 0, I 0, I 0, I 0, I 0, I 0, I 0, I 0, I 0] 81), (12, VB.cells [I ((10 : Int) - (6 : Int)), I 10, I 5, I 10, I 0, I 0, I 0, I 0, I 0, I 0, I 0, I 0, I 0, I 0, I 0, I 0, I 0, I 0, I 0, I 0, I 0, I 0, I 0, I 0, I 0, I 0, I 0, I 0, I 0, I 0, I 0, I 0, I 0, I 0, I 0, I 0, I 0, I 0, I 0, I 0, I 0, I 0, I 0, I 0, I 0, I 0, I 0, I 0, I 0, I 0, I 0, I 0, I 0, I 0, I 0, I 0, I 0, I 0, I 0, I 0, I 0, I 0, I 0, I 0, I 0, I 0, I 0, I 0, I 0, I 0, I 0, I 0, I 0, I 0, I 0, I 0, I 0, I 0, I 0, I 0, I 0, I 0, I 0, I 0, I 0, I 0, I 0, I 0, I 0, I 0, I 0, I 0, I 0, I 0, I 0, I 0, I 0, I 0, I 0, I 0, I 0, I 0, I 0, I 0, I 0, I 0, I 0, I 0, I 0, I 0, I 0, I 0, I 0, I 0, I 0, I 0, I 0, I 0, I 0, I 0, I 0, I 0, I 0, I 0, I 0, I 0, I 0, I 0, I 0, I 0, I 0, I 0, I 0, I 0, I 0, I 0, I 0, I 0, I 0, I 0, I 0, I 0, I 0, I 0, I 0, I 0, I 0, I 0, I 0, I 0, I 0, I 0, I 0, I 0, I 0, I 0, I 0, I 0, I 0, I 0, I 0, I 0, I 0, I 0, I 0, I 0, I 0, I 0] 81), (18, VB.cells [I 0, I 4, I 2, I 6] 67), (18, VB.cells [I 0, I 0, I 0, I 0] 67), (17, VB.cells [VV.func 45 [] [VV.ptr (VA.own (13) 0), VV.ptr (VA.own (8) 0), VV.ptr (VA.own (14) 0), VV.ptr (VA.own (15) 0), VV.ptr (VA.own (16) 0), VV.ptr (VA.own (12) 0), VV.ptr (VA.own (17) 0)]] 82), (17, VB.cells [VV.nilf] 82), (16, VB.cells [VV.bool false] 4), (16, VB.cells [VV.bool false] 4), (15, VB.cells [I ((↑4 : Int) + (1 : Int))] 3), (15, VB.cells [I 0] 3), (14, VB.cells [VV.nils] 33), (13, VB.cells [VV.nils] 33), (12, VB.cells [I 10, I 10, I 5, I 10, I 0, I 0, I 0, I 0, I 0, I 0, I 0, I 0, I 0, I 0, I 0, I 0, I 0, I 0, I 0, I 0, I 0, I 0, I 0, I 0, I 0, I 0, I 0, I 0, I 0, I 0, I 0, I 0, I 0, I 0, I 0, I 0, I 0, I 0, I 0, I 0, I 0, I 0, I 0, I 0, I 0, I 0, I 0, I 0, I 0, I 0, I 0, I 0, I 0, I 0, I 0, I 0, I 0, I 0, I 0, I 0, I 0, I 0, I 0, I 0, I 0, I 0, I 0, I 0, I 0, I 0, I 0, I 0, I 0, I 0, I 0, I 0, I 0, I 0, I 0, I 0, I 0, I 0, I 0, I 0, I 0, I 0, I 0, I 0, I 0, I 0, I 0, I 0, I 0, I 0, I 0, I 0, I 0, I 0, I 0, I 0, I 0, I 0, I 0, I 0, I 0, I 0, I 0, I 0, I 0, I 0, I 0, I 0, I 0, I 0, I 0, I 0, I 0, I 0, I 0, I 0, I 0, I 0, I 0, I 0, I 0, I 0, I 0, I 0, I 0, I 0, I 0, I 0, I 0, I 0, I 0, I 0, I 0, I 0, I 0, I 0, I 0, I 0, I 0, I 0, I 0, I 0, I 0, I 0, I 0, I 0, I 0, I 0, I 0, I 0, I 0, I 0, I 0, I 0, I 0, I 0, I 0, I 0, I 0, I 0, I 0, I 0, I 0, I 0] 81), (12, VB.cells [I 0, I 0, I 0, I 0, I 0, I 0, I 0, I 0, I 0, I 0, I 0, I 0, I 0, I 0, I 0, I 0, I 0, I 0, I 0, I 0, I 0, I 0, I 0, I 0, I 0, I 0, I 0, I 0, I 0, I 0, I 0, I 0, I 0, I 0, I 0, I 0, I 0, I 0, I 0, I 0, I 0, I 0, I 0, I 0, I 0, I 0, I 0, I 0, I 0, I 0, I 0, I 0, I 0, I 0, I 0, I 0, I 0, I 0, I 0, I 0, I 0, I 0, I 0, I 0, I 0, I 0, I 0, I 0, I 0, I 0, I 0, I 0, I 0, I 0, I 0, I 0, I 0, I 0, I 0, I 0, I 0, I 0, I 0, I 0, I 0, I 0, I 0, I 0, I 0, I 0, I 0, I 0, I 0, I 0, I 0, I 0, I 0, I 0, I 0, I 0, I 0, I 0, I 0, I 0, I 0, I 0, I 0, I 0, I 0, I 0, I 0, I 0, I 0, I 0, I 0, I 0, I 0, I 0, I 0, I 0, I 0, I 0, I 0, I 0, I 0, I 0, I 0, I 0, I 0, I 0, I 0, I 0, I 0, I 0, I 0, I 0, I 0, I 0, I 0, I 0, I 0, I 0, I 0, I 0, I 0, I 0, I 0, I 0, I 0, I 0, I 0, I 0, I 0, I 0, I 0, I 0, I 0, I 0, I 0, I 0, I 0, I 0, I 0, I 0, I 0, I 0, I 0, I 0] 81), (11, VB.cells [I 0, I 4, I 1, I 5] 67), (10, VB.cells [I 0, I 4, I 2, I 6] 67), (9, VB.cells [VV.sl (6) 4] 33), (8, VB.cells [VV.sl (7) 2] 42), (7, VB.vec 2 (fun j => List.take (4) (List.drop (j * (4)) [I 0, I 4, I 2, I 6, I 0, I 4, I 1, I 5])) (4) 67), (6, VB.vec 4 (fun j => List.take (1) (List.drop (j * (1)) [I 10, I 10, I 5, I 10])) (1) 3), (3 + 1 + 1, vecI (wmP (Wt.mk (1000 : Int) (1200 : Int) (8000 : Int) (9000 : Int)) P_1 (8500 : Int))), (3 + 1, vecI (wmS (Wt.mk (1000 : Int) (1200 : Int) (8000 : Int) (9000 : Int)) P_1 (8500 : Int))), (3, vecW (flL (Wt.mk (1000 : Int) (1200 : Int) (8000 : Int) (9000 : Int)) P)), (2, VB.cells [I 1000, I 1200, I 8000, I 9000] 25), (2, VB.cells [I 0, I 0, I 0, I 0] 25), (0, VB.cells [I 1000, I 1200, I 8000, I 9000] 25), (1, VB.vec 4 (fun j => List.take (9) (List.drop (j * (9)) [I 2, I 0, I 0, I 0, I 0, I 1000000, I 1200000, I 0, I 0, I 1, I 200, I 200, I 0, I 0, I 0, I 0, I 0, I 0, I 0, I 100, I 400, I 12000, I 14000, I 0, I 0, I 0, I 0, I 3, I 0, I 0, I 5000, I 6000, I 0, I 0, I 1000, I 2000])) (9) 47), (0, VB.cells [I 0, I 0, I 0, I 0] 25)]) (VV.sl (24) 3) xs.length 1 (iG xs) ∧ xs.length ≤ 100000) ∧ bif decide ((↑(wmP (Wt.mk (1000 : Int) (1200 : Int) (8000 : Int) (9000 : Int)) P_1 (8500 : Int)).length : Int) = (4 : Int)) then
 bif decide (wmE (Wt.mk (1000 : Int) (1200 : Int) (8000 : Int) (9000 : Int)) P_1 (8500 : Int) = (0 : Int)) then
 bif decide (rmH (Wt.mk (1000 : Int) (1200 : Int) (8000 : Int) (9000 : Int)) P_2 (1 : Int) (11000 : Int) = (800000 : Int)) then
 bif decide (rmE (Wt.mk (1000 : Int) (1200 : Int) (8000 : Int) (9000 : Int)) P_2 (1 : Int) (11000 : Int) = (0 : Int)) then
 ∃ xs, (isList (VH.mk (26) [(25, VB.vec 2 (fun j => List.take (1) (List.drop (j * (1)) [I 0, I 2])) (1) 3), (24, VB.vec 3 (fun j => List.take (1) (List.drop (j * (1)) [I 0, I 1, I 2])) (1) 3), (12, VB.cells [I ((10 : Int) - (6 : Int) + (6 : Int)), I ((10 : Int) - (6 : Int) + (6 : Int)), I ((5 : Int) - (5 : Int) + (5 : Int)), I 10, I 0, I 0, I 0, I 0, I 0, I 0, I 0, I 0, I 0, I 0, I 0, I 0, I 0, I 0, I 0, I 0, I 0, I 0, I 0, I 0, I 0, I 0, I 0, I 0, I 0, I 0, I 0, I 0, I 0, I 0, I 0, I 0, I 0, I 0, I 0, I 0, I 0, I 0, I 0, I 0, I 0, I 0, I 0, I 0, I 0, I 0, I 0, I 0, I 0, I 0, I 0, I 0, I 0, I 0, I 0, I 0, I 0, I 0, I 0, I 0, I 0, I 0, I 0, I 0, I 0, I 0, I 0, I 0, I 0, I 0, I 0, I 0, I 0, I 0, I 0, I 0, I 0, I 0, I 0, I 0, I 0, I 0, I 0, I 0, I 0, I 0, I 0, I 0, I 0, I 0, I 0, I 0, I 0, I 0, I 0, I 0, I 0, I 0, I 0, I 0, I 0, I 0, I 0, I 0, I 0, I 0, I 0, I 0, I 0, I 0, I 0, I 0, I 0, I 0, I 0, I 0, I 0, I 0, I 0, I 0, I 0, I 0, I 0, I 0, I 0, I 0, I 0, I 0, I 0, I 0, I 0, I 0, I 0, I 0, I 0, I 0, I 0, I 0, I 0, I 0, I 0, I 0, I 0, I 0, I 0, I 0, I 0, I 0, I 0, I 0, I 0, I 0, I 0, I 0, I 0, I 0, I 0, I 0, I 0, I 0, I 0, I 0, I 0, I 0] 81), (12, VB.cells [I ((10 : Int) - (6 : Int) + (6 : Int)), I ((10 : Int) - (6 : Int)), I ((5 : Int) - (5 : Int) + (5 : Int)), I 10, I 0, I 0, I 0, I 0, I 0, I 0, I 0, I 0, I 0, I 0, I 0, I 0, I 0, I 0, I 0, I 0, I 0, I 0, I 0, I 0, I 0, I 0, I 0, I 0, I 0, I 0, I 0, I 0, I 0, I 0, I 0, I 0, I 0, I 0, I 0, I 0, I 0, I 0, I 0, I 0, I 0, I 0, I 0, I 0, I 0, I 0, I 0, I 0, I 0, I 0, I 0, I 0, I 0, I 0, I 0, I 0, I 0, I 0, I 0, I 0, I 0, I 0, I 0, I 0, I 0, I 0, I 0, I 0, I 0, I 0, I 0, I 0, I 0, I 0, I 0, I 0, I 0, I 0, I 0, I 0, I 0, I 0, I 0, I 0, I 0, I 0, I 0, I 0, I 0, I 0, I 0, I 0, I 0, I 0, I 0, I 0, I 0, I 0, I 0, I 0, I 0, I 0, I 0, I 0, I 0, I 0, I 0, I 0, I 0, I 0, I 0, I 0, I 0, I 0, I 0, I 0, I 0, I 0, I 0, I 0, I 0, I 0, I 0, I 0, I 0, I 0, I 0, I 0, I 0, I 0, I 0, I 0, I 0, I 0, I 0, I 0, I 0, I 0, I 0, I 0, I 0, I 0, I 0, I 0, I 0, I 0, I 0, I 0, I 0, I 0, I 0, I 0, I 0, I 0, I 0, I 0, I 0, I 0, I 0, I 0, I 0, I 0, I 0, I 0] 81), (13, VB.cells [VV.sub (20) (1 + 1) (1) (Int.toNat (0 : Int) + Int.toNat (0 : Int)) ((0 : Int) - (0 : Int)).toNat] 33), (12, VB.cells [I ((10 : Int) - (6 : Int)), I ((10 : Int) - (6 : Int)), I ((5 : Int) - (5 : Int) + (5 : Int)), I 10, I 0, I 0, I 0, I 0, I 0, I 0, I 0, I 0, I 0, I 0, I 0, I 0, I 0, I 0, I 0, I 0, I 0, I 0, I 0, I 0, I 0, I 0, I 0, I 0, I 0, I 0, I 0, I 0, I 0, I 0, I 0, I 0, I 0, I 0, I 0, I 0, I 0, I 0, I 0, I 0, I 0, I 0, I 0, I 0, I 0, I 0, I 0, I 0, I 0, I 0, I 0, I 0, I 0, I 0, I 0, I 0, I 0, I 0, I 0, I 0, I 0, I 0, I 0, I 0, I 0, I 0, I 0, I 0, I 0, I 0, I 0, I 0, I 0, I 0, I 0, I 0, I 0, I 0, I 0, I 0, I 0, I 0, I 0, I 0, I 0, I 0, I 0, I 0, I 0, I 0, I 0, I 0, I 0, I 0, I 0, I 0, I 0, I 0, I 0, I 0, I 0, I 0, I 0, I 0, I 0, I 0, I 0, I 0, I 0, I 0, I 0, I 0, I 0, I 0, I 0, I 0, I 0, I 0, I 0, I 0, I 0, I 0, I 0, I 0, I 0, I 0, I 0, I 0, I 0, I 0, I 0, I 0, I 0, I 0, I 0, I 0, I 0, I 0, I 0, I 0, I 0, I 0, I 0, I 0, I 0, I 0, I 0, I 0, I 0, I 0, I 0, I 0, I 0, I 0, I 0, I 0, I 0, I 0, I 0, I 0, I 0, I 0, I 0, I 0] 81), (13, VB.cells [VV.sub (20) (1 + 1) (1) (Int.toNat (0 : Int)) ((↑1 : Int) - (0 : Int)).toNat] 33), (16, VB.cells [VV.bool true] 4), (15, VB.cells [I (max (max (0 : Int) ((0 : Int) + (2 : Int))) ((0 : Int) + (1 : Int) + (1 : Int) + (1 : Int)))] 3), (14, VB.cells [VV.sl (23) (0 + (1 + 1))] 33), (23, VB.vec (0 + (1 + 1)) (catG 0 (fun j => List.take (1) (List.drop (j * (1)) [])) (catG 1 (fun j => List.take (1) (List.drop (j * (1)) [I 0])) fun j => List.take (1) (List.drop (j * (1)) [I ((0 : Int) + (1 : Int) + (1 : Int))]))) (1) 3), (23, VB.vec 0 (fun j => List.take (1) (List.drop (j * (1)) [])) (1) 3), (13, VB.cells [VV.sl (20) (1 + 1)] 33), (20, VB.vec (1 + 1) (catG 1 (fun j => List.take (1) (List.drop (j * (1)) [I 0])) fun j => List.take (1) (List.drop (j * (1)) [I ((0 : Int) + (1 : Int) + (1 : Int))])) (1) 3), (22, VB.vec 1 (fun j => List.take (1) (List.drop (j * (1)) [I ((0 : Int) + (1 : Int) + (1 : Int))])) (1) 3), (12, VB.cells [I ((10 : Int) - (6 : Int)), I ((10 : Int) - (6 : Int)), I ((5 : Int) - (5 : Int)), I 10, I 0, I 0, I 0, I 0, I 0, I 0, I 0, I 0, I 0, I 0, I 0, I 0, I 0, I 0, I 0, I 0, I 0, I 0, I 0, I 0, I 0, I 0, I 0, I 0, I 0, I 0, I 0, I 0, I 0, I 0, I 0, I 0, I 0, I 0, I 0, I 0, I 0, I 0, I 0, I 0, I 0, I 0, I 0, I 0, I 0, I 0, I 0, I 0, I 0, I 0, I 0, I 0, I 0, I 0, I 0, I 0, I 0, I 0, I 0, I 0, I 0, I 0, I 0, I 0, I 0, I 0, I 0, I 0, I 0, I 0, I 0, I 0, I 0, I 0, I 0, I 0, I 0, I 0, I 0, I 0, I 0, I 0, I 0, I 0, I 0, I 0, I 0, I 0, I 0, I 0, I 0, I 0, I 0, I 0, I 0, I 0, I 0, I 0, I 0, I 0, I 0, I 0, I 0, I 0, I 0, I 0, I 0, I 0, I 0, I 0, I 0, I 0, I 0, I 0, I 0, I 0, I 0, I 0, I 0, I 0, I 0, I 0, I 0, I 0, I 0, I 0, I 0, I 0, I 0, I 0, I 0, I 0, I 0, I 0, I 0, I 0, I 0, I 0, I 0, I 0, I 0, I 0, I 0, I 0, I 0, I 0, I 0, I 0, I 0, I 0, I 0, I 0, I 0, I 0, I 0, I 0, I 0, I 0, I 0, I 0, I 0, I 0, I 0, I 0] 81), (21, VB.cells [I 0, I 4, I 1, I 5] 67), (21, VB.cells [I 0, I 0, I 0, I 0] 67), (13, VB.cells [VV.sl (20) 1] 33), (20, VB.vec 1 (fun j => List.take (1) (List.drop (j * (1)) [I 0])) (1) 3), (19, VB.vec 1 (fun j => List.take (1) (List.drop (j * (1)) [I 0])) (1) 3), (12, VB.cells [I ((10 : Int) - (6 : Int)), I ((10 : Int) - (6 : Int)), I 5, I 10, I 0, I 0, I 0, I 0, I 0, I 0, I 0, I 0, I 0, I 0, I 0, I 0, I 0, I 0, I 0, I 0, I 0, I 0, I 0, I 0, I 0, I 0, I 0, I 0, I 0, I 0, I 0, I 0, I 0, I 0, I 0, I 0, I 0, I 0, I 0, I 0, I 0, I 0, I 0, I 0, I 0, I 0, I 0, I 0, I 0, I 0, I 0, I 0, I 0, I 0, I 0, I 0, I 0, I 0, I 0, I 0, I 0, I 0, I 0, I 0, I 0, I 0, I 0, I 0, I 0, I 0, I 0, I 0, I 0, I 0, I 0, I 0, I 0, I 0, I 0, I 0, I 0, I 0, I 0, I 0, I 0, I 0, I 0, I 0, I 0, I 0, I 0, I 0, I 0, I 0, I 0, I 0, I 0, I 0, I 0, I 0, I 0, I 0, I 0, I 0, I 0, I 0, I 0, I 0, I 0, I 0, I 0, I 0, I 0, I 0, I 0, I 0, I 0, I 0, I 0, I 0, I 0, I 0, I 0, I 0, I 0, I 0, I 0, I 0, I 0, I 0, I 0, I 0, I 0, I 0, I 0, I 0, I 0, I 0, I 0, I 0, I 0, I 0, I 0, I 0, I 0, I 0, I 0, I 0, I 0, I 0, I 0, I 0, I 0, I 0, I 0, I 0, I 0, I 0, I 0, I 0, I 0, I 0, I 0, I 0, I 0, I 0, I 0, I 0] 81), (12, VB.cells [I ((10 : Int) - (6 : Int)), I 10, I 5, I 10, I 0, I 0, I 0, I 0, I 0, I 0, I 0, I 0, I 0, I 0, I 0, I 0, I 0, I 0, I 0, I 0, I 0, I 0, I 0, I 0, I 0, I 0, I 0, I 0, I 0, I 0, I 0, I 0, I 0, I 0, I 0, I 0, I 0, I 0, I 0, I 0, I 0, I 0, I 0, I 0, I 0, I 0, I 0, I 0, I 0, I 0, I 0, I 0, I 0, I 0, I 0, I 0, I 0, I 0, I 0, I 0, I 0, I 0, I 0, I 0, I 0, I 0, I 0, I 0, I 0, I 0, I 0, I 0, I 0, I 0, I 0, I 0, I 0, I 0, I 0, I 0, I 0, I 0, I 0, I 0, I 0, I 0, I 0, I 0, I 0, I 0, I 0, I 0, I 0, I 0, I 0, I 0, I 0, I 0, I 0, I 0, I 0, I 0, I 0, I 0, I 0, I 0, I 0, I 0, I 0, I 0, I 0, I 0, I 0, I 0, I 0, I 0, I 0, I 0, I 0, I 0, I 0, I 0, I 0, I 0, I 0, I 0, I 0, I 0, I 0, I 0, I 0, I 0, I 0, I 0, I 0, I 0, I 0, I 0, I 0, I 0, I 0, I 0, I 0, I 0, I 0, I 0, I 0, I 0, I 0, I 0, I 0, I 0, I 0, I 0, I 0, I 0, I 0, I 0, I 0, I 0, I 0, I 0, I 0, I 0, I 0, I 0, I 0, I 0] 81), (18, VB.cells [I 0, I 4, I 2, I 6] 67), (18, VB.cells [I 0, I 0, I 0, I 0] 67), (17, VB.cells [VV.func 45 [] [VV.ptr (VA.own (13) 0), VV.ptr (VA.own (8) 0), VV.ptr (VA.own (14) 0), VV.ptr (VA.own (15) 0), VV.ptr (VA.own (16) 0), VV.ptr (VA.own (12) 0), VV.ptr (VA.own (17) 0)]] 82), (17, VB.cells [VV.nilf] 82), (16, VB.cells [VV.bool false] 4), (16, VB.cells [VV.bool false] 4), (15, VB.cells [I ((↑4 : Int) + (1 : Int))] 3), (15, VB.cells [I 0] 3), (14, VB.cells [VV.nils] 33), (13, VB.cells [VV.nils] 33), (12, VB.cells [I 10, I 10, I 5, I 10, I 0, I 0, I 0, I 0, I 0, I 0, I 0, I 0, I 0, I 0, I 0, I 0, I 0, I 0, I 0, I 0, I 0, I 0, I 0, I 0, I 0, I 0, I 0, I 0, I 0, I 0, I 0, I 0, I 0, I 0, I 0, I 0, I 0, I 0, I 0, I 0, I 0, I 0, I 0, I 0, I 0, I 0, I 0, I 0, I 0, I 0, I 0, I 0, I 0, I 0, I 0, I 0, I 0, I 0, I 0, I 0, I 0, I 0, I 0, I 0, I 0, I 0, I 0, I 0, I 0, I 0, I 0, I 0, I 0, I 0, I 0, I 0, I 0, I 0, I 0, I 0, I 0, I 0, I 0, I 0, I 0, I 0, I 0, I 0, I 0, I 0, I 0, I 0, I 0, I 0, I 0, I 0, I 0, I 0, I 0, I 0, I 0, I 0, I 0, I 0, I 0, I 0, I 0, I 0, I 0, I 0, I 0, I 0, I 0, I 0, I 0, I 0, I 0, I 0, I 0, I 0, I 0, I 0, I 0, I 0, I 0, I 0, I 0, I 0, I 0, I 0, I 0, I 0, I 0, I 0, I 0, I 0, I 0, I 0, I 0, I 0, I 0, I 0, I 0, I 0, I 0, I 0, I 0, I 0, I 0, I 0, I 0, I 0, I 0, I 0, I 0, I 0, I 0, I 0, I 0, I 0, I 0, I 0, I 0, I 0, I 0, I 0, I 0, I 0] 81), (12, VB.cells [I 0, I 0, I 0, I 0, I 0, I 0, I 0, I 0, I 0, I 0, I 0, I 0, I 0, I 0, I 0, I 0, I 0, I 0, I 0, I 0, I 0, I 0, I 0, I 0, I 0, I 0, I 0, I 0, I 0, I 0, I 0, I 0, I 0, I 0, I 0, I 0, I 0, I 0, I 0, I 0, I 0, I 0, I 0, I 0, I 0, I 0, I 0, I 0, I 0, I 0, I 0, I 0, I 0, I 0, I 0, I 0, I 0, I 0, I 0, I 0, I 0, I 0, I 0, I 0, I 0, I 0, I 0, I 0, I 0, I 0, I 0, I 0, I 0, I 0, I 0, I 0, I 0, I 0, I 0, I 0, I 0, I 0, I 0, I 0, I 0, I 0, I 0, I 0, I 0, I 0, I 0, I 0, I 0, I 0, I 0, I 0, I 0, I 0, I 0, I 0, I 0, I 0, I 0, I 0, I 0, I 0, I 0, I 0, I 0, I 0, I 0, I 0, I 0, I 0, I 0, I 0, I 0, I 0, I 0, I 0, I 0, I 0, I 0, I 0, I 0, I 0, I 0, I 0, I 0, I 0, I 0, I 0, I 0, I 0, I 0, I 0, I 0, I 0, I 0, I 0, I 0, I 0, I 0, I 0, I 0, I 0, I 0, I 0, I 0, I 0, I 0, I 0, I 0, I 0, I 0, I 0, I 0, I 0, I 0, I 0, I 0, I 0, I 0, I 0, I 0, I 0, I 0, I 0] 81), (11, VB.cells [I 0, I 4, I 1, I 5] 67), (10, VB.cells [I 0, I 4, I 2, I 6] 67), (9, VB.cells [VV.sl (6) 4] 33), (8, VB.cells [VV.sl (7) 2] 42), (7, VB.vec 2 (fun j => List.take (4) (List.drop (j * (4)) [I 0, I 4, I 2, I 6, I 0, I 4, I 1, I 5])) (4) 67), (6, VB.vec 4 (fun j => List.take (1) (List.drop (j * (1)) [I 10, I 10, I 5, I 10])) (1) 3), (3 + 1 + 1, vecI (wmP (Wt.mk (1000 : Int) (1200 : Int) (8000 : Int) (9000 : Int)) P_1 (8500 : Int))), (3 + 1, vecI (wmS (Wt.mk (1000 : Int) (1200 : Int) (8000 : Int) (9000 : Int)) P_1 (8500 : Int))), (3, vecW (flL (Wt.mk (1000 : Int) (1200 : Int) (8000 : Int) (9000 : Int)) P)), (2, VB.cells [I 1000, I 1200, I 8000, I 9000] 25), (2, VB.cells [I 0, I 0, I 0, I 0] 25), (0, VB.cells [I 1000, I 1200, I 8000, I 9000] 25), (1, VB.vec 4 (fun j => List.take (9) (List.drop (j * (9)) [I 2, I 0, I 0, I 0, I 0, I 1000000, I 1200000, I 0, I 0, I 1, I 200, I 200, I 0, I 0, I 0, I 0, I 0, I 0, I 0, I 100, I 400, I 12000, I 14000, I 0, I 0, I 0, I 0, I 3, I 0, I 0, I 5000, I 6000, I 0, I 0, I 1000, I 2000])) (9) 47), (0, VB.cells [I 0, I 0, I 0, I 0] 25)]) (VV.sl (23) (0 + (1 + 1))) xs.length 1 (iG xs) ∧ isList (VH.mk (26) [(25, VB.vec 2 (fun j => List.take (1) (List.drop (j * (1)) [I 0, I 2])) (1) 3), (24, VB.vec 3 (fun j => List.take (1) (List.drop (j * (1)) [I 0, I 1, I 2])) (1) 3), (12, VB.cells [I ((10 : Int) - (6 : Int) + (6 : Int)), I ((10 : Int) - (6 : Int) + (6 : Int)), I ((5 : Int) - (5 : Int) + (5 : Int)), I 10, I 0, I 0, I 0, I 0, I 0, I 0, I 0, I 0, I 0, I 0, I 0, I 0, I 0, I 0, I 0, I 0, I 0, I 0, I 0, I 0, I 0, I 0, I 0, I 0, I 0, I 0, I 0, I 0, I 0, I 0, I 0, I 0, I 0, I 0, I 0, I 0, I 0, I 0, I 0, I 0, I 0, I 0, I 0, I 0, I 0, I 0, I 0, I 0, I 0, I 0, I 0, I 0, I 0, I 0, I 0, I 0, I 0, I 0, I 0, I 0, I 0, I 0, I 0, I 0, I 0, I 0, I 0, I 0, I 0, I 0, I 0, I 0, I 0, I 0, I 0, I 0, I 0, I 0, I 0, I 0, I 0, I 0, I 0, I 0, I 0, I 0, I 0, I 0, I 0, I 0, I 0, I 0, I 0, I 0, I 0, I 0, I 0, I 0, I 0, I 0, I 0, I 0, I 0, I 0, I 0, I 0, I 0, I 0, I 0, I 0, I 0, I 0, I 0, I 0, I 0, I 0, I 0, I 0, I 0, I 0, I 0, I 0, I 0, I 0, I 0, I 0, I 0, I 0, I 0, I 0, I 0, I 0, I 0, I 0, I 0, I 0, I 0, I 0, I 0, I 0, I 0, I 0, I 0, I 0, I 0, I 0, I 0, I 0, I 0, I 0, I 0, I 0, I 0, I 0, I 0, I 0, I 0, I 0, I 0, I 0, I 0, I 0, I 0, I 0] 81), (12, VB.cells [I ((10 : Int) - (6 : Int) + (6 : Int)), I ((10 : Int) - (6 : Int)), I ((5 : Int) - (5 : Int) + (5 : Int)), I 10, I 0, I 0, I 0, I 0, I 0, I 0, I 0, I 0, I 0, I 0, I 0, I 0, I 0, I 0, I 0, I 0, I 0, I 0, I 0, I 0, I 0, I 0, I 0, I 0, I 0, I 0, I 0, I 0, I 0, I 0, I 0, I 0, I 0, I 0, I 0, I 0, I 0, I 0, I 0, I 0, I 0, I 0, I 0, I 0, I 0, I 0, I 0, I 0, I 0, I 0, I 0, I 0, I 0, I 0, I 0, I 0, I 0, I 0, I 0, I 0, I 0, I 0, I 0, I 0, I 0, I 0, I 0, I 0, I 0, I 0, I 0, I 0, I 0, I 0, I 0, I 0, I 0, I 0, I 0, I 0, I 0, I 0, I 0, I 0, I 0, I 0, I 0, I 0, I 0, I 0, I 0, I 0, I 0, I 0, I 0, I 0, I 0, I 0, I 0, I 0, I 0, I 0, I 0, I 0, I 0, I 0, I 0, I 0, I 0, I 0, I 0, I 0, I 0, I 0, I 0, I 0, I 0, I 0, I 0, I 0, I 0, I 0, I 0, I 0, I 0, I 0, I 0, I 0, I 0, I 0, I 0, I 0, I 0, I 0, I 0, I 0, I 0, I 0, I 0, I 0, I 0, I 0, I 0, I 0, I 0, I 0, I 0, I 0, I 0, I 0, I 0, I 0, I 0, I 0, I 0, I 0, I 0, I 0, I 0, I 0, I 0, I 0, I 0, I 0] 81), (13, VB.cells [VV.sub (20) (1 + 1) (1) (Int.toNat (0 : Int) + Int.toNat (0 : Int)) ((0 : Int) - (0 : Int)).toNat] 33), (12, VB.cells [I ((10 : Int) - (6 : Int)), I ((10 : Int) - (6 : Int)), I ((5 : Int) - (5 : Int) + (5 : Int)), I 10, I 0, I 0, I 0, I 0, I 0, I 0, I 0, I 0, I 0, I 0, I 0, I 0, I 0, I 0, I 0, I 0, I 0, I 0, I 0, I 0, I 0, I 0, I 0, I 0, I 0, I 0, I 0, I 0, I 0, I 0, I 0, I 0, I 0, I 0, I 0, I 0, I 0, I 0, I 0, I 0, I 0, I 0, I 0, I 0, I 0, I 0, I 0, I 0, I 0, I 0, I 0, I 0, I 0, I 0, I 0, I 0, I 0, I 0, I 0, I 0, I 0, I 0, I 0, I 0, I 0, I 0, I 0, I 0, I 0, I 0, I 0, I 0, I 0, I 0, I 0, I 0, I 0, I 0, I 0, I 0, I 0, I 0, I 0, I 0, I 0, I 0, I 0, I 0, I 0, I 0, I 0, I 0, I 0, I 0, I 0, I 0, I 0, I 0, I 0, I 0, I 0, I 0, I 0, I 0, I 0, I 0, I 0, I 0, I 0, I 0, I 0, I 0, I 0, I 0, I 0, I 0, I 0, I 0, I 0, I 0, I 0, I 0, I 0, I 0, I 0, I 0, I 0, I 0, I 0, I 0, I 0, I 0, I 0, I 0, I 0, I 0, I 0, I 0, I 0, I 0, I 0, I 0, I 0, I 0, I 0, I 0, I 0, I 0, I 0, I 0, I 0, I 0, I 0, I 0, I 0, I 0, I 0, I 0, I 0, I 0, I 0, I 0, I 0, I 0] 81), (13, VB.cells [VV.sub (20) (1 + 1) (1) (Int.toNat (0 : Int)) ((↑1 : Int) - (0 : Int)).toNat] 33), (16, VB.cells [VV.bool true] 4), (15, VB.cells [I (max (max (0 : Int) ((0 : Int) + (2 : Int))) ((0 : Int) + (1 : Int) + (1 : Int) + (1 : Int)))] 3), (14, VB.cells [VV.sl (23) (0 + (1 + 1))] 33), (23, VB.vec (0 + (1 + 1)) (catG 0 (fun j => List.take (1) (List.drop (j * (1)) [])) (catG 1 (fun j => List.take (1) (List.drop (j * (1)) [I 0])) fun j => List.take (1) (List.drop (j * (1)) [I ((0 : Int) + (1 : Int) + (1 : Int))]))) (1) 3), (23, VB.vec 0 (fun j => List.take (1) (List.drop (j * (1)) [])) (1) 3), (13, VB.cells [VV.sl (20) (1 + 1)] 33), (20, VB.vec (1 + 1) (catG 1 (fun j => List.take (1) (List.drop (j * (1)) [I 0])) fun j => List.take (1) (List.drop (j * (1)) [I ((0 : Int) + (1 : Int) + (1 : Int))])) (1) 3), (22, VB.vec 1 (fun j => List.take (1) (List.drop (j * (1)) [I ((0 : Int) + (1 : Int) + (1 : Int))])) (1) 3), (12, VB.cells [I ((10 : Int) - (6 : Int)), I ((10 : Int) - (6 : Int)), I ((5 : Int) - (5 : Int)), I 10, I 0, I 0, I 0, I 0, I 0, I 0, I 0, I 0, I 0, I 0, I 0, I 0, I 0, I 0, I 0, I 0, I 0, I 0, I 0, I 0, I 0, I 0, I 0, I 0, I 0, I 0, I 0, I 0, I 0, I 0, I 0, I 0, I 0, I 0, I 0, I 0, I 0, I 0, I 0, I 0, I 0, I 0, I 0, I 0, I 0, I 0, I 0, I 0, I 0, I 0, I 0, I 0, I 0, I 0, I 0, I 0, I 0, I 0, I 0, I 0, I 0, I 0, I 0, I 0, I 0, I 0, I 0, I 0, I 0, I 0, I 0, I 0, I 0, I 0, I 0, I 0, I 0, I 0, I 0, I 0, I 0, I 0, I 0, I 0, I 0, I 0, I 0, I 0, I 0, I 0, I 0, I 0, I 0, I 0, I 0, I 0, I 0, I 0, I 0, I 0, I 0, I 0, I 0, I 0, I 0, I 0, I 0, I 0, I 0, I 0, I 0, I 0, I 0, I 0, I 0, I 0, I 0, I 0, I 0, I 0, I 0, I 0, I 0, I 0, I 0, I 0, I 0, I 0, I 0, I 0, I 0, I 0, I 0, I 0, I 0, I 0, I 0, I 0, I 0, I 0, I 0, I 0, I 0, I 0, I 0, I 0, I 0, I 0, I 0, I 0, I 0, I 0, I 0, I 0, I 0, I 0, I 0, I 0, I 0, I 0, I 0, I 0, I 0, I 0] 81), (21, VB.cells [I 0, I 4, I 1, I 5] 67), (21, VB.cells [I 0, I 0, I 0, I 0] 67), (13, VB.cells [VV.sl (20) 1] 33), (20, VB.vec 1 (fun j => List.take (1) (List.drop (j * (1)) [I 0])) (1) 3), (19, VB.vec 1 (fun j => List.take (1) (List.drop (j * (1)) [I 0])) (1) 3), (12, VB.cells [I ((10 : Int) - (6 : Int)), I ((10 : Int) - (6 : Int)), I 5, I 10, I 0, I 0, I 0, I 0, I 0, I 0, I 0, I 0, I 0, I 0, I 0, I 0, I 0, I 0, I 0, I 0, I 0, I 0, I 0, I 0, I 0, I 0, I 0, I 0, I 0, I 0, I 0, I 0, I 0, I 0, I 0, I 0, I 0, I 0, I 0, I 0, I 0, I 0, I 0, I 0, I 0, I 0, I 0, I 0, I 0, I 0, I 0, I 0, I 0, I 0, I 0, I 0, I 0, I 0, I 0, I 0, I 0, I 0, I 0, I 0, I 0, I 0, I 0, I 0, I 0, I 0, I 0, I 0, I 0, I 0, I 0, I 0, I 0, I 0, I 0, I 0, I 0, I 0, I 0, I 0, I 0, I 0, I 0, I 0, I 0, I 0, I 0, I 0, I 0, I 0, I 0, I 0, I 0, I 0, I 0, I 0, I 0, I 0, I 0, I 0, I 0, I 0, I 0, I 0, I 0, I 0, I 0, I 0, I 0, I 0, I 0, I 0, I 0, I 0, I 0, I 0, I 0, I 0, I 0, I 0, I 0, I 0, I 0, I 0, I 0, I 0, I 0, I 0, I 0, I 0, I 0, I 0, I 0, I 0, I 0, I 0, I 0, I 0, I 0, I 0, I 0, I 0, I 0, I 0, I 0, I 0, I 0, I 0, I 0, I 0, I 0, I 0, I 0, I 0, I 0, I 0, I 0, I 0, I 0, I 0, I 0, I 0, I 0, I 0] 81), (12, VB.cells [I ((10 : Int) - (6 : Int)), I 10, I 5, I 10, I 0, I 0, I 0, I 0, I 0, I 0, I 0, I 0, I 0, I 0, I 0, I 0, I 0, I 0, I 0, I 0, I 0, I 0, I 0, I 0, I 0, I 0, I 0, I 0, I 0, I 0, I 0, I 0, I 0, I 0, I 0, I 0, I 0, I 0, I 0, I 0, I 0, I 0, I 0, I 0, I 0, I 0, I 0, I 0, I 0, I 0, I 0, I 0, I 0, I 0, I 0, I 0, I 0, I 0, I 0, I 0, I 0, I 0, I 0, I 0, I 0, I 0, I 0, I 0, I 0, I 0, I 0, I 0, I 0, I 0, I 0, I 0, I 0, I 0, I 0, I 0, I 0, I 0, I 0, I 0, I 0, I 0, I 0, I 0, I 0, I 0, I 0, I 0, I 0, I 0, I 0, I 0, I 0, I 0, I 0, I 0, I 0, I 0, I 0, I 0, I 0, I 0, I 0, I 0, I 0, I 0, I 0, I 0, I 0, I 0, I 0, I 0, I 0, I 0, I 0, I 0, I 0, I 0, I 0, I 0, I 0, I 0, I 0, I 0, I 0, I 0, I 0, I 0, I 0, I 0, I 0, I 0, I 0, I 0, I 0, I 0, I 0, I 0, I 0, I 0, I 0, I 0, I 0, I 0, I 0, I 0, I 0, I 0, I 0, I 0, I 0, I 0, I 0, I 0, I 0, I 0, I 0, I 0, I 0, I 0, I 0, I 0, I 0, I 0] 81), (18, VB.cells [I 0, I 4, I 2, I 6] 67), (18, VB.cells [I 0, I 0, I 0, I 0] 67), (17, VB.cells [VV.func 45 [] [VV.ptr (VA.own (13) 0), VV.ptr (VA.own (8) 0), VV.ptr (VA.own (14) 0), VV.ptr (VA.own (15) 0), VV.ptr (VA.own (16) 0), VV.ptr (VA.own (12) 0), VV.ptr (VA.own (17) 0)]] 82), (17, VB.cells [VV.nilf] 82), (16, VB.cells [VV.bool false] 4), (16, VB.cells [VV.bool false] 4), (15, VB.cells [I ((↑4 : Int) + (1 : Int))] 3), (15, VB.cells [I 0] 3), (14, VB.cells [VV.nils] 33), (13, VB.cells [VV.nils] 33), (12, VB.cells [I 10, I 10, I 5, I 10, I 0, I 0, I 0, I 0, I 0, I 0, I 0, I 0, I 0, I 0, I 0, I 0, I 0, I 0, I 0, I 0, I 0, I 0, I 0, I 0, I 0, I 0, I 0, I 0, I 0, I 0, I 0, I 0, I 0, I 0, I 0, I 0, I 0, I 0, I 0, I 0, I 0, I 0, I 0, I 0, I 0, I 0, I 0, I 0, I 0, I 0, I 0, I 0, I 0, I 0, I 0, I 0, I 0, I 0, I 0, I 0, I 0, I 0, I 0, I 0, I 0, I 0, I 0, I 0, I 0, I 0, I 0, I 0, I 0, I 0, I 0, I 0, I 0, I 0, I 0, I 0, I 0, I 0, I 0, I 0, I 0, I 0, I 0, I 0, I 0, I 0, I 0, I 0, I 0, I 0, I 0, I 0, I 0, I 0, I 0, I 0, I 0, I 0, I 0, I 0, I 0, I 0, I 0, I 0, I 0, I 0, I 0, I 0, I 0, I 0, I 0, I 0, I 0, I 0, I 0, I 0, I 0, I 0, I 0, I 0, I 0, I 0, I 0, I 0, I 0, I 0, I 0, I 0, I 0, I 0, I 0, I 0, I 0, I 0, I 0, I 0, I 0, I 0, I 0, I 0, I 0, I 0, I 0, I 0, I 0, I 0, I 0, I 0, I 0, I 0, I 0, I 0, I 0, I 0, I 0, I 0, I 0, I 0, I 0, I 0, I 0, I 0, I 0, I 0] 81), (12, VB.cells [I 0, I 0, I 0, I 0, I 0, I 0, I 0, I 0, I 0, I 0, I 0, I 0, I 0, I 0, I 0, I 0, I 0, I 0, I 0, I 0, I 0, I 0, I 0, I 0, I 0, I 0, I 0, I 0, I 0, I 0, I 0, I 0, I 0, I 0, I 0, I 0, I 0, I 0, I 0, I 0, I 0, I 0, I 0, I 0, I 0, I 0, I 0, I 0, I 0, I 0, I 0, I 0, I 0, I 0, I 0, I 0, I 0, I 0, I 0, I 0, I 0, I 0, I 0, I 0, I 0, I 0, I 0, I 0, I 0, I 0, I 0, I 0, I 0, I 0, I 0, I 0, I 0, I 0, I 0, I 0, I 0, I 0, I 0, I 0, I 0, I 0, I 0, I 0, I 0, I 0, I 0, I 0, I 0, I 0, I 0, I 0, I 0, I 0, I 0, I 0, I 0, I 0, I 0, I 0, I 0, I 0, I 0, I 0, I 0, I 0, I 0, I 0, I 0, I 0, I 0, I 0, I 0, I 0, I 0, I 0, I 0, I 0, I 0, I 0, I 0, I 0, I 0, I 0, I 0, I 0, I 0, I 0, I 0, I 0, I 0, I 0, I 0, I 0, I 0, I 0, I 0, I 0, I 0, I 0, I 0, I 0, I 0, I 0, I 0, I 0, I 0, I 0, I 0, I 0, I 0, I 0, I 0, I 0, I 0, I 0, I 0, I 0, I 0, I 0, I 0, I 0, I 0, I 0] 81), (11, VB.cells [I 0, I 4, I 1, I 5] 67), (10, VB.cells [I 0, I 4, I 2, I 6] 67), (9, VB.cells [VV.sl (6) 4] 33), (8, VB.cells [VV.sl (7) 2] 42), (7, VB.vec 2 (fun j => List.take (4) (List.drop (j * (4)) [I 0, I 4, I 2, I 6, I 0, I 4, I 1, I 5])) (4) 67), (6, VB.vec 4 (fun j => List.take (1) (List.drop (j * (1)) [I 10, I 10, I 5, I 10])) (1) 3), (3 + 1 + 1, vecI (wmP (Wt.mk (1000 : Int) (1200 : Int) (8000 : Int) (9000 : Int)) P_1 (8500 : Int))), (3 + 1, vecI (wmS (Wt.mk (1000 : Int) (1200 : Int) (8000 : Int) (9000 : Int)) P_1 (8500 : Int))), (3, vecW (flL (Wt.mk (1000 : Int) (1200 : Int) (8000 : Int) (9000 : Int)) P)), (2, VB.cells [I 1000, I 1200, I 8000, I 9000] 25), (2, VB.cells [I 0, I 0, I 0, I 0] 25), (0, VB.cells [I 1000, I 1200, I 8000, I 9000] 25), (1, VB.vec 4 (fun j => List.take (9) (List.drop (j * (9)) [I 2, I 0, I 0, I 0, I 0, I 1000000, I 1200000, I 0, I 0, I 1, I 200, I 200, I 0, I 0, I 0, I 0, I 0, I 0, I 0, I 100, I 400, I 12000, I 14000, I 0, I 0, I 0, I 0, I 3, I 0, I 0, I 5000, I 6000, I 0, I 0, I 1000, I 2000])) (9) 47), (0, VB.cells [I 0, I 0, I 0, I 0] 25)]) (VV.sl (25) 2) xs.length 1 (iG xs) ∧ xs.length ≤ 100000) ∧ Q (VRes.ret (VV.bool (decide ((0 : Int) = (0 : Int)))))
 else Q (VRes.ret (VV.bool false))
 else Q (VRes.ret (VV.bool false))
 else Q (VRes.ret (VV.bool false))
 else Q (VRes.ret (VV.bool false))
 else False
 else False
 else False
 else False
 else False
 else False) := by kernel_rfl


end Go.Sx.Str

/- stream: the document's examples hold. -/

namespace Go.Sx.Str
open Go Go.Sx Go.Proofs
set_option maxRecDepth 100000

theorem tAw_ok : ∀ x ∈ tAw, SpOk Try.prog x.1 x.2 := by
  intro x hx
  simp only [tAw, List.mem_cons, List.not_mem_nil, or_false] at hx
  rcases hx with rfl | rfl | rfl | rfl
  · exact fl13_ok
  · exact wm15_ok
  · exact rm19_ok
  · exact inT18_ok

def awW : Wt := ⟨1000, 1200, 8000, 9000⟩
def awP : List Pt := [⟨2, 0, 0, 0, 0, 1000000, 1200000, 0, 0⟩, ⟨1, 200, 200, 0, 0, 0, 0, 0, 0⟩, ⟨0, 100, 400, 12000, 14000, 0, 0, 0, 0⟩, ⟨3, 0, 0, 5000, 6000, 0, 0, 1000, 2000⟩]
def awP1 : List Pt := [⟨2, 0, 0, 0, 0, 1000000, 1200000, 0, 0⟩]

theorem isList_vecI {h : VH} {m : Nat} {xs : List Int} (hm : h.at m = vecI xs) : isList h (.sl m xs.length) xs.length 1 (iG xs) := ⟨rfl, _, _, hm, fun _ _ => rfl⟩

theorem aw_run : callN Try.prog (tabS tAw) noL 60 20 0 (.fn 12) [] ⟨0, []⟩ (fun r _ => r = .ret (.bool true)) := by
  refine cast (aw_ev _).symm ?_
  have hS : wmS awW awP 8500 = [0, 1, 2] := by kernel_rfl
  have pts : ∀ j : Nat, j < awP.length → List.take 9 (List.drop (j * 9) [I 2, I 0, I 0, I 0, I 0, I 1000000, I 1200000, I 0, I 0, I 1, I 200, I 200, I 0, I 0, I 0, I 0, I 0, I 0, I 0, I 100, I 400, I 12000, I 14000, I 0, I 0, I 0, I 0, I 3, I 0, I 0, I 5000, I 6000, I 0, I 0, I 1000, I 2000]) = pG awP j := fun j hj => by
    match j, hj with
    | 0, _ => rfl
    | 1, _ => rfl
    | 2, _ => rfl
    | 3, _ => rfl
  have pts1 : ∀ j : Nat, j < awP1.length → List.take 9 (List.drop ((0 + j) * 9) [I 2, I 0, I 0, I 0, I 0, I 1000000, I 1200000, I 0, I 0, I 1, I 200, I 200, I 0, I 0, I 0, I 0, I 0, I 0, I 0, I 100, I 400, I 12000, I 14000, I 0, I 0, I 0, I 0, I 3, I 0, I 0, I 5000, I 6000, I 0, I 0, I 1000, I 2000]) = pG awP1 j := fun j hj => by
    match j, hj with
    | 0, _ => rfl
  refine ⟨awP, ⟨rfl, _, _, rfl, pts⟩, awP, ⟨rfl, _, _, rfl, pts⟩, awP1, ⟨rfl, rfl, _, _, rfl, pts1⟩, ?_⟩
  refine cond_f (by kernel_rfl) (cond_f (by kernel_rfl) (cond_f (by kernel_rfl) (cond_t (by kernel_rfl) (cond_t (by kernel_rfl) (cond_t (by kernel_rfl) (cond_f (by kernel_rfl) (cond_t (by kernel_rfl) (cond_t (by kernel_rfl) (cond_t (by kernel_rfl) (cond_f (by kernel_rfl) ?_))))))))))
  refine ⟨[0, 1, 2], ⟨⟨by kernel_rfl, _, _, rfl, fun j hj => ?_⟩, ⟨rfl, _, _, rfl, fun j hj => ?_⟩, by decide⟩, ?_⟩
  · rw [show wmS (Wt.mk (1000 : Int) (1200 : Int) (8000 : Int) (9000 : Int)) awP (8500 : Int) = [0, 1, 2] from hS]
  · match j, hj with
    | 0, _ => rfl
    | 1, _ => rfl
    | 2, _ => rfl
  refine cond_t (by kernel_rfl) (cond_t (by kernel_rfl) (cond_t (by kernel_rfl) (cond_t (by kernel_rfl) ?_)))
  refine ⟨[0, 2], ⟨⟨rfl, _, _, rfl, fun j hj => ?_⟩, ⟨rfl, _, _, rfl, fun j hj => ?_⟩, by decide⟩, rfl⟩
  · match j, hj with
    | 0, _ => rfl
    | 1, _ => rfl
  · match j, hj with
    | 0, _ => rfl
    | 1, _ => rfl

theorem aw_v : ∃ h', CallsV Try.prog 12 [] ⟨0, []⟩ (.ret (.bool true)) h' := by
  obtain ⟨r, h', hQ, hc⟩ := of_callN (tab_good hmix tAw_ok 20) (un := 60) (f := 12) (args := []) (h := ⟨0, []⟩) (K := fun r _ => r = .ret (.bool true)) aw_run
  subst hQ
  exact ⟨h', hc⟩

/-- awake is true. -/
def awT : FuncId × Spec1 := (12, fun _ args h K => match args with
  | [] => K (.ret (.bool true)) h
  | _ => False)
theorem awT_ok : SpOk Try.prog awT.1 awT.2 := by
  intro lock args h K hK
  simp only [awT] at hK
  split at hK
  · obtain ⟨h', hc⟩ := aw_v
    exact ⟨_, h, hK, lockP_refl _ _, lift0 hc rfl rfl⟩
  · exact hK.elim
end Go.Sx.Str
