/- genuine: Gr1 Gr2 Gr3 Gr4 Gr5 Gr6 Gr7 Gr8, in one text. -/
import Derived.Test.YtoionnljbacmkaaGK
import Derived.Test.YtoionnljbacmkaaGQ
import Derived.Test.YtoionnljbacmkaaGM
import Derived.Test.YtoionnljbacmkaaGN
import Derived.Test.YtoionnljbacmkaaGO
/- genuine: GenuineLess, the search, evaluated. -/

namespace Go.Sx.Gen
open Go Go.Sx Go.Proofs
set_option maxRecDepth 100000

def aS (S : List Int) : VB := arrOf 1 S.length (fun i => [I (S.getD i 0)])
def aP (P : List (Int × Int)) : VB := arrOf 2 P.length (fun q => [I (P.getD q (0, 0)).1, I (P.getD q (0, 0)).2])
def dsC0 : List Nat := [9, 0, 1, 2, 3, 8]
def VC0 (S : List Int) (P : List (Int × Int)) (c1 c2 : Nat) (i k x : Int) (w : Bool) : List VV := [I x, .slice (.el 0 [] 0 0) S.length c1, .slice (.el 1 [] 0 0) P.length c2, I i, I k, .bool w]
def dsC2 : List Nat := [10, 1, 2, 3, 8]
def VC2 (P : List (Int × Int)) (c2 : Nat) (i k x : Int) (w : Bool) : List VV := [I x, .slice (.el 1 [] 0 0) P.length c2, I i, I k, .bool w]
def hasQ (P : List (Int × Int)) (i k : Int) : Bool := P.any fun x => decide (x.1 = i) && decide (x.2 = k)
def LC0 (S : List Int) (P : List (Int × Int)) (c1 c2 : Nat) (i k : Int) : LT := fun lock t h K =>
  (FitP lock h t ⟨2, [0, 1].zip [aS S, aP P]⟩ (dsC0.zip (VC0 S P c1 c2 i k 0 false)) ∧ S.length ≤ maxI) ∧
    (hasS S i k = false → K .normal (dsC0.zip (VC0 S P c1 c2 i k S.length false)) ⟨2, [0, 1].zip [aS S, aP P]⟩) ∧
    (hasS S i k = true → ∀ j : Nat, K .ret (dsC0.zip (VC0 S P c1 c2 i k j true)) ⟨2, [0, 1].zip [aS S, aP P]⟩)
def LC2 (P : List (Int × Int)) (c2 : Nat) (i k : Int) : LT := fun lock t h K =>
  (FitP lock h t ⟨2, [1].zip [aP P]⟩ (dsC2.zip (VC2 P c2 i k 0 false)) ∧ P.length ≤ maxI) ∧
    (hasQ P i k = false → K .normal (dsC2.zip (VC2 P c2 i k P.length false)) ⟨2, [1].zip [aP P]⟩) ∧
    (hasQ P i k = true → ∀ j : Nat, K .ret (dsC2.zip (VC2 P c2 i k j true)) ⟨2, [1].zip [aP P]⟩)

theorem c0_ev (S : List Int) (P : List (Int × Int)) (c1 c2 : Nat) (i k : Int) (x : Nat) (X : VEx → List VV → List VB → Prop) : codeE Try.prog (callN Try.prog noSpec noL 10 20) (fun _ => none) true 10 45 0 (loopB 0 (bodyOf Try.prog 27)) (dsC0.zip (VC0 S P c1 c2 i k x false)) ⟨2, [0, 1].zip [aS S, aP P]⟩ (obs 2 dsC0 [0, 1] X) =
  (bif decide ((↑x : Int) < (↑S.length : Int)) then
 bif decide ((0 : Int) ≤ (↑x : Int) ∧ (↑x : Int) < (↑S.length : Int)) then
 (([] : List Int) = [] ∧ (0 : Int) ≤ (0 : Int) + (↑x : Int) ∧ (0 : Int) + (↑x : Int) < (↑S.length : Int)) ∧ bif decide (S.getD ((0 : Int) + (↑x : Int)).toNat (0 : Int) = i) then
 X VEx.ret [I (↑x : Int), VV.slice (VA.el 0 [] (0 : Int) 0) S.length c1, VV.slice (VA.el 1 [] (0 : Int) 0) P.length c2, I i, I k, VV.bool true] [aS S, aP P]
 else bif decide ((0 : Int) ≤ (↑x : Int) ∧ (↑x : Int) < (↑S.length : Int)) then
 (([] : List Int) = [] ∧ (0 : Int) ≤ (0 : Int) + (↑x : Int) ∧ (0 : Int) + (↑x : Int) < (↑S.length : Int)) ∧ bif decide (S.getD ((0 : Int) + (↑x : Int)).toNat (0 : Int) = k) then
 X VEx.ret [I (↑x : Int), VV.slice (VA.el 0 [] (0 : Int) 0) S.length c1, VV.slice (VA.el 1 [] (0 : Int) 0) P.length c2, I i, I k, VV.bool true] [aS S, aP P]
 else bif inK IntKind.i64 ((↑x : Int) + (1 : Int)) then
 X VEx.normal [I ((↑x : Int) + (1 : Int)), VV.slice (VA.el 0 [] (0 : Int) 0) S.length c1, VV.slice (VA.el 1 [] (0 : Int) 0) P.length c2, I i, I k, VV.bool false] [aS S, aP P]
 else False
 else False
 else False
 else X (VEx.exit 0) [I (↑x : Int), VV.slice (VA.el 0 [] (0 : Int) 0) S.length c1, VV.slice (VA.el 1 [] (0 : Int) 0) P.length c2, I i, I k, VV.bool false] [aS S, aP P]) := by kernel_rfl

theorem c2_ev (P : List (Int × Int)) (c2 : Nat) (i k : Int) (x : Nat) (X : VEx → List VV → List VB → Prop) : codeE Try.prog (callN Try.prog noSpec noL 10 20) (fun _ => none) true 10 45 0 (loopB 2 (bodyOf Try.prog 27)) (dsC2.zip (VC2 P c2 i k x false)) ⟨2, [1].zip [aP P]⟩ (obs 2 dsC2 [1] X) =
  (bif decide ((↑x : Int) < (↑P.length : Int)) then
 bif decide ((0 : Int) ≤ (↑x : Int) ∧ (↑x : Int) < (↑P.length : Int)) then
 (([] : List Int) = [] ∧ (0 : Int) ≤ (0 : Int) + (↑x : Int) ∧ (0 : Int) + (↑x : Int) < (↑P.length : Int)) ∧ bif decide ((P.getD ((0 : Int) + (↑x : Int)).toNat ((0 : Int), (0 : Int))).fst = i) && (decide ((P.getD ((0 : Int) + (↑x : Int)).toNat ((0 : Int), (0 : Int))).snd = k) && true) then
 X VEx.ret [I (↑x : Int), VV.slice (VA.el 1 [] (0 : Int) 0) P.length c2, I i, I k, VV.bool true] [aP P]
 else bif inK IntKind.i64 ((↑x : Int) + (1 : Int)) then
 X VEx.normal [I ((↑x : Int) + (1 : Int)), VV.slice (VA.el 1 [] (0 : Int) 0) P.length c2, I i, I k, VV.bool false] [aP P]
 else False
 else False
 else X (VEx.exit 2) [I (↑x : Int), VV.slice (VA.el 1 [] (0 : Int) 0) P.length c2, I i, I k, VV.bool false] [aP P]) := by kernel_rfl

theorem f27_ev (S : List Int) (P : List (Int × Int)) (c1 c2 : Nat) (i k : Int) (Q : VRes → VH → Prop) : spBL Try.prog 27 noSpec [(0, LC0 S P c1 c2 i k), (2, LC2 P c2 i k)] 10 20 0 [.slice (.el 0 [] 0 0) S.length c1, .slice (.el 1 [] 0 0) P.length c2, I i, I k] ⟨2, [(0, aS S), (1, aP P)]⟩ (fun r h => Q r h) =
  ((FitP 0 (VH.mk (2) ([0, 1].zip [aS S, aP P])) (dsC0.zip (VC0 S P c1 c2 i k (0 : Int) false)) (VH.mk (2) ([0, 1].zip [aS S, aP P])) (dsC0.zip (VC0 S P c1 c2 i k (0 : Int) false)) ∧ S.length ≤ maxI) ∧ (hasS S i k = false → (FitP 0 (VH.mk (2) ([1].zip [aP P])) (dsC2.zip (VC2 P c2 i k (0 : Int) false)) (VH.mk (2) ([1].zip [aP P])) (dsC2.zip (VC2 P c2 i k (0 : Int) false)) ∧ P.length ≤ maxI) ∧ (hasQ P i k = false → Q (VRes.ret (VV.bool false)) (VH.mk (2) ([(1, aP P)]))) ∧ (hasQ P i k = true → ∀ (j : Nat), Q (VRes.ret (VV.bool true)) (VH.mk (2) ([(1, aP P)])))) ∧ (hasS S i k = true → ∀ (j : Nat), Q (VRes.ret (VV.bool true)) (VH.mk (2) ([(0, aS S), (1, aP P)])))) := by kernel_rfl


end Go.Sx.Gen

/- genuine: GenuineLess, the search. -/

namespace Go.Sx
open Go

section
variable {P : Program}

/-- A function of two lists and plain values, where the lists are the caller's, or the second is nil. -/
theorem view_two_rest {f : FuncId} {L1 L2 s1 s2 : Nat} {g1 g2 : Nat → List VV} {rest : List VV} {r : VRes} (hs : ∀ c1 c2 : Nat, ∃ h', CallsV P f (.slice (.el 0 [] 0 0) L1 c1 :: .slice (.el 1 [] 0 0) L2 c2 :: rest) ⟨2, [(0, arrOf s1 L1 g1), (1, arrOf s2 L2 g2)]⟩ r h') (hr : r.pure = true) (hp : pureL rest = true)
    (p1 : ∀ i, i < L1 → pureL (g1 i) = true) (p2 : ∀ i, i < L2 → pureL (g2 i) = true) {h : VH} {m1 : Nat} {t1 : TypeId} {x2 : VV} (h1 : h.at m1 = .vec L1 g1 s1 t1) (h2 : (∃ m2 t2, x2 = .sl m2 L2 ∧ h.at m2 = .vec L2 g2 s2 t2) ∨ (x2 = .nils ∧ L2 = 0)) : CallsV P f (.sl m1 L1 :: x2 :: rest) h r h := by
  refine calls_viewA (hm := ⟨2, [(0, arrOf s1 L1 g1), (1, arrOf s2 L2 g2)]⟩) (onlyArr2 ⟨_, _, _, rfl⟩ ⟨_, _, _, rfl⟩) hr ?_
  intro B R w xs em hx
  obtain ⟨y1, _, hy1, ⟨y2, yr, hy2, hyr, rfl⟩, rfl⟩ := hx
  obtain ⟨q1, a1, c1, rfl, e1, f1, v1⟩ := view_vec em h1 hy1 p1
  have h2' : ∃ (q : Addr) (p : Option Addr) (cap : Nat), y2 = .slice p L2 cap ∧ L2 ≤ cap ∧ (cap = 0 ∨ p = some q) ∧
      ∀ R' : Rn, ∀ i : Int, 0 ≤ i → i < (L2 : Int) → q.block < w.heap.size ∧ q.spot = none ∧ ∃ xs, VRelL R' (g2 i.toNat) xs ∧ xs.length = s2 ∧ ∀ k y, xs[k]? = some y → w.cell? (q.add (i.toNat * s2 + k)) = some y := by
    rcases h2 with ⟨m2, t2, rfl, h2⟩ | ⟨rfl, rfl⟩
    · exact view_vec em h2 hy2 p2
    · simp only [VRel] at hy2
      exact ⟨⟨0, 0, none⟩, none, 0, hy2, Nat.le_refl _, .inl rfl, fun R' i h0 h1 => by omega⟩
  obtain ⟨q2, a2, c2, rfl, e2, f2, v2⟩ := h2'
  obtain ⟨h', hc⟩ := hs c1 c2
  refine ⟨fun n _ => if n = 0 then q1 else q2, fun n => if n = 0 then s1 else s2, _, h', hc, ⟨fun n s ok g hn => ?_⟩, ?_⟩
  · by_cases h : n < 2
    · have : n = 0 ∨ n = 1 := by omega
      rcases this with rfl | rfl
      · cases hn
        refine ⟨rfl, ?_⟩
        rintro ix i ⟨_, i0, i1⟩
        obtain ⟨w1, w2, w3⟩ := v1 ⟨fun _ => none, fun n _ => if n = 0 then q1 else q2, fun n => if n = 0 then s1 else s2, fun _ _ => none⟩ i i0 i1
        exact ⟨i0, w1, w2, w3⟩
      · cases hn
        refine ⟨rfl, ?_⟩
        rintro ix i ⟨_, i0, i1⟩
        obtain ⟨w1, w2, w3⟩ := v2 ⟨fun _ => none, fun n _ => if n = 0 then q1 else q2, fun n => if n = 0 then s1 else s2, fun _ _ => none⟩ i i0 i1
        exact ⟨i0, w1, w2, w3⟩
    · rw [at_ge h] at hn; cases hn
  · have hz : ∀ (q : Addr) (s : Nat), q = q.add ((0 : Int).toNat * s + 0) := fun q s => by
      have : (0 : Int).toNat * s + 0 = 0 := by simp
      rw [this]
      unfold Addr.add
      rw [if_pos rfl]
    refine ⟨_, _, ⟨e1, a1, ?_, rfl⟩, ⟨_, _, ⟨e2, a2, ?_, rfl⟩, pure_L _ _ hp hyr, rfl⟩, rfl⟩
    · rcases f1 with f1 | f1
      · exact .inl f1
      · exact .inr ⟨q1, f1, hz q1 _⟩
    · rcases f2 with f2 | f2
      · exact .inl f2
      · exact .inr ⟨q2, f2, hz q2 _⟩
end
end Go.Sx

namespace Go.Sx.Gen
open Go Go.Sx Go.Proofs
set_option maxRecDepth 100000

section
variable {S : List Int} {P : List (Int × Int)} {c1 c2 : Nat} {i k : Int}

/-- Are two told, one of them alone, or both as a pair? -/
def canB (S : List Int) (P : List (Int × Int)) (i k : Int) : Bool := hasS S i k || hasQ P i k

def OC0 (S : List Int) (P : List (Int × Int)) (c1 c2 : Nat) (i k : Int) (x : Nat) (e : VEx) (vs : List VV) (bs : List VB) : Prop :=
  bs = [aS S, aP P] ∧ ((e = .exit 0 ∧ hasS (S.drop x) i k = false ∧ vs = VC0 S P c1 c2 i k S.length false) ∨ (e = .ret ∧ hasS (S.drop x) i k = true ∧ ∃ j : Nat, vs = VC0 S P c1 c2 i k j true))

theorem LC0_ok : LSound Try.prog true (.block 0 (.loop (loopB 0 (bodyOf Try.prog 27)))) 45 (LC0 S P c1 c2 i k) := by
  by_cases hS : S.length ≤ maxI
  · unfold maxI at hS
    refine loop_row hmix good0 (un := 10) (ds := dsC0) (ns := [0, 1]) (nx := 2) (fun x : Nat => VC0 S P c1 c2 i k x false) (fun _ => [aS S, aP P]) (fun x => x ≤ S.length) (fun x => S.length - x) (OC0 S P c1 c2 i k) noL_ok ?_ ?_
    · intro x h1
      rw [c0_ev]
      by_cases hlt : x < S.length
      · have hst := has_step (a := i) (c := k) hlt
        refine cond_dk (by omega) (cond_dk ⟨by omega, by omega⟩ ⟨⟨rfl, by omega, by omega⟩, ?_⟩)
        rw [show (0 + (x : Int)).toNat = x by omega]
        refine cond_d (fun q => ⟨rfl, .inr ⟨rfl, ?_, x, rfl⟩⟩) (fun q => cond_dk ⟨by omega, by omega⟩ ⟨⟨rfl, by omega, by omega⟩, cond_d (fun q2 => ⟨rfl, .inr ⟨rfl, ?_, x, rfl⟩⟩) (fun q2 => cond_r (by omega) ⟨x + 1, by omega, by dsimp only; omega, rfl, fitBs_refl _, fun e vs bs ho => ?_⟩)⟩)
        · rw [hst, decide_eq_true q]; rfl
        · rw [hst, decide_eq_true q2]; simp
        · rw [OC0, hst, decide_eq_false q, decide_eq_false q2]; exact ho
      · refine cond_d (fun h => by omega) (fun _ => ?_)
        have : x = S.length := by omega
        subst this
        exact ⟨rfl, .inl ⟨rfl, by simp [hasS], rfl⟩⟩
    · rintro lock t h K ⟨⟨hf, _⟩, h1, h2⟩
      refine ⟨0, hf, Nat.zero_le _, ?_⟩
      rintro e vs bs ⟨rfl, ⟨rfl, ha, rfl⟩ | ⟨rfl, ha, j, rfl⟩⟩
      · exact h1 (by simpa using ha)
      · exact h2 (by simpa using ha) j
  · rintro lock t h K ⟨⟨hf, hc⟩, hK⟩
    exact (hS hc).elim

def OC2 (P : List (Int × Int)) (c2 : Nat) (i k : Int) (x : Nat) (e : VEx) (vs : List VV) (bs : List VB) : Prop :=
  bs = [aP P] ∧ ((e = .exit 2 ∧ hasQ (P.drop x) i k = false ∧ vs = VC2 P c2 i k P.length false) ∨ (e = .ret ∧ hasQ (P.drop x) i k = true ∧ ∃ j : Nat, vs = VC2 P c2 i k j true))

theorem hasQ_step {x : Nat} (h : x < P.length) : hasQ (P.drop x) i k = (decide ((P.getD x (0, 0)).1 = i) && decide ((P.getD x (0, 0)).2 = k) || hasQ (P.drop (x + 1)) i k) := by
  unfold hasQ
  rw [List.drop_eq_getElem_cons h, List.any_cons]
  simp [List.getD_eq_getElem?_getD, List.getElem?_eq_getElem h]

theorem LC2_ok : LSound Try.prog true (.block 2 (.loop (loopB 2 (bodyOf Try.prog 27)))) 45 (LC2 P c2 i k) := by
  by_cases hS : P.length ≤ maxI
  · unfold maxI at hS
    refine loop_row hmix good0 (un := 10) (ds := dsC2) (ns := [1]) (nx := 2) (fun x : Nat => VC2 P c2 i k x false) (fun _ => [aP P]) (fun x => x ≤ P.length) (fun x => P.length - x) (OC2 P c2 i k) noL_ok ?_ ?_
    · intro x h1
      rw [c2_ev]
      by_cases hlt : x < P.length
      · have hst := hasQ_step (i := i) (k := k) hlt
        refine cond_dk (by omega) (cond_dk ⟨by omega, by omega⟩ ⟨⟨rfl, by omega, by omega⟩, ?_⟩)
        rw [show (0 + (x : Int)).toNat = x by omega]
        refine cond_b (fun q => ⟨rfl, .inr ⟨rfl, ?_, x, rfl⟩⟩) (fun q => cond_r (by omega) ⟨x + 1, by omega, by dsimp only; omega, rfl, fitBs_refl _, fun e vs bs ho => ?_⟩)
        · rw [hst]; simp only [Bool.and_true] at q; rw [q]; rfl
        · rw [OC2, hst]; simp only [Bool.and_true] at q; rw [q]; exact ho
      · refine cond_d (fun h => by omega) (fun _ => ?_)
        have : x = P.length := by omega
        subst this
        exact ⟨rfl, .inl ⟨rfl, by simp [hasQ], rfl⟩⟩
    · rintro lock t h K ⟨⟨hf, _⟩, h1, h2⟩
      refine ⟨0, hf, Nat.zero_le _, ?_⟩
      rintro e vs bs ⟨rfl, ⟨rfl, ha, rfl⟩ | ⟨rfl, ha, j, rfl⟩⟩
      · exact h1 (by simpa using ha)
      · exact h2 (by simpa using ha) j
  · rintro lock t h K ⟨⟨hf, hc⟩, hK⟩
    exact (hS hc).elim

theorem lo27 : LoopsOk Try.prog 27 [(0, LC0 S P c1 c2 i k), (2, LC2 P c2 i k)] := by
  intro x hx
  simp only [List.mem_cons, List.not_mem_nil, or_false] at hx
  rcases hx with rfl | rfl
  · exact ⟨by kernel_rfl, LC0_ok⟩
  · exact ⟨by kernel_rfl, LC2_ok⟩

theorem can_v (h1 : S.length ≤ maxI) (h2 : P.length ≤ maxI) (c1 c2 : Nat) : ∃ h', CallsV Try.prog 27 [.slice (.el 0 [] 0 0) S.length c1, .slice (.el 1 [] 0 0) P.length c2, I i, I k] ⟨2, [(0, aS S), (1, aP P)]⟩ (.ret (.bool (canB S P i k))) h' := by
  have hsp := spBL_ok (sp := noSpec) hmix (fun _ _ h => absurd h (by simp [noSpec])) (f := 27) (lo27 (S := S) (P := P) (c1 := c1) (c2 := c2) (i := i) (k := k)) (un := 10) (fu := 20)
  obtain ⟨r, h', hQ, hcc⟩ := of_sp hsp (args := [.slice (.el 0 [] 0 0) S.length c1, .slice (.el 1 [] 0 0) P.length c2, I i, I k]) (h := ⟨2, [(0, aS S), (1, aP P)]⟩) (K := fun r h' => r = .ret (.bool (canB S P i k)))
    (by
      rw [f27_ev]
      unfold canB
      refine ⟨⟨fitP_self rfl, h1⟩, fun hs => ⟨⟨fitP_self rfl, h2⟩, fun hq => ?_, fun hq _ => ?_⟩, fun hs _ => ?_⟩
      · rw [hs, hq]; rfl
      · rw [hs, hq]; rfl
      · rw [hs]; rfl)
  subst hQ
  exact ⟨h', hcc⟩

/-- The search as a row: the second list may be nil. -/
def canT (S : List Int) (P : List (Int × Int)) : FuncId × Spec1 := (27, fun _ args h K => match args with
  | [.sl a n1, .sl c n2, .int .i64 i, .int .i64 k] => (S.length ≤ maxI ∧ P.length ≤ maxI ∧ n1 = S.length ∧ n2 = P.length ∧ h.at a = vecI S ∧ h.at c = vecP P) ∧ K (.ret (.bool (canB S P i k))) h
  | [.sl a n1, .nils, .int .i64 i, .int .i64 k] => (S.length ≤ maxI ∧ P.length = 0 ∧ n1 = S.length ∧ h.at a = vecI S) ∧ K (.ret (.bool (canB S P i k))) h
  | _ => False)

theorem canT_ok : SpOk Try.prog (canT S P).1 (canT S P).2 := by
  intro lock args h K hK
  simp only [canT] at hK
  split at hK
  · obtain ⟨⟨h1, h2, rfl, rfl, h3, h4⟩, hK⟩ := hK
    exact ⟨_, h, hK, lockP_refl _ _, view_two_rest (rest := [I _, I _]) (fun c1 c2 => can_v h1 h2 c1 c2) rfl rfl (fun _ _ => rfl) (fun _ _ => rfl) h3 (.inl ⟨_, _, rfl, h4⟩)⟩
  · obtain ⟨⟨h1, h2, rfl, h3⟩, hK⟩ := hK
    obtain rfl := List.eq_nil_of_length_eq_zero h2
    exact ⟨_, h, hK, lockP_refl _ _, view_two_rest (rest := [I _, I _]) (L2 := 0) (s2 := 2) (g2 := fun q => [I (([] : List (Int × Int)).getD q (0, 0)).1, I (([] : List (Int × Int)).getD q (0, 0)).2]) (fun c1 c2 => can_v (P := []) h1 (Nat.zero_le _) c1 c2) rfl rfl (fun _ _ => rfl) (fun _ _ => rfl) h3 (.inr ⟨rfl, rfl⟩)⟩
  · exact hK.elim
end
end Go.Sx.Gen

/- genuine: GenuineLess, the loops, evaluated. -/

namespace Go.Sx.Gen
open Go Go.Sx Go.Proofs
set_option maxRecDepth 100000

/-- The source that is added, and its values. -/
def moS (x : Src) : Sus := ⟨0, 0, 0, 0, x.vl, x.vc, x.lo, x.hi⟩
def moV (x : Src) : VV := .agg [I x.cask, I x.drawn, I x.slo, I x.shi, .slice (.el 4 [] 0 0) x.vl x.vc]
def cMo (x : Src) : VB := .cells [I x.cask, I x.drawn, I x.slo, I x.shi, .slice (.el 4 [] 0 0) x.vl x.vc] 51
def cBo (b : Sus) : VB := .cells [I b.glass, I b.paper, I b.slo, I b.shi, .slice (.el 2 [] 0 0) b.sl b.sc] 26
def hLe (n : Nat) (l : Int → Src) (b : Sus) (m : Nat) (f : Int → Int) (mo : Src) : VH := ⟨5, [(0, srcA n l), (1, valA n l), (2, seenA b), (3, byA m f), (4, seenA (moS mo))]⟩
/-- What is left open, less. -/
def pLo (b : Sus) (m : Nat) (f : Int → Int) (k : Int) : Int := pickF (b.lo (0 + k)) (b.hi (0 + k)) (f (0 + remZ k m))
def pHi (b : Sus) (m : Nat) (f : Int → Int) (k : Int) : Int := pLo b m f k + remZ (f (0 + remZ (k + 1) m)) (b.hi (0 + k) - pLo b m f k + 1)
def shpS (b : Sus) (m : Nat) (f : Int → Int) : Sus := ⟨b.glass, b.paper, b.slo, b.shi, b.sl, 0, pLo b m f, pHi b m f⟩

def dsL0 : List Nat := [13, 12, 1, 3, 4, 6, 9, 10]
def VL0 (n cap m cm : Nat) (S : List Int) (P : List (Int × Int)) (i c : Int) : List VV := [I i, I c, lV n cap, .slice (.el 3 [] 0 0) m cm, .ptr (.own 5 0), .ptr (.own 6 0), .sl 8 S.length, .sl 9 P.length]
def nsL0 : List Nat := [0, 1, 2, 3, 4, 5, 6, 8, 9]
def BL0 (n : Nat) (l : Int → Src) (b : Sus) (m : Nat) (f : Int → Int) (mo : Src) (S : List Int) (P : List (Int × Int)) : List VB := [srcA n l, valA n l, seenA b, byA m f, seenA (moS mo), cBo b, cMo mo, vecI S, vecP P]
def dsL2 : List Nat := [19, 1, 3, 4, 6, 9, 10, 17, 18]
def VL2 (n cap m cm : Nat) (S : List Int) (P : List (Int × Int)) (i : Int) : List VV := [I i, lV n cap, .slice (.el 3 [] 0 0) m cm, .ptr (.own 5 0), .ptr (.own 6 0), .sl 8 S.length, .sl 9 P.length, .func 27 [] [], .ptr (.own 10 0)]
def nsL2 : List Nat := [0, 1, 2, 3, 4, 5, 6, 8, 9, 10, 11]
def BL2 (n : Nat) (l : Int → Src) (b : Sus) (m : Nat) (f : Int → Int) (mo : Src) (S : List Int) (P : List (Int × Int)) (k : Nat) (F G : Nat → Int) : List VB := BL0 n l b m f mo S P ++ [.cells [I b.glass, I b.paper, I b.slo, I b.shi, .sl 11 k] 26, .vec k (fun q => [I (F q), I (G q)]) 2 23]
def dsL4 : List Nat := [24, 1, 4, 6, 9, 10, 17, 21, 22]
def VL4 (n cap : Nat) (S : List Int) (P : List (Int × Int)) (T : List Int) (Q : List (Int × Int)) (i : Int) : List VV := [I i, lV n cap, .ptr (.own 5 0), .ptr (.own 6 0), .sl 8 S.length, .sl 9 P.length, .func 27 [] [], .sl 13 T.length, .sl 14 Q.length]
def nsL4 : List Nat := [0, 1, 2, 4, 5, 6, 8, 9, 13, 14]
def BL4 (n : Nat) (l : Int → Src) (b : Sus) (mo : Src) (S : List Int) (P : List (Int × Int)) (T : List Int) (Q : List (Int × Int)) : List VB := [srcA n l, valA n l, seenA b, seenA (moS mo), cBo b, cMo mo, vecI S, vecP P, vecI T, vecP Q]
def dsL6 : List Nat := [25, 1, 4, 6, 9, 10, 17, 22]
def VL6 (n cap : Nat) (S : List Int) (P : List (Int × Int)) (Q : List (Int × Int)) (i : Int) : List VV := [I i, lV n cap, .ptr (.own 5 0), .ptr (.own 6 0), .sl 8 S.length, .sl 9 P.length, .func 27 [] [], .sl 14 Q.length]
def nsL6 : List Nat := [0, 1, 2, 4, 5, 6, 8, 9, 14]
def BL6 (n : Nat) (l : Int → Src) (b : Sus) (mo : Src) (S : List Int) (P : List (Int × Int)) (Q : List (Int × Int)) : List VB := [srcA n l, valA n l, seenA b, seenA (moS mo), cBo b, cMo mo, vecI S, vecP P, vecP Q]
def dsL8 : List Nat := [29, 9, 10, 17, 26, 27]
def VL8 (S : List Int) (P : List (Int × Int)) (T : List Int) (Q : List (Int × Int)) (i : Int) : List VV := [I i, .sl 8 S.length, .sl 9 P.length, .func 27 [] [], .sl 18 T.length, .sl 19 Q.length]
def nsL8 : List Nat := [8, 9, 18, 19]
def BL8 (S : List Int) (P : List (Int × Int)) (T : List Int) (Q : List (Int × Int)) : List VB := [vecI S, vecP P, vecI T, vecP Q]
def dsL10 : List Nat := [30, 10, 17, 26, 27]
def VL10 (P : List (Int × Int)) (T : List Int) (Q : List (Int × Int)) (i : Int) : List VV := [I i, .sl 9 P.length, .func 27 [] [], .sl 18 T.length, .sl 19 Q.length]
def nsL10 : List Nat := [9, 18, 19]
def BL10 (P : List (Int × Int)) (T : List Int) (Q : List (Int × Int)) : List VB := [vecP P, vecI T, vecP Q]

theorem l0_ev (n cap m cm : Nat) (l : Int → Src) (b : Sus) (f : Int → Int) (mo : Src) (S : List Int) (P : List (Int × Int)) (i c : Int) (X : VEx → List VV → List VB → Prop) : codeE Try.prog (callN Try.prog (tabS [rs11T n l b]) noL 10 20) (fun _ => none) true 10 277 0 (loopB 0 (bodyOf Try.prog 7)) (dsL0.zip (VL0 n cap m cm S P i c)) ⟨10, nsL0.zip (BL0 n l b m f mo S P)⟩ (obs 10 dsL0 nsL0 X) =
  (bif decide (i < (↑n : Int)) then
 ((srcA n l = srcA n l ∧ valA n l = valA n l ∧ seenA b = seenA b) ∧ [bV b, lV n cap] = [bV b, lV n cap]) ∧ bif decide (c < (↑S.length : Int)) then
 bif decide ((0 : Int) ≤ c ∧ c < (↑S.length : Int)) then
 bif S.length.beq S.length && true then
 bif S.length.beq S.length then
 bif !decide (rsE n l b i = (0 : Int)) then
 X VEx.ret [I i, I c, lV n cap, VV.slice (VA.el 3 [] (0 : Int) 0) m cm, VV.ptr (VA.own 5 0), VV.ptr (VA.own 6 0), VV.sl 8 S.length, VV.sl 9 P.length] [srcA n l, valA n l, seenA b, byA m f, seenA (moS mo), VB.cells [I b.glass, I b.paper, I b.slo, I b.shi, VV.slice (VA.el 2 [] (0 : Int) 0) b.sl b.sc] (26 : TypeId), VB.cells [I mo.cask, I mo.drawn, I mo.slo, I mo.shi, VV.slice (VA.el 4 [] (0 : Int) 0) mo.vl mo.vc] (51 : TypeId), vecI S, vecP P]
 else bif !decide (S.getD c.toNat (0 : Int) = i) == decide ((↑(rsL n l b i).length : Int) = (0 : Int)) then
 X VEx.ret [I i, I c, lV n cap, VV.slice (VA.el 3 [] (0 : Int) 0) m cm, VV.ptr (VA.own 5 0), VV.ptr (VA.own 6 0), VV.sl 8 S.length, VV.sl 9 P.length] [srcA n l, valA n l, seenA b, byA m f, seenA (moS mo), VB.cells [I b.glass, I b.paper, I b.slo, I b.shi, VV.slice (VA.el 2 [] (0 : Int) 0) b.sl b.sc] (26 : TypeId), VB.cells [I mo.cask, I mo.drawn, I mo.slo, I mo.shi, VV.slice (VA.el 4 [] (0 : Int) 0) mo.vl mo.vc] (51 : TypeId), vecI S, vecP P]
 else bif decide (S.getD c.toNat (0 : Int) = i) then
 bif inK IntKind.i64 (c + (1 : Int)) then
 bif inK IntKind.i64 (i + (1 : Int)) then
 X VEx.normal [I (i + (1 : Int)), I (c + (1 : Int)), lV n cap, VV.slice (VA.el 3 [] (0 : Int) 0) m cm, VV.ptr (VA.own 5 0), VV.ptr (VA.own 6 0), VV.sl 8 S.length, VV.sl 9 P.length] [srcA n l, valA n l, seenA b, byA m f, seenA (moS mo), VB.cells [I b.glass, I b.paper, I b.slo, I b.shi, VV.slice (VA.el 2 [] (0 : Int) 0) b.sl b.sc] (26 : TypeId), VB.cells [I mo.cask, I mo.drawn, I mo.slo, I mo.shi, VV.slice (VA.el 4 [] (0 : Int) 0) mo.vl mo.vc] (51 : TypeId), vecI S, vecP P]
 else False
 else False
 else bif inK IntKind.i64 (i + (1 : Int)) then
 X VEx.normal [I (i + (1 : Int)), I c, lV n cap, VV.slice (VA.el 3 [] (0 : Int) 0) m cm, VV.ptr (VA.own 5 0), VV.ptr (VA.own 6 0), VV.sl 8 S.length, VV.sl 9 P.length] [srcA n l, valA n l, seenA b, byA m f, seenA (moS mo), VB.cells [I b.glass, I b.paper, I b.slo, I b.shi, VV.slice (VA.el 2 [] (0 : Int) 0) b.sl b.sc] (26 : TypeId), VB.cells [I mo.cask, I mo.drawn, I mo.slo, I mo.shi, VV.slice (VA.el 4 [] (0 : Int) 0) mo.vl mo.vc] (51 : TypeId), vecI S, vecP P]
 else False
 else False
 else False
 else False
 else bif !decide (rsE n l b i = (0 : Int)) then
 X VEx.ret [I i, I c, lV n cap, VV.slice (VA.el 3 [] (0 : Int) 0) m cm, VV.ptr (VA.own 5 0), VV.ptr (VA.own 6 0), VV.sl 8 S.length, VV.sl 9 P.length] [srcA n l, valA n l, seenA b, byA m f, seenA (moS mo), VB.cells [I b.glass, I b.paper, I b.slo, I b.shi, VV.slice (VA.el 2 [] (0 : Int) 0) b.sl b.sc] (26 : TypeId), VB.cells [I mo.cask, I mo.drawn, I mo.slo, I mo.shi, VV.slice (VA.el 4 [] (0 : Int) 0) mo.vl mo.vc] (51 : TypeId), vecI S, vecP P]
 else bif !false == decide ((↑(rsL n l b i).length : Int) = (0 : Int)) then
 X VEx.ret [I i, I c, lV n cap, VV.slice (VA.el 3 [] (0 : Int) 0) m cm, VV.ptr (VA.own 5 0), VV.ptr (VA.own 6 0), VV.sl 8 S.length, VV.sl 9 P.length] [srcA n l, valA n l, seenA b, byA m f, seenA (moS mo), VB.cells [I b.glass, I b.paper, I b.slo, I b.shi, VV.slice (VA.el 2 [] (0 : Int) 0) b.sl b.sc] (26 : TypeId), VB.cells [I mo.cask, I mo.drawn, I mo.slo, I mo.shi, VV.slice (VA.el 4 [] (0 : Int) 0) mo.vl mo.vc] (51 : TypeId), vecI S, vecP P]
 else bif inK IntKind.i64 (i + (1 : Int)) then
 X VEx.normal [I (i + (1 : Int)), I c, lV n cap, VV.slice (VA.el 3 [] (0 : Int) 0) m cm, VV.ptr (VA.own 5 0), VV.ptr (VA.own 6 0), VV.sl 8 S.length, VV.sl 9 P.length] [srcA n l, valA n l, seenA b, byA m f, seenA (moS mo), VB.cells [I b.glass, I b.paper, I b.slo, I b.shi, VV.slice (VA.el 2 [] (0 : Int) 0) b.sl b.sc] (26 : TypeId), VB.cells [I mo.cask, I mo.drawn, I mo.slo, I mo.shi, VV.slice (VA.el 4 [] (0 : Int) 0) mo.vl mo.vc] (51 : TypeId), vecI S, vecP P]
 else False
 else X (VEx.exit 0) [I i, I c, lV n cap, VV.slice (VA.el 3 [] (0 : Int) 0) m cm, VV.ptr (VA.own 5 0), VV.ptr (VA.own 6 0), VV.sl 8 S.length, VV.sl 9 P.length] [srcA n l, valA n l, seenA b, byA m f, seenA (moS mo), VB.cells [I b.glass, I b.paper, I b.slo, I b.shi, VV.slice (VA.el 2 [] (0 : Int) 0) b.sl b.sc] (26 : TypeId), VB.cells [I mo.cask, I mo.drawn, I mo.slo, I mo.shi, VV.slice (VA.el 4 [] (0 : Int) 0) mo.vl mo.vc] (51 : TypeId), vecI S, vecP P]) := by kernel_rfl

theorem l2_ev (n cap m cm : Nat) (l : Int → Src) (b : Sus) (f : Int → Int) (mo : Src) (S : List Int) (P : List (Int × Int)) (k : Nat) (F G : Nat → Int) (X : VEx → List VV → List VB → Prop) : codeE Try.prog (callN Try.prog (tabS [pick23T]) noL 10 20) (fun _ => none) true 10 277 0 (loopB 2 (bodyOf Try.prog 7)) (dsL2.zip (VL2 n cap m cm S P k)) ⟨12, nsL2.zip (BL2 n l b m f mo S P k F G)⟩ (obs 12 dsL2 nsL2 X) =
  (bif decide ((↑k : Int) < (↑b.sl : Int)) then
 bif decide ((0 : Int) ≤ (↑k : Int) ∧ (↑k : Int) < (↑b.sl : Int)) then
 (([] : List Int) = [] ∧ (0 : Int) ≤ (0 : Int) + (↑k : Int) ∧ (0 : Int) + (↑k : Int) < (↑b.sl : Int)) ∧ bif decide ((↑m : Int) = (0 : Int)) then
 False
 else bif decide ((0 : Int) ≤ remZ (↑k : Int) (↑m : Int) ∧ remZ (↑k : Int) (↑m : Int) < (↑m : Int)) then
 (([] : List Int) = [] ∧ (0 : Int) ≤ (0 : Int) + remZ (↑k : Int) (↑m : Int) ∧ (0 : Int) + remZ (↑k : Int) (↑m : Int) < (↑m : Int)) ∧ ((0 : Int) ≤ b.lo ((0 : Int) + (↑k : Int)) ∧ b.lo ((0 : Int) + (↑k : Int)) ≤ b.hi ((0 : Int) + (↑k : Int)) ∧ b.hi ((0 : Int) + (↑k : Int)) ≤ (1048576 : Int) ∧ (0 : Int) ≤ f ((0 : Int) + remZ (↑k : Int) (↑m : Int)) ∧ f ((0 : Int) + remZ (↑k : Int) (↑m : Int)) ≤ (4294967295 : Int)) ∧ bif inK IntKind.i64 ((↑k : Int) + (1 : Int)) then
 bif decide ((↑m : Int) = (0 : Int)) then
 False
 else bif decide ((0 : Int) ≤ remZ ((↑k : Int) + (1 : Int)) (↑m : Int) ∧ remZ ((↑k : Int) + (1 : Int)) (↑m : Int) < (↑m : Int)) then
 (([] : List Int) = [] ∧ (0 : Int) ≤ (0 : Int) + remZ ((↑k : Int) + (1 : Int)) (↑m : Int) ∧ (0 : Int) + remZ ((↑k : Int) + (1 : Int)) (↑m : Int) < (↑m : Int)) ∧ bif inK IntKind.i64 (f ((0 : Int) + remZ ((↑k : Int) + (1 : Int)) (↑m : Int))) then
 bif decide ((0 : Int) ≤ (↑k : Int) ∧ (↑k : Int) < (↑b.sl : Int)) then
 (([] : List Int) = [] ∧ (0 : Int) ≤ (0 : Int) + (↑k : Int) ∧ (0 : Int) + (↑k : Int) < (↑b.sl : Int)) ∧ bif inK IntKind.i64 (b.hi ((0 : Int) + (↑k : Int)) - pickF (b.lo ((0 : Int) + (↑k : Int))) (b.hi ((0 : Int) + (↑k : Int))) (f ((0 : Int) + remZ (↑k : Int) (↑m : Int)))) then
 bif inK IntKind.i64 (b.hi ((0 : Int) + (↑k : Int)) - pickF (b.lo ((0 : Int) + (↑k : Int))) (b.hi ((0 : Int) + (↑k : Int))) (f ((0 : Int) + remZ (↑k : Int) (↑m : Int))) + (1 : Int)) then
 bif decide (b.hi ((0 : Int) + (↑k : Int)) - pickF (b.lo ((0 : Int) + (↑k : Int))) (b.hi ((0 : Int) + (↑k : Int))) (f ((0 : Int) + remZ (↑k : Int) (↑m : Int))) + (1 : Int) = (0 : Int)) then
 False
 else bif inK IntKind.i64 (pickF (b.lo ((0 : Int) + (↑k : Int))) (b.hi ((0 : Int) + (↑k : Int))) (f ((0 : Int) + remZ (↑k : Int) (↑m : Int))) + remZ (f ((0 : Int) + remZ ((↑k : Int) + (1 : Int)) (↑m : Int))) (b.hi ((0 : Int) + (↑k : Int)) - pickF (b.lo ((0 : Int) + (↑k : Int))) (b.hi ((0 : Int) + (↑k : Int))) (f ((0 : Int) + remZ (↑k : Int) (↑m : Int))) + (1 : Int))) then
 bif k.beq k then
 bif roomB (k + 1) (16) then
 bif inK IntKind.i64 ((↑k : Int) + (1 : Int)) then
 X VEx.normal [I ((↑k : Int) + (1 : Int)), lV n cap, VV.slice (VA.el 3 [] (0 : Int) 0) m cm, VV.ptr (VA.own 5 0), VV.ptr (VA.own 6 0), VV.sl 8 S.length, VV.sl 9 P.length, VV.func (27 : FuncId) [] [], VV.ptr (VA.own 10 0)] [srcA n l, valA n l, seenA b, byA m f, seenA (moS mo), VB.cells [I b.glass, I b.paper, I b.slo, I b.shi, VV.slice (VA.el 2 [] (0 : Int) 0) b.sl b.sc] (26 : TypeId), VB.cells [I mo.cask, I mo.drawn, I mo.slo, I mo.shi, VV.slice (VA.el 4 [] (0 : Int) 0) mo.vl mo.vc] (51 : TypeId), vecI S, vecP P, VB.cells [I b.glass, I b.paper, I b.slo, I b.shi, VV.sl 11 (k + 1)] (26 : TypeId), VB.vec (k + 1) (catG k (fun q => [I (F q), I (G q)]) fun j => List.take (2) (List.drop (j * (2)) [I (pickF (b.lo ((0 : Int) + (↑k : Int))) (b.hi ((0 : Int) + (↑k : Int))) (f ((0 : Int) + remZ (↑k : Int) (↑m : Int)))), I (pickF (b.lo ((0 : Int) + (↑k : Int))) (b.hi ((0 : Int) + (↑k : Int))) (f ((0 : Int) + remZ (↑k : Int) (↑m : Int))) + remZ (f ((0 : Int) + remZ ((↑k : Int) + (1 : Int)) (↑m : Int))) (b.hi ((0 : Int) + (↑k : Int)) - pickF (b.lo ((0 : Int) + (↑k : Int))) (b.hi ((0 : Int) + (↑k : Int))) (f ((0 : Int) + remZ (↑k : Int) (↑m : Int))) + (1 : Int)))])) (2) 23]
 else False
 else False
 else False
 else False
 else False
 else False
 else False
 else False
 else False
 else False
 else False
 else False
 else X (VEx.exit 2) [I (↑k : Int), lV n cap, VV.slice (VA.el 3 [] (0 : Int) 0) m cm, VV.ptr (VA.own 5 0), VV.ptr (VA.own 6 0), VV.sl 8 S.length, VV.sl 9 P.length, VV.func (27 : FuncId) [] [], VV.ptr (VA.own 10 0)] [srcA n l, valA n l, seenA b, byA m f, seenA (moS mo), VB.cells [I b.glass, I b.paper, I b.slo, I b.shi, VV.slice (VA.el 2 [] (0 : Int) 0) b.sl b.sc] (26 : TypeId), VB.cells [I mo.cask, I mo.drawn, I mo.slo, I mo.shi, VV.slice (VA.el 4 [] (0 : Int) 0) mo.vl mo.vc] (51 : TypeId), vecI S, vecP P, VB.cells [I b.glass, I b.paper, I b.slo, I b.shi, VV.sl 11 k] (26 : TypeId), VB.vec k (fun q => [I (F q), I (G q)]) 2 (23 : TypeId)]) := by kernel_rfl

theorem l4_ev (n cap : Nat) (l : Int → Src) (b : Sus) (mo : Src) (S : List Int) (P : List (Int × Int)) (T : List Int) (Q : List (Int × Int)) (i : Nat) (X : VEx → List VV → List VB → Prop) : codeE Try.prog (callN Try.prog (tabS [canT S []]) noL 10 20) (fun _ => none) true 10 277 0 (loopB 4 (bodyOf Try.prog 7)) (dsL4.zip (VL4 n cap S P T Q i)) ⟨15, nsL4.zip (BL4 n l b mo S P T Q)⟩ (obs 15 dsL4 nsL4 X) =
  (bif decide ((↑i : Int) < (↑T.length : Int)) then
 bif decide ((0 : Int) ≤ (↑i : Int) ∧ (↑i : Int) < (↑T.length : Int)) then
 bif T.length.beq T.length && true then
 bif T.length.beq T.length then
 bif decide ((0 : Int) ≤ (↑i : Int) ∧ (↑i : Int) < (↑T.length : Int)) then
 bif T.length.beq T.length && true then
 bif T.length.beq T.length then
 (S.length ≤ maxI ∧ 0 = 0 ∧ S.length = S.length ∧ vecI S = vecI S) ∧ bif !canB S [] (T.getD (↑i : Int).toNat (0 : Int)) (T.getD (↑i : Int).toNat (0 : Int)) then
 X VEx.ret [I (↑i : Int), lV n cap, VV.ptr (VA.own 5 0), VV.ptr (VA.own 6 0), VV.sl 8 S.length, VV.sl 9 P.length, VV.func (27 : FuncId) [] [], VV.sl 13 T.length, VV.sl 14 Q.length] [srcA n l, valA n l, seenA b, seenA (moS mo), VB.cells [I b.glass, I b.paper, I b.slo, I b.shi, VV.slice (VA.el 2 [] (0 : Int) 0) b.sl b.sc] (26 : TypeId), VB.cells [I mo.cask, I mo.drawn, I mo.slo, I mo.shi, VV.slice (VA.el 4 [] (0 : Int) 0) mo.vl mo.vc] (51 : TypeId), vecI S, vecP P, vecI T, vecP Q]
 else bif inK IntKind.i64 ((↑i : Int) + (1 : Int)) then
 X VEx.normal [I ((↑i : Int) + (1 : Int)), lV n cap, VV.ptr (VA.own 5 0), VV.ptr (VA.own 6 0), VV.sl 8 S.length, VV.sl 9 P.length, VV.func (27 : FuncId) [] [], VV.sl 13 T.length, VV.sl 14 Q.length] [srcA n l, valA n l, seenA b, seenA (moS mo), VB.cells [I b.glass, I b.paper, I b.slo, I b.shi, VV.slice (VA.el 2 [] (0 : Int) 0) b.sl b.sc] (26 : TypeId), VB.cells [I mo.cask, I mo.drawn, I mo.slo, I mo.shi, VV.slice (VA.el 4 [] (0 : Int) 0) mo.vl mo.vc] (51 : TypeId), vecI S, vecP P, vecI T, vecP Q]
 else False
 else False
 else False
 else False
 else False
 else False
 else False
 else X (VEx.exit 4) [I (↑i : Int), lV n cap, VV.ptr (VA.own 5 0), VV.ptr (VA.own 6 0), VV.sl 8 S.length, VV.sl 9 P.length, VV.func (27 : FuncId) [] [], VV.sl 13 T.length, VV.sl 14 Q.length] [srcA n l, valA n l, seenA b, seenA (moS mo), VB.cells [I b.glass, I b.paper, I b.slo, I b.shi, VV.slice (VA.el 2 [] (0 : Int) 0) b.sl b.sc] (26 : TypeId), VB.cells [I mo.cask, I mo.drawn, I mo.slo, I mo.shi, VV.slice (VA.el 4 [] (0 : Int) 0) mo.vl mo.vc] (51 : TypeId), vecI S, vecP P, vecI T, vecP Q]) := by kernel_rfl

theorem l6_ev (n cap : Nat) (l : Int → Src) (b : Sus) (mo : Src) (S : List Int) (P : List (Int × Int)) (Q : List (Int × Int)) (i : Nat) (X : VEx → List VV → List VB → Prop) : codeE Try.prog (callN Try.prog (tabS [canT S P]) noL 10 20) (fun _ => none) true 10 277 0 (loopB 6 (bodyOf Try.prog 7)) (dsL6.zip (VL6 n cap S P Q i)) ⟨15, nsL6.zip (BL6 n l b mo S P Q)⟩ (obs 15 dsL6 nsL6 X) =
  (bif decide ((↑i : Int) < (↑Q.length : Int)) then
 bif decide ((0 : Int) ≤ (↑i : Int) ∧ (↑i : Int) < (↑Q.length : Int)) then
 bif Q.length.beq Q.length && true then
 bif Q.length.beq Q.length then
 bif decide ((0 : Int) ≤ (↑i : Int) ∧ (↑i : Int) < (↑Q.length : Int)) then
 bif Q.length.beq Q.length && true then
 bif Q.length.beq Q.length then
 (S.length ≤ maxI ∧ P.length ≤ maxI ∧ S.length = S.length ∧ P.length = P.length ∧ vecI S = vecI S ∧ vecP P = vecP P) ∧ bif !canB S P (Q.getD (↑i : Int).toNat ((0 : Int), (0 : Int))).fst (Q.getD (↑i : Int).toNat ((0 : Int), (0 : Int))).snd then
 X VEx.ret [I (↑i : Int), lV n cap, VV.ptr (VA.own 5 0), VV.ptr (VA.own 6 0), VV.sl 8 S.length, VV.sl 9 P.length, VV.func (27 : FuncId) [] [], VV.sl 14 Q.length] [srcA n l, valA n l, seenA b, seenA (moS mo), VB.cells [I b.glass, I b.paper, I b.slo, I b.shi, VV.slice (VA.el 2 [] (0 : Int) 0) b.sl b.sc] (26 : TypeId), VB.cells [I mo.cask, I mo.drawn, I mo.slo, I mo.shi, VV.slice (VA.el 4 [] (0 : Int) 0) mo.vl mo.vc] (51 : TypeId), vecI S, vecP P, vecP Q]
 else bif inK IntKind.i64 ((↑i : Int) + (1 : Int)) then
 X VEx.normal [I ((↑i : Int) + (1 : Int)), lV n cap, VV.ptr (VA.own 5 0), VV.ptr (VA.own 6 0), VV.sl 8 S.length, VV.sl 9 P.length, VV.func (27 : FuncId) [] [], VV.sl 14 Q.length] [srcA n l, valA n l, seenA b, seenA (moS mo), VB.cells [I b.glass, I b.paper, I b.slo, I b.shi, VV.slice (VA.el 2 [] (0 : Int) 0) b.sl b.sc] (26 : TypeId), VB.cells [I mo.cask, I mo.drawn, I mo.slo, I mo.shi, VV.slice (VA.el 4 [] (0 : Int) 0) mo.vl mo.vc] (51 : TypeId), vecI S, vecP P, vecP Q]
 else False
 else False
 else False
 else False
 else False
 else False
 else False
 else X (VEx.exit 6) [I (↑i : Int), lV n cap, VV.ptr (VA.own 5 0), VV.ptr (VA.own 6 0), VV.sl 8 S.length, VV.sl 9 P.length, VV.func (27 : FuncId) [] [], VV.sl 14 Q.length] [srcA n l, valA n l, seenA b, seenA (moS mo), VB.cells [I b.glass, I b.paper, I b.slo, I b.shi, VV.slice (VA.el 2 [] (0 : Int) 0) b.sl b.sc] (26 : TypeId), VB.cells [I mo.cask, I mo.drawn, I mo.slo, I mo.shi, VV.slice (VA.el 4 [] (0 : Int) 0) mo.vl mo.vc] (51 : TypeId), vecI S, vecP P, vecP Q]) := by kernel_rfl

theorem l8_ev (S : List Int) (P : List (Int × Int)) (T : List Int) (Q : List (Int × Int)) (i : Nat) (X : VEx → List VV → List VB → Prop) : codeE Try.prog (callN Try.prog (tabS [canT T []]) noL 10 20) (fun _ => none) true 10 277 0 (loopB 8 (bodyOf Try.prog 7)) (dsL8.zip (VL8 S P T Q i)) ⟨20, nsL8.zip (BL8 S P T Q)⟩ (obs 20 dsL8 nsL8 X) =
  (bif decide ((↑i : Int) < (↑S.length : Int)) then
 bif decide ((0 : Int) ≤ (↑i : Int) ∧ (↑i : Int) < (↑S.length : Int)) then
 bif S.length.beq S.length && true then
 bif S.length.beq S.length then
 bif decide ((0 : Int) ≤ (↑i : Int) ∧ (↑i : Int) < (↑S.length : Int)) then
 bif S.length.beq S.length && true then
 bif S.length.beq S.length then
 (T.length ≤ maxI ∧ 0 = 0 ∧ T.length = T.length ∧ vecI T = vecI T) ∧ bif !canB T [] (S.getD (↑i : Int).toNat (0 : Int)) (S.getD (↑i : Int).toNat (0 : Int)) then
 X VEx.ret [I (↑i : Int), VV.sl 8 S.length, VV.sl 9 P.length, VV.func (27 : FuncId) [] [], VV.sl 18 T.length, VV.sl 19 Q.length] [vecI S, vecP P, vecI T, vecP Q]
 else bif inK IntKind.i64 ((↑i : Int) + (1 : Int)) then
 X VEx.normal [I ((↑i : Int) + (1 : Int)), VV.sl 8 S.length, VV.sl 9 P.length, VV.func (27 : FuncId) [] [], VV.sl 18 T.length, VV.sl 19 Q.length] [vecI S, vecP P, vecI T, vecP Q]
 else False
 else False
 else False
 else False
 else False
 else False
 else False
 else X (VEx.exit 8) [I (↑i : Int), VV.sl 8 S.length, VV.sl 9 P.length, VV.func (27 : FuncId) [] [], VV.sl 18 T.length, VV.sl 19 Q.length] [vecI S, vecP P, vecI T, vecP Q]) := by kernel_rfl

theorem l10_ev (P : List (Int × Int)) (T : List Int) (Q : List (Int × Int)) (i : Nat) (X : VEx → List VV → List VB → Prop) : codeE Try.prog (callN Try.prog (tabS [canT T Q]) noL 10 20) (fun _ => none) true 10 277 0 (loopB 10 (bodyOf Try.prog 7)) (dsL10.zip (VL10 P T Q i)) ⟨20, nsL10.zip (BL10 P T Q)⟩ (obs 20 dsL10 nsL10 X) =
  (bif decide ((↑i : Int) < (↑P.length : Int)) then
 bif decide ((0 : Int) ≤ (↑i : Int) ∧ (↑i : Int) < (↑P.length : Int)) then
 bif P.length.beq P.length && true then
 bif P.length.beq P.length then
 bif decide ((0 : Int) ≤ (↑i : Int) ∧ (↑i : Int) < (↑P.length : Int)) then
 bif P.length.beq P.length && true then
 bif P.length.beq P.length then
 (T.length ≤ maxI ∧ Q.length ≤ maxI ∧ T.length = T.length ∧ Q.length = Q.length ∧ vecI T = vecI T ∧ vecP Q = vecP Q) ∧ bif !canB T Q (P.getD (↑i : Int).toNat ((0 : Int), (0 : Int))).fst (P.getD (↑i : Int).toNat ((0 : Int), (0 : Int))).snd then
 X VEx.ret [I (↑i : Int), VV.sl 9 P.length, VV.func (27 : FuncId) [] [], VV.sl 18 T.length, VV.sl 19 Q.length] [vecP P, vecI T, vecP Q]
 else bif inK IntKind.i64 ((↑i : Int) + (1 : Int)) then
 X VEx.normal [I ((↑i : Int) + (1 : Int)), VV.sl 9 P.length, VV.func (27 : FuncId) [] [], VV.sl 18 T.length, VV.sl 19 Q.length] [vecP P, vecI T, vecP Q]
 else False
 else False
 else False
 else False
 else False
 else False
 else False
 else X (VEx.exit 10) [I (↑i : Int), VV.sl 9 P.length, VV.func (27 : FuncId) [] [], VV.sl 18 T.length, VV.sl 19 Q.length] [vecP P, vecI T, vecP Q]) := by kernel_rfl


end Go.Sx.Gen

/- genuine: GenuineLess, the loops. -/

namespace Go.Sx.Gen
open Go Go.Sx Go.Proofs
set_option maxRecDepth 100000

theorem filt_pos {p : Int → Bool} {n i : Nat} (h : i < n) :
    (p i = true → (filt p i 0).length < (filt p n 0).length ∧ (filt p n 0).getD (filt p i 0).length 0 = i) ∧
    (p i = false → (filt p n 0).getD (filt p i 0).length 0 = i → ¬ (filt p i 0).length < (filt p n 0).length) ∧
    (filt p (i + 1) 0).length = (filt p i 0).length + (bif p i then 1 else 0) := by
  obtain ⟨r, rfl⟩ : ∃ r, n = i + (r + 1) := ⟨n - i - 1, by omega⟩
  have e1 : filt p (i + (r + 1)) 0 = filt p i 0 ++ filt p (r + 1) i := by rw [filt_cut, Int.zero_add]
  have e2 : filt p (i + 1) 0 = filt p i 0 ++ filt p 1 i := by rw [filt_cut, Int.zero_add]
  have e3 : filt p (r + 1) i = bif p i then (i : Int) :: filt p r (i + 1) else filt p r (i + 1) := rfl
  have e4 : filt p 1 i = bif p i then [(i : Int)] else [] := rfl
  have e5 : ∀ (xs ys : List Int), (xs ++ ys).getD xs.length 0 = ys.getD 0 0 := fun xs ys => by
    rw [List.getD_eq_getElem?_getD, List.getElem?_append_right (Nat.le_refl _), Nat.sub_self, ← List.getD_eq_getElem?_getD]
  rw [e1, e2, e3, e4]
  refine ⟨fun hp => ?_, fun hp => ?_, ?_⟩
  · rw [hp, e5, List.length_append]
    exact ⟨by simp, rfl⟩
  · rw [hp, e5]
    simp only [cond_false]
    intro hg hlt
    rw [List.length_append] at hlt
    cases hx : filt p r ((i : Int) + 1) with
    | nil => rw [hx] at hlt; simp at hlt
    | cons y ys =>
      have hm : y ∈ filt p r ((i : Int) + 1) := by rw [hx]; simp
      obtain ⟨⟨h1, _⟩, _⟩ := mem_filt.1 hm
      rw [hx] at hg
      have hg : y = i := hg
      omega
  · rw [List.length_append]
    cases p i <;> rfl

section
variable {n cap m cm : Nat} {l : Int → Src} {b : Sus} {f : Int → Int} {mo : Src} {S T : List Int} {P Q : List (Int × Int)}

theorem rs_good (hw : Wf n l b) : Good Try.prog (callN Try.prog (tabS [rs11T n l b]) noL 10 20) := tab_good hmix (by
  intro x hx
  simp only [List.mem_singleton] at hx
  subst hx
  exact rs11T_ok hw hw.hn) 20

theorem can_good {S : List Int} {P : List (Int × Int)} : Good Try.prog (callN Try.prog (tabS [canT S P]) noL 10 20) := tab_good hmix (by
  intro x hx
  simp only [List.mem_singleton] at hx
  subst hx
  exact canT_ok) 20

def cntF (b : Sus) (l : Int → Src) (i : Nat) : Int := ((filt (fitB1 b l) i 0).length : Int)

def OL0 (n cap m cm : Nat) (l : Int → Src) (b : Sus) (f : Int → Int) (mo : Src) (S : List Int) (P : List (Int × Int)) (_ : Nat) (e : VEx) (vs : List VV) (bs : List VB) : Prop :=
  e = .exit 0 ∧ vs = VL0 n cap m cm S P n S.length ∧ bs = BL0 n l b m f mo S P

def LL0 (n cap m cm : Nat) (l : Int → Src) (b : Sus) (f : Int → Int) (mo : Src) (S : List Int) (P : List (Int × Int)) : LT := fun lock t h K =>
  (FitP lock h t ⟨10, nsL0.zip (BL0 n l b m f mo S P)⟩ (dsL0.zip (VL0 n cap m cm S P 0 0)) ∧ okB n l b = true ∧ S = filt (fitB1 b l) n 0 ∧ n ≤ 1048576) ∧ K .normal (dsL0.zip (VL0 n cap m cm S P n S.length)) ⟨10, nsL0.zip (BL0 n l b m f mo S P)⟩

theorem LL0_ok (hw : Wf n l b) : LSound Try.prog true (.block 0 (.loop (loopB 0 (bodyOf Try.prog 7)))) 277 (LL0 n cap m cm l b f mo S P) := by
  by_cases ok : okB n l b = true ∧ S = filt (fitB1 b l) n 0 ∧ n ≤ 1048576
  · obtain ⟨hok, hS, hn⟩ := ok
    refine loop_row hmix (rs_good hw) (un := 10) (ds := dsL0) (ns := nsL0) (nx := 10) (fun i : Nat => VL0 n cap m cm S P i (cntF b l i)) (fun _ => BL0 n l b m f mo S P) (fun i => i ≤ n) (fun i => n - i) (OL0 n cap m cm l b f mo S P) noL_ok ?_ ?_
    · intro i hi
      rw [l0_ev]
      by_cases hlt : i < n
      · have hr : rsE n l b i = 0 := by unfold rsE; rw [hok, inR_iff.2 ⟨by omega, by omega⟩]; rfl
        have hl : decide (((rsL n l b i).length : Int) = 0) = fitB1 b l i := by
          unfold rsL; rw [hok, inR_iff.2 ⟨by omega, by omega⟩]
          exact eN_len0
        obtain ⟨f1, f2, f3⟩ := filt_pos (p := fitB1 b l) hlt
        rw [← hS] at f1 f2
        have hc0 : 0 ≤ cntF b l i := by unfold cntF; omega
        have hci : (filt (fitB1 b l) i 0).length ≤ i := filt_le
        have ht : (cntF b l i).toNat = (filt (fitB1 b l) i 0).length := by unfold cntF; omega
        have hSl : S.length ≤ n := by rw [hS]; exact filt_le
        rw [ht, hl]
        refine cond_dk (by omega) ⟨⟨⟨rfl, rfl, rfl⟩, rfl⟩, cond_d (fun h1 => cond_dk ⟨hc0, h1⟩ (cond_k (by simp) (cond_k (by simp) (cond_nd (fun h => absurd hr h) (fun _ => ?_))))) (fun h1 => cond_nd (fun h => absurd hr h) (fun _ => ?_))⟩
        · have h1' : (filt (fitB1 b l) i 0).length < S.length := by unfold cntF at h1; omega
          by_cases hf : fitB1 b l i = true
          · obtain ⟨_, g2⟩ := f1 hf
            rw [decide_eq_true g2, hf]
            refine cond_i (fun h => by cases h) (fun _ => cond_k rfl (cond_r (by unfold cntF; omega) (cond_r (by omega) ?_)))
            refine ⟨i + 1, by omega, by dsimp only; omega, ?_, fitBs_refl _, fun e vs bs ho => ho⟩
            have : cntF b l i + 1 = cntF b l (i + 1) := by unfold cntF; rw [f3, hf]; simp
            rw [this]; rfl
          · have hf : fitB1 b l i = false := by simpa using hf
            have g2 : ¬ S.getD (filt (fitB1 b l) i 0).length 0 = i := fun h => f2 hf h h1'
            rw [decide_eq_false g2, hf]
            refine cond_i (fun h => by cases h) (fun _ => cond_i (fun h => by cases h) (fun _ => cond_r (by omega) ?_))
            refine ⟨i + 1, by omega, by dsimp only; omega, ?_, fitBs_refl _, fun e vs bs ho => ho⟩
            have : cntF b l i = cntF b l (i + 1) := by unfold cntF; rw [f3, hf]; simp
            rw [this]; rfl
        · have h1' : ¬ (filt (fitB1 b l) i 0).length < S.length := by unfold cntF at h1; omega
          have hf : fitB1 b l i = false := by
            cases hx : fitB1 b l i with
            | false => rfl
            | true => exact absurd (f1 hx).1 h1'
          rw [hf]
          refine cond_i (fun h => by cases h) (fun _ => cond_r (by omega) ?_)
          refine ⟨i + 1, by omega, by dsimp only; omega, ?_, fitBs_refl _, fun e vs bs ho => ho⟩
          have : cntF b l i = cntF b l (i + 1) := by unfold cntF; rw [f3, hf]; simp
          rw [this]; rfl
      · refine cond_d (fun h => by omega) (fun _ => ?_)
        have : i = n := by omega
        subst this
        refine ⟨rfl, ?_, rfl⟩
        have : cntF b l i = S.length := by unfold cntF; rw [hS]
        rw [this]; rfl
    · rintro lock t h K ⟨⟨hf, _⟩, hK⟩
      refine ⟨0, hf, Nat.zero_le _, ?_⟩
      rintro e vs bs ⟨rfl, rfl, rfl⟩
      exact hK
  · rintro lock t h K ⟨⟨hf, hc⟩, hK⟩
    exact (ok hc).elim

structure OkP (m : Nat) (b : Sus) (f : Int → Int) : Prop where
  sus : SusOk b
  hm : 0 < m ∧ m ≤ maxI
  hf : ∀ q : Int, 0 ≤ q → q < m → 0 ≤ f q ∧ f q ≤ 4294967295

theorem picks_in (ok : OkP m b f) {k : Int} (h0 : 0 ≤ k) (h1 : k < b.sl) : (0 ≤ pLo b m f k ∧ pLo b m f k ≤ pHi b m f k ∧ pHi b m f k ≤ 1048576) ∧ b.lo k ≤ pLo b m f k ∧ pHi b m f k ≤ b.hi k := by
  obtain ⟨hs, ⟨m0, m1⟩, hf⟩ := ok
  have hv := hs.val k h0 h1
  have r1 := rem_in (u := k) (k := m) h0 (by omega)
  have r2 := rem_in (u := k + 1) (k := m) (by omega) (by omega)
  have f1 := hf _ r1.1 r1.2
  have f2 := hf _ r2.1 r2.2
  have a1 := pickF_in (a := b.lo k) (c := b.hi k) (u := f (remZ k m)) hv.2.1 f1.1
  have a2 := rem_in (u := f (remZ (k + 1) m)) (k := b.hi k - pickF (b.lo k) (b.hi k) (f (remZ k m)) + 1) f2.1 (by omega)
  unfold pHi pLo
  simp only [Int.zero_add]
  omega

def OL2 (n cap m cm : Nat) (l : Int → Src) (b : Sus) (f : Int → Int) (mo : Src) (S : List Int) (P : List (Int × Int)) (_ : Nat) (e : VEx) (vs : List VV) (bs : List VB) : Prop :=
  e = .exit 2 ∧ vs = VL2 n cap m cm S P b.sl ∧ bs = BL2 n l b m f mo S P b.sl (fun q => pLo b m f q) (fun q => pHi b m f q)

def LL2s (n cap m cm : Nat) (l : Int → Src) (b : Sus) (f : Int → Int) (mo : Src) (S : List Int) (P : List (Int × Int)) : LT := fun lock t h K =>
  (FitP lock h t ⟨12, nsL2.zip (BL2 n l b m f mo S P 0 (fun q => pLo b m f q) (fun q => pHi b m f q))⟩ (dsL2.zip (VL2 n cap m cm S P 0)) ∧ OkP m b f) ∧ K .normal (dsL2.zip (VL2 n cap m cm S P b.sl)) ⟨12, nsL2.zip (BL2 n l b m f mo S P b.sl (fun q => pLo b m f q) (fun q => pHi b m f q))⟩

theorem LL2s_ok : LSound Try.prog true (.block 2 (.loop (loopB 2 (bodyOf Try.prog 7)))) 277 (LL2s n cap m cm l b f mo S P) := by
  by_cases ok : OkP m b f
  · refine loop_row hmix pick_good (un := 10) (ds := dsL2) (ns := nsL2) (nx := 12) (fun k : Nat => VL2 n cap m cm S P k) (fun k => BL2 n l b m f mo S P k (fun q => pLo b m f q) (fun q => pHi b m f q)) (fun k => k ≤ b.sl) (fun k => b.sl - k) (OL2 n cap m cm l b f mo S P) noL_ok ?_ ?_
    · intro k h1
      rw [l2_ev]
      obtain ⟨hs, ⟨m0, m1⟩, hf⟩ := id ok
      unfold maxI at m1
      by_cases hlt : k < b.sl
      · have hv := hs.val k (by omega) (by omega)
        have hsl := hs.vl
        have r1 := rem_in (u := (k : Int)) (k := m) (by omega) (by omega)
        have r2 := rem_in (u := (k : Int) + 1) (k := m) (by omega) (by omega)
        have f1 := hf _ r1.1 r1.2
        have f2 := hf _ r2.1 r2.2
        have a1 := pickF_in (a := b.lo k) (c := b.hi k) (u := f (remZ k m)) hv.2.1 f1.1
        have a2 := rem_in (u := f (remZ ((k : Int) + 1) m)) (k := b.hi k - pickF (b.lo k) (b.hi k) (f (remZ k m)) + 1) f2.1 (by omega)
        simp only [Int.zero_add]
        repeat' first
          | (refine cond_r (by omega) ?_)
          | (refine cond_d (fun h => by omega) (fun _ => ?_))
          | (refine cond_dk ⟨by omega, by omega⟩ ?_)
          | (refine cond_dk (by omega) ?_)
          | (refine ⟨⟨trivial, by omega, by omega⟩, ?_⟩)
          | (refine ⟨⟨by omega, by omega, by omega, by omega, by omega⟩, ?_⟩)
          | (refine cond_k (beq_t rfl) ?_)
          | (refine cond_k (room16 (by omega)) ?_)
          | fail
        refine ⟨k + 1, by omega, by dsimp only; omega, rfl, ⟨VB.fit_refl _, VB.fit_refl _, VB.fit_refl _, VB.fit_refl _, VB.fit_refl _, VB.fit_refl _, VB.fit_refl _, VB.fit_refl _, VB.fit_refl _, VB.fit_refl _, fit_span k (pLo b m f) (pHi b m f) _ _ ?_ ?_, trivial⟩, fun e vs bs ho => ho⟩
        · simp only [pLo, Int.zero_add]
        · simp only [pHi, pLo, Int.zero_add]
      · refine cond_d (fun h => by omega) (fun _ => ?_)
        have : k = b.sl := by omega
        subst this
        exact ⟨rfl, rfl, rfl⟩
    · rintro lock t h K ⟨⟨hf, _⟩, hK⟩
      refine ⟨0, hf, Nat.zero_le _, ?_⟩
      rintro e vs bs ⟨rfl, rfl, rfl⟩
      exact hK
  · rintro lock t h K ⟨⟨hf, hc⟩, hK⟩
    exact (ok hc).elim

def nsL2n : List Nat := [0, 1, 2, 3, 4, 5, 6, 8, 9, 10]
def BL2n (n : Nat) (l : Int → Src) (b : Sus) (m : Nat) (f : Int → Int) (mo : Src) (S : List Int) (P : List (Int × Int)) : List VB := BL0 n l b m f mo S P ++ [.cells [I b.glass, I b.paper, I b.slo, I b.shi, .nils] 26]

def LL2 (n cap m cm : Nat) (l : Int → Src) (b : Sus) (f : Int → Int) (mo : Src) (S : List Int) (P : List (Int × Int)) : LT := fun lock t h K =>
  (FitP lock h t ⟨11, nsL2n.zip (BL2n n l b m f mo S P)⟩ (dsL2.zip (VL2 n cap m cm S P 0)) ∧ OkP m b f) ∧ K .normal (dsL2.zip (VL2 n cap m cm S P b.sl)) ⟨12, nsL2.zip (BL2 n l b m f mo S P b.sl (fun q => pLo b m f q) (fun q => pHi b m f q))⟩

theorem LL2_ok : LSound Try.prog true (.block 2 (.loop (loopB 2 (bodyOf Try.prog 7)))) 277 (LL2 n cap m cm l b f mo S P) :=
  ghost_cells_row (m := 10) (nx := 11) (cs := [I b.glass, I b.paper, I b.slo, I b.shi, .nils]) (cs' := [I b.glass, I b.paper, I b.slo, I b.shi, .sl 11 0]) (ty := 26) (bs := nsL2n.zip (BL2n n l b m f mo S P)) (t0 := dsL2.zip (VL2 n cap m cm S P 0))
    (fun q => [I (pLo b m f (q : Int)), I (pHi b m f (q : Int))]) 2 23 LL2s_ok rfl (fun R xs hv hx => by
      obtain ⟨a0, _, k0, ⟨a1, _, k1, ⟨a2, _, k2, ⟨a3, _, k3, ⟨a4, _, k4, k5, rfl⟩, rfl⟩, rfl⟩, rfl⟩, rfl⟩ := hx
      exact ⟨_, _, k0, ⟨_, _, k1, ⟨_, _, k2, ⟨_, _, k3, ⟨_, _, nil_ghost hv k4, k5, rfl⟩, rfl⟩, rfl⟩, rfl⟩, rfl⟩) (by
      rintro lock t h K ⟨⟨hf, hi⟩, hK⟩
      exact ⟨hf, ⟨⟨⟨rfl, rfl, VB.fit_refl _, VB.fit_refl _, VB.fit_refl _, VB.fit_refl _, VB.fit_refl _, VB.fit_refl _, VB.fit_refl _, VB.fit_refl _, VB.fit_refl _, VB.fit_refl _, VB.fit_refl _, trivial⟩, rfl, rfl, rfl, rfl, rfl, rfl, rfl, rfl, rfl, trivial⟩, hi⟩, hK⟩)

def OL4 (n cap : Nat) (l : Int → Src) (b : Sus) (mo : Src) (S : List Int) (P : List (Int × Int)) (T : List Int) (Q : List (Int × Int)) (_ : Nat) (e : VEx) (vs : List VV) (bs : List VB) : Prop := e = .exit 4 ∧ vs = VL4 n cap S P T Q T.length ∧ bs = BL4 n l b mo S P T Q
def LL4 (n cap : Nat) (l : Int → Src) (b : Sus) (mo : Src) (S : List Int) (P : List (Int × Int)) (T : List Int) (Q : List (Int × Int)) : LT := fun lock t h K =>
  (FitP lock h t ⟨15, nsL4.zip (BL4 n l b mo S P T Q)⟩ (dsL4.zip (VL4 n cap S P T Q 0)) ∧ (S.length ≤ maxI ∧ T.length ≤ maxI) ∧ ∀ x ∈ T, canB S [] x x = true) ∧ K .normal (dsL4.zip (VL4 n cap S P T Q T.length)) ⟨15, nsL4.zip (BL4 n l b mo S P T Q)⟩

theorem LL4_ok : LSound Try.prog true (.block 4 (.loop (loopB 4 (bodyOf Try.prog 7)))) 277 (LL4 n cap l b mo S P T Q) := by
  by_cases ok : (S.length ≤ maxI ∧ T.length ≤ maxI) ∧ ∀ x ∈ T, canB S [] x x = true
  · obtain ⟨hl, hcan⟩ := ok
    have hl' := hl
    unfold maxI at hl'
    refine loop_row hmix (can_good (S := S) (P := [])) (un := 10) (ds := dsL4) (ns := nsL4) (nx := 15) (fun k : Nat => VL4 n cap S P T Q k) (fun _ => BL4 n l b mo S P T Q) (fun k => k ≤ T.length) (fun k => T.length - k) (OL4 n cap l b mo S P T Q) noL_ok ?_ ?_
    · intro k h1
      rw [l4_ev]
      by_cases hlt : k < T.length
      · have hx := hcan (T.getD k 0) (by rw [List.getD_eq_getElem?_getD, List.getElem?_eq_getElem hlt]; exact List.getElem_mem hlt)
        refine cond_dk (by omega) ?_
        rw [show (k : Int).toNat = k from Int.toNat_natCast k]
        repeat' first
          | (refine cond_dk ⟨by omega, by omega⟩ ?_)
          | (refine cond_k (by simp) ?_)
          | fail
        refine ⟨⟨hl.1, rfl, rfl, rfl⟩, cond_i (fun h => by rw [hx] at h; cases h) (fun _ => cond_r (by omega) ⟨k + 1, by omega, by dsimp only; omega, rfl, fitBs_refl _, fun e vs bs ho => ho⟩)⟩
      · refine cond_d (fun h => by omega) (fun _ => ?_)
        have : k = T.length := by omega
        subst this
        exact ⟨rfl, rfl, rfl⟩
    · rintro lock t h K ⟨⟨hf, _⟩, hK⟩
      refine ⟨0, hf, Nat.zero_le _, ?_⟩
      rintro e vs bs ⟨rfl, rfl, rfl⟩
      exact hK
  · rintro lock t h K ⟨⟨hf, hc⟩, hK⟩
    exact (ok hc).elim

def OL6 (n cap : Nat) (l : Int → Src) (b : Sus) (mo : Src) (S : List Int) (P : List (Int × Int)) (Q : List (Int × Int)) (_ : Nat) (e : VEx) (vs : List VV) (bs : List VB) : Prop := e = .exit 6 ∧ vs = VL6 n cap S P Q Q.length ∧ bs = BL6 n l b mo S P Q
def LL6 (n cap : Nat) (l : Int → Src) (b : Sus) (mo : Src) (S : List Int) (P : List (Int × Int)) (Q : List (Int × Int)) : LT := fun lock t h K =>
  (FitP lock h t ⟨15, nsL6.zip (BL6 n l b mo S P Q)⟩ (dsL6.zip (VL6 n cap S P Q 0)) ∧ (S.length ≤ maxI ∧ P.length ≤ maxI ∧ Q.length ≤ maxI) ∧ ∀ x ∈ Q, canB S P x.1 x.2 = true) ∧ K .normal (dsL6.zip (VL6 n cap S P Q Q.length)) ⟨15, nsL6.zip (BL6 n l b mo S P Q)⟩

theorem LL6_ok : LSound Try.prog true (.block 6 (.loop (loopB 6 (bodyOf Try.prog 7)))) 277 (LL6 n cap l b mo S P Q) := by
  by_cases ok : (S.length ≤ maxI ∧ P.length ≤ maxI ∧ Q.length ≤ maxI) ∧ ∀ x ∈ Q, canB S P x.1 x.2 = true
  · obtain ⟨hl, hcan⟩ := ok
    have hl' := hl
    unfold maxI at hl'
    refine loop_row hmix (can_good (S := S) (P := P)) (un := 10) (ds := dsL6) (ns := nsL6) (nx := 15) (fun k : Nat => VL6 n cap S P Q k) (fun _ => BL6 n l b mo S P Q) (fun k => k ≤ Q.length) (fun k => Q.length - k) (OL6 n cap l b mo S P Q) noL_ok ?_ ?_
    · intro k h1
      rw [l6_ev]
      by_cases hlt : k < Q.length
      · have hx := hcan (Q.getD k (0, 0)) (by rw [List.getD_eq_getElem?_getD, List.getElem?_eq_getElem hlt]; exact List.getElem_mem hlt)
        refine cond_dk (by omega) ?_
        rw [show (k : Int).toNat = k from Int.toNat_natCast k]
        repeat' first
          | (refine cond_dk ⟨by omega, by omega⟩ ?_)
          | (refine cond_k (by simp) ?_)
          | fail
        refine ⟨⟨hl.1, hl.2.1, rfl, rfl, rfl, rfl⟩, cond_i (fun h => by rw [hx] at h; cases h) (fun _ => cond_r (by omega) ⟨k + 1, by omega, by dsimp only; omega, rfl, fitBs_refl _, fun e vs bs ho => ho⟩)⟩
      · refine cond_d (fun h => by omega) (fun _ => ?_)
        have : k = Q.length := by omega
        subst this
        exact ⟨rfl, rfl, rfl⟩
    · rintro lock t h K ⟨⟨hf, _⟩, hK⟩
      refine ⟨0, hf, Nat.zero_le _, ?_⟩
      rintro e vs bs ⟨rfl, rfl, rfl⟩
      exact hK
  · rintro lock t h K ⟨⟨hf, hc⟩, hK⟩
    exact (ok hc).elim

def OL8 (S : List Int) (P : List (Int × Int)) (T : List Int) (Q : List (Int × Int)) (_ : Nat) (e : VEx) (vs : List VV) (bs : List VB) : Prop := e = .exit 8 ∧ vs = VL8 S P T Q S.length ∧ bs = BL8 S P T Q
def LL8 (S : List Int) (P : List (Int × Int)) (T : List Int) (Q : List (Int × Int)) : LT := fun lock t h K =>
  (FitP lock h t ⟨20, nsL8.zip (BL8 S P T Q)⟩ (dsL8.zip (VL8 S P T Q 0)) ∧ (T.length ≤ maxI ∧ S.length ≤ maxI) ∧ ∀ x ∈ S, canB T [] x x = true) ∧ K .normal (dsL8.zip (VL8 S P T Q S.length)) ⟨20, nsL8.zip (BL8 S P T Q)⟩

theorem LL8_ok : LSound Try.prog true (.block 8 (.loop (loopB 8 (bodyOf Try.prog 7)))) 277 (LL8 S P T Q) := by
  by_cases ok : (T.length ≤ maxI ∧ S.length ≤ maxI) ∧ ∀ x ∈ S, canB T [] x x = true
  · obtain ⟨hl, hcan⟩ := ok
    have hl' := hl
    unfold maxI at hl'
    refine loop_row hmix (can_good (S := T) (P := [])) (un := 10) (ds := dsL8) (ns := nsL8) (nx := 20) (fun k : Nat => VL8 S P T Q k) (fun _ => BL8 S P T Q) (fun k => k ≤ S.length) (fun k => S.length - k) (OL8 S P T Q) noL_ok ?_ ?_
    · intro k h1
      rw [l8_ev]
      by_cases hlt : k < S.length
      · have hx := hcan (S.getD k 0) (by rw [List.getD_eq_getElem?_getD, List.getElem?_eq_getElem hlt]; exact List.getElem_mem hlt)
        refine cond_dk (by omega) ?_
        rw [show (k : Int).toNat = k from Int.toNat_natCast k]
        repeat' first
          | (refine cond_dk ⟨by omega, by omega⟩ ?_)
          | (refine cond_k (by simp) ?_)
          | fail
        refine ⟨⟨hl.1, rfl, rfl, rfl⟩, cond_i (fun h => by rw [hx] at h; cases h) (fun _ => cond_r (by omega) ⟨k + 1, by omega, by dsimp only; omega, rfl, fitBs_refl _, fun e vs bs ho => ho⟩)⟩
      · refine cond_d (fun h => by omega) (fun _ => ?_)
        have : k = S.length := by omega
        subst this
        exact ⟨rfl, rfl, rfl⟩
    · rintro lock t h K ⟨⟨hf, _⟩, hK⟩
      refine ⟨0, hf, Nat.zero_le _, ?_⟩
      rintro e vs bs ⟨rfl, rfl, rfl⟩
      exact hK
  · rintro lock t h K ⟨⟨hf, hc⟩, hK⟩
    exact (ok hc).elim

def OL10 (P : List (Int × Int)) (T : List Int) (Q : List (Int × Int)) (_ : Nat) (e : VEx) (vs : List VV) (bs : List VB) : Prop := e = .exit 10 ∧ vs = VL10 P T Q P.length ∧ bs = BL10 P T Q
def LL10 (P : List (Int × Int)) (T : List Int) (Q : List (Int × Int)) : LT := fun lock t h K =>
  (FitP lock h t ⟨20, nsL10.zip (BL10 P T Q)⟩ (dsL10.zip (VL10 P T Q 0)) ∧ (T.length ≤ maxI ∧ Q.length ≤ maxI ∧ P.length ≤ maxI) ∧ ∀ x ∈ P, canB T Q x.1 x.2 = true) ∧ K .normal (dsL10.zip (VL10 P T Q P.length)) ⟨20, nsL10.zip (BL10 P T Q)⟩

theorem LL10_ok : LSound Try.prog true (.block 10 (.loop (loopB 10 (bodyOf Try.prog 7)))) 277 (LL10 P T Q) := by
  by_cases ok : (T.length ≤ maxI ∧ Q.length ≤ maxI ∧ P.length ≤ maxI) ∧ ∀ x ∈ P, canB T Q x.1 x.2 = true
  · obtain ⟨hl, hcan⟩ := ok
    have hl' := hl
    unfold maxI at hl'
    refine loop_row hmix (can_good (S := T) (P := Q)) (un := 10) (ds := dsL10) (ns := nsL10) (nx := 20) (fun k : Nat => VL10 P T Q k) (fun _ => BL10 P T Q) (fun k => k ≤ P.length) (fun k => P.length - k) (OL10 P T Q) noL_ok ?_ ?_
    · intro k h1
      rw [l10_ev]
      by_cases hlt : k < P.length
      · have hx := hcan (P.getD k (0, 0)) (by rw [List.getD_eq_getElem?_getD, List.getElem?_eq_getElem hlt]; exact List.getElem_mem hlt)
        refine cond_dk (by omega) ?_
        rw [show (k : Int).toNat = k from Int.toNat_natCast k]
        repeat' first
          | (refine cond_dk ⟨by omega, by omega⟩ ?_)
          | (refine cond_k (by simp) ?_)
          | fail
        refine ⟨⟨hl.1, hl.2.1, rfl, rfl, rfl, rfl⟩, cond_i (fun h => by rw [hx] at h; cases h) (fun _ => cond_r (by omega) ⟨k + 1, by omega, by dsimp only; omega, rfl, fitBs_refl _, fun e vs bs ho => ho⟩)⟩
      · refine cond_d (fun h => by omega) (fun _ => ?_)
        have : k = P.length := by omega
        subst this
        exact ⟨rfl, rfl, rfl⟩
    · rintro lock t h K ⟨⟨hf, _⟩, hK⟩
      refine ⟨0, hf, Nat.zero_le _, ?_⟩
      rintro e vs bs ⟨rfl, rfl, rfl⟩
      exact hK
  · rintro lock t h K ⟨⟨hf, hc⟩, hK⟩
    exact (ok hc).elim

end
end Go.Sx.Gen

/- genuine: GenuineLess (plain). -/

namespace Go.Sx.Gen
open Go Go.Sx Go.Proofs
set_option maxRecDepth 100000

/-- Less is left open. -/
structure Shp (b b' : Sus) : Prop where
  glass : b'.glass = b.glass
  paper : b'.paper = b.paper
  slo : b'.slo = b.slo
  shi : b'.shi = b.shi
  sl : b'.sl = b.sl
  val : ∀ k : Int, 0 ≤ k → k < b.sl → b.lo k ≤ b'.lo k ∧ b'.hi k ≤ b.hi k

section
variable {n m : Nat} {l : Int → Src} {f : Int → Int} {b b' : Sus} {i : Int} {mo : Src}

theorem fit_mono (h : Shp b b') (hsl : b.sl = (l i).vl) (hf : fitB1 b' l i = true) : fitB1 b l i = true := by
  refine fitB1_iff.2 fun k h0 h1 => ?_
  have h2 := fitB1_iff.1 hf k h0 h1
  unfold rP at h2 ⊢
  rw [h.glass, h.paper, h.slo] at h2
  by_cases k3 : k < 3
  · rw [decide_eq_true k3] at h2 ⊢; exact h2
  · rw [decide_eq_false k3] at h2 ⊢
    have := h.val (k - 3) (by omega) (by omega)
    simp at h2 ⊢
    omega

theorem kpA_mono (h : Shp b b') {x y : Src} {c d : Int} (hd : 0 ≤ d) (hk : kpA b' x y c d) : kpA b x y c d := by
  intro q hq
  have h2 := hk q (by rw [h.sl]; exact hq)
  unfold bdF at h2 ⊢
  rw [h.slo] at h2
  by_cases q0 : q = 0
  · rw [if_pos q0] at h2 ⊢; exact h2
  · rw [if_neg q0] at h2 ⊢
    by_cases q1 : q = 1
    · rw [if_pos q1] at h2 ⊢; exact h2
    · rw [if_neg q1] at h2 ⊢
      by_cases q2 : q = 2
      · rw [if_pos q2] at h2 ⊢; exact h2
      · rw [if_neg q2] at h2 ⊢
        obtain ⟨k1, k2⟩ := h.val ((q - 3) / 2 : Nat) (by omega) (by omega)
        by_cases q3 : (q - 3) % 2 = 0
        · rw [if_pos q3] at h2 ⊢
          dsimp only at h2 ⊢
          refine Int.le_trans (Int.mul_le_mul_of_nonneg_right ?_ hd) h2
          omega
        · rw [if_neg q3] at h2 ⊢
          dsimp only at h2 ⊢
          refine Int.le_trans (Int.mul_le_mul_of_nonneg_right ?_ hd) h2
          omega

theorem share_of_kpd {x y : Src} {p d : Int} (hd : 0 < d) (h : kpA b x y p d) (hg : b.glass ≤ min x.drawn y.drawn) (hq : b.paper ≤ min x.drawn y.drawn) : shareB b x y = true := by
  obtain ⟨g1, g2, g3⟩ := (kpA_iff hd).1 h
  obtain ⟨hlb, hmb, _⟩ := rfInv_all b x y
  have g4 := frac_le (a := (rfF b x y).la) (b := (rfF b x y).lb) (c := p) (d := d) (e := (rfF b x y).ma) (f := (rfF b x y).mb) (Int.le_of_lt hlb) hd (Int.le_of_lt hmb) g2 g3
  rw [shareB_rf, g1]
  have g5 : ¬ (rfF b x y).ma * (rfF b x y).lb < (rfF b x y).la * (rfF b x y).mb := by omega
  rw [decide_eq_false g5, decide_eq_true (show min x.drawn y.drawn ≥ b.glass by omega), decide_eq_true (show min x.drawn y.drawn ≥ b.paper by omega)]
  rfl

theorem share_mono (h : Shp b b') {x y : Src} (hs : shareB b' x y = true) : shareB b x y = true := by
  rw [shareB_rf] at hs
  simp only [Bool.and_eq_true, Bool.not_eq_true', decide_eq_true_eq, decide_eq_false_iff_not, Int.not_lt] at hs
  obtain ⟨⟨⟨h1, h2⟩, h3⟩, h4⟩ := hs
  obtain ⟨hlb, hmb, _⟩ := rfInv_all b' x y
  have hk : kpA b' x y (rfF b' x y).la (rfF b' x y).lb := (kpA_iff hlb).2 ⟨h1, Int.le_refl _, h2⟩
  rw [h.glass] at h3
  rw [h.paper] at h4
  exact share_of_kpd hlb (kpA_mono h (Int.le_of_lt hlb) hk) h3 h4

theorem pairsF_mem {a c : Int} : ∀ {m : Nat} {i : Int}, (a, c) ∈ pairsF n b l m i → (i ≤ a ∧ a < i + m) ∧ a < c ∧ c < n ∧ shareB b (l a) (l c) = true
  | 0, i, h => by simp [pairsF] at h
  | m + 1, i, h => by
    simp only [pairsF, List.mem_append] at h
    rcases h with h | h
    · cases hf : fitB1 b l i with
      | true => rw [hf] at h; simp at h
      | false =>
        rw [hf] at h
        simp only [cond_false, pairs1, List.mem_map] at h
        obtain ⟨c', hc, he⟩ := h
        cases he
        obtain ⟨⟨h1, h2⟩, h3⟩ := mem_filt.1 hc
        unfold prB at h3
        simp only [Bool.and_eq_true] at h3
        exact ⟨⟨by omega, by omega⟩, by omega, by omega, h3.2⟩
    · obtain ⟨⟨h1, h2⟩, h3⟩ := pairsF_mem (m := m) (i := i + 1) h
      exact ⟨⟨by omega, by omega⟩, h3⟩

theorem hasS_of {S : List Int} {a c : Int} (h : a ∈ S ∨ c ∈ S) : hasS S a c = true := by
  unfold hasS
  rw [List.any_eq_true]
  rcases h with h | h
  · exact ⟨a, h, by simp⟩
  · exact ⟨c, h, by simp⟩

theorem can_single {x : Int} (h0 : 0 ≤ x ∧ x < n) (hf : fitB1 b l x = true) {P : List (Int × Int)} : canB (filt (fitB1 b l) n 0) P x x = true := by
  unfold canB
  rw [hasS_of (.inl (mem_filt.2 ⟨⟨h0.1, by omega⟩, hf⟩))]
  rfl

theorem can_pair {a c : Int} (h0 : 0 ≤ a) (h1 : a < c) (h2 : c < n) (hs : shareB b (l a) (l c) = true) : canB (filt (fitB1 b l) n 0) (pairsF n b l n 0) a c = true := by
  unfold canB
  cases fa : fitB1 b l a with
  | true => rw [hasS_of (.inl (mem_filt.2 ⟨⟨h0, by omega⟩, fa⟩))]; rfl
  | false =>
    cases fc : fitB1 b l c with
    | true => rw [hasS_of (.inr (mem_filt.2 ⟨⟨by omega, by omega⟩, fc⟩))]; rfl
    | false =>
      have : hasQ (pairsF n b l n 0) a c = true := by
        unfold hasQ
        rw [List.any_eq_true]
        refine ⟨(a, c), mem_pairsF h0 (by omega) fa h1 h2 ?_, by simp⟩
        unfold prB; rw [fc, hs]; rfl
      rw [this]; simp

theorem orS_ok (h : okB n l b = true) : orS n b l = filt (fitB1 b l) n 0 := by unfold orS; rw [h]; rfl
theorem orP_ok (h : okB n l b = true) : orP n b l = pairsF n b l n 0 := by unfold orP; rw [h]; rfl

/-- With less left open, no origin is added. -/
theorem less_single (h : Shp b b') (hok : okB n l b = true) (hok' : okB n l b' = true) : ∀ x ∈ orS n b' l, canB (orS n b l) [] x x = true := by
  intro x hx
  rw [orS_ok hok'] at hx
  rw [orS_ok hok]
  obtain ⟨⟨h1, h2⟩, h3⟩ := mem_filt.1 hx
  exact can_single ⟨h1, by omega⟩ (fit_mono h (srcOk_of hok h1 (by omega)).vl h3)

theorem less_pair (h : Shp b b') (hok : okB n l b = true) (hok' : okB n l b' = true) : ∀ x ∈ orP n b' l, canB (orS n b l) (orP n b l) x.1 x.2 = true := by
  rintro ⟨a, c⟩ hx
  rw [orP_ok hok'] at hx
  rw [orS_ok hok, orP_ok hok]
  obtain ⟨⟨h1, h2⟩, h3, h4, h5⟩ := pairsF_mem hx
  exact can_pair h1 h3 h4 (share_mono h h5)

/-- One more source. -/
def extL (n : Nat) (l : Int → Src) (mo : Src) (i : Int) : Src := bif decide (i < n) then l i else mo

theorem ext_lt (h : i < n) : extL n l mo i = l i := by unfold extL; rw [decide_eq_true h]; rfl
theorem ext_n : extL n l mo n = mo := by unfold extL; rw [decide_eq_false (by omega)]; rfl

theorem fit_ext (h : i < n) : fitB1 b (extL n l mo) i = fitB1 b l i := by unfold fitB1; rw [ext_lt h]

theorem more_single (hok : okB n l b = true) (hok' : okB (n + 1) (extL n l mo) b = true) : ∀ x ∈ orS n b l, canB (orS (n + 1) b (extL n l mo)) [] x x = true := by
  intro x hx
  rw [orS_ok hok] at hx
  rw [orS_ok hok']
  obtain ⟨⟨h1, h2⟩, h3⟩ := mem_filt.1 hx
  exact can_single ⟨h1, by omega⟩ (by rw [fit_ext (by omega)]; exact h3)

theorem more_pair (hok : okB n l b = true) (hok' : okB (n + 1) (extL n l mo) b = true) : ∀ x ∈ orP n b l, canB (orS (n + 1) b (extL n l mo)) (orP (n + 1) b (extL n l mo)) x.1 x.2 = true := by
  rintro ⟨a, c⟩ hx
  rw [orP_ok hok] at hx
  rw [orS_ok hok', orP_ok hok']
  obtain ⟨⟨h1, h2⟩, h3, h4, h5⟩ := pairsF_mem hx
  exact can_pair h1 h3 (by omega) (by rw [ext_lt (by omega), ext_lt h4]; exact h5)

theorem shp_of (ok : OkP m b f) : Shp b (shpS b m f) := ⟨rfl, rfl, rfl, rfl, rfl, fun k h0 h1 => (picks_in ok h0 h1).2⟩

theorem shp_ok (ok : OkP m b f) (hok : okB n l b = true) : okB n l (shpS b m f) = true := by
  have hok2 := hok
  have hs := ok.sus
  have h1 := hs.vl
  unfold okB bothB susB spansB at hok ⊢
  simp only [Bool.and_eq_true, Bool.or_eq_true, decide_eq_true_eq] at hok ⊢
  obtain ⟨g1, ⟨⟨⟨g2, g3⟩, g4⟩, g5, g6⟩, g7⟩ := hok
  exact ⟨g1, ⟨⟨⟨g2, g3⟩, g4⟩, g5, allB_iff.2 fun k h0 h1 => spanB_iff.2 (picks_in ok h0 (by have h1 : k < 0 + ((shpS b m f).sl : Nat) := h1; have : (shpS b m f).sl = b.sl := rfl; omega)).1⟩, g7⟩
end
end Go.Sx.Gen

/- genuine: Origins, where the sources are a list of one's own, that was put together. -/

namespace Go.Sx
open Go

/-- A list of the caller's, as an array of the callee's; the elements may name arrays. -/
theorem view_vecN {B : Nat} {R : Rn} {w : World} {η : Nat → VB} (em : Emb B R η w) {m L s : Nat} {g : Nat → List VV} {t : TypeId} (hη : η m = .vec L g s t) {x : Value} (hx : VRel R (.sl m L) x) :
    ∃ (q : Addr) (p : Option Addr) (cap : Nat), x = .slice p L cap ∧ L ≤ cap ∧ (cap = 0 ∨ p = some q) ∧
      ∀ i : Int, 0 ≤ i → i < (L : Int) → q.block < w.heap.size ∧ q.spot = none ∧ ∃ xs, VRelL R.no (g i.toNat) xs ∧ xs.length = s ∧ ∀ k y, xs[k]? = some y → w.cell? (q.add (i.toNat * s + k)) = some y := by
  obtain ⟨hv, _⟩ := hx
  have hok := em.vec m L g s t hη
  obtain ⟨v, xs, g1, g2, _⟩ := hok.row
  rw [hv] at g1; cases g1
  rcases g2.2 with ⟨rfl, rfl⟩ | ⟨b, cap, cur, rfl, hb, hb2, hcap, _⟩
  · exact ⟨⟨0, 0, none⟩, none, 0, rfl, Nat.le_refl 0, .inl rfl, fun i h0 h1 => by omega⟩
  · refine ⟨⟨b, 0, none⟩, _, cap, rfl, hcap, .inr rfl, fun i h0 h1 => ⟨?_, rfl, ?_⟩⟩
    · exact (Array.getElem?_eq_some_iff.1 hb2).1
    · obtain ⟨ys, w1, w2, _, w4⟩ := hok.elem hv rfl (i := i.toNat) (by omega)
      refine ⟨ys, w1, w2, fun k y hk => ?_⟩
      rw [add_lit, Nat.zero_add]
      exact w4 k y hk
end Go.Sx

namespace Go.Sx.Gen
open Go Go.Sx Go.Proofs
set_option maxRecDepth 100000

section
variable {n : Nat} {l : Int → Src} {b b' : Sus} {mo : Src}

/-- The sources, and one more, as they were put together. -/
def vecX (n : Nat) (l : Int → Src) (mo : Src) : VB := .vec (0 + n + 1) (catG (0 + n) (catG 0 (fun j => List.take 5 (List.drop (j * 5) [])) (fun j => [I (l (0 + (j : Int))).cask, I (l (0 + (j : Int))).drawn, I (l (0 + (j : Int))).slo, I (l (0 + (j : Int))).shi, .slice (.el 1 [0 + (j : Int)] 0 0) (l (0 + (j : Int))).vl (l (0 + (j : Int))).vc])) (fun j => List.take 5 (List.drop (j * 5) [I mo.cask, I mo.drawn, I mo.slo, I mo.shi, .slice (.el 4 [] 0 0) mo.vl mo.vc]))) 5 51

theorem vecX_get {i : Int} (h0 : 0 ≤ i) (h1 : i < n + 1) : catG (0 + n) (catG 0 (fun j => List.take 5 (List.drop (j * 5) [])) (fun j => [I (l (0 + (j : Int))).cask, I (l (0 + (j : Int))).drawn, I (l (0 + (j : Int))).slo, I (l (0 + (j : Int))).shi, VV.slice (.el 1 [0 + (j : Int)] 0 0) (l (0 + (j : Int))).vl (l (0 + (j : Int))).vc])) (fun j => List.take 5 (List.drop (j * 5) [I mo.cask, I mo.drawn, I mo.slo, I mo.shi, VV.slice (.el 4 [] 0 0) mo.vl mo.vc])) i.toNat =
    [I (extL n l mo i).cask, I (extL n l mo i).drawn, I (extL n l mo i).slo, I (extL n l mo i).shi, .slice (bif decide (i < n) then .el 1 [i] 0 0 else .el 4 [] 0 0) (extL n l mo i).vl (extL n l mo i).vc] := by
  by_cases h : i < n
  · rw [ext_lt h, decide_eq_true h]
    unfold catG
    rw [blt_t (by omega), cond_true, blt_f (by omega), cond_false, Nat.sub_zero]
    dsimp only
    rw [show (0 : Int) + (i.toNat : Int) = i by omega]
    rfl
  · have : i = n := by omega
    subst this
    rw [ext_n, decide_eq_false h]
    unfold catG
    rw [blt_f (by omega), cond_false, show ((n : Int)).toNat - (0 + n) = 0 by omega]
    rfl

theorem wf_ext (hw : Wf n l b) (hn : n ≤ 1048576) (hm : mo.vl ≤ maxI) : Wf (n + 1) (extL n l mo) b := by
  refine ⟨by unfold maxI; omega, fun i h0 h1 => ?_, hw.hb⟩
  by_cases h : i < n
  · rw [ext_lt h]; exact hw.hl i h0 h
  · have : i = n := by omega
    subst this
    rw [ext_n]; exact hm

theorem or15X_v (hw : Wf n l b) (hn : n ≤ 1048576) (hmo : mo.vl ≤ maxI) {h : VH} {mm : Nat} (h1 : h.at 1 = valA n l) (h2 : h.at 2 = seenA b) (h4 : h.at 4 = seenA (moS mo)) (hm : h.at mm = vecX n l mo) :
    CallsV Try.prog 15 [bV b, .sl mm (0 + n + 1)] h (.ret (.tup [.sl (h.nx + 1) (orS (n + 1) b (extL n l mo)).length, .sl (h.nx + 2) (orP (n + 1) b (extL n l mo)).length, I (orE (n + 1) b (extL n l mo))])) (pushL h [.gone, vecI (orS (n + 1) b (extL n l mo)), vecP (orP (n + 1) b (extL n l mo))]) := by
  have e2 : (VRes.ret (.tup [.sl 4 (orS (n + 1) b (extL n l mo)).length, .sl 5 (orP (n + 1) b (extL n l mo)).length, I (orE (n + 1) b (extL n l mo))])).sh 3 h.nx = .ret (.tup [.sl (h.nx + 1) (orS (n + 1) b (extL n l mo)).length, .sl (h.nx + 2) (orP (n + 1) b (extL n l mo)).length, I (orE (n + 1) b (extL n l mo))]) := by
    simp [VRes.sh, VV.sh, shL, shN]; omega
  rw [← e2]
  have ho : onlyArr (bH (n + 1) (extL n l mo) b) := fun m => by
    by_cases hm : m < 3
    · have : m = 0 ∨ m = 1 ∨ m = 2 := by omega
      rcases this with rfl | rfl | rfl
      · exact .inl ⟨_, _, _, rfl⟩
      · exact .inl ⟨_, _, _, rfl⟩
      · exact .inl ⟨_, _, _, rfl⟩
    · exact .inr (.inr (at_ge hm))
  refine calls_view_new (hm := bH (n + 1) (extL n l mo) b) ho rfl (fun c hc => ?_) ?_
  · simp only [List.mem_cons, List.not_mem_nil, or_false] at hc
    rcases hc with rfl | rfl | rfl
    · trivial
    · exact fun _ _ => rfl
    · exact fun _ _ => rfl
  intro B R w xs em hx
  obtain ⟨ysus, _, hsus, ⟨ysrc, _, hsrc, hnil, rfl⟩, rfl⟩ := hx
  simp only [VRelL] at hnil
  subst hnil
  obtain ⟨fs, ⟨f0, _, e0, ⟨f1, _, e1, ⟨f2, _, e2, ⟨f3, _, e3, ⟨f4, _, e4, hnil, rfl⟩, rfl⟩, rfl⟩, rfl⟩, rfl⟩, rfl⟩ := hsus
  simp only [VRelL] at hnil
  subst hnil
  obtain ⟨q, p, c, rfl, hc, hq, hv⟩ := view_vecN em hm hsrc
  have hcall := or15_v (cap := c) (wf_ext hw hn hmo)
  obtain ⟨s1, a1⟩ := em.arr 1 _ _ _ h1
  obtain ⟨s2, a2⟩ := em.arr 2 _ _ _ h2
  obtain ⟨s4, a4⟩ := em.arr 4 _ _ _ h4
  have hz : ∀ (q : Addr) (s : Nat), q.add ((0 : Int).toNat * s + 0) = q := fun q s => by
    have : (0 : Int).toNat * s + 0 = 0 := by simp
    rw [this]
    unfold Addr.add
    rw [if_pos rfl]
  refine ⟨fun m ix => if m = 0 then q else if m = 1 then (match ix with | [i] => if i < n then R.arr 1 [i] else R.arr 4 [] | _ => q) else R.arr 2 ix, fun m => if m = 0 then 5 else 2, [bV b, lV (n + 1) c], _, hcall, bl3, ⟨fun m s ok g hm => ?_⟩, ?_⟩
  · by_cases hm3 : m < 3
    · have : m = 0 ∨ m = 1 ∨ m = 2 := by omega
      rcases this with rfl | rfl | rfl
      · have hm : srcA (n + 1) (extL n l mo) = .arr s ok g := hm
        cases hm
        refine ⟨rfl, fun ix i hi => ?_⟩
        obtain ⟨rfl, i0, i1⟩ := hi
        have i1 : i < (n : Int) + 1 := by omega
        obtain ⟨w1, w2, ys, w3, w4, w5⟩ := hv i i0 (by omega)
        refine ⟨i0, w1, w2, ys, ?_, w4, w5⟩
        rw [vecX_get i0 i1] at w3
        obtain ⟨a0, _, k0, ⟨a1, _, k1, ⟨a2, _, k2, ⟨a3, _, k3, ⟨a4, _, k4, k5, rfl⟩, rfl⟩, rfl⟩, rfl⟩, rfl⟩ := w3
        obtain ⟨c1, p1, c2, rfl⟩ := k4
        refine ⟨_, _, k0, ⟨_, _, k1, ⟨_, _, k2, ⟨_, _, k3, ⟨_, _, ⟨c1, p1, ?_, rfl⟩, k5, rfl⟩, rfl⟩, rfl⟩, rfl⟩, rfl⟩
        rcases c2 with c2 | ⟨q1, c2, c3⟩
        · exact .inl c2
        · refine .inr ⟨q1, c2, ?_⟩
          by_cases hlt : i < n
          · rw [decide_eq_true hlt] at c3
            have c3 : q1 = (R.arr 1 [i]).add ((0 : Int).toNat * R.str 1 + 0) := c3
            rw [hz] at c3
            show q1 = Addr.add (if i < n then R.arr 1 [i] else R.arr 4 []) ((0 : Int).toNat * 2 + 0)
            rw [hz, if_pos hlt]; exact c3
          · rw [decide_eq_false hlt] at c3
            have c3 : q1 = (R.arr 4 []).add ((0 : Int).toNat * R.str 4 + 0) := c3
            rw [hz] at c3
            show q1 = Addr.add (if i < n then R.arr 1 [i] else R.arr 4 []) ((0 : Int).toNat * 2 + 0)
            rw [hz, if_neg hlt]; exact c3
      · have hm : valA (n + 1) (extL n l mo) = .arr s ok g := hm
        cases hm
        refine ⟨rfl, fun ix j hj => ?_⟩
        obtain ⟨i, rfl, i0, i1, j0, j1⟩ := hj
        by_cases hlt : i < n
        · rw [ext_lt hlt] at j1
          obtain ⟨g3, g4, g5, ys, g6, g7, g8⟩ := a1 [i] j ⟨i, rfl, i0, hlt, j0, j1⟩
          refine ⟨j0, ?_, ?_, ys, ?_, g7, ?_⟩
          · show (if i < n then R.arr 1 [i] else R.arr 4 []).block < _
            rw [if_pos hlt]; exact Nat.lt_of_lt_of_le g4 em.base
          · show (if i < n then R.arr 1 [i] else R.arr 4 []).spot = none
            rw [if_pos hlt]; exact g5
          · have e : [I (at1 (fun i => (extL n l mo i).lo) [i] j), I (at1 (fun i => (extL n l mo i).hi) [i] j)] = [I (at1 (fun i => (l i).lo) [i] j), I (at1 (fun i => (l i).hi) [i] j)] := by
              simp only [at1]; rw [ext_lt hlt]
            show VRelL _ [I (at1 (fun i => (extL n l mo i).lo) [i] j), I (at1 (fun i => (extL n l mo i).hi) [i] j)] ys
            rw [e]; exact pure_L _ _ rfl g6
          · intro k y hk
            show w.cell? (Addr.add (if i < n then R.arr 1 [i] else R.arr 4 []) (j.toNat * 2 + k)) = some y
            rw [if_pos hlt]; exact g8 k y hk
        · have : i = n := by omega
          subst this
          rw [ext_n] at j1
          obtain ⟨g3, g4, g5, ys, g6, g7, g8⟩ := a4 [] j ⟨rfl, j0, j1⟩
          refine ⟨j0, ?_, ?_, ys, ?_, g7, ?_⟩
          · show (if (n : Int) < n then R.arr 1 [(n : Int)] else R.arr 4 []).block < _
            rw [if_neg hlt]; exact Nat.lt_of_lt_of_le g4 em.base
          · show (if (n : Int) < n then R.arr 1 [(n : Int)] else R.arr 4 []).spot = none
            rw [if_neg hlt]; exact g5
          · have e : [I (at1 (fun i => (extL n l mo i).lo) [(n : Int)] j), I (at1 (fun i => (extL n l mo i).hi) [(n : Int)] j)] = [I (mo.lo j), I (mo.hi j)] := by
              simp only [at1]; rw [ext_n]
            show VRelL _ [I (at1 (fun i => (extL n l mo i).lo) [(n : Int)] j), I (at1 (fun i => (extL n l mo i).hi) [(n : Int)] j)] ys
            rw [e]; exact pure_L _ _ rfl g6
          · intro k y hk
            show w.cell? (Addr.add (if (n : Int) < n then R.arr 1 [(n : Int)] else R.arr 4 []) (j.toNat * 2 + k)) = some y
            rw [if_neg hlt]; exact g8 k y hk
      · have hm : seenA b = .arr s ok g := hm
        cases hm
        refine ⟨rfl, fun ix i hi => ?_⟩
        obtain ⟨g3, g4, g5, ys, g6, g7, g8⟩ := a2 ix i hi
        exact ⟨g3, Nat.lt_of_lt_of_le g4 em.base, g5, ys, pure_L _ _ rfl g6, g7, g8⟩
    · have : (bH (n + 1) (extL n l mo) b).at m = .free := at_ge hm3
      rw [this] at hm; cases hm
  · refine ⟨_, _, ⟨[f0, f1, f2, f3, f4], ⟨_, _, e0, ⟨_, _, e1, ⟨_, _, e2, ⟨_, _, e3, ⟨_, _, ?_, rfl, rfl⟩, rfl⟩, rfl⟩, rfl⟩, rfl⟩, rfl⟩, ⟨_, _, ⟨by omega, p, ?_, ?_⟩, rfl, rfl⟩, rfl⟩
    · obtain ⟨c1, p1, c2, rfl⟩ := e4
      refine ⟨c1, p1, ?_, rfl⟩
      rcases c2 with c2 | ⟨q1, c2, c3⟩
      · exact .inl c2
      · refine .inr ⟨q1, c2, ?_⟩
        have c3 : q1 = (R.arr 2 []).add ((0 : Int).toNat * R.str 2 + 0) := c3
        rw [hz] at c3
        show q1 = Addr.add (R.arr 2 []) ((0 : Int).toNat * 2 + 0)
        rw [hz]; exact c3
    · rcases hq with hq | hq
      · exact .inl hq
      · refine .inr ⟨q, hq, ?_⟩
        show q = Addr.add q ((0 : Int).toNat * 5 + 0)
        rw [hz]
    · rw [show 0 + n + 1 = n + 1 by omega]

/-- Origins as a row: of a suspect and sources that were handed in; of a suspect of one's own; with one source more. -/
def or15L (n : Nat) (l : Int → Src) (b b' : Sus) (mo : Src) : FuncId × Spec1 := (15, fun lock args h K => match args with
  | [.agg [.int .i64 g, .int .i64 p, .int .i64 s, .int .i64 t, .slice a x c], .slice a2 m2 c2] => (orT 15 n l b).2 lock [.agg [.int .i64 g, .int .i64 p, .int .i64 s, .int .i64 t, .slice a x c], .slice a2 m2 c2] h K
  | [.agg [.int .i64 g, .int .i64 p, .int .i64 s, .int .i64 t, .sl mm L], .slice a2 m2 c2] => (or15ST n l b').2 lock [.agg [.int .i64 g, .int .i64 p, .int .i64 s, .int .i64 t, .sl mm L], .slice a2 m2 c2] h K
  | [.agg [.int .i64 g, .int .i64 p, .int .i64 s, .int .i64 t, .slice a x c], .sl mm L] =>
    ((h.at 1 = valA n l ∧ h.at 2 = seenA b ∧ h.at 4 = seenA (moS mo) ∧ h.at mm = vecX n l mo) ∧ [bV b, .sl mm (0 + n + 1)] = [.agg [I g, I p, I s, I t, .slice a x c], .sl mm L] ∧ n ≤ 1048576) ∧ match h with
      | ⟨nx, bs⟩ => K (.ret (.tup [.sl (nx + 1) (orS (n + 1) b (extL n l mo)).length, .sl (nx + 2) (orP (n + 1) b (extL n l mo)).length, I (orE (n + 1) b (extL n l mo))])) ⟨nx + 3, (nx + 2, vecP (orP (n + 1) b (extL n l mo))) :: (nx + 1, vecI (orS (n + 1) b (extL n l mo))) :: (nx, .gone) :: bs⟩
  | _ => False)

theorem or15L_ok (hw : Wf n l b) (hw' : Wf n l b') (hmo : mo.vl ≤ maxI) : SpOk Try.prog (or15L n l b b' mo).1 (or15L n l b b' mo).2 := by
  intro lock args h K hK
  simp only [or15L] at hK
  split at hK
  · exact orT_ok (fun cap => or15_v hw) _ _ _ _ hK
  · exact or15ST_ok hw' _ _ _ _ hK
  · obtain ⟨⟨⟨h1, h2, h4, hm⟩, ha, hn⟩, hK⟩ := hK
    have hc := or15X_v hw hn hmo h1 h2 h4 hm
    rw [ha] at hc
    exact ⟨_, _, (by cases h; exact hK), lockP_push _ _, hc⟩
  · exact hK.elim
end
end Go.Sx.Gen

/- genuine: GenuineLess, evaluated. -/

namespace Go.Sx.Gen
open Go Go.Sx Go.Proofs
set_option maxRecDepth 100000

def t7r (n m : Nat) (l : Int → Src) (b : Sus) (f : Int → Int) (mo : Src) : List (FuncId × Spec1) := [awT, or15L n l b (shpS b m f) mo, srcT 21 n l b, susT 24 (bothB b n l) n l b]
def lp7 (n cap m cm : Nat) (l : Int → Src) (b : Sus) (f : Int → Int) (mo : Src) : List (Nat × LT) := [(0, LL0 n cap m cm l b f mo (orS n b l) (orP n b l)), (2, LL2 n cap m cm l b f mo (orS n b l) (orP n b l)), (4, LL4 n cap l b mo (orS n b l) (orP n b l) (orS n (shpS b m f) l) (orP n (shpS b m f) l)), (6, LL6 n cap l b mo (orS n b l) (orP n b l) (orP n (shpS b m f) l)),
  (8, LL8 (orS n b l) (orP n b l) (orS (n + 1) b (extL n l mo)) (orP (n + 1) b (extL n l mo))), (10, LL10 (orP n b l) (orS (n + 1) b (extL n l mo)) (orP (n + 1) b (extL n l mo)))]

theorem f7_ev (n cap m cm : Nat) (l : Int → Src) (b : Sus) (f : Int → Int) (mo : Src) (Q : VRes → Prop) : spBL Try.prog 7 (tabS (t7r n m l b f mo)) (lp7 n cap m cm l b f mo) 10 20 0 [bV b, lV n cap, moV mo, .slice (.el 3 [] 0 0) m cm] (hLe n l b m f mo) (fun r _ => Q r) =
  (bif decide ((↑n : Int) > (10 : Int)) then
 Q (VRes.ret (VV.bool true))
 else bif decide ((↑b.sl : Int) > (12 : Int)) then
 Q (VRes.ret (VV.bool true))
 else bif decide ((↑m : Int) = (0 : Int)) then
 Q (VRes.ret (VV.bool true))
 else ((srcA n l = srcA n l ∧ valA n l = valA n l ∧ seenA b = seenA b) ∧ [bV b, lV n cap] = [bV b, lV n cap]) ∧ bif !decide (orE n b l = (0 : Int)) then
 bif decide ((↑(orS n b l).length : Int) = (0 : Int)) then
 bif decide ((↑(orP n b l).length : Int) = (0 : Int)) then
 bif decide (orE n b l = (1 : Int)) then
 Q (VRes.ret (VV.bool true))
 else Q (VRes.ret (VV.bool false))
 else Q (VRes.ret (VV.bool false))
 else Q (VRes.ret (VV.bool false))
 else ((srcA n l = srcA n l ∧ valA n l = valA n l ∧ seenA b = seenA b) ∧ n = n) ∧ bif !srcsB n l then
 Q (VRes.ret (VV.bool false))
 else ((srcA n l = srcA n l ∧ valA n l = valA n l ∧ seenA b = seenA b) ∧ [bV b, lV n cap] = [bV b, lV n cap]) ∧ bif !bothB b n l then
 Q (VRes.ret (VV.bool false))
 else (FitP 0 (VH.mk (10) (nsL0.zip (BL0 n l b m f mo (orS n b l) (orP n b l)))) (dsL0.zip (VL0 n cap m cm (orS n b l) (orP n b l) (0 : Int) (0 : Int))) (VH.mk (10) (nsL0.zip (BL0 n l b m f mo (orS n b l) (orP n b l)))) (dsL0.zip (VL0 n cap m cm (orS n b l) (orP n b l) (0 : Int) (0 : Int))) ∧ okB n l b = true ∧ orS n b l = filt (fitB1 b l) n (0 : Int) ∧ n ≤ 1048576) ∧ bif !decide ((↑(orS n b l).length : Int) = (↑(orS n b l).length : Int)) then
 Q (VRes.ret (VV.bool false))
 else (FitP 0 (VH.mk (11) (nsL2n.zip (BL2n n l b m f mo (orS n b l) (orP n b l)))) (dsL2.zip (VL2 n cap m cm (orS n b l) (orP n b l) (0 : Int))) (VH.mk (11) (nsL2n.zip (BL2n n l b m f mo (orS n b l) (orP n b l)))) (dsL2.zip (VL2 n cap m cm (orS n b l) (orP n b l) (0 : Int))) ∧ OkP m b f) ∧ ((srcA n l = srcA n l ∧ valA n l = valA n l ∧ vecS (shpS b m f) = vecS (shpS b m f)) ∧ [VV.agg [I b.glass, I b.paper, I b.slo, I b.shi, VV.sl 11 b.sl], lV n cap] = [VV.agg [I b.glass, I b.paper, I b.slo, I b.shi, VV.sl 11 b.sl], lV n cap]) ∧ bif !decide (orE n (shpS b m f) l = (0 : Int)) then
 Q (VRes.ret (VV.bool false))
 else (FitP 0 (VH.mk (15) (nsL4.zip (BL4 n l b mo (orS n b l) (orP n b l) (orS n (shpS b m f) l) (orP n (shpS b m f) l)))) (dsL4.zip (VL4 n cap (orS n b l) (orP n b l) (orS n (shpS b m f) l) (orP n (shpS b m f) l) (0 : Int))) (VH.mk (15) (nsL4.zip (BL4 n l b mo (orS n b l) (orP n b l) (orS n (shpS b m f) l) (orP n (shpS b m f) l)))) (dsL4.zip (VL4 n cap (orS n b l) (orP n b l) (orS n (shpS b m f) l) (orP n (shpS b m f) l) (0 : Int))) ∧ ((orS n b l).length ≤ maxI ∧ (orS n (shpS b m f) l).length ≤ maxI) ∧ ∀ (x : Int), x ∈ orS n (shpS b m f) l → canB (orS n b l) [] x x = true) ∧ (FitP 0 (VH.mk (15) (nsL6.zip (BL6 n l b mo (orS n b l) (orP n b l) (orP n (shpS b m f) l)))) (dsL6.zip (VL6 n cap (orS n b l) (orP n b l) (orP n (shpS b m f) l) (0 : Int))) (VH.mk (15) (nsL6.zip (BL6 n l b mo (orS n b l) (orP n b l) (orP n (shpS b m f) l)))) (dsL6.zip (VL6 n cap (orS n b l) (orP n b l) (orP n (shpS b m f) l) (0 : Int))) ∧ ((orS n b l).length ≤ maxI ∧ (orP n b l).length ≤ maxI ∧ (orP n (shpS b m f) l).length ≤ maxI) ∧ ∀ (x : Int × Int), x ∈ orP n (shpS b m f) l → canB (orS n b l) (orP n b l) x.fst x.snd = true) ∧ (∀ (j : Nat), j < n → (([] : List Int) = [] ∧ (0 : Int) ≤ (0 : Int) + (↑j : Int) ∧ (0 : Int) + (↑j : Int) < (↑n : Int)) ∧ ([I (l ((0 : Int) + (↑j : Int))).cask, I (l ((0 : Int) + (↑j : Int))).drawn, I (l ((0 : Int) + (↑j : Int))).slo, I (l ((0 : Int) + (↑j : Int))).shi, VV.slice (VA.el 1 [(0 : Int) + (↑j : Int)] (0 : Int) 0) (l ((0 : Int) + (↑j : Int))).vl (l ((0 : Int) + (↑j : Int))).vc]).all VV.one = true) ∧ bif roomB (0 + n) (56) then
 bif (0 + n).beq (0 + n) then
 bif roomB (0 + n + 1) (56) then
 ((valA n l = valA n l ∧ seenA b = seenA b ∧ seenA (moS mo) = seenA (moS mo) ∧ vecX n l mo = vecX n l mo) ∧ [bV b, VV.sl (15) (0 + n + 1)] = [bV b, VV.sl (15) (0 + n + 1)] ∧ n ≤ 1048576) ∧ bif !decide (orE (n + 1) b (extL n l mo) = (0 : Int)) then
 bif decide (orE (n + 1) b (extL n l mo) = (1 : Int)) then
 Q (VRes.ret (VV.bool true))
 else Q (VRes.ret (VV.bool false))
 else (FitP 0 (VH.mk (20) (nsL8.zip (BL8 (orS n b l) (orP n b l) (orS (n + 1) b (extL n l mo)) (orP (n + 1) b (extL n l mo))))) (dsL8.zip (VL8 (orS n b l) (orP n b l) (orS (n + 1) b (extL n l mo)) (orP (n + 1) b (extL n l mo)) (0 : Int))) (VH.mk (20) (nsL8.zip (BL8 (orS n b l) (orP n b l) (orS (n + 1) b (extL n l mo)) (orP (n + 1) b (extL n l mo))))) (dsL8.zip (VL8 (orS n b l) (orP n b l) (orS (n + 1) b (extL n l mo)) (orP (n + 1) b (extL n l mo)) (0 : Int))) ∧ ((orS (n + 1) b (extL n l mo)).length ≤ maxI ∧ (orS n b l).length ≤ maxI) ∧ ∀ (x : Int), x ∈ orS n b l → canB (orS (n + 1) b (extL n l mo)) [] x x = true) ∧ (FitP 0 (VH.mk (20) (nsL10.zip (BL10 (orP n b l) (orS (n + 1) b (extL n l mo)) (orP (n + 1) b (extL n l mo))))) (dsL10.zip (VL10 (orP n b l) (orS (n + 1) b (extL n l mo)) (orP (n + 1) b (extL n l mo)) (0 : Int))) (VH.mk (20) (nsL10.zip (BL10 (orP n b l) (orS (n + 1) b (extL n l mo)) (orP (n + 1) b (extL n l mo))))) (dsL10.zip (VL10 (orP n b l) (orS (n + 1) b (extL n l mo)) (orP (n + 1) b (extL n l mo)) (0 : Int))) ∧ ((orS (n + 1) b (extL n l mo)).length ≤ maxI ∧ (orP (n + 1) b (extL n l mo)).length ≤ maxI ∧ (orP n b l).length ≤ maxI) ∧ ∀ (x : Int × Int), x ∈ orP n b l → canB (orS (n + 1) b (extL n l mo)) (orP (n + 1) b (extL n l mo)) x.fst x.snd = true) ∧ Q (VRes.ret (VV.bool true))
 else False
 else False
 else False) := by kernel_rfl


end Go.Sx.Gen

/- genuine: GenuineLess. -/

namespace Go.Sx.Gen
open Go Go.Sx Go.Proofs
set_option maxRecDepth 100000

section
variable {n cap m cm : Nat} {l : Int → Src} {b : Sus} {f : Int → Int} {mo : Src}

theorem roomX {n : Nat} (h : n ≤ 1048576) : roomB n 56 = true := by
  simp only [roomB, Bool.and_eq_true]
  exact ⟨Nat.ble_eq_true_of_le (by omega), Nat.ble_eq_true_of_le (by omega)⟩

theorem lo7 (hw : Wf n l b) : LoopsOk Try.prog 7 (lp7 n cap m cm l b f mo) := by
  intro x hx
  simp only [lp7, List.mem_cons, List.not_mem_nil, or_false] at hx
  rcases hx with rfl | rfl | rfl | rfl | rfl | rfl
  · exact ⟨by kernel_rfl, LL0_ok hw⟩
  · exact ⟨by kernel_rfl, LL2_ok⟩
  · exact ⟨by kernel_rfl, LL4_ok⟩
  · exact ⟨by kernel_rfl, LL6_ok⟩
  · exact ⟨by kernel_rfl, LL8_ok⟩
  · exact ⟨by kernel_rfl, LL10_ok⟩

theorem law7_v (hw : Wf n l b) (hmo : mo.vl ≤ maxI) (hm : m ≤ maxI) (hf : ∀ q : Int, 0 ≤ q → q < m → 0 ≤ f q ∧ f q ≤ 4294967295) :
    ∃ h', CallsV Try.prog 7 [bV b, lV n cap, moV mo, .slice (.el 3 [] 0 0) m cm] (hLe n l b m f mo) (.ret (.bool true)) h' := by
  have hws : Wf n l (shpS b m f) := ⟨hw.hn, hw.hl, hw.hb⟩
  have hsp := spBL_ok hmix (tabs_ok (l := t7r n m l b f mo) (by
      intro x hx
      simp only [t7r, List.mem_cons, List.not_mem_nil, or_false] at hx
      rcases hx with rfl | rfl | rfl | rfl
      · exact awT_ok
      · exact or15L_ok hw hws hmo
      · exact srcT_ok (fun _ => src21_v hw)
      · exact susT_ok (fun _ => sus24_v hw))) (f := 7) (lo7 (n := n) (cap := cap) (m := m) (cm := cm) (l := l) (b := b) (f := f) (mo := mo) hw) (un := 10) (fu := 20)
  obtain ⟨r, h', hQ, hcc⟩ := of_sp hsp (args := [bV b, lV n cap, moV mo, .slice (.el 3 [] 0 0) m cm]) (h := hLe n l b m f mo) (K := fun r _ => r = .ret (.bool true))
    (by
      rw [f7_ev]
      refine cond_d (fun _ => rfl) (fun h1 => cond_d (fun _ => rfl) (fun h2 => cond_d (fun _ => rfl) (fun h3 => ⟨⟨⟨rfl, rfl, rfl⟩, rfl⟩, ?_⟩)))
      have l1 : (orS n b l).length ≤ maxI := Nat.le_trans orS_len (by unfold maxI; omega)
      have l2 : (orP n b l).length ≤ maxI := Nat.le_trans orP_len (by unfold maxI; omega)
      have l3 : (orS n (shpS b m f) l).length ≤ maxI := Nat.le_trans orS_len (by unfold maxI; omega)
      have l4 : (orP n (shpS b m f) l).length ≤ maxI := Nat.le_trans orP_len (by unfold maxI; omega)
      have l5 : (orS (n + 1) b (extL n l mo)).length ≤ maxI := Nat.le_trans orS_len (by unfold maxI; omega)
      have l6 : (orP (n + 1) b (extL n l mo)).length ≤ maxI := Nat.le_trans orP_len (by unfold maxI; omega)
      cases hok : okB n l b with
      | false =>
        have e1 : orE n b l = 1 := by unfold orE; rw [hok]; rfl
        have e2 : orS n b l = [] := by unfold orS; rw [hok]; rfl
        have e3 : orP n b l = [] := by unfold orP; rw [hok]; rfl
        refine cond_nd (fun _ => ?_) (fun h => by omega)
        exact cond_dk (by rw [e2]; rfl) (cond_dk (by rw [e3]; rfl) (cond_dk e1 rfl))
      | true =>
        have hE : orE n b l = 0 := by unfold orE; rw [hok]; rfl
        have hok2 : srcsB n l = true ∧ bothB b n l = true := by simpa [okB] using hok
        have okp : OkP m b f := ⟨susOk_of hok, ⟨by omega, hm⟩, hf⟩
        have hsh := shp_of okp
        have hoks := shp_ok okp hok
        have hEs : orE n (shpS b m f) l = 0 := by unfold orE; rw [hoks]; rfl
        refine cond_nd (fun h => absurd hE h) (fun _ => ⟨⟨⟨rfl, rfl, rfl⟩, rfl⟩, cond_i (fun h => by rw [hok2.1] at h; cases h) (fun _ => ⟨⟨⟨rfl, rfl, rfl⟩, rfl⟩, cond_i (fun h => by rw [hok2.2] at h; cases h) (fun _ => ?_)⟩)⟩)
        refine ⟨⟨fitP_self rfl, rfl, orS_ok hok, by omega⟩, cond_nd (fun h => absurd rfl h) (fun _ => ⟨⟨fitP_self rfl, okp⟩, ⟨⟨rfl, rfl, rfl⟩, rfl⟩, cond_nd (fun h => absurd hEs h) (fun _ => ?_)⟩)⟩
        refine ⟨⟨fitP_self rfl, ⟨l1, l3⟩, less_single hsh hok hoks⟩, ⟨fitP_self rfl, ⟨l1, l2, l4⟩, less_pair hsh hok hoks⟩, fun j hj => ⟨⟨rfl, by omega, by omega⟩, rfl⟩, cond_k (roomX (by omega)) (cond_k (beq_t rfl) (cond_k (roomX (by omega)) ⟨⟨⟨rfl, rfl, rfl, rfl⟩, rfl, by omega⟩, ?_⟩))⟩
        cases hokx : okB (n + 1) (extL n l mo) b with
        | false =>
          have e1 : orE (n + 1) b (extL n l mo) = 1 := by unfold orE; rw [hokx]; rfl
          exact cond_nd (fun _ => cond_dk e1 rfl) (fun h => by omega)
        | true =>
          have e1 : orE (n + 1) b (extL n l mo) = 0 := by unfold orE; rw [hokx]; rfl
          exact cond_nd (fun h => absurd e1 h) (fun _ => ⟨⟨fitP_self rfl, ⟨l5, l1⟩, more_single hok hokx⟩, ⟨fitP_self rfl, ⟨l5, l6, l2⟩, more_pair hok hokx⟩, rfl⟩))
  subst hQ
  exact ⟨h', hcc⟩
end
end Go.Sx.Gen
