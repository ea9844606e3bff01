/- stream: Ng1 Nh1 Nh2 Nh3 Nh4 Nh5 Nh6, in one text. -/
import Derived.Test.YtnfkbbcbehnnkaaNF
import Derived.Test.YtnfkbbcbehnnkaaNE
import Derived.Test.YtnfkbbcbehnnkaaSxM
/- nose: does a panel fit, as a row. -/

namespace Go.Sx.Nos
open Go Go.Sx Go.Proofs
set_option maxRecDepth 1000000

section
variable {p : Pn} {c1 c2 c3 : Nat}

theorem tried_v (hp : PnOk p) :
    (fitF p → CallsV Try.prog 46 [.agg (pnV p c1 c2 c3)] (pnH p) (.ret (.tup [.ptr (.own 7 0), .bool true])) ⟨8, [(6, maB (noP p)), (7, faB 6 (farF p))]⟩) ∧
    (¬ fitF p → CallsV Try.prog 46 [.agg (pnV p c1 c2 c3)] (pnH p) (.ret (.tup [.nilp, .bool false])) ⟨6, []⟩) := by
  obtain ⟨r, h', hQ, hc⟩ := of_sp (spD_ok hmix (f := 46) (sp := tabS [tasT p c1 c2 c3]) (un := 10) (fu := 20) (tabs_ok (by
      intro x hx
      simp only [List.mem_singleton] at hx
      subst hx
      exact tasT_ok))) (args := [.agg (pnV p c1 c2 c3)]) (h := pnH p)
    (K := trR fun r bs => (fitF p ∧ r = .ret (.tup [.ptr (.own 7 0), .bool true]) ∧ bs = [arD p, arT p, arS p, maB (noP p), faB 6 (farF p)]) ∨ (¬ fitF p ∧ r = .ret (.tup [.nilp, .bool false])))
    (by
      refine cast (tried_ev p c1 c2 c3 _).symm ?_
      exact ⟨⟨rfl, rfl, rfl, rfl⟩, ⟨hp, safe_all hp⟩, fun h => .inl ⟨h, rfl, rfl⟩, fun h => .inr ⟨h, rfl⟩⟩)
  rcases hQ with ⟨hf, rfl, hb⟩ | ⟨hf, rfl⟩
  · refine ⟨fun _ => ?_, fun h => absurd hf h⟩
    injection hb with g0 hb
    injection hb with g1 hb
    injection hb with g2 hb
    injection hb with g3 hb
    injection hb with g4 hb
    exact calls_weak hc (show 3 ≤ 8 by decide) ⟨by rw [g3]; exact VB.fit_refl _, by rw [g4]; exact VB.fit_refl _, trivial⟩ rfl rfl
  · refine ⟨fun h => absurd h hf, fun _ => calls_weak hc (show 3 ≤ 6 by decide) trivial rfl rfl⟩

/-- A contract over a panel that makes blocks from 6 on, wherever the panel's lists lie. -/
theorem calls_pnN {f : FuncId} {pl : List VV} {d t s : VV} {h : VH} {r : VRes} {bl : List VB} (o : Nat)
    (hs : ∀ c1 c2 c3, ∃ h', CallsV Try.prog f (.agg (pnV p c1 c2 c3) :: pl) (pnH p) r h' ∧ ∀ i, h'.at (o + i) = (bl[i]?).getD .free) (hr : r.fl2 o = true) (hbl : ∀ c ∈ bl, c.fl2 o) (hpl : pureL pl = true) (hp : pnIs h p d t s) :
    CallsV Try.prog f (.agg [d, t, s] :: pl) h (r.sh o h.nx) (pushL h (bl.map (VB.sh o h.nx))) := by
  refine calls_view_mk (hm := agH (pnA p)) o (fun n => ?_) hr hbl ?_
  · rcases agH_at (pnA p) n with ⟨s, ok, g, h1, _⟩ | h1 | h1
    · exact .inl ⟨s, ok, g, h1⟩
    · exact .inr (.inl h1)
    · exact .inr (.inr h1)
  · intro B R w xs em hx
    obtain ⟨y, ys, ⟨us, hus, rfl⟩, hys, rfl⟩ := hx
    obtain ⟨cs, qs, h1, h2⟩ := ag_view em (pnA p) 0 [d, t, s] us (pnIs_ag hp) hus
    obtain ⟨c1, c2, c3, hcs⟩ := pnA_args p cs
    obtain ⟨hm', hc, hat⟩ := hs c1 c2 c3
    refine ⟨fun n _ => qs n, fun n => agSt 0 (pnA p) n, _, hm', hc, hat, ⟨fun n s ok g hn => ?_⟩, ?_⟩
    · rcases agH_at (pnA p) n with ⟨s', ok', g', h3, h4⟩ | h3 | h3
      · rw [h3] at hn
        cases hn
        obtain ⟨g1, g2⟩ := h1 n _ _ _ h4
        refine ⟨g1, fun ix i hi => ?_⟩
        obtain ⟨k1, k2, k3, k4⟩ := g2 ix i hi
        exact ⟨k1, k2, k3, k4 _⟩
      · rw [h3] at hn; cases hn
      · rw [h3] at hn; cases hn
    · refine ⟨_, ys, ⟨us, ?_, rfl⟩, pure_L _ _ hpl hys, rfl⟩
      rw [← hcs]
      exact h2 _ fun m _ => rfl
end

/-- Does a panel fit? As a row. -/
def triT : FuncId × Spec1 := (46, fun _ args h K => match args with
  | [.agg [d, t, s]] => ∃ p : Pn, pnIs h p d t s ∧ PnOk p ∧ (match h with
      | ⟨nx, bs⟩ => (fitF p → K (.ret (.tup [.ptr (.own (nx + 1) 0), .bool true])) ⟨nx + 2, (nx + 1, faB nx (farF p)) :: (nx, maB (noP p)) :: bs⟩) ∧ (¬ fitF p → K (.ret (.tup [.nilp, .bool false])) ⟨nx, bs⟩))
  | _ => False)

theorem at_8 {bs : List (Nat × VB)} {k i : Nat} (h : ¬ i < k) : (VH.mk k bs).at i = .free := at_geA h

theorem triT_ok : SpOk Try.prog triT.1 triT.2 := by
  intro lock args h K hK
  simp only [triT] at hK
  split at hK
  · rename_i d t s
    obtain ⟨p, hpn, hp, hK⟩ := hK
    obtain ⟨nx, bs⟩ := h
    by_cases hf : fitF p
    · have h1 := calls_pnN (f := 46) (pl := []) (r := .ret (.tup [.ptr (.own 7 0), .bool true])) (bl := [maB (noP p), faB 6 (farF p)]) 6 (fun c1 c2 c3 => ⟨_, (tried_v hp).1 hf, fun i => by
        match i with
        | 0 => rfl
        | 1 => rfl
        | i + 2 =>
          rw [at_8 (by omega)]
          rfl⟩) rfl (fun c hc => by
        simp only [List.mem_cons, List.not_mem_nil, or_false] at hc
        rcases hc with rfl | rfl
        · trivial
        · exact (rfl : flL2 6 [VV.mp 6] = true)) rfl hpn
      have s7 : shN 6 nx 7 = nx + 1 := by unfold shN; rw [if_neg (by decide)]; omega
      have s6 : shN 6 nx 6 = nx := by unfold shN; rw [if_neg (by decide)]; omega
      have e1 : (VRes.ret (.tup [.ptr (.own 7 0), .bool true])).sh 6 nx = .ret (.tup [.ptr (.own (nx + 1) 0), .bool true]) := congrArg (fun n => VRes.ret (.tup [.ptr (.own n 0), .bool true])) s7
      have e2 : ([maB (noP p), faB 6 (farF p)] : List VB).map (VB.sh 6 nx) = [maB (noP p), faB nx (farF p)] := congrArg (fun n => [maB (noP p), VB.fam [.mp n] 4225 (farF p) 93]) s6
      refine ⟨_, _, hK.1 hf, ?_, ?_⟩
      · exact lockP_push (lock := lock) (VH.mk nx bs) [maB (noP p), faB nx (farF p)]
      · have h1 : CallsV Try.prog 46 [.agg [d, t, s]] ⟨nx, bs⟩ ((VRes.ret (.tup [.ptr (.own 7 0), .bool true])).sh 6 nx) (pushL ⟨nx, bs⟩ (([maB (noP p), faB 6 (farF p)] : List VB).map (VB.sh 6 nx))) := h1
        rw [e1, e2] at h1
        exact h1
    · refine ⟨_, _, hK.2 hf, lockP_refl _ _, ?_⟩
      exact calls_pn (f := 46) (pl := []) (r := .ret (.tup [.nilp, .bool false])) (fun c1 c2 c3 => ⟨_, (tried_v hp).2 hf⟩) rfl rfl hpn
  · exact hK.elim
end Go.Sx.Nos

/- nose: does a panel fit, evaluated. -/

namespace Go.Sx.Nos
open Go Go.Sx Go.Proofs
set_option maxRecDepth 1000000

noncomputable def as59 : Code := rfAs Try.prog 59
noncomputable def bd59 : Code := rfBd Try.prog 59
def slH (b : Bool) (y z : Int) : Slots := [(10, .func 70 [] [.ptr (.own 6 0)]), (9, .ptr (.own 3 0)), (8, .bool false), (8, .bool (b == false && (decide (y = 0) && (decide (z = 0) && true)))), (7, .agg [.bool false, I 0, I 0]), (6, .agg [.bool b, I y, I z]), (4, .ptr (.own 5 0)), (3, .ptr (.own 4 0)), (0, .ptr (.own 3 0)), (1, .agg [.bool b, I y, I z])]
noncomputable def recH (b : Bool) (y z : Int) : VB := .loop true none (slH b y z) 17 [11, 12] as59 bd59
noncomputable def recD (b : Bool) (y z : Int) : VB := .loop false (some .ret) (slH b y z) 17 [11, 12] as59 bd59
def nsH : List Nat := [0, 1, 2, 3, 4, 5, 6, 7]
def BH (p : Pn) (c1 c2 c3 : Nat) (b : Bool) (y z : Int) (r : Bool) (rc : VB) : List VB := BP p c1 c2 c3 ++ [.cells [.bool b, I y, I z] 73, .cells [.bool r] 4, .cells [.ptr (.own 3 0)] 104, rc]
def VOh (p : Pn) (c2 : Nat) (i : Int) : List VV := [.yld 7, .ptr (.own 6 0), .slice (.el 1 [] 0 0) p.T.length c2, I p.T.length, I i]
def VLh (p : Pn) (c2 : Nat) (i k : Int) : List VV := VOh p c2 i ++ [.ptr (.own 8 0), .ptr (.own 9 0), .ptr (.own 10 0), .slice (.el 1 [] 0 0) p.T.length c2, I p.T.length, I k]
def nsLh : List Nat := [0, 1, 2, 3, 4, 5, 6, 7, 8, 9, 10]
def BLh (p : Pn) (c1 c2 c3 : Nat) (b : Bool) (y z : Int) (r : Bool) (rc : VB) (t : Ts) : List VB := BH p c1 c2 c3 b y z r rc ++ [.cells (tsL t) 32, .cells (vV t.s) 73, .cells (cV t.j t.p) 73]
def VSh (p : Pn) (c3 : Nat) (i : Int) : List VV := [.yld 7, .ptr (.own 6 0), .slice (.el 2 [] 0 0) p.S.length c3, I p.S.length, I i]
theorem hinn_ev (p : Pn) (c1 c2 c3 : Nat) (b : Bool) (y z : Int) (t : Ts) (i k : Int) (X : VEx → List VV → List VB → Prop) : codeE Try.prog (callN Try.prog noSpec noL 10 20) (fun _ => none) true 10 147 0 (loopB 2 (bodyOf Try.prog 70)) (dsL.zip (VLh p c2 i k)) ⟨13, nsLh.zip (BLh p c1 c2 c3 b y z false (recH b y z) t)⟩ (obs 13 dsL nsLh X) =
  (bif decide (k < (↑p.T.length : Int)) then
 bif decide ((0 : Int) ≤ k ∧ k < (↑p.T.length : Int)) then
 (([] : List Int) = [] ∧ (0 : Int) ≤ (0 : Int) + k ∧ (0 : Int) + k < (↑p.T.length : Int)) ∧ bif !decide ((p.T.getD ((0 : Int) + k).toNat t0).j = t.j) then
 bif inK IntKind.i64 (k + (1 : Int)) then
 X VEx.normal (VLh p c2 i (k + 1)) (BLh p c1 c2 c3 b y z false (recH b y z) t)
 else False
 else bif decide ((p.T.getD ((0 : Int) + k).toNat t0).p ≤ t.p) then
 bif inK IntKind.i64 (k + (1 : Int)) then
 X VEx.normal (VLh p c2 i (k + 1)) (BLh p c1 c2 c3 b y z false (recH b y z) t)
 else False
 else bif decide ((0 : Int) ≤ t.j ∧ t.j < (↑p.D.length : Int)) then
 (([] : List Int) = [] ∧ (0 : Int) ≤ (0 : Int) + t.j ∧ (0 : Int) + t.j < (↑p.D.length : Int)) ∧ bif inK IntKind.i64 ((p.T.getD ((0 : Int) + k).toNat t0).p - t.p) then
 bif inK IntKind.i64 (p.D.getD ((0 : Int) + t.j).toNat (0 : Int) * ((p.T.getD ((0 : Int) + k).toNat t0).p - t.p)) then
 bif true == b && (decide (t.j = y) && (decide (t.p = z) && true)) then
 X VEx.ret (VLh p c2 i k) (BLh p c1 c2 c3 b y z true (recD b y z) t)
 else bif true == b && (decide ((p.T.getD ((0 : Int) + k).toNat t0).j = y) && (decide ((p.T.getD ((0 : Int) + k).toNat t0).p = z) && true)) then
 X VEx.ret (VLh p c2 i k) (BLh p c1 c2 c3 b y z true (recD b y z) t)
 else bif inK IntKind.i64 (k + (1 : Int)) then
 X VEx.normal (VLh p c2 i (k + 1)) (BLh p c1 c2 c3 b y z false (recH b y z) t)
 else False
 else False
 else False
 else False
 else False
 else X (VEx.exit 2) (VLh p c2 i k) (BLh p c1 c2 c3 b y z false (recH b y z) t)) := by kernel_rfl

theorem hstd_ev (p : Pn) (c1 c2 c3 : Nat) (b : Bool) (y z : Int) (i : Int) (X : VEx → List VV → List VB → Prop) : codeE Try.prog (callN Try.prog noSpec noL 10 20) (fun _ => none) true 10 147 0 (loopB 4 (bodyOf Try.prog 70)) (dsS.zip (VSh p c3 i)) ⟨8, nsH.zip (BH p c1 c2 c3 b y z false (recH b y z))⟩ (obs 8 dsS nsH X) =
  (bif decide (i < (↑p.S.length : Int)) then
 bif decide ((0 : Int) ≤ i ∧ i < (↑p.S.length : Int)) then
 (([] : List Int) = [] ∧ (0 : Int) ≤ (0 : Int) + i ∧ (0 : Int) + i < (↑p.S.length : Int)) ∧ bif inK IntKind.i64 ((p.S.getD ((0 : Int) + i).toNat s0).s + (1 : Int)) then
 bif false == b && (decide ((p.S.getD ((0 : Int) + i).toNat s0).s + (1 : Int) = y) && (decide ((0 : Int) = z) && true)) then
 X VEx.ret (VSh p c3 i) (BH p c1 c2 c3 b y z true (recD b y z))
 else bif inK IntKind.i64 ((p.S.getD ((0 : Int) + i).toNat s0).s + (1 : Int)) then
 bif inK IntKind.i64 ((0 : Int) - (p.S.getD ((0 : Int) + i).toNat s0).lo) then
 bif false == b && (decide ((0 : Int) = y) && (decide ((0 : Int) = z) && true)) then
 X VEx.ret (VSh p c3 i) (BH p c1 c2 c3 b y z true (recD b y z))
 else bif inK IntKind.i64 (i + (1 : Int)) then
 X VEx.normal (VSh p c3 (i + 1)) (BH p c1 c2 c3 b y z false (recH b y z))
 else False
 else False
 else False
 else False
 else False
 else X (VEx.exit 4) (VSh p c3 i) (BH p c1 c2 c3 b y z false (recH b y z))) := by kernel_rfl


end Go.Sx.Nos

/- nose: is an unknown there: the loops. -/

namespace Go.Sx.Nos
open Go Go.Sx Go.Proofs
set_option maxRecDepth 1000000

theorem nd_test (b' b : Bool) (y' y z' z : Int) : (b' == b && (decide (y' = y) && (decide (z' = z) && true))) = decide (ndB b' y' z' = ndB b y z) := by
  rw [Bool.eq_iff_iff]
  cases b <;> cases b' <;> simp [ndB]

/-- Does a limit begin with an unknown? -/
def hasL (l : List Lk) (x : Nd) : Prop := ∃ e ∈ l, e.1 = x

theorem hasL_app {a b : List Lk} {x : Nd} : hasL (a ++ b) x ↔ hasL a x ∨ hasL b x := by
  unfold hasL
  simp only [List.mem_append, or_and_right, exists_or]

theorem hasL_nil {x : Nd} : ¬ hasL [] x := by simp [hasL]

theorem hasL_two {l m : Lk} {x : Nd} : hasL [l, m] x ↔ l.1 = x ∨ m.1 = x := by simp [hasL]

section
variable {p : Pn} {c1 c2 c3 : Nat} {b : Bool} {y z : Int}

/-- The inner loop. -/
def lInnH (p : Pn) (c1 c2 c3 : Nat) (b : Bool) (y z : Int) (t : Ts) (i : Int) : LT := fun lock tt h K =>
  FitP lock h tt ⟨13, nsLh.zip (BLh p c1 c2 c3 b y z false (recH b y z) t)⟩ (dsL.zip (VLh p c2 i 0)) ∧ (PnOk p ∧ t ∈ p.T) ∧
    (¬ hasL (p.T.flatMap (lkI p t)) (ndB b y z) → K .normal (dsL.zip (VLh p c2 i p.T.length)) ⟨13, nsLh.zip (BLh p c1 c2 c3 b y z false (recH b y z) t)⟩) ∧
    (hasL (p.T.flatMap (lkI p t)) (ndB b y z) → ∀ k : Nat, K .ret (dsL.zip (VLh p c2 i k)) ⟨13, nsLh.zip (BLh p c1 c2 c3 b y z true (recD b y z) t)⟩)

def oInnH (p : Pn) (c1 c2 c3 : Nat) (b : Bool) (y z : Int) (t : Ts) (i : Int) (k : Nat) (e : VEx) (vs : List VV) (bs : List VB) : Prop :=
  (e = .exit 2 ∧ ¬ hasL ((p.T.drop k).flatMap (lkI p t)) (ndB b y z) ∧ vs = VLh p c2 i p.T.length ∧ bs = BLh p c1 c2 c3 b y z false (recH b y z) t) ∨
  (e = .ret ∧ hasL ((p.T.drop k).flatMap (lkI p t)) (ndB b y z) ∧ (∃ k' : Nat, vs = VLh p c2 i k') ∧ bs = BLh p c1 c2 c3 b y z true (recD b y z) t)

theorem lInnH_ok {t : Ts} {i : Int} : LSound Try.prog true (.block 2 (.loop (loopB 2 (bodyOf Try.prog 70)))) 147 (lInnH p c1 c2 c3 b y z t i) := by
  by_cases hh : PnOk p ∧ t ∈ p.T
  · obtain ⟨hp, ht⟩ := hh
    refine loop_row hmix good0 (un := 10) (ds := dsL) (ns := nsLh) (nx := 13) (fun k : Nat => VLh p c2 i k) (fun _ => BLh p c1 c2 c3 b y z false (recH b y z) t) (fun k => k ≤ p.T.length) (fun k => p.T.length - k)
      (oInnH p c1 c2 c3 b y z t i) noL_ok ?_ ?_
    · intro k hk
      refine cast (hinn_ev p c1 c2 c3 b y z t i k _).symm ?_
      obtain ⟨⟨j0, j1⟩, _, ⟨p0, p1⟩, _⟩ := hp.ts t ht
      by_cases h : k < p.T.length
      · obtain ⟨hu, hdrop⟩ := getT h
        obtain ⟨_, _, ⟨q0, q1⟩, _⟩ := hp.ts _ hu
        have hT := hp.t
        refine cond_dk (by omega) (cond_dk ⟨by omega, by omega⟩ ⟨⟨rfl, by omega, by omega⟩, ?_⟩)
        rw [zero_toNat]
        have nxt : ¬ hasL (lkI p t (p.T.getD k t0)) (ndB b y z) → RoundQ (fun k : Nat => VLh p c2 i k) (fun _ => BLh p c1 c2 c3 b y z false (recH b y z) t) (fun k => k ≤ p.T.length) (fun k => p.T.length - k)
            (oInnH p c1 c2 c3 b y z t i) k .normal (VLh p c2 i (k + 1)) (BLh p c1 c2 c3 b y z false (recH b y z) t) := fun he =>
          ⟨k + 1, by omega, by dsimp only; omega, vst (V := VLh p c2 i) k, fitBs_refl _, fun e vs bs ho => by
            unfold oInnH at ho ⊢
            rw [hdrop, List.flatMap_cons, hasL_app]
            rcases ho with ⟨h1, h2, h3⟩ | ⟨h1, h2, h3⟩
            · exact .inl ⟨h1, fun h => h.elim he h2, h3⟩
            · exact .inr ⟨h1, .inr h2, h3⟩⟩
        refine cond_nd (fun hj => cond_r (by omega) (nxt (by unfold lkI; rw [if_neg (fun e => hj e.1)]; exact hasL_nil))) (fun hj => cond_d (fun hq => cond_r (by omega) (nxt (by unfold lkI; rw [if_neg (by omega)]; exact hasL_nil))) (fun hq => ?_))
        rw [Int.zero_add]
        have hlt : t.p < (p.T.getD k t0).p := by omega
        have hdr := dr_in hp ht hu hlt
        unfold dr at hdr
        have he : lkI p t (p.T.getD k t0) = [(cN t.j t.p, cN (p.T.getD k t0).j (p.T.getD k t0).p, dr p t (p.T.getD k t0)), (cN (p.T.getD k t0).j (p.T.getD k t0).p, cN t.j t.p, dr p t (p.T.getD k t0))] := by unfold lkI; rw [if_pos ⟨hj, hlt⟩]
        have fin : hasL (lkI p t (p.T.getD k t0)) (ndB b y z) → RoundQ (fun k : Nat => VLh p c2 i k) (fun _ => BLh p c1 c2 c3 b y z false (recH b y z) t) (fun k => k ≤ p.T.length) (fun k => p.T.length - k)
            (oInnH p c1 c2 c3 b y z t i) k .ret (VLh p c2 i k) (BLh p c1 c2 c3 b y z true (recD b y z) t) := fun hl => by
          refine .inr ⟨rfl, ?_, ⟨k, rfl⟩, rfl⟩
          rw [hdrop, List.flatMap_cons, hasL_app]
          exact .inl hl
        refine cond_dk ⟨j0, j1⟩ ⟨⟨rfl, j0, j1⟩, cond_r (by omega) (cond_r (by omega) ?_)⟩
        rw [nd_test, nd_test]
        refine cond_d (fun h1 => fin (by rw [he, hasL_two]; exact .inl h1)) (fun h1 => cond_d (fun h2 => fin (by rw [he, hasL_two]; exact .inr h2)) (fun h2 => cond_r (by omega) (nxt (by rw [he, hasL_two]; exact fun h => h.elim h1 h2))))
      · have : k = p.T.length := by omega
        subst this
        refine cond_d (fun h => by omega) (fun _ => .inl ⟨rfl, ?_, rfl, rfl⟩)
        rw [List.drop_length]
        exact hasL_nil
    · rintro lock tt h K ⟨hf, _, h1, h2⟩
      refine ⟨0, hf, Nat.zero_le _, ?_⟩
      rintro x vs bs (⟨rfl, he, rfl, rfl⟩ | ⟨rfl, he, ⟨k, rfl⟩, rfl⟩)
      · exact h1 he
      · exact h2 he k
  · rintro lock tt h K ⟨_, hc, _⟩
    exact (hh hc).elim

/-- The loop over the standards. -/
def lStdH (p : Pn) (c1 c2 c3 : Nat) (b : Bool) (y z : Int) : LT := fun lock tt h K =>
  FitP lock h tt ⟨8, nsH.zip (BH p c1 c2 c3 b y z false (recH b y z))⟩ (dsS.zip (VSh p c3 0)) ∧ PnOk p ∧
    (¬ hasL (p.S.flatMap lkS) (ndB b y z) → K .normal (dsS.zip (VSh p c3 p.S.length)) ⟨8, nsH.zip (BH p c1 c2 c3 b y z false (recH b y z))⟩) ∧
    (hasL (p.S.flatMap lkS) (ndB b y z) → ∀ k : Nat, K .ret (dsS.zip (VSh p c3 k)) ⟨8, nsH.zip (BH p c1 c2 c3 b y z true (recD b y z))⟩)

def oStdH (p : Pn) (c1 c2 c3 : Nat) (b : Bool) (y z : Int) (k : Nat) (e : VEx) (vs : List VV) (bs : List VB) : Prop :=
  (e = .exit 4 ∧ ¬ hasL ((p.S.drop k).flatMap lkS) (ndB b y z) ∧ vs = VSh p c3 p.S.length ∧ bs = BH p c1 c2 c3 b y z false (recH b y z)) ∨
  (e = .ret ∧ hasL ((p.S.drop k).flatMap lkS) (ndB b y z) ∧ (∃ k' : Nat, vs = VSh p c3 k') ∧ bs = BH p c1 c2 c3 b y z true (recD b y z))

theorem lStdH_ok : LSound Try.prog true (.block 4 (.loop (loopB 4 (bodyOf Try.prog 70)))) 147 (lStdH p c1 c2 c3 b y z) := by
  by_cases hp : PnOk p
  · refine loop_row hmix good0 (un := 10) (ds := dsS) (ns := nsH) (nx := 8) (fun k : Nat => VSh p c3 k) (fun _ => BH p c1 c2 c3 b y z false (recH b y z)) (fun k => k ≤ p.S.length) (fun k => p.S.length - k)
      (oStdH p c1 c2 c3 b y z) noL_ok ?_ ?_
    · intro k hk
      refine cast (hstd_ev p c1 c2 c3 b y z k _).symm ?_
      by_cases h : k < p.S.length
      · obtain ⟨hs, hdrop⟩ := getS h
        have hS := hp.s
        obtain ⟨⟨s0, s1⟩, l0, l1, l2⟩ := hp.sd _ hs
        refine cond_dk (by omega) (cond_dk ⟨by omega, by omega⟩ ⟨⟨rfl, by omega, by omega⟩, ?_⟩)
        rw [zero_toNat]
        have nxt : ¬ hasL (lkS (p.S.getD k Nos.s0)) (ndB b y z) → RoundQ (fun k : Nat => VSh p c3 k) (fun _ => BH p c1 c2 c3 b y z false (recH b y z)) (fun k => k ≤ p.S.length) (fun k => p.S.length - k)
            (oStdH p c1 c2 c3 b y z) k .normal (VSh p c3 (k + 1)) (BH p c1 c2 c3 b y z false (recH b y z)) := fun he =>
          ⟨k + 1, by omega, by dsimp only; omega, vst (V := VSh p c3) k, fitBs_refl _, fun e vs bs ho => by
            unfold oStdH at ho ⊢
            rw [hdrop, List.flatMap_cons, hasL_app]
            rcases ho with ⟨h1, h2, h3⟩ | ⟨h1, h2, h3⟩
            · exact .inl ⟨h1, fun h => h.elim he h2, h3⟩
            · exact .inr ⟨h1, .inr h2, h3⟩⟩
        have fin : hasL (lkS (p.S.getD k Nos.s0)) (ndB b y z) → RoundQ (fun k : Nat => VSh p c3 k) (fun _ => BH p c1 c2 c3 b y z false (recH b y z)) (fun k => k ≤ p.S.length) (fun k => p.S.length - k)
            (oStdH p c1 c2 c3 b y z) k .ret (VSh p c3 k) (BH p c1 c2 c3 b y z true (recD b y z)) := fun hl => by
          refine .inr ⟨rfl, ?_, ⟨k, rfl⟩, rfl⟩
          rw [hdrop, List.flatMap_cons, hasL_app]
          exact .inl hl
        have he : lkS (p.S.getD k Nos.s0) = [(vN (p.S.getD k Nos.s0).s, zeroN, (p.S.getD k Nos.s0).hi), (zeroN, vN (p.S.getD k Nos.s0).s, 0 - (p.S.getD k Nos.s0).lo)] := rfl
        rw [nd_test, nd_test]
        refine cond_r (by omega) (cond_d (fun h1 => fin (by rw [he, hasL_two]; exact .inl h1)) (fun h1 => cond_r (by omega) (cond_r (by omega) (cond_d (fun h2 => fin (by rw [he, hasL_two]; exact .inr h2)) (fun h2 => cond_r (by omega) (nxt (by rw [he, hasL_two]; exact fun h => h.elim h1 h2)))))))
      · have : k = p.S.length := by omega
        subst this
        refine cond_d (fun h => by omega) (fun _ => .inl ⟨rfl, ?_, rfl, rfl⟩)
        rw [List.drop_length]
        exact hasL_nil
    · rintro lock tt h K ⟨hf, _, h1, h2⟩
      refine ⟨0, hf, Nat.zero_le _, ?_⟩
      rintro x vs bs (⟨rfl, he, rfl, rfl⟩ | ⟨rfl, he, ⟨k, rfl⟩, rfl⟩)
      · exact h1 he
      · exact h2 he k
  · rintro lock tt h K ⟨_, hc, _⟩
    exact (hp hc).elim
end
end Go.Sx.Nos

/- nose: does a panel fit, evaluated. -/

namespace Go.Sx.Nos
open Go Go.Sx Go.Proofs
set_option maxRecDepth 1000000

theorem hout_ev (p : Pn) (c1 c2 c3 : Nat) (b : Bool) (y z : Int) (i : Int) (X : VEx → List VV → List VB → Prop) : codeE Try.prog (callN Try.prog noSpec noL 10 20) (tabB [(2, lInnH p c1 c2 c3 b y z (getI p i) i)]) true 10 147 0 (loopB 0 (bodyOf Try.prog 70)) (dsO.zip (VOh p c2 i)) ⟨8, nsH.zip (BH p c1 c2 c3 b y z false (recH b y z))⟩ (obs 8 dsO nsH X) =
  (bif decide (i < (↑p.T.length : Int)) then
 bif decide ((0 : Int) ≤ i ∧ i < (↑p.T.length : Int)) then
 (([] : List Int) = [] ∧ (0 : Int) ≤ (0 : Int) + i ∧ (0 : Int) + i < (↑p.T.length : Int)) ∧ bif inK IntKind.i64 ((getI p i).s + (1 : Int)) then
 bif inK IntKind.i64 ((getI p i).c + (getI p i).o) then
 bif false == b && (decide ((getI p i).s + (1 : Int) = y) && (decide ((0 : Int) = z) && true)) then
 X VEx.ret (VOh p c2 i) (BH p c1 c2 c3 b y z true (recD b y z))
 else bif inK IntKind.i64 ((getI p i).o - (getI p i).c) then
 bif true == b && (decide ((getI p i).j = y) && (decide ((getI p i).p = z) && true)) then
 X VEx.ret (VOh p c2 i) (BH p c1 c2 c3 b y z true (recD b y z))
 else FitP 0 (VH.mk 13 (nsLh.zip (BLh p c1 c2 c3 b y z false (recH b y z) (getI p i)))) (dsL.zip (VLh p c2 i (0 : Int))) (VH.mk 13 (nsLh.zip (BLh p c1 c2 c3 b y z false (recH b y z) (getI p i)))) (dsL.zip (VLh p c2 i (0 : Int))) ∧ (PnOk p ∧ getI p i ∈ p.T) ∧ (¬hasL (List.flatMap (lkI p (getI p i)) p.T) (ndB b y z) → bif inK IntKind.i64 (i + (1 : Int)) then
 X VEx.normal (VOh p c2 (i + 1)) (BH p c1 c2 c3 b y z false (recH b y z))
 else False) ∧ (hasL (List.flatMap (lkI p (getI p i)) p.T) (ndB b y z) → ∀ (k : Nat), X VEx.ret (VOh p c2 i) (BH p c1 c2 c3 b y z true (recD b y z)))
 else False
 else False
 else False
 else False
 else X (VEx.exit 0) (VOh p c2 i) (BH p c1 c2 c3 b y z false (recH b y z))) := by kernel_rfl


end Go.Sx.Nos

/- nose: is an unknown there: all loops. -/

namespace Go.Sx.Nos
open Go Go.Sx Go.Proofs
set_option maxRecDepth 1000000

section
variable {p : Pn} {c1 c2 c3 : Nat} {b : Bool} {y z : Int}

/-- The loop over the tastings. -/
def lOutH (p : Pn) (c1 c2 c3 : Nat) (b : Bool) (y z : Int) : LT := fun lock tt h K =>
  FitP lock h tt ⟨8, nsH.zip (BH p c1 c2 c3 b y z false (recH b y z))⟩ (dsO.zip (VOh p c2 0)) ∧ PnOk p ∧
    (¬ hasL (p.T.flatMap (lkT p)) (ndB b y z) → K .normal (dsO.zip (VOh p c2 p.T.length)) ⟨8, nsH.zip (BH p c1 c2 c3 b y z false (recH b y z))⟩) ∧
    (hasL (p.T.flatMap (lkT p)) (ndB b y z) → ∀ k : Nat, K .ret (dsO.zip (VOh p c2 k)) ⟨8, nsH.zip (BH p c1 c2 c3 b y z true (recD b y z))⟩)

def oOutH (p : Pn) (c1 c2 c3 : Nat) (b : Bool) (y z : Int) (k : Nat) (e : VEx) (vs : List VV) (bs : List VB) : Prop :=
  (e = .exit 0 ∧ ¬ hasL ((p.T.drop k).flatMap (lkT p)) (ndB b y z) ∧ vs = VOh p c2 p.T.length ∧ bs = BH p c1 c2 c3 b y z false (recH b y z)) ∨
  (e = .ret ∧ hasL ((p.T.drop k).flatMap (lkT p)) (ndB b y z) ∧ (∃ k' : Nat, vs = VOh p c2 k') ∧ bs = BH p c1 c2 c3 b y z true (recD b y z))

theorem lsp_innH {t : Ts} {i : Int} : ∀ id T, tabB [(2, lInnH p c1 c2 c3 b y z t i)] id = some T → ∀ b' ∈ blocksOf id (loopB 0 (bodyOf Try.prog 70)), LSound Try.prog true (.block id b') 147 T := by
  intro id T hT b' hb
  simp only [tabB] at hT
  cases hid : Nat.beq id 2 with
  | false => rw [hid] at hT; cases hT
  | true =>
    rw [hid] at hT
    have := Nat.eq_of_beq_eq_true hid
    subst this
    cases hT
    have h2 : blocksOf 2 (loopB 0 (bodyOf Try.prog 70)) = [.loop (loopB 2 (bodyOf Try.prog 70))] := by kernel_rfl
    rw [h2] at hb
    simp only [List.mem_singleton] at hb
    subst hb
    exact lInnH_ok

theorem lOutH_ok : LSound Try.prog true (.block 0 (.loop (loopB 0 (bodyOf Try.prog 70)))) 147 (lOutH p c1 c2 c3 b y z) := by
  by_cases hp : PnOk p
  · refine loop_rowD hmix good0 (un := 10) (ds := dsO) (ns := nsH) (nx := 8) (lsp := fun k : Nat => tabB [(2, lInnH p c1 c2 c3 b y z (getI p k) k)]) (fun k : Nat => VOh p c2 k) (fun _ => BH p c1 c2 c3 b y z false (recH b y z)) (fun k => k ≤ p.T.length) (fun k => p.T.length - k)
      (oOutH p c1 c2 c3 b y z) (fun _ _ => lsp_innH) ?_ ?_
    · intro k hk
      refine cast (hout_ev p c1 c2 c3 b y z k _).symm ?_
      by_cases h : k < p.T.length
      · obtain ⟨ht, hdrop⟩ := getT h
        have hT := hp.t
        have hgi : getI p k = p.T.getD k t0 := by unfold getI; rw [zero_toNat]
        rw [← hgi] at ht hdrop
        obtain ⟨_, ⟨s0, s1⟩, _, ⟨e0, e1⟩, ⟨o0, o1⟩⟩ := hp.ts _ ht
        have nxt : ¬ hasL (lkT p (getI p k)) (ndB b y z) → RoundQ (fun k : Nat => VOh p c2 k) (fun _ => BH p c1 c2 c3 b y z false (recH b y z)) (fun k => k ≤ p.T.length) (fun k => p.T.length - k)
            (oOutH p c1 c2 c3 b y z) k .normal (VOh p c2 (k + 1)) (BH p c1 c2 c3 b y z false (recH b y z)) := fun he =>
          ⟨k + 1, by omega, by dsimp only; omega, vst (V := VOh p c2) k, fitBs_refl _, fun e vs bs ho => by
            unfold oOutH at ho ⊢
            rw [hdrop, List.flatMap_cons, hasL_app]
            rcases ho with ⟨h1, h2, h3⟩ | ⟨h1, h2, h3⟩
            · exact .inl ⟨h1, fun h => h.elim he h2, h3⟩
            · exact .inr ⟨h1, .inr h2, h3⟩⟩
        have fin : hasL (lkT p (getI p k)) (ndB b y z) → RoundQ (fun k : Nat => VOh p c2 k) (fun _ => BH p c1 c2 c3 b y z false (recH b y z)) (fun k => k ≤ p.T.length) (fun k => p.T.length - k)
            (oOutH p c1 c2 c3 b y z) k .ret (VOh p c2 k) (BH p c1 c2 c3 b y z true (recD b y z)) := fun hl => by
          refine .inr ⟨rfl, ?_, ⟨k, rfl⟩, rfl⟩
          rw [hdrop, List.flatMap_cons, hasL_app]
          exact .inl hl
        have he : lkH (getI p k) = [(vN (getI p k).s, cN (getI p k).j (getI p k).p, (getI p k).c + (getI p k).o), (cN (getI p k).j (getI p k).p, vN (getI p k).s, (getI p k).o - (getI p k).c)] := rfl
        have hT2 : hasL (lkT p (getI p k)) (ndB b y z) ↔ (vN (getI p k).s = ndB b y z ∨ cN (getI p k).j (getI p k).p = ndB b y z) ∨ hasL (p.T.flatMap (lkI p (getI p k))) (ndB b y z) := by
          unfold lkT
          rw [hasL_app, he, hasL_two]
        rw [nd_test, nd_test]
        refine cond_dk (by omega) (cond_dk ⟨by omega, by omega⟩ ⟨⟨rfl, by omega, by omega⟩, cond_r (by omega) (cond_r (by omega) (cond_d (fun h1 => fin (hT2.2 (.inl (.inl h1)))) (fun h1 => cond_r (by omega) (cond_d (fun h2 => fin (hT2.2 (.inl (.inr h2)))) (fun h2 => ?_)))))⟩)
        exact ⟨fitP_self rfl, ⟨hp, ht⟩, fun h3 => cond_r (by omega) (nxt (fun h => (hT2.1 h).elim (fun h => h.elim h1 h2) h3)), fun h3 k' => fin (hT2.2 (.inr h3))⟩
      · have : k = p.T.length := by omega
        subst this
        refine cond_d (fun h => by omega) (fun _ => .inl ⟨rfl, ?_, rfl, rfl⟩)
        rw [List.drop_length]
        exact hasL_nil
    · rintro lock tt h K ⟨hf, _, h1, h2⟩
      refine ⟨0, hf, Nat.zero_le _, ?_⟩
      rintro x vs bs (⟨rfl, he, rfl, rfl⟩ | ⟨rfl, he, ⟨k, rfl⟩, rfl⟩)
      · exact h1 he
      · exact h2 he k
  · rintro lock tt h K ⟨_, hc, _⟩
    exact (hp hc).elim

def lkLH (p : Pn) (c1 c2 c3 : Nat) (b : Bool) (y z : Int) : List (Nat × LT) := [(0, lOutH p c1 c2 c3 b y z), (4, lStdH p c1 c2 c3 b y z)]

theorem lkLH_ok : LoopsOk Try.prog 70 (lkLH p c1 c2 c3 b y z) := by
  intro x hx
  simp only [lkLH, List.mem_cons, List.not_mem_nil, or_false] at hx
  rcases hx with rfl | rfl
  · exact ⟨by kernel_rfl, lOutH_ok⟩
  · exact ⟨by kernel_rfl, lStdH_ok⟩
end
end Go.Sx.Nos

/- nose: does a panel fit, evaluated. -/

namespace Go.Sx.Nos
open Go Go.Sx Go.Proofs
set_option maxRecDepth 1000000

def th4 (Q : VRes → List VB → Prop) : VRes → VH → Prop := fun r h => Q r [h.at 0, h.at 1, h.at 2, h.at 3]
theorem th_ev (p : Pn) (c1 c2 c3 : Nat) (b : Bool) (y z : Int) (Q : VRes → List VB → Prop) : callN Try.prog noSpec (at2 59 70 [] (lkLH p c1 c2 c3 b y z)) 10 20 0 (.fn 59) [.ptr (.own 3 0), .agg [.bool b, I y, I z]] (tastH p c1 c2 c3) (th4 Q) =
  (bif b == false && (decide (y = (0 : Int)) && (decide (z = (0 : Int)) && true)) then
 Q (VRes.ret (VV.bool true)) [arD p, arT p, arS p, pnB p c1 c2 c3]
 else FitP 0 (VH.mk 8 (nsH.zip (BH p c1 c2 c3 b y z false (recH b y z)))) (dsO.zip (VOh p c2 (0 : Int))) (VH.mk 8 (nsH.zip (BH p c1 c2 c3 b y z false (recH b y z)))) (dsO.zip (VOh p c2 (0 : Int))) ∧ PnOk p ∧ (¬hasL (List.flatMap (lkT p) p.T) (ndB b y z) → FitP 0 (VH.mk 8 (nsH.zip (BH p c1 c2 c3 b y z false (recH b y z)))) (dsS.zip (VSh p c3 (0 : Int))) (VH.mk 8 (nsH.zip (BH p c1 c2 c3 b y z false (recH b y z)))) (dsS.zip (VSh p c3 (0 : Int))) ∧ PnOk p ∧ (¬hasL (List.flatMap lkS p.S) (ndB b y z) → Q (VRes.ret (VV.bool false)) [arD p, arT p, arS p, pnB p c1 c2 c3]) ∧ (hasL (List.flatMap lkS p.S) (ndB b y z) → ∀ (k : Nat), Q (VRes.ret (VV.bool true)) [arD p, arT p, arS p, pnB p c1 c2 c3])) ∧ (hasL (List.flatMap (lkT p) p.T) (ndB b y z) → ∀ (k : Nat), Q (VRes.ret (VV.bool true)) [arD p, arT p, arS p, pnB p c1 c2 c3])) := by kernel_rfl


end Go.Sx.Nos

/- nose: is an unknown there, as a row; the number of one that is. -/

namespace Go.Sx.Nos
open Go Go.Sx Go.Proofs
set_option maxRecDepth 1000000

open Classical in
/-- Is it there? -/
noncomputable def thB (p : Pn) (x : Nd) : Bool := decide (thP p x)
open Classical in
theorem thB_iff {p : Pn} {x : Nd} : thB p x = true ↔ thP p x := by unfold thB; exact decide_eq_true_iff

theorem th_v {p : Pn} {c1 c2 c3 : Nat} (hp : PnOk p) (b : Bool) (y z : Int) : CallsV Try.prog 59 [.ptr (.own 3 0), .agg [.bool b, I y, I z]] (tastH p c1 c2 c3) (.ret (.bool (thB p (ndB b y z)))) (tastH p c1 c2 c3) := by
  obtain ⟨r, h', hQ, hc⟩ := of_callN (callL2_good (f := 59) (g := 70) (by decide) (lf := []) (fun x hx => by cases hx) (lkLH_ok (p := p) (c1 := c1) (c2 := c2) (c3 := c3) (b := b) (y := y) (z := z)) (sp := noSpec) noSp (un := 10) 20)
    (f := 59) (args := [.ptr (.own 3 0), .agg [.bool b, I y, I z]]) (h := tastH p c1 c2 c3) (K := th4 fun r bs => r = .ret (.bool (thB p (ndB b y z))) ∧ bs = [arD p, arT p, arS p, pnB p c1 c2 c3])
    (by
      refine cast (th_ev p c1 c2 c3 b y z _).symm ?_
      have e0 : (b == false && (decide (y = 0) && (decide (z = 0) && true))) = decide (ndB b y z = zeroN) := by
        have := nd_test b false y 0 z 0
        exact this
      have hl : hasL (links p) (ndB b y z) ↔ hasL (p.T.flatMap (lkT p)) (ndB b y z) ∨ hasL (p.S.flatMap lkS) (ndB b y z) := hasL_app
      have e1 : ∀ {v : Bool}, (v = true ↔ thP p (ndB b y z)) → VRes.ret (.bool v) = .ret (.bool (thB p (ndB b y z))) ∧ [arD p, arT p, arS p, pnB p c1 c2 c3] = [arD p, arT p, arS p, pnB p c1 c2 c3] := fun {v} h => by
        refine ⟨?_, rfl⟩
        congr 2
        rw [Bool.eq_iff_iff, h, thB_iff]
      rw [e0]
      refine cond_d (fun h => e1 ⟨fun _ => .inl h, fun _ => rfl⟩) (fun h0 => ⟨fitP_self rfl, hp, fun h1 => ⟨fitP_self rfl, hp, fun h2 => e1 ⟨fun h => by simp at h, fun h => ?_⟩, fun h2 _ => e1 ⟨fun _ => .inr (hl.2 (.inr h2)), fun _ => rfl⟩⟩, fun h1 _ => e1 ⟨fun _ => .inr (hl.2 (.inl h1)), fun _ => rfl⟩⟩)
      exact absurd h (fun h => h.elim h0 (fun h => (hl.1 h).elim h1 h2)))
  obtain ⟨rfl, hb⟩ := hQ
  injection hb with g0 hb
  injection hb with g1 hb
  injection hb with g2 hb
  injection hb with g3 hb
  exact calls_weak hc (show 4 ≤ 4 by decide) ⟨by rw [g0]; exact VB.fit_refl _, by rw [g1]; exact VB.fit_refl _, by rw [g2]; exact VB.fit_refl _, by rw [g3]; exact VB.fit_refl _, trivial⟩ rfl rfl

/-- Is an unknown there? As a row, of the panel at 3. -/
noncomputable def thT (p : Pn) (c1 c2 c3 : Nat) : FuncId × Spec1 := (59, fun _ args h K => match args with
  | [.ptr (.own 3 0), .agg [.bool b, .int .i64 y, .int .i64 z]] => (h.at 0 = arD p ∧ h.at 1 = arT p ∧ h.at 2 = arS p ∧ h.at 3 = pnB p c1 c2 c3) ∧ PnOk p ∧ K (.ret (.bool (thB p (ndB b y z)))) h
  | _ => False)

theorem thT_ok {p : Pn} {c1 c2 c3 : Nat} : SpOk Try.prog (thT p c1 c2 c3).1 (thT p c1 c2 c3).2 := by
  intro lock args h K hK
  simp only [thT] at hK
  split at hK
  · rename_i b y z
    obtain ⟨⟨g0, g1, g2, g3⟩, hp, hK⟩ := hK
    have hc := th_v (c1 := c1) (c2 := c2) (c3 := c3) hp b y z
    have hnx : (tastH p c1 c2 c3).nx ≤ h.nx := lt_nx (n := 3) (by rw [g3]; simp)
    have hat : ∀ n, n < (tastH p c1 c2 c3).nx → h.at n = (tastH p c1 c2 c3).at n := fun n hn => by
      match n, hn with
      | 0, _ => exact g0
      | 1, _ => exact g1
      | 2, _ => exact g2
      | 3, _ => exact g3
    have hnf : ∀ n, n < (tastH p c1 c2 c3).nx → (tastH p c1 c2 c3).at n ≠ .free := fun n hn => by
      match n, hn with
      | 0, _ => exact fun h => VB.noConfusion h
      | 1, _ => exact fun h => VB.noConfusion h
      | 2, _ => exact fun h => VB.noConfusion h
      | 3, _ => exact fun h => VB.noConfusion h
    have hbel : ∀ n, n < (tastH p c1 c2 c3).nx → ((tastH p c1 c2 c3).at n).bel (tastH p c1 c2 c3).nx = true := fun n hn => by
      match n, hn with
      | 0, _ => rfl
      | 1, _ => rfl
      | 2, _ => rfl
      | 3, _ => rfl
    exact ⟨_, h, hK, lockP_refl _ _, calls_lift (h := h) hc hnx hat (fun n hn => rfl) hnf hbel rfl rfl⟩
  · exact hK.elim

/-- Is a panel valid? -/
def panC : FuncId × Spec1 := (40, fun _ args h K => match args with
  | [.agg [d, t, s]] => ∃ p : Pn, pnIs h p d t s ∧ K (.ret (.bool (panB p))) h
  | _ => False)

theorem panC_ok : SpOk Try.prog panC.1 panC.2 := by
  intro lock args h K hK
  simp only [panC] at hK
  split at hK
  · obtain ⟨p, hp, hK⟩ := hK
    exact ⟨_, h, hK, lockP_refl _ _, calls_pn (pl := []) (fun c1 c2 c3 => pan_v p c1 c2 c3) rfl rfl hp⟩
  · exact hK.elim

/-- The number of an unknown that is there. -/
def numK : FuncId × Spec1 := (61, fun _ args h K => match args with
  | [.ptr (.own t 0), .agg [.bool b, .int .i64 y, .int .i64 z]] => (match h.at t with
    | .fam [.mp m] 4225 _ 93 => ∃ N : List Nd, h.at m = maB N ∧ ndB b y z ∈ N ∧ K (.ret (I (ixN N (ndB b y z) : Nat))) h
    | _ => False)
  | _ => False)

theorem numK_ok : SpOk Try.prog numK.1 numK.2 := by
  intro lock args h K hK
  simp only [numK] at hK
  split at hK
  · rename_i t b y z
    split at hK
    · rename_i m d ht
      obtain ⟨N, hm, hin, hK⟩ := hK
      have hmt : m ≠ t := fun e => by rw [e, ht] at hm; cases hm
      have h2 := tasted_at (m := m) (t := t) (num_v N d b y z) hm ht rfl rfl
      rw [show addN N (ndB b y z) = N from if_pos hin] at h2
      have n1 : (VH.mk h.nx ((m, maB N) :: h.bs)).at = upd h.at m (maB N) := VH.at_put h m _ (by rw [hm]; simp)
      have n2 : (VH.mk h.nx ((m, maB N) :: h.bs)).at = h.at := by
        rw [n1]
        funext q
        unfold upd
        split
        · rename_i hq; subst hq; exact hm.symm
        · rfl
      have hat : (VH.mk h.nx ((t, faB m d) :: (m, maB N) :: h.bs)).at = h.at := by
        have := VH.at_put (VH.mk h.nx ((m, maB N) :: h.bs)) t (faB m d) (by rw [n2, ht]; simp)
        refine this.trans ?_
        funext q
        rw [n2]
        unfold upd
        split
        · rename_i hq; subst hq; exact ht.symm
        · rfl
      refine ⟨_, h, hK, lockP_refl _ _, ?_⟩
      intro B R w xs em hx
      refine (h2 B R w xs em hx).mono ?_
      rintro e w' ⟨R', a1, a2, a3⟩
      rw [hat] at a1 a2
      exact ⟨R', a1, a2, a3⟩
    · exact hK.elim
  · exact hK.elim
end Go.Sx.Nos
