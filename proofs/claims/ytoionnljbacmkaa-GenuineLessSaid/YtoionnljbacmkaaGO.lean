/- genuine: Go1 Go2, in one text. -/
import Derived.Test.YtoionnljbacmkaaGK
import Derived.Test.YtoionnljbacmkaaSxY
/- genuine: a suspect whose measurements are a list of one's own. -/

namespace Go.Sx.Gen
open Go Go.Sx Go.Proofs
set_option maxRecDepth 100000

section
variable {n cap : Nat} {l : Int → Src} {b : Sus}

/-- The suspect, with another capacity. -/
def cap' (b : Sus) (c : Nat) : Sus := ⟨b.glass, b.paper, b.slo, b.shi, b.sl, c, b.lo, b.hi⟩
/-- What is measured, as a list. -/
def vecS (b : Sus) : VB := .vec b.sl (fun j => [I (b.lo j), I (b.hi j)]) 2 23
def sV1 (b : Sus) (mm : Nat) : VV := .agg [I b.glass, I b.paper, I b.slo, I b.shi, .sl mm b.sl]

theorem view_seen {f : FuncId} {rest : List VV} {r : VRes} {bl : List VB} (hs : ∀ c : Nat, ∃ h', CallsV Try.prog f (bV (cap' b c) :: lV n cap :: rest) (bH n l b) r h' ∧ ∀ i, h'.at (3 + i) = (bl[i]?).getD .free)
    (hr : r.flat 3 = true) (hbl : ∀ c ∈ bl, c.flat) (hrest : pureL rest = true) {h : VH} {mm : Nat} (h0 : h.at 0 = srcA n l) (h1 : h.at 1 = valA n l) (h2 : h.at mm = vecS b) :
    CallsV Try.prog f (sV1 b mm :: lV n cap :: rest) h (r.sh 3 h.nx) (pushL h bl) := by
  have ho : onlyArr (bH n l b) := fun m => by
    by_cases hm : m < 3
    · have : m = 0 ∨ m = 1 ∨ m = 2 := by omega
      rcases this with rfl | rfl | rfl
      · exact .inl ⟨_, _, _, rfl⟩
      · exact .inl ⟨_, _, _, rfl⟩
      · exact .inl ⟨_, _, _, rfl⟩
    · exact .inr (.inr (at_ge hm))
  refine calls_view_new (hm := bH n l b) ho hr hbl ?_
  intro B R w xs em hx
  obtain ⟨ysus, _, hsus, ⟨ysrc, yrest, hsrc, hrst, rfl⟩, rfl⟩ := hx
  obtain ⟨fs, ⟨f0, _, e0, ⟨f1, _, e1, ⟨f2, _, e2, ⟨f3, _, e3, ⟨f4, _, e4, hnil, rfl⟩, rfl⟩, rfl⟩, rfl⟩, rfl⟩, rfl⟩ := hsus
  simp only [VRelL] at hnil
  subst hnil
  obtain ⟨q, p, c, rfl, hc, hq, hv⟩ := view_vec em h2 e4 (fun _ _ => rfl)
  obtain ⟨h', hcall, hat⟩ := hs c
  refine ⟨fun m ix => if m < 2 then R.arr m ix else q, fun m => if m < 2 then R.str m else 2, _, h', hcall, hat, ⟨fun m s ok g hm => ?_⟩, ?_⟩
  · by_cases hm3 : m < 3
    · have : m = 0 ∨ m = 1 ∨ m = 2 := by omega
      rcases this with rfl | rfl | rfl
      · have hm : srcA n l = .arr s ok g := hm
        cases hm
        obtain ⟨g1, g2⟩ := em.arr 0 _ _ _ h0
        refine ⟨g1, fun ix i hi => ?_⟩
        obtain ⟨g3, g4, g5, ys, g6, g7, g8⟩ := g2 ix i hi
        refine ⟨g3, Nat.lt_of_lt_of_le g4 em.base, g5, ys, ?_, g7, g8⟩
        obtain ⟨a0, _, k0, ⟨a1, _, k1, ⟨a2, _, k2, ⟨a3, _, k3, ⟨a4, _, k4, k5, rfl⟩, rfl⟩, rfl⟩, rfl⟩, rfl⟩ := g6
        exact ⟨_, _, k0, ⟨_, _, k1, ⟨_, _, k2, ⟨_, _, k3, ⟨_, _, k4, k5, rfl⟩, rfl⟩, rfl⟩, rfl⟩, rfl⟩
      · have hm : valA n l = .arr s ok g := hm
        cases hm
        obtain ⟨g1, g2⟩ := em.arr 1 _ _ _ h1
        refine ⟨g1, fun ix i hi => ?_⟩
        obtain ⟨g3, g4, g5, ys, g6, g7, g8⟩ := g2 ix i hi
        exact ⟨g3, Nat.lt_of_lt_of_le g4 em.base, g5, ys, pure_L _ _ rfl g6, g7, g8⟩
      · have hm : seenA b = .arr s ok g := hm
        cases hm
        refine ⟨rfl, fun ix i hi => ?_⟩
        obtain ⟨rfl, i0, i1⟩ := hi
        obtain ⟨w1, w2, ys, w3, w4, w5⟩ := hv ⟨fun _ => none, fun m ix => if m < 2 then R.arr m ix else q, fun m => if m < 2 then R.str m else 2, fun _ _ => none⟩ i i0 i1
        refine ⟨i0, w1, w2, ys, ?_, w4, w5⟩
        rw [show ((i.toNat : Nat) : Int) = i by omega] at w3
        exact w3
    · have : (bH n l b).at m = .free := at_ge hm3
      rw [this] at hm; cases hm
  · refine ⟨_, _, ⟨[f0, f1, f2, f3, .slice p b.sl c], ⟨_, _, e0, ⟨_, _, e1, ⟨_, _, e2, ⟨_, _, e3, ⟨_, _, ⟨hc, p, ?_, rfl⟩, rfl, rfl⟩, rfl⟩, rfl⟩, rfl⟩, rfl⟩, rfl⟩, ⟨_, _, hsrc, pure_L _ _ hrest hrst, rfl⟩, rfl⟩
    rcases hq with hq | hq
    · exact .inl hq
    · refine .inr ⟨q, hq, ?_⟩
      show q = q.add ((0 : Int).toNat * 2 + 0)
      have : (0 : Int).toNat * 2 + 0 = 0 := by simp
      rw [this]
      unfold Addr.add
      rw [if_pos rfl]
end
end Go.Sx.Gen

/- genuine: Origins and Share of a suspect whose measurements are a list of one's own, as rows. -/

namespace Go.Sx.Gen
open Go Go.Sx Go.Proofs
set_option maxRecDepth 100000

section
variable {n cap : Nat} {l : Int → Src} {b : Sus}

theorem shrL_cap (c : Nat) {x y : Src} : ∀ {m : Nat} {k : Int} {s : Shr}, shrL (cap' b c) x y m k s = shrL b x y m k s
  | 0, _, _ => rfl
  | m + 1, k, s => shrL_cap c (m := m) (k := k + 1) (s := shrK b x y s k)

theorem rfL_cap (c : Nat) {x y : Src} : ∀ {m q : Nat} {s : Shr}, rfL (cap' b c) x y m q s = rfL b x y m q s
  | 0, _, _ => rfl
  | m + 1, q, s => rfL_cap c (m := m) (q := q + 1) (s := rfK s (bdF b x y q).1 (bdF b x y q).2)

theorem shareB_cap (c : Nat) (x y : Src) : shareB (cap' b c) x y = shareB b x y := by
  have : sharedF (cap' b c) x y = sharedF b x y := shrL_cap c
  unfold shareB
  rw [this]

theorem pairs1_cap (c : Nat) {i k : Int} : pairs1 n (cap' b c) l i k = pairs1 n b l i k := by
  unfold pairs1
  congr 1
  refine filt_congr fun k => ?_
  unfold prB
  rw [shareB_cap]
  rfl

theorem pairsF_cap (c : Nat) : ∀ {m : Nat} {i : Int}, pairsF n (cap' b c) l m i = pairsF n b l m i
  | 0, _ => rfl
  | m + 1, i => by
    simp only [pairsF]
    rw [pairs1_cap, pairsF_cap c (m := m)]
    rfl

theorem orS_cap (c : Nat) : orS n (cap' b c) l = orS n b l := rfl
theorem orP_cap (c : Nat) : orP n (cap' b c) l = orP n b l := by
  unfold orP
  rw [pairsF_cap]
  rfl
theorem orE_cap (c : Nat) : orE n (cap' b c) l = orE n b l := rfl
theorem shE_cap (c : Nat) (k m : Int) : shE n l (cap' b c) k m = shE n l b k m := by
  unfold shE
  rw [shareB_cap]
  rfl
theorem shR_cap (c : Nat) (k m : Int) : shR n l (cap' b c) k m = shR n l b k m := by
  unfold shR
  rw [shE_cap]
  have : rfF (cap' b c) (l k) (l m) = rfF b (l k) (l m) := rfL_cap c
  rw [this]
theorem wf_cap (hw : Wf n l b) (c : Nat) : Wf n l (cap' b c) := ⟨hw.hn, hw.hl, hw.hb⟩

theorem bl_none {h : VH} (i : Nat) (hh : h.nx = 3) : h.at (3 + i) = ((([] : List VB))[i]?).getD .free := by
  rw [at_ge (by omega)]; rfl

theorem or15S_v (hw : Wf n l b) {h : VH} {mm : Nat} (h0 : h.at 0 = srcA n l) (h1 : h.at 1 = valA n l) (h2 : h.at mm = vecS b) :
    CallsV Try.prog 15 [sV1 b mm, lV n cap] h (.ret (.tup [.sl (h.nx + 1) (orS n b l).length, .sl (h.nx + 2) (orP n b l).length, I (orE n b l)])) (pushL h [.gone, vecI (orS n b l), vecP (orP n b l)]) := by
  have e2 : (VRes.ret (.tup [.sl 4 (orS n b l).length, .sl 5 (orP n b l).length, I (orE n b l)])).sh 3 h.nx = .ret (.tup [.sl (h.nx + 1) (orS n b l).length, .sl (h.nx + 2) (orP n b l).length, I (orE n b l)]) := by
    simp [VRes.sh, VV.sh, shL, shN]; omega
  rw [← e2]
  refine view_seen (rest := []) (bl := [.gone, vecI (orS n b l), vecP (orP n b l)]) (fun c => ?_) rfl (fun c hc => ?_) rfl h0 h1 h2
  · have h3 := or15_v (cap := cap) (wf_cap hw c)
    rw [orP_cap] at h3
    have e : hOr n (cap' b c) l = hOr n b l := by unfold hOr; rw [orP_cap]; rfl
    rw [e] at h3
    exact ⟨_, h3, bl3⟩
  · simp only [List.mem_cons, List.not_mem_nil, or_false] at hc
    rcases hc with rfl | rfl | rfl
    · trivial
    · exact fun _ _ => rfl
    · exact fun _ _ => rfl

theorem sh13S_v (hw : Wf n l b) {h : VH} {mm : Nat} {k m : Int} (h0 : h.at 0 = srcA n l) (h1 : h.at 1 = valA n l) (h2 : h.at mm = vecS b) :
    CallsV Try.prog 13 [sV1 b mm, lV n cap, I k, I m] h (.ret (shO n l b k m)) h := by
  refine view_seen (rest := [I k, I m]) (bl := []) (r := .ret (shO n l b k m)) (fun c => ?_) rfl (fun c hc => by cases hc) rfl h0 h1 h2
  obtain ⟨h', hc, hh⟩ := sh13_v (cap := cap) (wf_cap hw c) hw.hn (k := k) (m := m)
  rw [show shO n l (cap' b c) k m = shO n l b k m by unfold shO; rw [shR_cap, shE_cap]] at hc
  refine ⟨_, calls_keep hc (fun m hm => ?_) (fun m hm => ?_) rfl, fun i => bl_none i rfl⟩
  · have hm : m < 3 := hm
    have : m = 0 ∨ m = 1 ∨ m = 2 := by omega
    rcases this with rfl | rfl | rfl
    · exact hh.1
    · exact hh.2.1
    · exact hh.2.2
  · have hm : m < 3 := hm
    have : m = 0 ∨ m = 1 ∨ m = 2 := by omega
    rcases this with rfl | rfl | rfl <;> rfl

/-- Origins, where what is measured is a list of one's own. -/
def or15ST (n : Nat) (l : Int → Src) (b : Sus) : FuncId × Spec1 := (15, fun _ args h K => match args with
  | [.agg [.int .i64 g, .int .i64 p, .int .i64 s, .int .i64 t, .sl mm L], .slice (.el 0 [] 0 0) m2 c2] =>
    ((h.at 0 = srcA n l ∧ h.at 1 = valA n l ∧ h.at mm = vecS b) ∧ [sV1 b mm, lV n c2] = [.agg [I g, I p, I s, I t, .sl mm L], .slice (.el 0 [] 0 0) m2 c2]) ∧ match h with
      | ⟨nx, bs⟩ => K (.ret (.tup [.sl (nx + 1) (orS n b l).length, .sl (nx + 2) (orP n b l).length, I (orE n b l)])) ⟨nx + 3, (nx + 2, vecP (orP n b l)) :: (nx + 1, vecI (orS n b l)) :: (nx, .gone) :: bs⟩
  | _ => False)

theorem or15ST_ok (hw : Wf n l b) : SpOk Try.prog (or15ST n l b).1 (or15ST n l b).2 := by
  intro lock args h K hK
  simp only [or15ST] at hK
  split at hK
  · rename_i mm L m2 c2
    obtain ⟨⟨⟨h0, h1, h2⟩, ha⟩, hK⟩ := hK
    have hc := or15S_v (cap := c2) hw h0 h1 h2
    rw [ha] at hc
    exact ⟨_, _, (by cases h; exact hK), lockP_push _ _, hc⟩
  · exact hK.elim

/-- Share, where what is measured is a list of one's own. -/
def sh13ST (n : Nat) (l : Int → Src) (b : Sus) : FuncId × Spec1 := (13, fun _ args h K => match args with
  | [.agg [.int .i64 g, .int .i64 p, .int .i64 s, .int .i64 t, .sl mm L], .slice (.el 0 [] 0 0) m2 c2, .int .i64 k, .int .i64 m] =>
    ((h.at 0 = srcA n l ∧ h.at 1 = valA n l ∧ h.at mm = vecS b) ∧ [sV1 b mm, lV n c2] = [.agg [I g, I p, I s, I t, .sl mm L], .slice (.el 0 [] 0 0) m2 c2]) ∧ K (.ret (shO n l b k m)) h
  | _ => False)

theorem sh13ST_ok (hw : Wf n l b) : SpOk Try.prog (sh13ST n l b).1 (sh13ST n l b).2 := by
  intro lock args h K hK
  simp only [sh13ST] at hK
  split at hK
  · rename_i mm L m2 c2 k m
    obtain ⟨⟨⟨h0, h1, h2⟩, ha⟩, hK⟩ := hK
    have hc := sh13S_v (cap := c2) (k := k) (m := m) hw h0 h1 h2
    have e : [sV1 b mm, lV n c2, I k, I m] = [sV1 b mm, lV n c2] ++ [I k, I m] := rfl
    rw [e, ha] at hc
    exact ⟨_, h, hK, lockP_refl _ _, hc⟩
  · exact hK.elim
end
end Go.Sx.Gen
