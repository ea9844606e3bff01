/- stream: Nl1 Nl2 Nl3 Nl4 Nl5, in one text. -/
import Derived.Test.YtnfkbbcbehnnkaaNK
/- nose: what a panel says, judge by judge; scores that are shifted. -/

namespace Go.Sx.Nos
open Go Go.Sx Go.Proofs

/-- All that a panel says. -/
structure SolT (p : Pn) (x : Nd → Int) : Prop where
  ts : ∀ t ∈ p.T, t.c - t.o ≤ x (vN t.s) - x (cN t.j t.p) ∧ x (vN t.s) - x (cN t.j t.p) ≤ t.c + t.o
  dr : ∀ t ∈ p.T, ∀ u ∈ p.T, u.j = t.j → t.p < u.p → x (cN t.j t.p) - x (cN u.j u.p) ≤ dr p t u ∧ x (cN u.j u.p) - x (cN t.j t.p) ≤ dr p t u
  sd : ∀ s ∈ p.S, s.lo ≤ x (vN s.s) - x zeroN ∧ x (vN s.s) - x zeroN ≤ s.hi

theorem sol_iff {p : Pn} {x : Nd → Int} : Sol p x ↔ SolT p x := by
  constructor
  · intro h
    have tt : ∀ t ∈ p.T, ∀ l ∈ lkT p t, l ∈ links p := fun t ht l hl => List.mem_append.2 (.inl (List.mem_flatMap.2 ⟨t, ht, hl⟩))
    have ss : ∀ s ∈ p.S, ∀ l ∈ lkS s, l ∈ links p := fun s hs l hl => List.mem_append.2 (.inr (List.mem_flatMap.2 ⟨s, hs, hl⟩))
    refine ⟨fun t ht => ?_, fun t ht u hu hj hp => ?_, fun s hs => ?_⟩
    · have a := h (vN t.s, cN t.j t.p, t.c + t.o) (tt t ht _ (by simp [lkT, lkH]))
      have b := h (cN t.j t.p, vN t.s, t.o - t.c) (tt t ht _ (by simp [lkT, lkH]))
      dsimp only at a b
      omega
    · have e : lkI p t u = [(cN t.j t.p, cN u.j u.p, dr p t u), (cN u.j u.p, cN t.j t.p, dr p t u)] := by unfold lkI; rw [if_pos ⟨hj, hp⟩]
      have k : ∀ l ∈ lkI p t u, l ∈ links p := fun l hl => tt t ht l (List.mem_append.2 (.inr (List.mem_flatMap.2 ⟨u, hu, hl⟩)))
      exact ⟨h _ (k _ (by rw [e]; exact List.mem_cons_self ..)), h _ (k _ (by rw [e]; exact List.mem_cons_of_mem _ (List.mem_cons_self ..)))⟩
    · have a := h (vN s.s, zeroN, s.hi) (ss s hs _ (by simp [lkS]))
      have b := h (zeroN, vN s.s, 0 - s.lo) (ss s hs _ (by simp [lkS]))
      dsimp only at a b
      omega
  · intro h l hl
    rcases List.mem_append.1 hl with hl | hl
    · obtain ⟨t, ht, hl⟩ := List.mem_flatMap.1 hl
      have a := h.ts t ht
      rcases List.mem_append.1 hl with hl | hl
      · rcases List.mem_cons.1 hl with rfl | hl
        · exact a.2
        · simp only [List.mem_singleton] at hl
          subst hl
          dsimp only; omega
      · obtain ⟨u, hu, hl⟩ := List.mem_flatMap.1 hl
        unfold lkI at hl
        split at hl
        · rename_i hc
          have b := h.dr t ht u hu hc.1 hc.2
          rcases List.mem_cons.1 hl with rfl | hl
          · exact b.1
          · simp only [List.mem_singleton] at hl
            subst hl
            exact b.2
        · cases hl
    · obtain ⟨s, hs, hl⟩ := List.mem_flatMap.1 hl
      have a := h.sd s hs
      rcases List.mem_cons.1 hl with rfl | hl
      · exact a.2
      · simp only [List.mem_singleton] at hl
        subst hl
        dsimp only; omega

theorem th_iff {p : Pn} {a : Nd} : thP p a ↔ a = zeroN ∨ (∃ t ∈ p.T, a = vN t.s ∨ a = cN t.j t.p) ∨ ∃ s ∈ p.S, a = vN s.s := by
  constructor
  · rintro (h | ⟨l, hl, h⟩)
    · exact .inl h
    · rcases List.mem_append.1 hl with hl | hl
      · obtain ⟨t, ht, hl⟩ := List.mem_flatMap.1 hl
        rcases List.mem_append.1 hl with hl | hl
        · rcases List.mem_cons.1 hl with rfl | hl
          · exact .inr (.inl ⟨t, ht, .inl h.symm⟩)
          · simp only [List.mem_singleton] at hl
            subst hl
            exact .inr (.inl ⟨t, ht, .inr h.symm⟩)
        · obtain ⟨u, hu, hl⟩ := List.mem_flatMap.1 hl
          unfold lkI at hl
          split at hl
          · rcases List.mem_cons.1 hl with rfl | hl
            · exact .inr (.inl ⟨t, ht, .inr h.symm⟩)
            · simp only [List.mem_singleton] at hl
              subst hl
              exact .inr (.inl ⟨u, hu, .inr h.symm⟩)
          · cases hl
      · obtain ⟨s, hs, hl⟩ := List.mem_flatMap.1 hl
        rcases List.mem_cons.1 hl with rfl | hl
        · exact .inr (.inr ⟨s, hs, h.symm⟩)
        · simp only [List.mem_singleton] at hl
          subst hl
          exact .inl h.symm
  · have tt : ∀ t ∈ p.T, ∀ l ∈ lkT p t, l ∈ links p := fun t ht l hl => List.mem_append.2 (.inl (List.mem_flatMap.2 ⟨t, ht, hl⟩))
    rintro (h | ⟨t, ht, h⟩ | ⟨s, hs, h⟩)
    · exact .inl h
    · rcases h with h | h
      · exact .inr ⟨(vN t.s, cN t.j t.p, t.c + t.o), tt t ht _ (by simp [lkT, lkH]), h.symm⟩
      · exact .inr ⟨(cN t.j t.p, vN t.s, t.o - t.c), tt t ht _ (by simp [lkT, lkH]), h.symm⟩
    · exact .inr ⟨(vN s.s, zeroN, s.hi), List.mem_append.2 (.inr (List.mem_flatMap.2 ⟨s, hs, by simp [lkS]⟩)), h.symm⟩

/-- A judge's scores, raised; all scores and standards, raised. -/
def rsT (f : Ts → Int) (t : Ts) : Ts := { t with c := t.c + f t }
def rsS (n : Int) (s : Sd) : Sd := ⟨s.s, s.lo + n, s.hi + n⟩
def rsP (f : Ts → Int) (n : Int) (p : Pn) : Pn := ⟨p.D, p.T.map (rsT f), p.S.map (rsS n)⟩

section
variable {p : Pn} {f : Ts → Int} {n : Int} {sh : Nd → Int}

theorem rs_th {a : Nd} : thP p a ↔ thP (rsP f n p) a := by
  rw [th_iff, th_iff]
  refine or_congr Iff.rfl (or_congr ⟨fun ⟨t, ht, h⟩ => ⟨_, List.mem_map.2 ⟨t, ht, rfl⟩, h⟩, fun ⟨t, ht, h⟩ => ?_⟩ ⟨fun ⟨s, hs, h⟩ => ⟨_, List.mem_map.2 ⟨s, hs, rfl⟩, h⟩, fun ⟨s, hs, h⟩ => ?_⟩)
  · obtain ⟨t', ht', rfl⟩ := List.mem_map.1 ht
    exact ⟨t', ht', h⟩
  · obtain ⟨s', hs', rfl⟩ := List.mem_map.1 hs
    exact ⟨s', hs', h⟩

theorem rs_sol (h1 : ∀ t ∈ p.T, f t = sh (vN t.s) - sh (cN t.j t.p)) (h2 : ∀ t ∈ p.T, ∀ u ∈ p.T, u.j = t.j → sh (cN t.j t.p) = sh (cN u.j u.p)) (h3 : ∀ s ∈ p.S, n = sh (vN s.s) - sh zeroN) (x : Nd → Int) :
    Sol p x ↔ Sol (rsP f n p) fun a => x a + sh a := by
  rw [sol_iff, sol_iff]
  have ed : ∀ t u, dr (rsP f n p) (rsT f t) (rsT f u) = dr p t u := fun _ _ => rfl
  constructor
  · intro h
    refine ⟨fun t' ht' => ?_, fun t' ht' u' hu' hj hp => ?_, fun s' hs' => ?_⟩
    · obtain ⟨t, ht, rfl⟩ := List.mem_map.1 ht'
      have a := h.ts t ht
      have b := h1 t ht
      simp only [rsT]
      omega
    · obtain ⟨t, ht, rfl⟩ := List.mem_map.1 ht'
      obtain ⟨u, hu, rfl⟩ := List.mem_map.1 hu'
      have a := h.dr t ht u hu hj hp
      have b := h2 t ht u hu hj
      rw [ed]
      simp only [rsT]
      omega
    · obtain ⟨s, hs, rfl⟩ := List.mem_map.1 hs'
      have a := h.sd s hs
      have b := h3 s hs
      simp only [rsS]
      omega
  · intro h
    refine ⟨fun t ht => ?_, fun t ht u hu hj hp => ?_, fun s hs => ?_⟩
    · have a := h.ts _ (List.mem_map.2 ⟨t, ht, rfl⟩)
      have b := h1 t ht
      simp only [rsT] at a
      omega
    · have a := h.dr _ (List.mem_map.2 ⟨t, ht, rfl⟩) _ (List.mem_map.2 ⟨u, hu, rfl⟩) hj hp
      have b := h2 t ht u hu hj
      rw [ed] at a
      simp only [rsT] at a
      omega
    · have a := h.sd _ (List.mem_map.2 ⟨s, hs, rfl⟩)
      have b := h3 s hs
      simp only [rsS] at a
      omega

theorem rs_df (h1 : ∀ t ∈ p.T, f t = sh (vN t.s) - sh (cN t.j t.p)) (h2 : ∀ t ∈ p.T, ∀ u ∈ p.T, u.j = t.j → sh (cN t.j t.p) = sh (cN u.j u.p)) (h3 : ∀ s ∈ p.S, n = sh (vN s.s) - sh zeroN) {a b : Nd} (v : Int) :
    Df p a b v ↔ Df (rsP f n p) a b (v + (sh a - sh b)) := by
  constructor
  · rintro ⟨x, hx, hv⟩
    exact ⟨_, (rs_sol h1 h2 h3 x).1 hx, by omega⟩
  · rintro ⟨x, hx, hv⟩
    refine ⟨fun a => x a - sh a, (rs_sol h1 h2 h3 _).2 ?_, by show (x a - sh a) - (x b - sh b) = v; omega⟩
    rwa [show (fun a => x a - sh a + sh a) = x from funext fun a => by omega]

theorem rs_bt (hp : PnOk p) (hq : PnOk (rsP f n p)) (h1 : ∀ t ∈ p.T, f t = sh (vN t.s) - sh (cN t.j t.p)) (h2 : ∀ t ∈ p.T, ∀ u ∈ p.T, u.j = t.j → sh (cN t.j t.p) = sh (cN u.j u.p)) (h3 : ∀ s ∈ p.S, n = sh (vN s.s) - sh zeroN) (a b : Nd) :
    btF (rsP f n p) a b = if (btF p a b).2.2 = 0 then ((btF p a b).1 + (sh a - sh b), (btF p a b).2.1 + (sh a - sh b), 0) else btF p a b :=
  btF_shift hp hq (by rw [← rs_th, ← rs_th]) fun v => rs_df h1 h2 h3 v

theorem rs_bt0 (hp : PnOk p) (hq : PnOk (rsP f n p)) (h1 : ∀ t ∈ p.T, f t = sh (vN t.s) - sh (cN t.j t.p)) (h2 : ∀ t ∈ p.T, ∀ u ∈ p.T, u.j = t.j → sh (cN t.j t.p) = sh (cN u.j u.p)) (h3 : ∀ s ∈ p.S, n = sh (vN s.s) - sh zeroN) {a b : Nd} (h : sh a = sh b) :
    btF (rsP f n p) a b = btF p a b :=
  btF_same hp hq (by rw [← rs_th, ← rs_th]) fun v => by
    have := rs_df h1 h2 h3 (a := a) (b := b) v
    rwa [h, Int.sub_self, Int.add_zero] at this
end
end Go.Sx.Nos

/- nose: the loops of NoseShift, evaluated. -/

namespace Go.Sx.Nos
open Go Go.Sx Go.Proofs
set_option maxRecDepth 1000000

def dsF0 : List Nat := [61, 62, 63, 1, 3, 4, 5, 10, 11, 12, 13]
def dsF2 : List Nat := [96, 97, 98, 1, 3, 4, 5, 10, 11, 12, 13]
def VF (k m c : Nat) (j a b n : Int) (i : Int) : List VV := [.slice (.el k [] 0 0) m c, I m, I i, I j, .int .u8 a, .int .u8 b, .ptr (.own 3 0), .bool false, .ptr (.own 4 0), .ptr (.own 5 0), I n]
def nsF0 : List Nat := [0, 1, 2, 3, 4, 5, 6, 7]
def nsF2 : List Nat := [0, 1, 2, 3, 4, 5, 6, 7, 8]
abbrev sqB (p : Pn) (c1 c3 : Nat) (k : Nat) : VB := .cells [.slice (.el 0 [] 0 0) p.D.length c1, .sl 6 k, .slice (.el 2 [] 0 0) p.S.length c3] 26
def BF0 (p : Pn) (c1 c2 c3 : Nat) (k : Nat) (gq gr : Nat → List VV) : List VB := [arD p, arT p, arS p, pnB p c1 c2 c3, sqB p c1 c3 k, .cells [.slice (.el 0 [] 0 0) p.D.length c1, .sl 7 k, .nils] 26, .vec k gq 5 32, .vec k gr 5 32]
def BF2 (p : Pn) (c1 c2 c3 : Nat) (k m : Nat) (gq gr gs : Nat → List VV) : List VB := [arD p, arT p, arS p, pnB p c1 c2 c3, sqB p c1 c3 k, .cells [.slice (.el 0 [] 0 0) p.D.length c1, .sl 7 k, .sl 8 m] 26, .vec k gq 5 32, .vec k gr 5 32, .vec m gs 3 36]
theorem s0_ev (p : Pn) (c1 c2 c3 : Nat) (j a b n : Int) (i : Int) (k : Nat) (gq gr : Nat → List VV) (X : VEx → List VV → List VB → Prop) : codeE Try.prog (callN Try.prog noSpec noL 10 20) (fun _ => none) true 10 296 0 (loopB 0 (bodyOf Try.prog 3)) (dsF0.zip (VF 1 p.T.length c2 j a b n i)) ⟨8, nsF0.zip (BF0 p c1 c2 c3 k gq gr)⟩ (obs 8 dsF0 nsF0 X) =
  (bif decide (i < (↑p.T.length : Int)) then
 bif decide ((0 : Int) ≤ i ∧ i < (↑p.T.length : Int)) then
 (([] : List Int) = [] ∧ (0 : Int) ≤ (0 : Int) + i ∧ (0 : Int) + i < (↑p.T.length : Int)) ∧ bif decide ((getI p i).j = j) then
 bif inK IntKind.i64 ((getI p i).c + n) then
 bif inK IntKind.i64 ((getI p i).c + n) then
 bif k.beq k then
 bif roomB (k + 1) (40) then
 bif k.beq k then
 bif roomB (k + 1) (40) then
 bif inK IntKind.i64 (i + (1 : Int)) then
 X VEx.normal [VV.slice (VA.el 1 [] (0 : Int) 0) p.T.length c2, I (↑p.T.length : Int), I (i + (1 : Int)), I j, VV.int IntKind.u8 a, VV.int IntKind.u8 b, VV.ptr (VA.own 3 0), VV.bool false, VV.ptr (VA.own 4 0), VV.ptr (VA.own 5 0), I n] [arD p, arT p, arS p, pnB p c1 c2 c3, VB.cells [VV.slice (VA.el 0 [] (0 : Int) 0) p.D.length c1, VV.sl 6 (k + 1), VV.slice (VA.el 2 [] (0 : Int) 0) p.S.length c3] (26 : TypeId), VB.cells [VV.slice (VA.el 0 [] (0 : Int) 0) p.D.length c1, VV.sl 7 (k + 1), VV.nils] (26 : TypeId), VB.vec (k + 1) (catG k gq fun j => List.take (5) (List.drop (j * (5)) [I (getI p i).j, I (getI p i).s, I (getI p i).p, I ((getI p i).c + n), I (getI p i).o])) (5) 32, VB.vec (k + 1) (catG k gr fun j => List.take (5) (List.drop (j * (5)) [I (getI p i).j, I (getI p i).s, I (getI p i).p, I ((getI p i).c + n), I (getI p i).o])) (5) 32]
 else False
 else False
 else False
 else False
 else False
 else False
 else False
 else bif inK IntKind.i64 ((getI p i).c + n) then
 bif k.beq k then
 bif roomB (k + 1) (40) then
 bif k.beq k then
 bif roomB (k + 1) (40) then
 bif inK IntKind.i64 (i + (1 : Int)) then
 X VEx.normal [VV.slice (VA.el 1 [] (0 : Int) 0) p.T.length c2, I (↑p.T.length : Int), I (i + (1 : Int)), I j, VV.int IntKind.u8 a, VV.int IntKind.u8 b, VV.ptr (VA.own 3 0), VV.bool false, VV.ptr (VA.own 4 0), VV.ptr (VA.own 5 0), I n] [arD p, arT p, arS p, pnB p c1 c2 c3, VB.cells [VV.slice (VA.el 0 [] (0 : Int) 0) p.D.length c1, VV.sl 6 (k + 1), VV.slice (VA.el 2 [] (0 : Int) 0) p.S.length c3] (26 : TypeId), VB.cells [VV.slice (VA.el 0 [] (0 : Int) 0) p.D.length c1, VV.sl 7 (k + 1), VV.nils] (26 : TypeId), VB.vec (k + 1) (catG k gq fun j => List.take (5) (List.drop (j * (5)) [I (getI p i).j, I (getI p i).s, I (getI p i).p, I (getI p i).c, I (getI p i).o])) (5) 32, VB.vec (k + 1) (catG k gr fun j => List.take (5) (List.drop (j * (5)) [I (getI p i).j, I (getI p i).s, I (getI p i).p, I ((getI p i).c + n), I (getI p i).o])) (5) 32]
 else False
 else False
 else False
 else False
 else False
 else False
 else False
 else X (VEx.exit 0) [VV.slice (VA.el 1 [] (0 : Int) 0) p.T.length c2, I (↑p.T.length : Int), I i, I j, VV.int IntKind.u8 a, VV.int IntKind.u8 b, VV.ptr (VA.own 3 0), VV.bool false, VV.ptr (VA.own 4 0), VV.ptr (VA.own 5 0), I n] [arD p, arT p, arS p, pnB p c1 c2 c3, VB.cells [VV.slice (VA.el 0 [] (0 : Int) 0) p.D.length c1, VV.sl 6 k, VV.slice (VA.el 2 [] (0 : Int) 0) p.S.length c3] (26 : TypeId), VB.cells [VV.slice (VA.el 0 [] (0 : Int) 0) p.D.length c1, VV.sl 7 k, VV.nils] (26 : TypeId), VB.vec k gq 5 (32 : TypeId), VB.vec k gr 5 (32 : TypeId)]) := by kernel_rfl

theorem s2_ev (p : Pn) (c1 c2 c3 : Nat) (j a b n : Int) (i : Int) (k m : Nat) (gq gr gs : Nat → List VV) (X : VEx → List VV → List VB → Prop) : codeE Try.prog (callN Try.prog noSpec noL 10 20) (fun _ => none) true 10 296 0 (loopB 2 (bodyOf Try.prog 3)) (dsF2.zip (VF 2 p.S.length c3 j a b n i)) ⟨9, nsF2.zip (BF2 p c1 c2 c3 k m gq gr gs)⟩ (obs 9 dsF2 nsF2 X) =
  (bif decide (i < (↑p.S.length : Int)) then
 bif decide ((0 : Int) ≤ i ∧ i < (↑p.S.length : Int)) then
 (([] : List Int) = [] ∧ (0 : Int) ≤ (0 : Int) + i ∧ (0 : Int) + i < (↑p.S.length : Int)) ∧ bif inK IntKind.i64 ((p.S.getD ((0 : Int) + i).toNat s0).lo + n) then
 bif inK IntKind.i64 ((p.S.getD ((0 : Int) + i).toNat s0).hi + n) then
 bif m.beq m then
 bif roomB (m + 1) (24) then
 bif inK IntKind.i64 (i + (1 : Int)) then
 X VEx.normal [VV.slice (VA.el 2 [] (0 : Int) 0) p.S.length c3, I (↑p.S.length : Int), I (i + (1 : Int)), I j, VV.int IntKind.u8 a, VV.int IntKind.u8 b, VV.ptr (VA.own 3 0), VV.bool false, VV.ptr (VA.own 4 0), VV.ptr (VA.own 5 0), I n] [arD p, arT p, arS p, pnB p c1 c2 c3, VB.cells [VV.slice (VA.el 0 [] (0 : Int) 0) p.D.length c1, VV.sl 6 k, VV.slice (VA.el 2 [] (0 : Int) 0) p.S.length c3] (26 : TypeId), VB.cells [VV.slice (VA.el 0 [] (0 : Int) 0) p.D.length c1, VV.sl 7 k, VV.sl 8 (m + 1)] (26 : TypeId), VB.vec k gq 5 (32 : TypeId), VB.vec k gr 5 (32 : TypeId), VB.vec (m + 1) (catG m gs fun j => List.take (3) (List.drop (j * (3)) [I (p.S.getD ((0 : Int) + i).toNat s0).s, I ((p.S.getD ((0 : Int) + i).toNat s0).lo + n), I ((p.S.getD ((0 : Int) + i).toNat s0).hi + n)])) (3) 36]
 else False
 else False
 else False
 else False
 else False
 else False
 else X (VEx.exit 2) [VV.slice (VA.el 2 [] (0 : Int) 0) p.S.length c3, I (↑p.S.length : Int), I i, I j, VV.int IntKind.u8 a, VV.int IntKind.u8 b, VV.ptr (VA.own 3 0), VV.bool false, VV.ptr (VA.own 4 0), VV.ptr (VA.own 5 0), I n] [arD p, arT p, arS p, pnB p c1 c2 c3, VB.cells [VV.slice (VA.el 0 [] (0 : Int) 0) p.D.length c1, VV.sl 6 k, VV.slice (VA.el 2 [] (0 : Int) 0) p.S.length c3] (26 : TypeId), VB.cells [VV.slice (VA.el 0 [] (0 : Int) 0) p.D.length c1, VV.sl 7 k, VV.sl 8 m] (26 : TypeId), VB.vec k gq 5 (32 : TypeId), VB.vec k gr 5 (32 : TypeId), VB.vec m gs 3 (36 : TypeId)]) := by kernel_rfl


end Go.Sx.Nos

/- nose: the loops of NoseShift. -/

namespace Go.Sx.Nos
open Go Go.Sx Go.Proofs
set_option maxRecDepth 1000000

/-- A list that grows by one. -/
theorem fit_grow {k s : Nat} {ty : TypeId} {G : Nat → List VV} {e : List VV} (he : e.length = s) (h : G k = e) : (VB.vec (k + 1) G s ty).fit (.vec (k + 1) (catG k G fun j => List.take s (List.drop (j * s) e)) s ty) := by
  refine ⟨rfl, rfl, rfl, fun j hj => ?_⟩
  simp only [catG]
  by_cases hjk : j < k
  · rw [blt_t hjk]; rfl
  · rw [blt_f (by omega)]
    have : j = k := by omega
    subst this
    rw [h, Nat.sub_self, Nat.zero_mul, List.drop_zero, ← he, List.take_length]
    rfl

theorem room40 {n : Nat} (h : n ≤ 1000) : roomB n 40 = true := by
  unfold roomB
  simp only [Bool.and_eq_true, Nat.ble_eq]
  omega
theorem room24 {n : Nat} (h : n ≤ 1000) : roomB n 24 = true := by
  unfold roomB
  simp only [Bool.and_eq_true, Nat.ble_eq]
  omega

theorem tG_map (f : Ts → Ts) {T : List Ts} {k : Nat} (h : k < T.length) : tG (T.map f) k = tsL (f (T.getD k t0)) := by
  unfold tG
  rw [List.getD_eq_getElem?_getD, List.getElem?_map, List.getD_eq_getElem?_getD, List.getElem?_eq_getElem h]
  rfl
theorem sG_map (f : Sd → Sd) {S : List Sd} {k : Nat} (h : k < S.length) : sG (S.map f) k = sdL (f (S.getD k s0)) := by
  unfold sG
  rw [List.getD_eq_getElem?_getD, List.getElem?_map, List.getD_eq_getElem?_getD, List.getElem?_eq_getElem h]
  rfl

/-- One judge's scores, raised; all, raised. -/
def fq (j n : Int) (t : Ts) : Int := if t.j = j then n else 0
def qP (p : Pn) (j n : Int) : Pn := ⟨p.D, p.T.map (rsT (fq j n)), p.S⟩
def rP (p : Pn) (n : Int) : Pn := rsP (fun _ => n) n p

theorem qP_eq (p : Pn) (j n : Int) : qP p j n = rsP (fq j n) 0 p := by
  unfold qP rsP
  congr 1
  have : rsS 0 = id := by funext s; simp [rsS]
  rw [this, List.map_id]

section
variable {p : Pn} {c1 c2 c3 : Nat} {j a b n : Int}

/-- The loop over the tastings. -/
def lF0s (p : Pn) (c1 c2 c3 : Nat) (j a b n : Int) : LT := fun lock tt h K =>
  FitP lock h tt ⟨8, nsF0.zip (BF0 p c1 c2 c3 0 (tG (qP p j n).T) (tG (rP p n).T))⟩ (dsF0.zip (VF 1 p.T.length c2 j a b n 0)) ∧ (PnOk p ∧ -32768 ≤ n ∧ n ≤ 32767) ∧
    K .normal (dsF0.zip (VF 1 p.T.length c2 j a b n p.T.length)) ⟨8, nsF0.zip (BF0 p c1 c2 c3 p.T.length (tG (qP p j n).T) (tG (rP p n).T))⟩

theorem lF0s_ok : LSound Try.prog true (.block 0 (.loop (loopB 0 (bodyOf Try.prog 3)))) 296 (lF0s p c1 c2 c3 j a b n) := by
  by_cases hh : PnOk p ∧ -32768 ≤ n ∧ n ≤ 32767
  · obtain ⟨hp, hn⟩ := hh
    have hT := hp.t
    refine loop_row hmix good0 (un := 10) (ds := dsF0) (ns := nsF0) (nx := 8) (fun k : Nat => VF 1 p.T.length c2 j a b n k) (fun k => BF0 p c1 c2 c3 k (tG (qP p j n).T) (tG (rP p n).T)) (fun k => k ≤ p.T.length) (fun k => p.T.length - k)
      (fun _ e vs bs => e = .exit 0 ∧ vs = VF 1 p.T.length c2 j a b n p.T.length ∧ bs = BF0 p c1 c2 c3 p.T.length (tG (qP p j n).T) (tG (rP p n).T)) noL_ok ?_ ?_
    · intro k hk
      refine cast (s0_ev p c1 c2 c3 j a b n k k _ _ _).symm ?_
      have hgi : getI p k = p.T.getD k t0 := by unfold getI; rw [zero_toNat]
      rw [hgi]
      by_cases h : k < p.T.length
      · obtain ⟨ht, _⟩ := getT h
        obtain ⟨_, _, _, ⟨s0, s1⟩, _⟩ := hp.ts _ ht
        have er : tG (rP p n).T k = [I (p.T.getD k t0).j, I (p.T.getD k t0).s, I (p.T.getD k t0).p, I ((p.T.getD k t0).c + n), I (p.T.getD k t0).o] := tG_map _ h
        refine cond_dk (by omega) (cond_dk ⟨by omega, by omega⟩ ⟨⟨rfl, by omega, by omega⟩, ?_⟩)
        refine cond_d (fun hj => cond_r (by omega) (cond_r (by omega) (cond_k (beq_t rfl) (cond_k (room40 (by omega)) (cond_k (beq_t rfl) (cond_k (room40 (by omega)) (cond_r (by omega) ?_))))))) (fun hj => cond_r (by omega) (cond_k (beq_t rfl) (cond_k (room40 (by omega)) (cond_k (beq_t rfl) (cond_k (room40 (by omega)) (cond_r (by omega) ?_))))))
        · have eq : tG (qP p j n).T k = [I (p.T.getD k t0).j, I (p.T.getD k t0).s, I (p.T.getD k t0).p, I ((p.T.getD k t0).c + n), I (p.T.getD k t0).o] := by
            rw [show tG (qP p j n).T k = _ from tG_map _ h]; unfold rsT fq; rw [if_pos hj]; rfl
          exact ⟨k + 1, by omega, by dsimp only; omega, vst (V := VF 1 p.T.length c2 j a b n) k, ⟨VB.fit_refl _, VB.fit_refl _, VB.fit_refl _, VB.fit_refl _, VB.fit_refl _, VB.fit_refl _, fit_grow rfl eq, fit_grow rfl er, trivial⟩, fun _ _ _ ho => ho⟩
        · have eq : tG (qP p j n).T k = [I (p.T.getD k t0).j, I (p.T.getD k t0).s, I (p.T.getD k t0).p, I (p.T.getD k t0).c, I (p.T.getD k t0).o] := by
            rw [show tG (qP p j n).T k = _ from tG_map _ h]; unfold rsT fq; rw [if_neg hj, Int.add_zero]; rfl
          exact ⟨k + 1, by omega, by dsimp only; omega, vst (V := VF 1 p.T.length c2 j a b n) k, ⟨VB.fit_refl _, VB.fit_refl _, VB.fit_refl _, VB.fit_refl _, VB.fit_refl _, VB.fit_refl _, fit_grow rfl eq, fit_grow rfl er, trivial⟩, fun _ _ _ ho => ho⟩
      · obtain rfl : k = p.T.length := by omega
        exact cond_d (fun h => by omega) (fun _ => ⟨rfl, rfl, rfl⟩)
    · rintro lock tt h K ⟨hf, _, hK⟩
      refine ⟨0, hf, Nat.zero_le _, ?_⟩
      rintro e vs bs ⟨rfl, rfl, rfl⟩
      exact hK
  · rintro lock tt h K ⟨_, hc, _⟩
    exact (hh hc).elim

abbrev rdB (p : Pn) (c1 : Nat) (x y : VV) : VB := .cells [.slice (.el 0 [] 0 0) p.D.length c1, x, y] 26
abbrev q0B (p : Pn) (c1 c3 : Nat) (x : VV) : VB := .cells [.slice (.el 0 [] 0 0) p.D.length c1, x, .slice (.el 2 [] 0 0) p.S.length c3] 26

def lF0a (p : Pn) (c1 c2 c3 : Nat) (j a b n : Int) : LT := fun lock tt h K =>
  FitP lock h tt ⟨7, [0, 1, 2, 3, 4, 5, 6].zip [arD p, arT p, arS p, pnB p c1 c2 c3, sqB p c1 c3 0, rdB p c1 .nils .nils, .vec 0 (tG (qP p j n).T) 5 32]⟩ (dsF0.zip (VF 1 p.T.length c2 j a b n 0)) ∧ (PnOk p ∧ -32768 ≤ n ∧ n ≤ 32767) ∧
    K .normal (dsF0.zip (VF 1 p.T.length c2 j a b n p.T.length)) ⟨8, nsF0.zip (BF0 p c1 c2 c3 p.T.length (tG (qP p j n).T) (tG (rP p n).T))⟩

theorem lF0a_ok : LSound Try.prog true (.block 0 (.loop (loopB 0 (bodyOf Try.prog 3)))) 296 (lF0a p c1 c2 c3 j a b n) :=
  ghost_cells_row (m := 5) (nx := 7) (cs := [.slice (.el 0 [] 0 0) p.D.length c1, .nils, .nils]) (cs' := [.slice (.el 0 [] 0 0) p.D.length c1, .sl 7 0, .nils]) (ty := 26)
    (bs := [0, 1, 2, 3, 4, 5, 6].zip [arD p, arT p, arS p, pnB p c1 c2 c3, sqB p c1 c3 0, rdB p c1 .nils .nils, .vec 0 (tG (qP p j n).T) 5 32]) (t0 := dsF0.zip (VF 1 p.T.length c2 j a b n 0))
    (tG (rP p n).T) 5 32 lF0s_ok rfl (fun R xs hv hx => by
      obtain ⟨a0, _, k0, ⟨a1, _, k1, k2, rfl⟩, rfl⟩ := hx
      exact ⟨_, _, k0, ⟨_, _, nil_ghost hv k1, k2, rfl⟩, rfl⟩) (by
      rintro lock t h K ⟨hf, hi, hK⟩
      exact ⟨hf, ⟨⟨rfl, rfl, VB.fit_refl _, VB.fit_refl _, VB.fit_refl _, VB.fit_refl _, VB.fit_refl _, VB.fit_refl _, VB.fit_refl _, VB.fit_refl _, trivial⟩, rfl, rfl, rfl, rfl, rfl, rfl, rfl, rfl, rfl, rfl, rfl, trivial⟩, hi, hK⟩)

def lF0 (p : Pn) (c1 c2 c3 : Nat) (j a b n : Int) : LT := fun lock tt h K =>
  FitP lock h tt ⟨6, [0, 1, 2, 3, 4, 5].zip [arD p, arT p, arS p, pnB p c1 c2 c3, q0B p c1 c3 .nils, rdB p c1 .nils .nils]⟩ (dsF0.zip (VF 1 p.T.length c2 j a b n 0)) ∧ (PnOk p ∧ -32768 ≤ n ∧ n ≤ 32767) ∧
    K .normal (dsF0.zip (VF 1 p.T.length c2 j a b n p.T.length)) ⟨8, nsF0.zip (BF0 p c1 c2 c3 p.T.length (tG (qP p j n).T) (tG (rP p n).T))⟩

theorem lF0_ok : LSound Try.prog true (.block 0 (.loop (loopB 0 (bodyOf Try.prog 3)))) 296 (lF0 p c1 c2 c3 j a b n) :=
  ghost_cells_row (m := 4) (nx := 6) (cs := [.slice (.el 0 [] 0 0) p.D.length c1, .nils, .slice (.el 2 [] 0 0) p.S.length c3]) (cs' := [.slice (.el 0 [] 0 0) p.D.length c1, .sl 6 0, .slice (.el 2 [] 0 0) p.S.length c3]) (ty := 26)
    (bs := [0, 1, 2, 3, 4, 5].zip [arD p, arT p, arS p, pnB p c1 c2 c3, q0B p c1 c3 .nils, rdB p c1 .nils .nils]) (t0 := dsF0.zip (VF 1 p.T.length c2 j a b n 0))
    (tG (qP p j n).T) 5 32 lF0a_ok rfl (fun R xs hv hx => by
      obtain ⟨a0, _, k0, ⟨a1, _, k1, k2, rfl⟩, rfl⟩ := hx
      exact ⟨_, _, k0, ⟨_, _, nil_ghost hv k1, k2, rfl⟩, rfl⟩) (by
      rintro lock t h K ⟨hf, hi, hK⟩
      exact ⟨hf, ⟨⟨rfl, rfl, VB.fit_refl _, VB.fit_refl _, VB.fit_refl _, VB.fit_refl _, VB.fit_refl _, VB.fit_refl _, VB.fit_refl _, trivial⟩, rfl, rfl, rfl, rfl, rfl, rfl, rfl, rfl, rfl, rfl, rfl, trivial⟩, hi, hK⟩)

/-- The loop over the standards. -/
def lF2s (p : Pn) (c1 c2 c3 : Nat) (j a b n : Int) : LT := fun lock tt h K =>
  FitP lock h tt ⟨9, nsF2.zip (BF2 p c1 c2 c3 p.T.length 0 (tG (qP p j n).T) (tG (rP p n).T) (sG (rP p n).S))⟩ (dsF2.zip (VF 2 p.S.length c3 j a b n 0)) ∧ (PnOk p ∧ -32768 ≤ n ∧ n ≤ 32767) ∧
    K .normal (dsF2.zip (VF 2 p.S.length c3 j a b n p.S.length)) ⟨9, nsF2.zip (BF2 p c1 c2 c3 p.T.length p.S.length (tG (qP p j n).T) (tG (rP p n).T) (sG (rP p n).S))⟩

theorem lF2s_ok : LSound Try.prog true (.block 2 (.loop (loopB 2 (bodyOf Try.prog 3)))) 296 (lF2s p c1 c2 c3 j a b n) := by
  by_cases hh : PnOk p ∧ -32768 ≤ n ∧ n ≤ 32767
  · obtain ⟨hp, hn⟩ := hh
    have hS := hp.s
    refine loop_row hmix good0 (un := 10) (ds := dsF2) (ns := nsF2) (nx := 9) (fun k : Nat => VF 2 p.S.length c3 j a b n k) (fun k => BF2 p c1 c2 c3 p.T.length k (tG (qP p j n).T) (tG (rP p n).T) (sG (rP p n).S)) (fun k => k ≤ p.S.length) (fun k => p.S.length - k)
      (fun _ e vs bs => e = .exit 2 ∧ vs = VF 2 p.S.length c3 j a b n p.S.length ∧ bs = BF2 p c1 c2 c3 p.T.length p.S.length (tG (qP p j n).T) (tG (rP p n).T) (sG (rP p n).S)) noL_ok ?_ ?_
    · intro k hk
      refine cast (s2_ev p c1 c2 c3 j a b n k p.T.length k _ _ _ _).symm ?_
      rw [zero_toNat]
      by_cases h : k < p.S.length
      · obtain ⟨hs, _⟩ := getS h
        obtain ⟨_, l0, l1, l2⟩ := hp.sd _ hs
        have es : sG (rP p n).S k = [I (p.S.getD k s0).s, I ((p.S.getD k s0).lo + n), I ((p.S.getD k s0).hi + n)] := sG_map _ h
        refine cond_dk (by omega) (cond_dk ⟨by omega, by omega⟩ ⟨⟨rfl, by omega, by omega⟩, ?_⟩)
        refine cond_r (by omega) (cond_r (by omega) (cond_k (beq_t rfl) (cond_k (room24 (by omega)) (cond_r (by omega) ?_))))
        exact ⟨k + 1, by omega, by dsimp only; omega, vst (V := VF 2 p.S.length c3 j a b n) k, ⟨VB.fit_refl _, VB.fit_refl _, VB.fit_refl _, VB.fit_refl _, VB.fit_refl _, VB.fit_refl _, VB.fit_refl _, VB.fit_refl _, fit_grow rfl es, trivial⟩, fun _ _ _ ho => ho⟩
      · obtain rfl : k = p.S.length := by omega
        exact cond_d (fun h => by omega) (fun _ => ⟨rfl, rfl, rfl⟩)
    · rintro lock tt h K ⟨hf, _, hK⟩
      refine ⟨0, hf, Nat.zero_le _, ?_⟩
      rintro e vs bs ⟨rfl, rfl, rfl⟩
      exact hK
  · rintro lock tt h K ⟨_, hc, _⟩
    exact (hh hc).elim

def lF2 (p : Pn) (c1 c2 c3 : Nat) (j a b n : Int) : LT := fun lock tt h K =>
  FitP lock h tt ⟨8, nsF0.zip (BF0 p c1 c2 c3 p.T.length (tG (qP p j n).T) (tG (rP p n).T))⟩ (dsF2.zip (VF 2 p.S.length c3 j a b n 0)) ∧ (PnOk p ∧ -32768 ≤ n ∧ n ≤ 32767) ∧
    K .normal (dsF2.zip (VF 2 p.S.length c3 j a b n p.S.length)) ⟨9, nsF2.zip (BF2 p c1 c2 c3 p.T.length p.S.length (tG (qP p j n).T) (tG (rP p n).T) (sG (rP p n).S))⟩

theorem lF2_ok : LSound Try.prog true (.block 2 (.loop (loopB 2 (bodyOf Try.prog 3)))) 296 (lF2 p c1 c2 c3 j a b n) :=
  ghost_cells_row (m := 5) (nx := 8) (cs := [.slice (.el 0 [] 0 0) p.D.length c1, .sl 7 p.T.length, .nils]) (cs' := [.slice (.el 0 [] 0 0) p.D.length c1, .sl 7 p.T.length, .sl 8 0]) (ty := 26)
    (bs := nsF0.zip (BF0 p c1 c2 c3 p.T.length (tG (qP p j n).T) (tG (rP p n).T))) (t0 := dsF2.zip (VF 2 p.S.length c3 j a b n 0))
    (sG (rP p n).S) 3 36 lF2s_ok rfl (fun R xs hv hx => by
      obtain ⟨a0, _, k0, ⟨a1, _, k1, ⟨a2, _, k2, k3, rfl⟩, rfl⟩, rfl⟩ := hx
      exact ⟨_, _, k0, ⟨_, _, k1, ⟨_, _, nil_ghost hv k2, k3, rfl⟩, rfl⟩, rfl⟩) (by
      rintro lock t h K ⟨hf, hi, hK⟩
      exact ⟨hf, ⟨⟨rfl, rfl, VB.fit_refl _, VB.fit_refl _, VB.fit_refl _, VB.fit_refl _, VB.fit_refl _, VB.fit_refl _, VB.fit_refl _, VB.fit_refl _, VB.fit_refl _, trivial⟩, rfl, rfl, rfl, rfl, rfl, rfl, rfl, rfl, rfl, rfl, rfl, trivial⟩, hi, hK⟩)
end
end Go.Sx.Nos

/- nose: NoseShift, evaluated. -/

namespace Go.Sx.Nos
open Go Go.Sx Go.Proofs
set_option maxRecDepth 1000000

set_option maxRecDepth 1000000

abbrev z32 : VB := .cells [I 0, I 0, I 0, I 0, I 0] 32
abbrev sD (p : Pn) (c : Nat) : VV := .slice (.el 0 [] 0 0) p.D.length c
abbrev sT1 (p : Pn) (c : Nat) : VV := .slice (.el 1 [] 0 0) p.T.length c
abbrev sS (p : Pn) (c : Nat) : VV := .slice (.el 2 [] 0 0) p.S.length c
def dsF4 : List Nat := [226, 227, 228, 1, 5, 10, 11, 12, 13]
def VF4 (m c : Nat) (j n : Int) (i : Int) : List VV := [.slice (.el 1 [] 0 0) m c, I m, I i, I j, .ptr (.own 3 0), .bool false, .ptr (.own 4 0), .ptr (.own 5 0), I n]
noncomputable def BF4 (p : Pn) (c1 c2 c3 : Nat) (j n : Int) : List VB := BF2 p c1 c2 c3 p.T.length p.S.length (tG (qP p j n).T) (tG (rP p n).T) (sG (rP p n).S)
noncomputable def lF4 (p : Pn) (c1 c2 c3 : Nat) (j n : Int) : LT := fun lock tt h K =>
  FitP lock h tt ⟨15, nsF2.zip (BF4 p c1 c2 c3 j n)⟩ (dsF4.zip (VF4 p.T.length c2 j n 0)) ∧ (PnOk p ∧ (-32768 ≤ n ∧ n ≤ 32767) ∧ PnOk (qP p j n) ∧ PnOk (rP p n)) ∧
    K .normal (dsF4.zip (VF4 p.T.length c2 j n p.T.length)) ⟨15, nsF2.zip (BF4 p c1 c2 c3 j n)⟩
theorem s4_ev (p : Pn) (c1 c2 c3 : Nat) (j n : Int) (i : Int) (X : VEx → List VV → List VB → Prop) : codeE Try.prog (callN Try.prog (tabS [biaT]) noL 10 20) (fun _ => none) true 10 296 0 (loopB 4 (bodyOf Try.prog 3)) (dsF4.zip (VF4 p.T.length c2 j n i)) ⟨15, nsF2.zip (BF4 p c1 c2 c3 j n)⟩ (obs 15 dsF4 nsF2 X) =
  (bif decide (i < (↑p.T.length : Int)) then
 bif decide ((0 : Int) ≤ i ∧ i < (↑p.T.length : Int)) then
 (([] : List Int) = [] ∧ (0 : Int) ≤ (0 : Int) + i ∧ (0 : Int) + i < (↑p.T.length : Int)) ∧ ∃ p_1, pnIs (VH.mk (16) ((15, VB.cells [I (getI p i).j, I (getI p i).s, I (getI p i).p, I (getI p i).c, I (getI p i).o] 32) :: (15, VB.cells [I 0, I 0, I 0, I 0, I 0] 32) :: nsF2.zip (BF4 p c1 c2 c3 j n))) p_1 (sD p c1) (sT1 p c2) (sS p c3) ∧ True ∧ ∃ p_2, pnIs (VH.mk (17) ((16, VB.cells [I (biaF p_1 ((getI p i).j) ((getI p i).p)).fst, I (biaF p_1 ((getI p i).j) ((getI p i).p)).snd.fst] 34) :: (16, VB.cells [I 0, I 0] 34) :: (15, .cells (tsL (getI p i)) 32) :: (15, z32) :: nsF2.zip (BF4 p c1 c2 c3 j n))) p_2 (sD p c1) (VV.sl 6 p.T.length) (sS p c3) ∧ True ∧ ∃ p_3, pnIs (VH.mk (18) ((17, VB.cells [I (biaF p_2 ((getI p i).j) ((getI p i).p)).fst, I (biaF p_2 ((getI p i).j) ((getI p i).p)).snd.fst] 34) :: (17, VB.cells [I 0, I 0] 34) :: (16, VB.cells [I (biaF p_1 ((getI p i).j) ((getI p i).p)).fst, I (biaF p_1 ((getI p i).j) ((getI p i).p)).snd.fst] 34) :: (16, VB.cells [I 0, I 0] 34) :: (15, .cells (tsL (getI p i)) 32) :: (15, z32) :: nsF2.zip (BF4 p c1 c2 c3 j n))) p_3 (sD p c1) (VV.sl 7 p.T.length) (VV.sl 8 p.S.length) ∧ True ∧ bif decide ((getI p i).j = j) then
 bif !decide ((biaF p_1 ((getI p i).j) ((getI p i).p)).snd.snd = (biaF p_2 ((getI p i).j) ((getI p i).p)).snd.snd) then
 X VEx.ret (VF4 p.T.length c2 j n i) (BF4 p c1 c2 c3 j n)
 else bif !decide ((biaF p_1 ((getI p i).j) ((getI p i).p)).snd.snd = (biaF p_3 ((getI p i).j) ((getI p i).p)).snd.snd) then
 X VEx.ret (VF4 p.T.length c2 j n i) (BF4 p c1 c2 c3 j n)
 else bif decide ((biaF p_1 ((getI p i).j) ((getI p i).p)).snd.snd = (0 : Int)) then
 bif inK IntKind.i64 ((biaF p_1 ((getI p i).j) ((getI p i).p)).fst + n) then
 bif inK IntKind.i64 ((biaF p_1 ((getI p i).j) ((getI p i).p)).snd.fst + n) then
 bif !(decide ((biaF p_2 ((getI p i).j) ((getI p i).p)).fst = (biaF p_1 ((getI p i).j) ((getI p i).p)).fst + n) && (decide ((biaF p_2 ((getI p i).j) ((getI p i).p)).snd.fst = (biaF p_1 ((getI p i).j) ((getI p i).p)).snd.fst + n) && true)) then
 X VEx.ret (VF4 p.T.length c2 j n i) (BF4 p c1 c2 c3 j n)
 else bif !(decide ((biaF p_3 ((getI p i).j) ((getI p i).p)).fst = (biaF p_1 ((getI p i).j) ((getI p i).p)).fst) && (decide ((biaF p_3 ((getI p i).j) ((getI p i).p)).snd.fst = (biaF p_1 ((getI p i).j) ((getI p i).p)).snd.fst) && true)) then
 X VEx.ret (VF4 p.T.length c2 j n i) (BF4 p c1 c2 c3 j n)
 else bif inK IntKind.i64 (i + (1 : Int)) then
 X VEx.normal (VF4 p.T.length c2 j n (i + 1)) (BF4 p c1 c2 c3 j n)
 else False
 else False
 else False
 else bif inK IntKind.i64 (i + (1 : Int)) then
 X VEx.normal (VF4 p.T.length c2 j n (i + 1)) (BF4 p c1 c2 c3 j n)
 else False
 else bif !decide ((biaF p_1 ((getI p i).j) ((getI p i).p)).snd.snd = (biaF p_2 ((getI p i).j) ((getI p i).p)).snd.snd) then
 X VEx.ret (VF4 p.T.length c2 j n i) (BF4 p c1 c2 c3 j n)
 else bif !decide ((biaF p_1 ((getI p i).j) ((getI p i).p)).snd.snd = (biaF p_3 ((getI p i).j) ((getI p i).p)).snd.snd) then
 X VEx.ret (VF4 p.T.length c2 j n i) (BF4 p c1 c2 c3 j n)
 else bif decide ((biaF p_1 ((getI p i).j) ((getI p i).p)).snd.snd = (0 : Int)) then
 bif inK IntKind.i64 ((biaF p_1 ((getI p i).j) ((getI p i).p)).fst + (0 : Int)) then
 bif inK IntKind.i64 ((biaF p_1 ((getI p i).j) ((getI p i).p)).snd.fst + (0 : Int)) then
 bif !(decide ((biaF p_2 ((getI p i).j) ((getI p i).p)).fst = (biaF p_1 ((getI p i).j) ((getI p i).p)).fst + (0 : Int)) && (decide ((biaF p_2 ((getI p i).j) ((getI p i).p)).snd.fst = (biaF p_1 ((getI p i).j) ((getI p i).p)).snd.fst + (0 : Int)) && true)) then
 X VEx.ret (VF4 p.T.length c2 j n i) (BF4 p c1 c2 c3 j n)
 else bif !(decide ((biaF p_3 ((getI p i).j) ((getI p i).p)).fst = (biaF p_1 ((getI p i).j) ((getI p i).p)).fst) && (decide ((biaF p_3 ((getI p i).j) ((getI p i).p)).snd.fst = (biaF p_1 ((getI p i).j) ((getI p i).p)).snd.fst) && true)) then
 X VEx.ret (VF4 p.T.length c2 j n i) (BF4 p c1 c2 c3 j n)
 else bif inK IntKind.i64 (i + (1 : Int)) then
 X VEx.normal (VF4 p.T.length c2 j n (i + 1)) (BF4 p c1 c2 c3 j n)
 else False
 else False
 else False
 else bif inK IntKind.i64 (i + (1 : Int)) then
 X VEx.normal (VF4 p.T.length c2 j n (i + 1)) (BF4 p c1 c2 c3 j n)
 else False
 else False
 else X (VEx.exit 4) (VF4 p.T.length c2 j n i) (BF4 p c1 c2 c3 j n)) := by kernel_rfl

theorem shift_ev (p : Pn) (c1 c2 c3 : Nat) (j n a b : Int) (Q : VRes → Prop) : callN Try.prog (tabS [greatT, refT, alvT, valT, difT]) (atF 3 [(0, lF0 p c1 c2 c3 j a b n), (2, lF2 p c1 c2 c3 j a b n), (4, lF4 p c1 c2 c3 j n)]) 10 20 0 (.fn 3) [.agg (pnV p c1 c2 c3), I j, .int .i16 n, .int .u8 a, .int .u8 b] (pnH p) (fun r _ => Q r) =
  (∃ p_1, pnIs (VH.mk (4) [(3, VB.cells [VV.slice (VA.el 0 [] (0 : Int) 0) p.D.length c1, VV.slice (VA.el 1 [] (0 : Int) 0) p.T.length c2, VV.slice (VA.el 2 [] (0 : Int) 0) p.S.length c3] 26), (0, arD p), (1, arT p), (2, arS p)]) p_1 (sD p c1) (sT1 p c2) (sS p c3) ∧ True ∧ bif greatB p_1 ((14 : Int)) then
 Q (VRes.ret (VV.bool true))
 else ∃ p_2, pnIs (VH.mk (4) [(3, VB.cells [VV.slice (VA.el 0 [] (0 : Int) 0) p.D.length c1, VV.slice (VA.el 1 [] (0 : Int) 0) p.T.length c2, VV.slice (VA.el 2 [] (0 : Int) 0) p.S.length c3] 26), (0, arD p), (1, arT p), (2, arS p)]) p_2 (sD p c1) (sT1 p c2) (sS p c3) ∧ True ∧ bif !panB p_2 then
 Q (VRes.ret (VV.bool true))
 else bif inK IntKind.i64 n then
 FitP 0 (VH.mk 6 ([0, 1, 2, 3, 4, 5].zip [arD p, arT p, arS p, pnB p c1 c2 c3, q0B p c1 c3 VV.nils, rdB p c1 VV.nils VV.nils])) (dsF0.zip (VF 1 p.T.length c2 j a b n (0 : Int))) (VH.mk 6 ([0, 1, 2, 3, 4, 5].zip [arD p, arT p, arS p, pnB p c1 c2 c3, q0B p c1 c3 VV.nils, rdB p c1 VV.nils VV.nils])) (dsF0.zip (VF 1 p.T.length c2 j a b n (0 : Int))) ∧ (PnOk p ∧ (-32768 : Int) ≤ n ∧ n ≤ (32767 : Int)) ∧ FitP 0 (VH.mk 8 (nsF0.zip (BF0 p c1 c2 c3 p.T.length (tG (qP p j n).T) (tG (rP p n).T)))) (dsF2.zip (VF 2 p.S.length c3 j a b n (0 : Int))) (VH.mk 8 (nsF0.zip (BF0 p c1 c2 c3 p.T.length (tG (qP p j n).T) (tG (rP p n).T)))) (dsF2.zip (VF 2 p.S.length c3 j a b n (0 : Int))) ∧ (PnOk p ∧ (-32768 : Int) ≤ n ∧ n ≤ (32767 : Int)) ∧ ∃ p_3, pnIs (VH.mk 9 (nsF2.zip (BF2 p c1 c2 c3 p.T.length p.S.length (tG (qP p j n).T) (tG (rP p n).T) (sG (rP p n).S)))) p_3 (sD p c1) (VV.sl 6 p.T.length) (sS p c3) ∧ True ∧ bif !panB p_3 then
 Q (VRes.ret (VV.bool true))
 else ∃ p_4, pnIs (VH.mk 9 (nsF2.zip (BF2 p c1 c2 c3 p.T.length p.S.length (tG (qP p j n).T) (tG (rP p n).T) (sG (rP p n).S)))) p_4 (sD p c1) (VV.sl 7 p.T.length) (VV.sl 8 p.S.length) ∧ True ∧ bif !panB p_4 then
 Q (VRes.ret (VV.bool true))
 else bif inK IntKind.i64 a then
 bif inK IntKind.i64 b then
 ∃ p_5, pnIs (VH.mk 9 (nsF2.zip (BF2 p c1 c2 c3 p.T.length p.S.length (tG (qP p j n).T) (tG (rP p n).T) (sG (rP p n).S)))) p_5 (sD p c1) (sT1 p c2) (sS p c3) ∧ n64 (g0 [remZ a (16 : Int)] 0) ∧ ∃ p_6, pnIs (VH.mk (10) ((9, VB.cells [I (valF p_5 (remZ a (16 : Int))).fst, I (valF p_5 (remZ a (16 : Int))).snd.fst] 34) :: (9, VB.cells [I 0, I 0] 34) :: nsF2.zip (BF2 p c1 c2 c3 p.T.length p.S.length (tG (qP p j n).T) (tG (rP p n).T) (sG (rP p n).S)))) p_6 (sD p c1) (VV.sl 6 p.T.length) (sS p c3) ∧ n64 (g0 [remZ a (16 : Int)] 0) ∧ ∃ p_7, pnIs (VH.mk (11) ((10, VB.cells [I (valF p_6 (remZ a (16 : Int))).fst, I (valF p_6 (remZ a (16 : Int))).snd.fst] 34) :: (10, VB.cells [I 0, I 0] 34) :: (9, VB.cells [I (valF p_5 (remZ a (16 : Int))).fst, I (valF p_5 (remZ a (16 : Int))).snd.fst] 34) :: (9, VB.cells [I 0, I 0] 34) :: nsF2.zip (BF2 p c1 c2 c3 p.T.length p.S.length (tG (qP p j n).T) (tG (rP p n).T) (sG (rP p n).S)))) p_7 (sD p c1) (VV.sl 7 p.T.length) (VV.sl 8 p.S.length) ∧ n64 (g0 [remZ a (16 : Int)] 0) ∧ ∃ p_8, pnIs (VH.mk (12) ((11, VB.cells [I (valF p_7 (remZ a (16 : Int))).fst, I (valF p_7 (remZ a (16 : Int))).snd.fst] 34) :: (11, VB.cells [I 0, I 0] 34) :: (10, VB.cells [I (valF p_6 (remZ a (16 : Int))).fst, I (valF p_6 (remZ a (16 : Int))).snd.fst] 34) :: (10, VB.cells [I 0, I 0] 34) :: (9, VB.cells [I (valF p_5 (remZ a (16 : Int))).fst, I (valF p_5 (remZ a (16 : Int))).snd.fst] 34) :: (9, VB.cells [I 0, I 0] 34) :: nsF2.zip (BF2 p c1 c2 c3 p.T.length p.S.length (tG (qP p j n).T) (tG (rP p n).T) (sG (rP p n).S)))) p_8 (sD p c1) (sT1 p c2) (sS p c3) ∧ (n64 (g0 [remZ a (16 : Int), remZ b (16 : Int)] 0) ∧ n64 (g0 [remZ a (16 : Int), remZ b (16 : Int)] 1)) ∧ ∃ p_9, pnIs (VH.mk (13) ((12, VB.cells [I (difF p_8 (remZ a (16 : Int)) (remZ b (16 : Int))).fst, I (difF p_8 (remZ a (16 : Int)) (remZ b (16 : Int))).snd.fst] 34) :: (12, VB.cells [I 0, I 0] 34) :: (11, VB.cells [I (valF p_7 (remZ a (16 : Int))).fst, I (valF p_7 (remZ a (16 : Int))).snd.fst] 34) :: (11, VB.cells [I 0, I 0] 34) :: (10, VB.cells [I (valF p_6 (remZ a (16 : Int))).fst, I (valF p_6 (remZ a (16 : Int))).snd.fst] 34) :: (10, VB.cells [I 0, I 0] 34) :: (9, VB.cells [I (valF p_5 (remZ a (16 : Int))).fst, I (valF p_5 (remZ a (16 : Int))).snd.fst] 34) :: (9, VB.cells [I 0, I 0] 34) :: nsF2.zip (BF2 p c1 c2 c3 p.T.length p.S.length (tG (qP p j n).T) (tG (rP p n).T) (sG (rP p n).S)))) p_9 (sD p c1) (VV.sl 6 p.T.length) (sS p c3) ∧ (n64 (g0 [remZ a (16 : Int), remZ b (16 : Int)] 0) ∧ n64 (g0 [remZ a (16 : Int), remZ b (16 : Int)] 1)) ∧ ∃ p_10, pnIs (VH.mk (14) ((13, VB.cells [I (difF p_9 (remZ a (16 : Int)) (remZ b (16 : Int))).fst, I (difF p_9 (remZ a (16 : Int)) (remZ b (16 : Int))).snd.fst] 34) :: (13, VB.cells [I 0, I 0] 34) :: (12, VB.cells [I (difF p_8 (remZ a (16 : Int)) (remZ b (16 : Int))).fst, I (difF p_8 (remZ a (16 : Int)) (remZ b (16 : Int))).snd.fst] 34) :: (12, VB.cells [I 0, I 0] 34) :: (11, VB.cells [I (valF p_7 (remZ a (16 : Int))).fst, I (valF p_7 (remZ a (16 : Int))).snd.fst] 34) :: (11, VB.cells [I 0, I 0] 34) :: (10, VB.cells [I (valF p_6 (remZ a (16 : Int))).fst, I (valF p_6 (remZ a (16 : Int))).snd.fst] 34) :: (10, VB.cells [I 0, I 0] 34) :: (9, VB.cells [I (valF p_5 (remZ a (16 : Int))).fst, I (valF p_5 (remZ a (16 : Int))).snd.fst] 34) :: (9, VB.cells [I 0, I 0] 34) :: nsF2.zip (BF2 p c1 c2 c3 p.T.length p.S.length (tG (qP p j n).T) (tG (rP p n).T) (sG (rP p n).S)))) p_10 (sD p c1) (VV.sl 7 p.T.length) (VV.sl 8 p.S.length) ∧ (n64 (g0 [remZ a (16 : Int), remZ b (16 : Int)] 0) ∧ n64 (g0 [remZ a (16 : Int), remZ b (16 : Int)] 1)) ∧ bif !(decide ((valF p_5 (remZ a (16 : Int))).fst = (valF p_6 (remZ a (16 : Int))).fst) && (decide ((valF p_5 (remZ a (16 : Int))).snd.fst = (valF p_6 (remZ a (16 : Int))).snd.fst) && true)) then
 Q (VRes.ret (VV.bool false))
 else bif !decide ((valF p_5 (remZ a (16 : Int))).snd.snd = (valF p_6 (remZ a (16 : Int))).snd.snd) then
 Q (VRes.ret (VV.bool false))
 else bif !decide ((valF p_7 (remZ a (16 : Int))).snd.snd = (valF p_5 (remZ a (16 : Int))).snd.snd) then
 Q (VRes.ret (VV.bool false))
 else bif decide ((valF p_5 (remZ a (16 : Int))).snd.snd = (0 : Int)) then
 bif inK IntKind.i64 ((valF p_5 (remZ a (16 : Int))).fst + n) then
 bif inK IntKind.i64 ((valF p_5 (remZ a (16 : Int))).snd.fst + n) then
 bif !(decide ((valF p_7 (remZ a (16 : Int))).fst = (valF p_5 (remZ a (16 : Int))).fst + n) && (decide ((valF p_7 (remZ a (16 : Int))).snd.fst = (valF p_5 (remZ a (16 : Int))).snd.fst + n) && true)) then
 Q (VRes.ret (VV.bool false))
 else bif !(decide ((difF p_8 (remZ a (16 : Int)) (remZ b (16 : Int))).fst = (difF p_9 (remZ a (16 : Int)) (remZ b (16 : Int))).fst) && (decide ((difF p_8 (remZ a (16 : Int)) (remZ b (16 : Int))).snd.fst = (difF p_9 (remZ a (16 : Int)) (remZ b (16 : Int))).snd.fst) && true)) then
 Q (VRes.ret (VV.bool false))
 else bif !decide ((difF p_8 (remZ a (16 : Int)) (remZ b (16 : Int))).snd.snd = (difF p_9 (remZ a (16 : Int)) (remZ b (16 : Int))).snd.snd) then
 Q (VRes.ret (VV.bool false))
 else bif !(decide ((difF p_8 (remZ a (16 : Int)) (remZ b (16 : Int))).fst = (difF p_10 (remZ a (16 : Int)) (remZ b (16 : Int))).fst) && (decide ((difF p_8 (remZ a (16 : Int)) (remZ b (16 : Int))).snd.fst = (difF p_10 (remZ a (16 : Int)) (remZ b (16 : Int))).snd.fst) && true)) then
 Q (VRes.ret (VV.bool false))
 else bif !decide ((difF p_8 (remZ a (16 : Int)) (remZ b (16 : Int))).snd.snd = (difF p_10 (remZ a (16 : Int)) (remZ b (16 : Int))).snd.snd) then
 Q (VRes.ret (VV.bool false))
 else FitP 0 (VH.mk 15 (nsF2.zip (BF4 p c1 c2 c3 j n))) (dsF4.zip (VF4 p.T.length c2 j n (0 : Int))) (VH.mk 15 (nsF2.zip (BF4 p c1 c2 c3 j n))) (dsF4.zip (VF4 p.T.length c2 j n (0 : Int))) ∧ (PnOk p ∧ ((-32768 : Int) ≤ n ∧ n ≤ (32767 : Int)) ∧ PnOk (qP p j n) ∧ PnOk (rP p n)) ∧ Q (VRes.ret (VV.bool true))
 else False
 else False
 else bif !(decide ((difF p_8 (remZ a (16 : Int)) (remZ b (16 : Int))).fst = (difF p_9 (remZ a (16 : Int)) (remZ b (16 : Int))).fst) && (decide ((difF p_8 (remZ a (16 : Int)) (remZ b (16 : Int))).snd.fst = (difF p_9 (remZ a (16 : Int)) (remZ b (16 : Int))).snd.fst) && true)) then
 Q (VRes.ret (VV.bool false))
 else bif !decide ((difF p_8 (remZ a (16 : Int)) (remZ b (16 : Int))).snd.snd = (difF p_9 (remZ a (16 : Int)) (remZ b (16 : Int))).snd.snd) then
 Q (VRes.ret (VV.bool false))
 else bif !(decide ((difF p_8 (remZ a (16 : Int)) (remZ b (16 : Int))).fst = (difF p_10 (remZ a (16 : Int)) (remZ b (16 : Int))).fst) && (decide ((difF p_8 (remZ a (16 : Int)) (remZ b (16 : Int))).snd.fst = (difF p_10 (remZ a (16 : Int)) (remZ b (16 : Int))).snd.fst) && true)) then
 Q (VRes.ret (VV.bool false))
 else bif !decide ((difF p_8 (remZ a (16 : Int)) (remZ b (16 : Int))).snd.snd = (difF p_10 (remZ a (16 : Int)) (remZ b (16 : Int))).snd.snd) then
 Q (VRes.ret (VV.bool false))
 else FitP 0 (VH.mk 15 (nsF2.zip (BF4 p c1 c2 c3 j n))) (dsF4.zip (VF4 p.T.length c2 j n (0 : Int))) (VH.mk 15 (nsF2.zip (BF4 p c1 c2 c3 j n))) (dsF4.zip (VF4 p.T.length c2 j n (0 : Int))) ∧ (PnOk p ∧ ((-32768 : Int) ≤ n ∧ n ≤ (32767 : Int)) ∧ PnOk (qP p j n) ∧ PnOk (rP p n)) ∧ Q (VRes.ret (VV.bool true))
 else False
 else False
 else False) := by kernel_rfl


end Go.Sx.Nos

/- nose: NoseShift. -/

namespace Go.Sx.Nos
open Go Go.Sx Go.Proofs
set_option maxRecDepth 1000000

def shq (j n : Int) (a : Nd) : Int := if a.getD 0 0 = 1 ∧ a.getD 1 0 = j then -n else 0
def shr (n : Int) (a : Nd) : Int := if a.getD 0 0 = 0 ∧ a.getD 1 0 ≠ 0 then n else 0

theorem shq_v (j n s : Int) : shq j n (vN s) = 0 := by unfold shq; rw [if_neg]; rintro ⟨h, _⟩; exact absurd h (show ¬ (0 : Int) = 1 by decide)
theorem shq_z (j n : Int) : shq j n zeroN = 0 := by unfold shq; rw [if_neg]; rintro ⟨h, _⟩; exact absurd h (by decide)
theorem shq_c (j n y z : Int) : shq j n (cN y z) = if y = j then -n else 0 := by
  unfold shq
  by_cases h : y = j
  · rw [if_pos ⟨rfl, h⟩, if_pos h]
  · rw [if_neg (fun hh => h hh.2), if_neg h]
theorem shr_v {n s : Int} (h : 0 ≤ s) : shr n (vN s) = n := by unfold shr; rw [if_pos ⟨rfl, show s + 1 ≠ 0 by omega⟩]
theorem shr_z (n : Int) : shr n zeroN = 0 := by unfold shr; rw [if_neg]; rintro ⟨_, h⟩; exact h rfl
theorem shr_c (n y z : Int) : shr n (cN y z) = 0 := by unfold shr; rw [if_neg]; rintro ⟨h, _⟩; exact absurd h (by show ¬ (1 : Int) = 0; decide)

/-- A span that is shifted. -/
def sftF (s : Int) (r : Int × Int × Int) : Int × Int × Int := if r.2.2 = 0 then (r.1 + s, r.2.1 + s, 0) else r

theorem sft_0 (r : Int × Int × Int) : sftF 0 r = r := by
  unfold sftF
  split
  · rename_i h
    obtain ⟨x, y, z⟩ := r
    dsimp only at h
    subst h
    rw [Int.add_zero, Int.add_zero]
  · rfl

theorem btF_in (p : Pn) (a b : Nd) : (-66000000 ≤ (btF p a b).1 ∧ (btF p a b).1 ≤ 66000000) ∧ (-66000000 ≤ (btF p a b).2.1 ∧ (btF p a b).2.1 ≤ 66000000) := by
  rcases btF_cases p a b with ⟨_, h⟩ | ⟨_, _, h⟩ | ⟨_, _, _, h⟩ | ⟨_, _, _, _, h⟩ | ⟨_, _, _, lo, hi, _, _, h1, h2, h3, h⟩ <;> rw [h] <;> dsimp only <;> omega

section
variable {p : Pn} {c1 c2 c3 : Nat} {j a b n : Int}

theorem q_bt (hp : PnOk p) (hq : PnOk (qP p j n)) (x y : Nd) : btF (qP p j n) x y = sftF (shq j n x - shq j n y) (btF p x y) := by
  rw [qP_eq] at hq ⊢
  exact rs_bt hp hq (fun t _ => by rw [shq_v, shq_c]; unfold fq; split <;> omega) (fun t _ u _ h => by rw [shq_c, shq_c, h]) (fun s _ => by rw [shq_v, shq_z]; rfl) x y

theorem r_bt (hp : PnOk p) (hr : PnOk (rP p n)) (x y : Nd) : btF (rP p n) x y = sftF (shr n x - shr n y) (btF p x y) :=
  rs_bt hp hr (fun t ht => by have := (hp.ts t ht).2.1.1; rw [shr_v this, shr_c]; omega) (fun t _ u _ _ => by rw [shr_c, shr_c]) (fun s hs => by have := (hp.sd s hs).1.1; rw [shr_v this, shr_z]; omega) x y

theorem val_in {p : Pn} {i : Int} (hi : sOk16 i) : valF p i = btF p (vN i) zeroN := by
  unfold valF; rw [if_neg (fun h => h.2 hi)]
theorem dif_in {p : Pn} {i k : Int} (hi : sOk16 i) (hk : sOk16 k) : difF p i k = btF p (vN i) (vN k) := by
  unfold difF; rw [if_neg (fun h => h.2.elim (fun h => h hi) (fun h => h hk))]

theorem val_q (hp : PnOk p) (hq : PnOk (qP p j n)) {i : Int} (hi : sOk16 i) : valF (qP p j n) i = valF p i := by
  rw [val_in hi, val_in hi, q_bt hp hq, shq_v, shq_z]; exact sft_0 _
theorem dif_q (hp : PnOk p) (hq : PnOk (qP p j n)) {i k : Int} (hi : sOk16 i) (hk : sOk16 k) : difF (qP p j n) i k = difF p i k := by
  rw [dif_in hi hk, dif_in hi hk, q_bt hp hq, shq_v, shq_v]; exact sft_0 _
theorem bia_q (hp : PnOk p) (hq : PnOk (qP p j n)) (x y : Int) : biaF (qP p j n) x y = sftF (if x = j then n else 0) (biaF p x y) := by
  unfold biaF
  rw [q_bt hp hq, shq_z, shq_c]
  congr 1
  split <;> omega
theorem val_r (hp : PnOk p) (hr : PnOk (rP p n)) {i : Int} (hi : sOk16 i) : valF (rP p n) i = sftF n (valF p i) := by
  rw [val_in hi, val_in hi, r_bt hp hr, shr_v hi.1, shr_z, Int.sub_zero]
theorem dif_r (hp : PnOk p) (hr : PnOk (rP p n)) {i k : Int} (hi : sOk16 i) (hk : sOk16 k) : difF (rP p n) i k = difF p i k := by
  rw [dif_in hi hk, dif_in hi hk, r_bt hp hr, shr_v hi.1, shr_v hk.1, Int.sub_self]; exact sft_0 _
theorem bia_r (hp : PnOk p) (hr : PnOk (rP p n)) (x y : Int) : biaF (rP p n) x y = biaF p x y := by
  unfold biaF
  rw [r_bt hp hr, shr_z, shr_c]; exact sft_0 _

theorem pnIs_q {h : VH} (g0 : h.at 0 = arD p) (g2 : h.at 2 = arS p) (g6 : h.at 6 = .vec p.T.length (tG (qP p j n).T) 5 32) : pnIs h (qP p j n) (sD p c1) (.sl 6 p.T.length) (sS p c3) := by
  refine ⟨⟨rfl, by decide, _, _, g0, fun j hj => ⟨⟨rfl, by omega, by change j < p.D.length at hj; omega⟩, ?_⟩⟩, ⟨(List.length_map _).symm, _, _, g6, fun _ _ => rfl⟩, ⟨rfl, by decide, _, _, g2, fun j hj => ⟨⟨rfl, by omega, by change j < p.S.length at hj; omega⟩, ?_⟩⟩⟩
  all_goals rw [zero_toNat]; rfl

theorem pnIs_r {h : VH} (g0 : h.at 0 = arD p) (g7 : h.at 7 = .vec p.T.length (tG (rP p n).T) 5 32) (g8 : h.at 8 = .vec p.S.length (sG (rP p n).S) 3 36) : pnIs h (rP p n) (sD p c1) (.sl 7 p.T.length) (.sl 8 p.S.length) := by
  refine ⟨⟨rfl, by decide, _, _, g0, fun j hj => ⟨⟨rfl, by omega, by change j < p.D.length at hj; omega⟩, ?_⟩⟩, ⟨(List.length_map _).symm, _, _, g7, fun _ _ => rfl⟩, ⟨(List.length_map _).symm, _, _, g8, fun _ _ => rfl⟩⟩
  rw [zero_toNat]; rfl

theorem sp_eq {x y u v : Int} : (decide (x = u) && (decide (y = v) && true)) = decide (x = u ∧ y = v) := by
  rw [Bool.eq_iff_iff]; simp

/-- A test of two spans that are the same. -/
theorem cond_sp {x y u v : Int} {p q : Prop} (h : x = u ∧ y = v) (hq : q) : (bif !(decide (x = u) && (decide (y = v) && true)) then p else q) := by
  rw [sp_eq, decide_eq_true h]; exact hq
theorem cond_ne {x u : Int} {p q : Prop} (h : x = u) (hq : q) : (bif !decide (x = u) then p else q) := by
  rw [decide_eq_true h]; exact hq

theorem lF4_ok : LSound Try.prog true (.block 4 (.loop (loopB 4 (bodyOf Try.prog 3)))) 296 (lF4 p c1 c2 c3 j n) := by
  by_cases hh : PnOk p ∧ (-32768 ≤ n ∧ n ≤ 32767) ∧ PnOk (qP p j n) ∧ PnOk (rP p n)
  · obtain ⟨hp, hn, hq, hr⟩ := hh
    have hT := hp.t
    refine loop_row hmix (tab_good hmix (l := [biaT]) (fun x hx => by simp only [List.mem_singleton] at hx; subst hx; exact biaT_ok) (unroll := 10) 20) (un := 10) (ds := dsF4) (ns := nsF2) (nx := 15) (fun k : Nat => VF4 p.T.length c2 j n k) (fun _ => BF4 p c1 c2 c3 j n) (fun k => k ≤ p.T.length) (fun k => p.T.length - k)
      (fun _ e vs bs => e = .exit 4 ∧ vs = VF4 p.T.length c2 j n p.T.length ∧ bs = BF4 p c1 c2 c3 j n) noL_ok ?_ ?_
    · intro k hk
      refine cast (s4_ev p c1 c2 c3 j n k _).symm ?_
      by_cases h : k < p.T.length
      · refine cond_dk (by omega) (cond_dk ⟨by omega, by omega⟩ ⟨⟨rfl, by omega, by omega⟩, p, pnIs_own rfl rfl rfl, trivial, qP p j n, pnIs_q rfl rfl rfl, trivial, rP p n, pnIs_r rfl rfl rfl, trivial, ?_⟩)
        rw [bia_q hp hq, bia_r hp hr]
        have hin : (-66000000 ≤ (biaF p (getI p k).j (getI p k).p).1 ∧ (biaF p (getI p k).j (getI p k).p).1 ≤ 66000000) ∧ (-66000000 ≤ (biaF p (getI p k).j (getI p k).p).2.1 ∧ (biaF p (getI p k).j (getI p k).p).2.1 ≤ 66000000) := btF_in _ _ _
        generalize biaF p (getI p k).j (getI p k).p = r at hin ⊢
        have go : RoundQ (fun k : Nat => VF4 p.T.length c2 j n k) (fun _ => BF4 p c1 c2 c3 j n) (fun k => k ≤ p.T.length) (fun k => p.T.length - k)
            (fun _ e vs bs => e = .exit 4 ∧ vs = VF4 p.T.length c2 j n p.T.length ∧ bs = BF4 p c1 c2 c3 j n) k .normal (VF4 p.T.length c2 j n (k + 1)) (BF4 p c1 c2 c3 j n) :=
          ⟨k + 1, by omega, by dsimp only; omega, vst (V := VF4 p.T.length c2 j n) k, fitBs_refl _, fun _ _ _ ho => ho⟩
        have e2 : ∀ s, (sftF s r).2.2 = r.2.2 := fun s => by unfold sftF; split <;> first | (rename_i h; exact h.symm) | rfl
        refine cond_d (fun hj => ?_) (fun hj => ?_)
        · rw [if_pos hj]
          refine cond_nd (fun hc => absurd (e2 n).symm hc) (fun _ => cond_nd (fun hc => absurd rfl hc) (fun _ => cond_d (fun h0 => cond_r (by omega) (cond_r (by omega) ?_)) (fun h0 => cond_r (by omega) go)))
          have e3 : sftF n r = (r.1 + n, r.2.1 + n, 0) := if_pos h0
          rw [e3, sp_eq, sp_eq]
          exact cond_nd (fun hc => absurd ⟨rfl, rfl⟩ hc) (fun _ => cond_nd (fun hc => absurd ⟨rfl, rfl⟩ hc) (fun _ => cond_r (by omega) go))
        · rw [if_neg hj, sft_0]
          refine cond_nd (fun hc => absurd rfl hc) (fun _ => cond_nd (fun hc => absurd rfl hc) (fun _ => cond_d (fun h0 => cond_r (by omega) (cond_r (by omega) ?_)) (fun h0 => cond_r (by omega) go)))
          rw [sp_eq, sp_eq]
          exact cond_nd (fun hc => absurd ⟨by omega, by omega⟩ hc) (fun _ => cond_nd (fun hc => absurd ⟨rfl, rfl⟩ hc) (fun _ => cond_r (by omega) go))
      · obtain rfl : k = p.T.length := by omega
        exact cond_d (fun h => by omega) (fun _ => ⟨rfl, rfl, rfl⟩)
    · rintro lock tt h K ⟨hf, _, hK⟩
      refine ⟨0, hf, Nat.zero_le _, ?_⟩
      rintro e vs bs ⟨rfl, rfl, rfl⟩
      exact hK
  · rintro lock tt h K ⟨_, hc, _⟩
    exact (hh hc).elim

noncomputable def shL (p : Pn) (c1 c2 c3 : Nat) (j a b n : Int) : List (Nat × LT) := [(0, lF0 p c1 c2 c3 j a b n), (2, lF2 p c1 c2 c3 j a b n), (4, lF4 p c1 c2 c3 j n)]
theorem shL_ok : LoopsOk Try.prog 3 (shL p c1 c2 c3 j a b n) := by
  intro x hx
  simp only [shL, List.mem_cons, List.not_mem_nil, or_false] at hx
  rcases hx with rfl | rfl | rfl
  · exact ⟨by kernel_rfl, lF0_ok⟩
  · exact ⟨by kernel_rfl, lF2_ok⟩
  · exact ⟨by kernel_rfl, lF4_ok⟩

theorem law_ok : ∀ x ∈ [greatT, refT, alvT, valT, difT], SpOk Try.prog x.1 x.2 := fun x hx => by
  simp only [List.mem_cons, List.not_mem_nil, or_false] at hx
  rcases hx with rfl | rfl | rfl | rfl | rfl
  · exact greatT_ok
  · exact refT_ok
  · exact alvT_ok
  · exact valT_ok
  · exact difT_ok

theorem rem16 {a : Int} (h : 0 ≤ a) : sOk16 (remZ a 16) := by
  have : remZ a 16 = a % 16 := remZ_nn h
  unfold sOk16
  omega

theorem n64_16 {i : Int} (h : sOk16 i) : n64 i := by unfold sOk16 at h; unfold n64; omega

theorem shift_v (hn : -32768 ≤ n ∧ n ≤ 32767) (ha : 0 ≤ a ∧ a ≤ 255) (hb : 0 ≤ b ∧ b ≤ 255) : ∃ h', CallsV Try.prog 3 [.agg (pnV p c1 c2 c3), I j, .int .i16 n, .int .u8 a, .int .u8 b] (pnH p) (.ret (.bool true)) h' := by
  obtain ⟨r, h', rfl, hc⟩ := of_callN (callL_good hmix (tabs_ok law_ok) (shL_ok (p := p) (c1 := c1) (c2 := c2) (c3 := c3) (j := j) (a := a) (b := b) (n := n)) (un := 10) 20) (f := 3)
    (args := [.agg (pnV p c1 c2 c3), I j, .int .i16 n, .int .u8 a, .int .u8 b]) (h := pnH p) (K := fun r _ => r = .ret (.bool true))
    (by
      refine cast (shift_ev p c1 c2 c3 j n a b _).symm ?_
      have hi := rem16 ha.1
      have hk := rem16 hb.1
      have ni := n64_16 hi
      have nk := n64_16 hk
      refine ⟨p, pnIs_own rfl rfl rfl, trivial, cond_b (fun _ => rfl) (fun hg => ⟨p, pnIs_own rfl rfl rfl, trivial, ?_⟩)⟩
      refine cond_b (fun _ => rfl) (fun hpb => ?_)
      have hp : PnOk p := panB_iff.1 (by simpa using hpb)
      refine cond_r (by omega) ⟨fitP_self rfl, ⟨hp, hn⟩, fitP_self rfl, ⟨hp, hn⟩, qP p j n, pnIs_q rfl rfl rfl, trivial, cond_b (fun _ => rfl) (fun hqb => ⟨rP p n, pnIs_r rfl rfl rfl, trivial, cond_b (fun _ => rfl) (fun hrb => ?_)⟩)⟩
      have hq : PnOk (qP p j n) := panB_iff.1 (by simpa using hqb)
      have hr : PnOk (rP p n) := panB_iff.1 (by simpa using hrb)
      refine cond_r (by omega) (cond_r (by omega) ⟨p, pnIs_own rfl rfl rfl, ni, qP p j n, pnIs_q rfl rfl rfl, ni, rP p n, pnIs_r rfl rfl rfl, ni, p, pnIs_own rfl rfl rfl, ⟨ni, nk⟩, qP p j n, pnIs_q rfl rfl rfl, ⟨ni, nk⟩, rP p n, pnIs_r rfl rfl rfl, ⟨ni, nk⟩, ?_⟩)
      rw [val_q hp hq hi, val_r hp hr hi, dif_q hp hq hi hk, dif_r hp hr hi hk]
      have hin : (-66000000 ≤ (valF p (remZ a 16)).1 ∧ (valF p (remZ a 16)).1 ≤ 66000000) ∧ (-66000000 ≤ (valF p (remZ a 16)).2.1 ∧ (valF p (remZ a 16)).2.1 ≤ 66000000) := by rw [val_in hi]; exact btF_in _ _ _
      generalize valF p (remZ a 16) = r at hin ⊢
      have e2 : (sftF n r).2.2 = r.2.2 := by unfold sftF; split <;> first | (rename_i h; exact h.symm) | rfl
      refine cond_sp ⟨rfl, rfl⟩ (cond_ne rfl (cond_ne e2 (cond_d (fun h0 => cond_r (by omega) (cond_r (by omega) ?_)) (fun h0 => ?_))))
      · have e3 : sftF n r = (r.1 + n, r.2.1 + n, 0) := if_pos h0
        rw [e3]
        exact cond_sp ⟨rfl, rfl⟩ (cond_sp ⟨rfl, rfl⟩ (cond_ne rfl (cond_sp ⟨rfl, rfl⟩ (cond_ne rfl ⟨fitP_self rfl, ⟨hp, hn, hq, hr⟩, rfl⟩))))
      · exact cond_sp ⟨rfl, rfl⟩ (cond_ne rfl (cond_sp ⟨rfl, rfl⟩ (cond_ne rfl ⟨fitP_self rfl, ⟨hp, hn, hq, hr⟩, rfl⟩))))
  exact ⟨h', hc⟩
end
end Go.Sx.Nos
