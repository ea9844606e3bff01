/- A contract over read-only arrays, that gives new lists, holds where its arrays lie elsewhere. -/
import Derived.Test.YtlboglkgbhjpeaaSxW

namespace Go.Sx
open Go

mutual
/-- Does a value name nothing but lists from k on? -/
def VV.flat (k : Nat) : VV → Bool
  | .ptr _ => false
  | .slice _ _ _ => false
  | .func _ a b => flatL k a && flatL k b
  | .iface _ v => v.flat k
  | .agg cs => flatL k cs
  | .tup vs => flatL k vs
  | .yld _ => false
  | .sl n _ => Nat.ble k n
  | .sub _ _ _ _ _ => false
  | .mp _ => false
  | .tl _ _ _ => false
  | .tp _ => false
  | _ => true
def flatL (k : Nat) : List VV → Bool
  | [] => true
  | v :: vs => v.flat k && flatL k vs
end

def VRes.flat (k : Nat) : VRes → Bool
  | .ret v => v.flat k
  | .panic v => v.flat k

mutual
theorem flat_V {k m : Nat} {R R' : Rn} (hv : ∀ n, k ≤ n → R'.vec (n - k + m) = R.vec n) : ∀ (v : VV) (x : Value), v.flat k = true → VRel R v x → VRel R' (v.sh k m) x
  | .bool _, _, _, hx => hx
  | .int _ _, _, _, hx => hx
  | .nilp, _, _, hx => hx
  | .ptr _, _, hb, _ => by cases hb
  | .nils, _, _, hx => hx
  | .slice _ _ _, _, hb, _ => by cases hb
  | .func _ a b, _, hb, ⟨xs, ys, h1, h2, hx⟩ => by
    simp only [VV.flat, Bool.and_eq_true] at hb
    exact ⟨xs, ys, flat_L hv a xs hb.1 h1, flat_L hv b ys hb.2 h2, hx⟩
  | .nilf, _, _, hx => hx
  | .iface _ v, _, hb, ⟨y, hy, hx⟩ => ⟨y, flat_V hv v y hb hy, hx⟩
  | .niff, _, _, hx => hx
  | .agg cs, _, hb, ⟨xs, h1, hx⟩ => ⟨xs, flat_L hv cs xs hb h1, hx⟩
  | .tup vs, _, hb, ⟨xs, h1, hx⟩ => ⟨xs, flat_L hv vs xs hb h1, hx⟩
  | .opq _, _, _, hx => hx
  | .any, _, _, hx => hx
  | .yld _, _, hb, _ => by cases hb
  | .sub _ _ _ _ _, _, hb, _ => by cases hb
  | .mp _, _, hb, _ => by cases hb
  | .tl _ _ _, _, hb, _ => by cases hb
  | .tp _, _, hb, _ => by cases hb
  | .sl n L, x, hb, ⟨h1, h2⟩ => by
    have hk : k ≤ n := Nat.le_of_ble_eq_true hb
    refine ⟨?_, h2⟩
    show R'.vec (shN k m n) L = some x
    unfold shN
    rw [if_neg (by omega), hv n hk]
    exact h1
theorem flat_L {k m : Nat} {R R' : Rn} (hv : ∀ n, k ≤ n → R'.vec (n - k + m) = R.vec n) : ∀ (cs : List VV) (xs : List Value), flatL k cs = true → VRelL R cs xs → VRelL R' (shL k m cs) xs
  | [], _, _, hx => hx
  | c :: cs, _, hb, ⟨y, ys, h1, h2, hx⟩ => by
    simp only [flatL, Bool.and_eq_true] at hb
    exact ⟨y, ys, flat_V hv c y hb.1 h1, flat_L hv cs ys hb.2 h2, hx⟩
end

theorem flat_res {k m : Nat} {R R' : Rn} (hv : ∀ n, k ≤ n → R'.vec (n - k + m) = R.vec n) {r : VRes} (h : r.flat k = true) {e : Ending} (hr : ResRel R r e) : ResRel R' (r.sh k m) e := by
  cases r with
  | ret v => obtain ⟨x, hx, he⟩ := hr; exact ⟨x, flat_V hv v x h hx, he⟩
  | panic v => obtain ⟨x, hx, he⟩ := hr; exact ⟨x, flat_V hv v x h hx, he⟩

/-- A new block that holds plain values. -/
def VB.flat : VB → Prop
  | .gone => True
  | .vec L g _ _ => ∀ i, i < L → pureL (g i) = true
  | _ => False

theorem ownsRow_base {w : World} {base base' : Nat} {e : TypeId} {size : Nat} {v : Value} {n : Nat} {xs : List Value} (h : w.ownsRow base e size v n xs) (hb : base' ≤ base) : w.ownsRow base' e size v n xs := by
  refine ⟨h.1, ?_⟩
  rcases h.2 with h1 | ⟨g, cap, cur, h1, h2, h3⟩
  · exact .inl h1
  · exact .inr ⟨g, cap, cur, h1, Nat.le_trans hb h2, h3⟩

section
variable {P : Program}

theorem calls_view_new {f : FuncId} {args' : List VV} {hm h : VH} {r : VRes} {bl : List VB} (ho : onlyArr hm) (hr : r.flat hm.nx = true) (hbl : ∀ c ∈ bl, c.flat)
    (view : ∀ (B : Nat) (R : Rn) (w : World) (xs : List Value), Emb B R h.at w → VRelL R args' xs → ∃ ra st args hm', CallsV P f args hm r hm' ∧ (∀ i, hm'.at (hm.nx + i) = (bl[i]?).getD .free) ∧ View w hm ra st ∧ VRelL ⟨fun _ => none, ra, st, fun _ _ => none, fun _ => none⟩ args xs) :
    CallsV P f args' h (r.sh hm.nx h.nx) (pushL h bl) := by
  intro B R w xs em hx
  obtain ⟨ra, st, args, hm', hs, hat, hv, ha⟩ := view B R w xs em hx
  have e0 : Emb w.heap.size ⟨fun _ => none, ra, st, fun _ _ => none, fun _ => none⟩ hm.at w := emb_args (fun _ => rfl) (fun _ _ => rfl) ho hv.arr
  refine (hs w.heap.size _ w xs e0 ha).mono ?_
  rintro e w' ⟨R1, n1, e1, x⟩
  have how0 : ∀ n b, (⟨fun _ => none, ra, st, fun _ _ => none, fun _ => none⟩ : Rn).ow n (hm.at n) ≠ some b := fun n b hb => by
    rcases ho n with ⟨s, ok, g, h1⟩ | h1 | h1 <;> rw [h1] at hb <;> cases hb
  have hsame : ∀ b, b < w.heap.size → w'.heap[b]? = w.heap[b]? := fun b hb => n1.frame b hb (fun n => how0 n b)
  have es := emb_same em n1.size hsame
  have hfr2 : ∀ n, ¬ n < h.nx → h.at n = .free := fun n hn => by
    show (bif Nat.blt n h.nx then lookB h.bs n else .free) = _
    rw [blt_f hn]; rfl
  have hnew : ∀ n b, R1.ow n (hm'.at n) = some b → w.heap.size ≤ b := fun n b hb => by
    rcases n1.own n b hb with h1 | h1
    · exact (how0 n b h1).elim
    · exact h1
  let R' : Rn := ⟨R.blk, R.arr, R.str, fun n => if n < h.nx then R.vec n else R1.vec (n - h.nx + hm.nx), R.frz⟩
  have hv1 : ∀ n, n < h.nx → R'.vec n = R.vec n := fun n hn => if_pos hn
  have hv2 : ∀ n, ¬ n < h.nx → R'.vec n = R1.vec (n - h.nx + hm.nx) := fun n hn => if_neg hn
  have hno : R.no.le R'.no := nole R
  have hle : R.le R' := by
    refine ⟨fun n b hb => hb, rfl, rfl, fun n L v hv => ?_, fun _ _ h => h⟩
    by_cases hn : n < h.nx
    · rw [hv1 n hn]; exact hv
    · rw [em.fvec n (hfr2 n hn)] at hv; cases hv
  have hη1 : ∀ n, n < h.nx → (pushL h bl).at n = h.at n := fun n hn => by rw [pushL_at, if_pos hn]
  have hη2 : ∀ n, ¬ n < h.nx → (pushL h bl).at n = hm'.at (n - h.nx + hm.nx) := fun n hn => by
    rw [pushL_at, if_neg hn, Nat.add_comm, hat]
  have hflat : ∀ n, ¬ n < h.nx → (pushL h bl).at n = .free ∨ (pushL h bl).at n = .gone ∨ ∃ L g s t, (pushL h bl).at n = .vec L g s t ∧ ∀ i, i < L → pureL (g i) = true := fun n hn => by
    rw [pushL_at, if_neg hn]
    cases hc : bl[n - h.nx]? with
    | none => exact .inl rfl
    | some c =>
      have := hbl c (List.mem_of_getElem? hc)
      cases c with
      | gone => exact .inr (.inl rfl)
      | vec L g s t => exact .inr (.inr ⟨L, g, s, t, rfl, this⟩)
      | _ => exact this.elim
  have how1 : ∀ n, n < h.nx → ∀ b, R'.ow n b = R.ow n b := fun n hn b => by
    cases b with
    | vec L g s t => show (R'.vec n L).bind _ = (R.vec n L).bind _; rw [hv1 n hn]
    | _ => rfl
  have how2 : ∀ n, ¬ n < h.nx → ∀ c, R'.ow n ((pushL h bl).at n) = some c → R1.ow (n - h.nx + hm.nx) (hm'.at (n - h.nx + hm.nx)) = some c := fun n hn c hc => by
    rw [← hη2 n hn]
    rcases hflat n hn with h1 | h1 | ⟨L, g, s, t, h1, _⟩
    · rw [h1] at hc; cases hc
    · rw [h1] at hc; cases hc
    · rw [h1] at hc ⊢
      have hc : (R'.vec n L).bind Value.ownBlock = some c := hc
      rw [hv2 n hn] at hc
      exact hc
  refine ⟨R', ⟨fun n hn => ?_, fun n hn => rfl, rfl, rfl, hle.vec, fun n L v h1 h2 => ?_, fun n L g s t hn => ?_, fun n b hb' => ?_, n1.size, fun b hb' _ => hsame b hb', n1.os, n1.tape, n1.output, fun _ _ h => h, fun _ _ h => .inl h⟩,
    ⟨es.base, fun n cs t hn => ?_, fun n m b h1 h2 => ?_, fun n s ok g hn => ?_, fun n hn => ?_, fun n st pd t q ps as bd hn => ?_, fun n L g s t hn => ?_, fun n hn L => ?_, fun n ks vk es2 hn => ?_, fun b xs hb' => ⟨(es.frz b xs hb').1, fun n hn => ?_, (es.frz b xs hb').2.2⟩⟩, flat_res (fun n hn => ?_) hr x⟩
  · have hnx : n < h.nx := by
      by_cases hnx : n < h.nx
      · exact hnx
      · exact (hn (hfr2 n hnx)).elim
    rw [hη1 n hnx]; exact hn
  · by_cases hnx : n < h.nx
    · rw [hv1 n hnx, h1] at h2; cases h2
    · exact .inl (hfr2 n hnx)
  · by_cases hnx : n < h.nx
    · rw [hη1 n hnx] at hn; exact .inr ⟨L, g, s, t, hn, Nat.le_refl _⟩
    · exact .inl (hfr2 n hnx)
  · by_cases hnx : n < h.nx
    · rw [hη1 n hnx, how1 n hnx] at hb'; exact .inl hb'
    · exact .inr (hnew _ b (how2 n hnx b hb'))
  · by_cases hnx : n < h.nx
    · rw [hη1 n hnx] at hn
      obtain ⟨b, ys, g1, g2, g3, g4⟩ := es.ownC n cs t hn
      exact ⟨b, ys, g1, g2, g3.mono hle, g4⟩
    · rcases hflat n hnx with h1 | h1 | ⟨L, g, s, t', h1, _⟩ <;> rw [h1] at hn <;> cases hn
  · by_cases hn : n < h.nx <;> by_cases hm1 : m < h.nx
    · rw [hη1 n hn, how1 n hn] at h1
      rw [hη1 m hm1, how1 m hm1] at h2
      exact em.inj n m b h1 h2
    · rw [hη1 n hn, how1 n hn] at h1
      have := hnew _ b (how2 m hm1 b h2)
      have := em.lt h1
      omega
    · rw [hη1 m hm1, how1 m hm1] at h2
      have := hnew _ b (how2 n hn b h1)
      have := em.lt h2
      omega
    · have := e1.inj _ _ b (how2 n hn b h1) (how2 m hm1 b h2)
      omega
  · by_cases hnx : n < h.nx
    · rw [hη1 n hnx] at hn
      obtain ⟨g1, g2⟩ := es.arr n s ok g hn
      refine ⟨g1, fun ix i hi => ?_⟩
      obtain ⟨g3, g4, g5, ys, g6, g7, g8⟩ := g2 ix i hi
      exact ⟨g3, g4, g5, ys, g6, g7, g8⟩
    · rcases hflat n hnx with h1 | h1 | ⟨L, g', s', t', h1, _⟩ <;> rw [h1] at hn <;> cases hn
  · by_cases hnx : n < h.nx
    · rw [hη1 n hnx] at hn
      exact em.fresh n hn
    · exact em.fresh n (hfr2 n hnx)
  · by_cases hnx : n < h.nx
    · rw [hη1 n hnx] at hn
      obtain ⟨b, r', g1, g2, g3, g4⟩ := es.lp n st pd t q ps as bd hn
      exact ⟨b, r', g1, g2, g3, g4.mono hle⟩
    · rcases hflat n hnx with h1 | h1 | ⟨L, g', s', t', h1, _⟩ <;> rw [h1] at hn <;> cases hn
  · by_cases hnx : n < h.nx
    · rw [hη1 n hnx] at hn
      exact (es.vec n L g s t hn).frame (hv1 n hnx) hno (fun b _ => rfl)
    · have hn1 : hm'.at (n - h.nx + hm.nx) = .vec L g s t := by rw [← hη2 n hnx]; exact hn
      have hp : ∀ i, i < L → pureL (g i) = true := by
        rcases hflat n hnx with h1 | h1 | ⟨L', g', s', t', h1, h2⟩ <;> rw [h1] at hn <;> cases hn
        exact h2
      obtain ⟨⟨v, ys, g1, g2, g3⟩, g4⟩ := e1.vec _ L g s t hn1
      refine ⟨⟨v, ys, by rw [hv2 n hnx]; exact g1, ownsRow_base g2 em.base, fun i hi => ⟨pure_L _ _ (hp i hi) (g3 i hi).1, (g3 i hi).2⟩⟩, fun L' hL => by rw [hv2 n hnx]; exact g4 L' hL⟩
  · by_cases hnx : n < h.nx
    · rw [hη1 n hnx] at hn
      rw [hv1 n hnx]; exact em.fvec n hn L
    · rw [hη2 n hnx] at hn
      rw [hv2 n hnx]; exact e1.fvec _ hn L
  · by_cases hnx : n < h.nx
    · rw [hη1 n hnx] at hn
      exact (es.map n ks vk es2 hn).frame rfl (fun b _ => rfl)
    · rcases hflat n hnx with h1 | h1 | ⟨L, g', s', t', h1, _⟩ <;> rw [h1] at hn <;> cases hn
  · by_cases hnx : n < h.nx
    · rw [hη1 n hnx, how1 n hnx] at hn
      exact (em.frz b xs hb').2.1 n hn
    · have := hnew _ b (how2 n hnx b hn)
      have := (em.frz b xs hb').1
      omega
  · rw [hv2 _ (by omega), show n - hm.nx + h.nx - h.nx + hm.nx = n by omega]

/-- Code that is begun with a block that holds nil, where a list of no elements is meant. -/
theorem sem_ghost_cells {pl : Bool} {c : Code} {n m : Nat} {t t' : Slots} {h h' : VH} {e : VEx} {cs cs' : List VV} {ty : TypeId} (g : Nat → List VV) (s : Nat) (ty2 : TypeId) (hm : h.at m = .cells cs ty)
    (hs : SemC P pl c n t ((h.new (.vec 0 g s ty2)).put m (.cells cs' ty)) e t' h') (hc : ∀ (R : Rn) (xs : List Value), R.vec h.nx 0 = some (.slice none 0 0) → VRelL R cs xs → VRelL R cs' xs) : SemC P pl c n t h e t' h' := by
  intro F hF hp B ds R a w em tr hn hds
  obtain ⟨e1, n1⟩ := emb_ghost em (VH.at_nx h) g s ty2
  have hne : m ≠ h.nx := fun hh => by rw [hh, VH.at_nx] at hm; cases hm
  rw [← VH.at_new] at e1 n1
  have hm1 : (h.new (.vec 0 g s ty2)).at m = .cells cs ty := by rw [VH.at_new]; simp only [upd, if_neg hne]; exact hm
  have how : ∀ b, (R.putV h.nx 0 (.slice none 0 0)).ow m (.cells cs' ty) = some b → (R.putV h.nx 0 (.slice none 0 0)).ow m ((h.new (.vec 0 g s ty2)).at m) = some b ∨ w.heap.size ≤ b := fun b hb => .inl (by rw [hm1]; exact hb)
  have e2 := e1.step (n0 := m) (x := .cells cs' ty) (Nat.le_refl _) ⟨fun _ _ h => h, rfl, rfl, fun _ _ _ h => h, fun _ _ h => h⟩ (fun _ _ => rfl) (fun _ _ => rfl) (fun _ _ _ => rfl) how (by simp) (by simp) (fun cs2 t2 hh => by
    cases hh
    obtain ⟨b, xs, g1, g2, g3, g4⟩ := e1.own m cs ty hm1
    exact ⟨b, xs, g1, g2, hc _ xs putV_same g3, g4⟩) (by simp) (by simp)
  have n2 := Nxt.step (R := R.putV h.nx 0 (.slice none 0 0)) (R' := R.putV h.nx 0 (.slice none 0 0)) (w' := w) (η := (h.new (.vec 0 g s ty2)).at) (w := w) (n0 := m) (x := .cells cs' ty) (Nat.le_refl _) ⟨fun _ _ h => h, rfl, rfl, fun _ _ _ h => h, fun _ _ h => h⟩ (fun _ _ => rfl) (fun _ _ => rfl) (fun _ _ _ => rfl) how (by simp) (fun L v h1 h2 => by rw [h1] at h2; cases h2) (by simp) rfl rfl rfl
  rw [← VH.at_put _ _ _ (by rw [hm1]; simp)] at e2 n2
  refine wpIn_mono (hs F hF hp B ds _ a w e2 (tr.mono (n1.le em)) hn hds) ?_
  intro ex a' w' hp
  exact hp.of_next (n1.trans n2)

/-- A loop that begins with nil in a block is one that begins with a list of no elements there. -/
theorem ghost_cells_row {c : Code} {n m nx : Nat} {cs cs' : List VV} {ty : TypeId} {bs : List (Nat × VB)} {t0 : Slots} {T0 T : LT} (g : Nat → List VV) (s : Nat) (ty2 : TypeId) (h0 : LSound P true c n T0)
    (hm : (VH.mk nx bs).at m = .cells cs ty) (hc : ∀ (R : Rn) (xs : List Value), R.vec nx 0 = some (.slice none 0 0) → VRelL R cs xs → VRelL R cs' xs)
    (hT : ∀ lock t h K, T lock t h K → FitP lock h t ⟨nx, bs⟩ t0 ∧ T0 0 t0 (((VH.mk nx bs).new (.vec 0 g s ty2)).put m (.cells cs' ty)) K) : LSound P true c n T := by
  intro lock t h K hK
  obtain ⟨hf, hK⟩ := hT lock t h K hK
  obtain ⟨e, t', h', hk, _, hs⟩ := h0 _ _ _ _ hK
  obtain rfl := hf.1.1
  exact ⟨e, t', h', hk, lock0 _ _, sem_fit hf (sem_ghost_cells g s ty2 hm hs hc)⟩
end
end Go.Sx
