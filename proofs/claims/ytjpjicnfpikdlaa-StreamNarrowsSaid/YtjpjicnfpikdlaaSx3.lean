/- The evaluator's operations are sound. -/
import Derived.Test.YtjpjicnfpikdlaaSx2
import Derived.Laws.Cells
import Derived.WalkKit

namespace Go.Sx
open Go

theorem fo_eq (v : VV) (K : VV → Prop) : fo v K = K v := by cases v <;> rfl
theorem foL_eq : ∀ (l : List VV) (K : List VV → Prop), foL l K = K l
  | [], _ => rfl
  | v :: vs, K => by simp only [foL, fo_eq, foL_eq vs]
theorem foN_eq (n : Nat) (K : Nat → Prop) : foN n K = K n := by cases n <;> rfl
theorem cond_f {b : Bool} {X : Prop} (h : cond b X False) : b = true ∧ X := by cases b <;> simp_all
theorem cond_ff {b : Bool} {X : Prop} (h : cond b False X) : b = false ∧ X := by cases b <;> simp_all

theorem ofS_rel (R : Rn) (v : Value) : VRel R (ofS v) v := by
  unfold ofS
  split <;> simp [VRel]

theorem ofSL_rel (R : Rn) : ∀ (l : List Value), VRelL R (l.map ofS) l
  | [] => rfl
  | v :: vs => ⟨v, vs, ofS_rel R v, ofSL_rel R vs, rfl⟩

theorem ofV_rel (R : Rn) (v : Value) : VRel R (ofV v) v := by
  unfold ofV
  split
  · exact ⟨_, ofSL_rel R _, by simp⟩
  · exact ⟨_, ofSL_rel R _, by simp⟩
  · exact ofS_rel R _

/-- The slots hold what is said. -/
def TRel (R : Rn) (t : Slots) (a : Act) : Prop := ∀ d, VRel R (look t d) (a.tmps.getD d undef)

theorem TRel.mono {R R' : Rn} (h : R.le R') {t : Slots} {a : Act} (ht : TRel R t a) : TRel R' t a := fun d => VRel.mono h _ _ (ht d)

theorem beq_t {m n : Nat} (h : m = n) : Nat.beq m n = true := by subst h; exact Nat.beq_refl m
theorem beq_f {m n : Nat} (h : m ≠ n) : Nat.beq m n = false := by rw [Bool.eq_false_iff]; intro hh; exact h (Nat.eq_of_beq_eq_true hh)

theorem look_cons (d : Nat) (v : VV) (t : Slots) (d' : Nat) : look ((d, v) :: t) d' = if d = d' then v else look t d' := by
  show (bif Nat.beq d d' then v else look t d') = _
  by_cases h : d = d'
  · rw [beq_t h, if_pos h]; rfl
  · rw [beq_f h, if_neg h]; rfl

theorem TRel.put {R : Rn} {t : Slots} {a : Act} (ht : TRel R t a) {d : Nat} (hd : d < a.tmps.size) {v : VV} {x : Value} (hv : VRel R v x) :
    TRel R ((d, v) :: t) (a.put (some d) x) := by
  intro d'
  rw [look_cons]
  simp only [Act.put, Array.getD_eq_getD_getElem?, Array.getElem?_setIfInBounds]
  by_cases h : d = d'
  · subst h; simp [hd, hv]
  · simp only [h, if_false]
    have := ht d'
    rwa [Array.getD_eq_getD_getElem?] at this

theorem TRel.same {R : Rn} {t : Slots} {a : Act} (ht : TRel R t a) {d : Nat} {v : VV} (hv : look t d = v) : TRel R ((d, v) :: t) a := by
  intro d'
  rw [look_cons]
  by_cases h : d = d'
  · subst h; rw [if_pos rfl, ← hv]; exact ht d
  · rw [if_neg h]; exact ht d'

theorem evO_rel {R : Rn} {t : Slots} {a : Act} (ht : TRel R t a) (x : Operand) : VRel R (evO t x) (a.eval x) := by
  cases x with
  | tmp d => exact ht d
  | const v => exact ofV_rel R v
  | global g => exact rfl
  | func f => exact ⟨[], [], rfl, rfl, rfl⟩

theorem evL_rel {R : Rn} {t : Slots} {a : Act} (ht : TRel R t a) : ∀ (l : List Operand), VRelL R (l.map (evO t)) (l.map a.eval)
  | [] => rfl
  | x :: xs => ⟨_, _, evO_rel ht x, evL_rel ht xs, rfl⟩

section
variable {P : Program} {w : World}
theorem run_und {t : TypeId} {d : TypeDesc} (h : P.underlying t = some d) : (underlying t).run P w = .ok d w := by
  simp [underlying, h]
theorem run_tyi {t : TypeId} {i : TypeInfo} (h : P.info? t = some i) : (typeInfo t).run P w = .ok i w := by
  simp [typeInfo, h]
theorem tyI_spec {t : TypeId} {agg : Bool} {s : Nat} (h : tyI P t = some (agg, s)) : (isAgg t).run P w = .ok agg w ∧ (sizeOf t).run P w = .ok s w := by
  unfold tyI at h
  split at h <;> simp at h
  · rename_i i fs h1 h2
    obtain ⟨rfl, rfl⟩ := h
    simp [isAgg, sizeOf, run_und h2, run_tyi h1]
  · rename_i i n e h1 h2
    obtain ⟨rfl, rfl⟩ := h
    simp [isAgg, sizeOf, run_und h2, run_tyi h1]
  · rename_i i d h3 h4 h1 h2
    obtain ⟨rfl, rfl⟩ := h
    refine ⟨?_, by simp [sizeOf, run_tyi h1]⟩
    simp only [isAgg, Sem.run_bind, run_und h2, Result.andThen_ok]
    cases d <;> first | rfl | exact (h3 _ rfl).elim | exact (h4 _ _ rfl).elim
theorem tyZ_spec {t : TypeId} {z : List VV} (h : tyZ P t = some z) : ∃ zv : Value, (zeroValue t).run P w = .ok zv w ∧ z = zv.cells.toList.map ofS := by
  unfold tyZ at h
  split at h
  · rename_i i h1
    cases hz : i.zero with
    | none => rw [hz] at h; cases h
    | some zv =>
      rw [hz] at h
      simp at h
      exact ⟨zv, by simp [zeroValue, run_tyi h1, hz], h.symm⟩
  · cases h
end

theorem cs_rel {R : Rn} {v : VV} {x : Value} (h : VRel R v x) {cs : List VV} (hc : v.cs? = some cs) : VRelL R cs x.cells.toList := by
  cases v <;> simp only [VV.cs?] at hc
  case agg l => obtain ⟨xs, h1, rfl⟩ := h; simp at hc; subst hc; simpa [Value.cells] using h1
  case tup => cases hc
  case any => cases hc
  case opq u =>
    simp only [VRel] at h
    subst h
    cases ho : x.oneCell' with
    | false => rw [ho] at hc; cases hc
    | true =>
      rw [ho] at hc
      simp at hc
      subst hc
      refine ⟨x, [], rfl, rfl, ?_⟩
      cases x <;> simp_all [Value.cells, Value.oneCell']
  all_goals
    simp at hc
    subst hc
    refine ⟨x, [], h, rfl, ?_⟩
    simp only [VRel] at h
    first
      | (subst h; rfl)
      | (obtain ⟨_, _, rfl⟩ := h; rfl)
      | (obtain ⟨_, _, _, rfl⟩ := h; rfl)
      | (obtain ⟨_, _, _, _, rfl⟩ := h; rfl)
      | (obtain ⟨_, _, _, _, rfl, _⟩ := h; rfl)

theorem one_rel {R : Rn} {v : VV} {x : Value} (h : VRel R v x) (ho : v.one = true) : x.oneCell' = true := by
  cases v <;> simp only [VV.one] at ho <;> simp only [VRel] at h
  case agg => cases ho
  case tup => cases ho
  case any => cases ho
  case opq => subst h; exact ho
  all_goals
    first
      | (subst h; rfl)
      | (obtain ⟨_, _, rfl⟩ := h; rfl)
      | (obtain ⟨_, _, _, rfl⟩ := h; rfl)
      | (obtain ⟨_, _, _, _, rfl⟩ := h; rfl)
      | (obtain ⟨_, _, _, _, rfl, _⟩ := h; rfl)

theorem add_add (a : Addr) (x y : Nat) : (a.add x).add y = a.add (x + y) := by
  unfold Addr.add
  by_cases hx : x = 0 <;> by_cases hy : y = 0 <;> simp [hx, hy, Nat.add_assoc]

theorem ARel.add {R : Rn} {a : VA} {p : Addr} (h : ARel R a p) (k : Nat) : ARel R (a.add k) (p.add k) := by
  cases a with
  | own n off =>
    obtain ⟨b, hb, rfl⟩ := h
    refine ⟨b, hb, ?_⟩
    unfold Addr.add
    split
    · rename_i hk; subst hk; rfl
    · rfl
  | el n ix i off =>
    simp only [ARel, VA.add] at h ⊢
    rw [h, add_add, Nat.add_assoc]
  | ve n L s i off =>
    obtain ⟨h0, v, b, h1, h2, rfl⟩ := h
    refine ⟨h0, v, b, h1, h2, ?_⟩
    unfold Addr.add
    split
    · rename_i hk; subst hk; rfl
    · simp [Nat.add_assoc]

theorem addE_eq (a : VA) (k : Nat) (K : VA → Prop) : addE a k K = K (a.add k) := by
  cases a <;> simp only [addE, foN_eq, VA.add]


section
variable {P : Program}

theorem load_own {B : Nat} {R : Rn} {η : Nat → VB} {w : World} (e : Emb B R η w) {n off : Nat} {cs : List VV} {t : TypeId} (hn : η n = .cells cs t) {b : Nat} (hb : R.blk n = some b) {size : Nat} (hs : off + size ≤ cs.length) :
    ∃ xs : List Value, VRelL R ((cs.drop off).take size) xs ∧ (loadCells ⟨b, off, none⟩ size).run P w = .ok xs.toArray w := by
  obtain ⟨b', xs, h1, _, h3, h4⟩ := e.own n cs t hn
  rw [hb] at h1; cases h1
  have hl := h3.length
  refine ⟨(xs.drop off).take size, (h3.drop off).take size, ?_⟩
  have := run_loadCells_list (P := P) w ⟨b, off, none⟩ ((xs.drop off).take size) (fun j v hj => by
    have hj' : (xs.drop off)[j]? = some v ∧ j < size := by
      rw [List.getElem?_take] at hj
      split at hj
      · exact ⟨hj, by assumption⟩
      · cases hj
    have hj2 := hj'.1
    rw [List.getElem?_drop] at hj2
    have : (Addr.add ⟨b, off, none⟩ j) = ⟨b, off + j, none⟩ := by
      unfold Addr.add
      split
      · rename_i h0; subst h0; rfl
      · rfl
    rw [this]
    simp [World.cell?, h4, hj2])
  have hlen : ((xs.drop off).take size).length = size := by simp; omega
  rwa [hlen] at this

theorem load_el {B : Nat} {R : Rn} {η : Nat → VB} {w : World} (e : Emb B R η w) {n : Nat} {ix : List Int} {i : Int} {off s : Nat} {ok : List Int → Int → Prop} {g : List Int → Int → List VV} (hn : η n = .arr s ok g) (hok : ok ix i) {size : Nat} (hs : off + size ≤ s) :
    ∃ xs : List Value, VRelL R (((g ix i).drop off).take size) xs ∧ (loadCells ((R.arr n ix).add (i.toNat * R.str n + off)) size).run P w = .ok xs.toArray w := by
  obtain ⟨hst, h2⟩ := e.arr n s ok g hn
  obtain ⟨_, _, _, xs, h5, h6, h7⟩ := h2 ix i hok
  refine ⟨(xs.drop off).take size, ((h5.mono R.no_le).drop off).take size, ?_⟩
  have := run_loadCells_list (P := P) w ((R.arr n ix).add (i.toNat * R.str n + off)) ((xs.drop off).take size) (fun j v hj => by
    have hj' : (xs.drop off)[j]? = some v ∧ j < size := by
      rw [List.getElem?_take] at hj
      split at hj
      · exact ⟨hj, by assumption⟩
      · cases hj
    have hj2 := hj'.1
    rw [List.getElem?_drop] at hj2
    rw [add_add, hst, Nat.add_assoc]
    exact h7 _ _ hj2)
  have hlen : ((xs.drop off).take size).length = size := by simp; omega
  rwa [hlen] at this

theorem load_own1 {B : Nat} {R : Rn} {η : Nat → VB} {w : World} (e : Emb B R η w) {n off : Nat} {cs : List VV} {t : TypeId} (hn : η n = .cells cs t) {b : Nat} (hb : R.blk n = some b) {v : VV} (hv : cs[off]? = some v) :
    ∃ x : Value, VRel R v x ∧ (load ⟨b, off, none⟩).run P w = .ok x w := by
  obtain ⟨x, h1, h2, _⟩ := e.cell hn hv hb
  exact ⟨x, h2, by simp [h1]⟩

theorem load_el1 {B : Nat} {R : Rn} {η : Nat → VB} {w : World} (e : Emb B R η w) {n : Nat} {ix : List Int} {i : Int} {off s : Nat} {ok : List Int → Int → Prop} {g : List Int → Int → List VV} (hn : η n = .arr s ok g) (hok : ok ix i) {v : VV} (hv : (g ix i)[off]? = some v) :
    ∃ x : Value, VRel R v x ∧ (load ((R.arr n ix).add (i.toNat * R.str n + off))).run P w = .ok x w := by
  obtain ⟨hst, h2⟩ := e.arr n s ok g hn
  obtain ⟨_, _, _, xs, h5, h6, h7⟩ := h2 ix i hok
  obtain ⟨x, hx, hr⟩ := (h5.mono R.no_le).get off v hv
  refine ⟨x, hr, ?_⟩
  have := h7 off x hx
  rw [hst]
  simp [this]

theorem VecOk.elem {B : Nat} {R : Rn} {w : World} {n L : Nat} {g : Nat → List VV} {s : Nat} {t : TypeId} (h : VecOk B R n w L g s t) {v : Value} (h1 : R.vec n L = some v) {b : Nat} (h2 : v.ownBlock = some b) {i : Nat} (hi : i < L) :
    ∃ ys : List Value, VRelL R.no (g i) ys ∧ ys.length = s ∧ (g i).all VV.one = true ∧ ∀ k x, ys[k]? = some x → w.cell? ⟨b, i * s + k, none⟩ = some x := by
  obtain ⟨v', xs, g1, g2, g3⟩ := h.row
  rw [h1] at g1; cases g1
  obtain ⟨g3, g4⟩ := g3 i hi
  have hlen := g2.1
  have hle : i * s + s ≤ xs.length := by
    rw [hlen, ← Nat.succ_mul]
    exact Nat.mul_le_mul_right _ hi
  refine ⟨_, g3, by simp; omega, g4, fun k x hx => ?_⟩
  rw [List.getElem?_take] at hx
  split at hx
  · rw [List.getElem?_drop] at hx
    have := g2.cells h2 (i * s + k) x hx
    rw [show (Addr.add ⟨b, 0, none⟩ (i * s + k)) = ⟨b, i * s + k, none⟩ from by unfold Addr.add; split <;> simp_all] at this
    exact this
  · cases hx

theorem add_lit (b off j : Nat) : (Addr.add ⟨b, off, none⟩ j) = ⟨b, off + j, none⟩ := by
  unfold Addr.add
  split
  · rename_i h0; subst h0; rfl
  · rfl

theorem load_ve {B : Nat} {R : Rn} {η : Nat → VB} {w : World} (e : Emb B R η w) {n L s : Nat} {g : Nat → List VV} {t : TypeId} (hn : η n = .vec L g s t) {v : Value} (h1 : R.vec n L = some v) {b : Nat} (h2 : v.ownBlock = some b) {i off size : Nat} (hi : i < L) (hs : off + size ≤ s) :
    ∃ xs : List Value, VRelL R (((g i).drop off).take size) xs ∧ (loadCells ⟨b, i * s + off, none⟩ size).run P w = .ok xs.toArray w := by
  obtain ⟨ys, g1, g2, _, g3⟩ := (e.vec n L g s t hn).elem h1 h2 hi
  refine ⟨(ys.drop off).take size, ((g1.mono R.no_le).drop off).take size, ?_⟩
  have := run_loadCells_list (P := P) w ⟨b, i * s + off, none⟩ ((ys.drop off).take size) (fun j x hj => by
    rw [List.getElem?_take] at hj
    split at hj
    · rw [List.getElem?_drop] at hj
      rw [add_lit, Nat.add_assoc]
      exact g3 _ _ hj
    · cases hj)
  have hlen : ((ys.drop off).take size).length = size := by simp; omega
  rwa [hlen] at this

theorem load_ve1 {B : Nat} {R : Rn} {η : Nat → VB} {w : World} (e : Emb B R η w) {n L s : Nat} {g : Nat → List VV} {t : TypeId} (hn : η n = .vec L g s t) {v : Value} (h1 : R.vec n L = some v) {b : Nat} (h2 : v.ownBlock = some b) {i off : Nat} (hi : i < L) {u : VV} (hu : (g i)[off]? = some u) :
    ∃ x : Value, VRel R u x ∧ (load ⟨b, i * s + off, none⟩).run P w = .ok x w := by
  obtain ⟨ys, g1, g2, _, g3⟩ := (e.vec n L g s t hn).elem h1 h2 hi
  obtain ⟨x, hx, hr⟩ := (g1.mono R.no_le).get off u hu
  exact ⟨x, hr, by simp [g3 off x hx]⟩

/-- Reading. -/
theorem loadE_sound {agg : Bool} {size : Nat} {a : VA} {h : VH} {K : VV → Prop} (hK : loadE agg size a h K) :
    ∃ v, K v ∧ ∀ (ty : TypeId), tyI P ty = some (agg, size) → ∀ (B : Nat) (R : Rn) (w : World) (p : Addr), Emb B R h.at w → ARel R a p → ∃ x, (loadVar ty p).run P w = .ok x w ∧ VRel R v x := by
  unfold loadE at hK
  cases a with
  | own n off =>
    simp only at hK
    split at hK
    · rename_i cs t hn
      cases agg with
      | true =>
        obtain ⟨h1, h2⟩ := cond_f hK
        rw [foL_eq] at h2
        refine ⟨_, h2, fun ty hty B R w p e hp => ?_⟩
        obtain ⟨b, hb, rfl⟩ := hp
        obtain ⟨xs, hx, hr⟩ := load_own (P := P) e hn hb (Nat.le_of_ble_eq_true h1)
        obtain ⟨t1, t2⟩ := tyI_spec (w := w) hty
        exact ⟨.agg xs.toArray, by simp [loadVar, t1, t2, hr], xs, hx, rfl⟩
      | false =>
        simp only [cond_false] at hK
        split at hK
        · rename_i v hv
          rw [fo_eq] at hK
          refine ⟨v, hK, fun ty hty B R w p e hp => ?_⟩
          obtain ⟨b, hb, rfl⟩ := hp
          obtain ⟨x, hx, hr⟩ := load_own1 (P := P) e hn hb hv
          obtain ⟨t1, t2⟩ := tyI_spec (w := w) hty
          refine ⟨x, ?_, hx⟩
          simp only [loadVar, Sem.run_bind, t1, Result.andThen_ok]
          exact hr
        · exact hK.elim
    · exact hK.elim
  | el n ix i off =>
    simp only at hK
    split at hK
    · rename_i s ok g hn
      obtain ⟨h1, hok, h2⟩ := cond_f hK
      cases agg with
      | true =>
        simp only [cond_true, foL_eq] at h2
        refine ⟨_, h2, fun ty hty B R w p e hp => ?_⟩
        simp only [ARel] at hp
        subst hp
        obtain ⟨xs, hx, hr⟩ := load_el (P := P) e hn hok (Nat.le_of_ble_eq_true h1)
        obtain ⟨t1, t2⟩ := tyI_spec (w := w) hty
        exact ⟨.agg xs.toArray, by simp [loadVar, t1, t2, hr], xs, hx, rfl⟩
      | false =>
        simp only [cond_false] at h2
        split at h2
        · rename_i v hv
          rw [fo_eq] at h2
          refine ⟨v, h2, fun ty hty B R w p e hp => ?_⟩
          simp only [ARel] at hp
          subst hp
          obtain ⟨x, hx, hr⟩ := load_el1 (P := P) e hn hok hv
          obtain ⟨t1, t2⟩ := tyI_spec (w := w) hty
          refine ⟨x, ?_, hx⟩
          simp only [loadVar, Sem.run_bind, t1, Result.andThen_ok]
          exact hr
        · exact h2.elim
    · exact hK.elim
  | ve n L s i off =>
    simp only at hK
    split at hK
    · rename_i L' g s' t hn
      obtain ⟨h1, h2⟩ := cond_f hK
      simp only [Bool.and_eq_true] at h1
      obtain ⟨⟨h1, hs⟩, hL⟩ := h1
      have hs' : s' = s := Nat.eq_of_beq_eq_true hs
      have hL' : L' = L := Nat.eq_of_beq_eq_true hL
      subst hs'; subst hL'
      cases agg with
      | true =>
        simp only [cond_true, foL_eq] at h2
        refine ⟨_, h2, fun ty hty B R w p e hp => ?_⟩
        obtain ⟨h0, v, b, g1, g2, rfl⟩ := hp
        obtain ⟨xs, hx, hr⟩ := load_ve (P := P) e hn g1 g2 h0 (Nat.le_of_ble_eq_true h1)
        obtain ⟨t1, t2⟩ := tyI_spec (w := w) hty
        exact ⟨.agg xs.toArray, by simp [loadVar, t1, t2, hr], xs, hx, rfl⟩
      | false =>
        simp only [cond_false] at h2
        split at h2
        · rename_i u hu
          rw [fo_eq] at h2
          refine ⟨u, h2, fun ty hty B R w p e hp => ?_⟩
          obtain ⟨h0, v, b, g1, g2, rfl⟩ := hp
          obtain ⟨x, hx, hr⟩ := load_ve1 (P := P) e hn g1 g2 h0 hu
          obtain ⟨t1, t2⟩ := tyI_spec (w := w) hty
          refine ⟨x, ?_, hx⟩
          simp only [loadVar, Sem.run_bind, t1, Result.andThen_ok]
          exact hr
        · exact h2.elim
    · exact hK.elim

theorem setL_length : ∀ (vs : List VV) (cs : List VV) (off : Nat), (setL cs off vs).length = cs.length
  | [], _, _ => rfl
  | v :: vs, cs, off => by simp [setL, setL_length vs]

theorem storeCells_sound {n b : Nat} {t : TypeId} : ∀ (vs : List VV) (xs : List Value) (cs : List VV) (off j : Nat) (B : Nat) (R : Rn) (η : Nat → VB) (w : World),
    Emb B R η w → η n = .cells cs t → R.blk n = some b → VRelL R vs xs → vs.all VV.one = true → off + j + vs.length ≤ cs.length →
    ∃ w', (storeCells ⟨b, off, none⟩ xs j).run P w = .ok () w' ∧ Emb B R (upd η n (.cells (setL cs (off + j) vs) t)) w' ∧ Nxt η R w (upd η n (.cells (setL cs (off + j) vs) t)) R w' := by
  intro vs
  induction vs with
  | nil =>
    intro xs cs off j B R η w e hn hb hx _ _
    simp only [VRelL] at hx
    subst hx
    have : upd η n (.cells (setL cs (off + j) []) t) = η := by
      funext m
      unfold upd
      split
      · rename_i h; subst h; simpa [setL] using hn.symm
      · rfl
    rw [this]
    exact ⟨w, by simp [storeCells], e, Nxt.refl _ _ _ e.fresh⟩
  | cons v vs ih =>
    intro xs cs off j B R η w e hn hb hx hone hlen
    obtain ⟨y, ys, h1, h2, rfl⟩ := hx
    simp only [List.all_cons, Bool.and_eq_true] at hone
    simp only [List.length_cons] at hlen
    have hlt : off + j < cs.length := by omega
    obtain ⟨x0, hc, _, hfz⟩ := e.cell hn (List.getElem?_eq_getElem hlt) hb
    obtain ⟨e1, n1⟩ := e.store hn (off := off + j) h1 hb
    have hadd : (Addr.add ⟨b, off, none⟩ j) = ⟨b, off + j, none⟩ := by
      unfold Addr.add
      split
      · rename_i h0; subst h0; rfl
      · rfl
    have hst : (store (Addr.add ⟨b, off, none⟩ j) y).run P w = .ok () (w.setCell ⟨b, off + j, none⟩ y) := by
      rw [hadd, run_store P w _ _ _ (one_rel h1 hone.1)]
      simp [hc, hfz]
    have hup : upd η n (.cells (cs.set (off + j) v) t) n = .cells (cs.set (off + j) v) t := by simp [upd]
    obtain ⟨w', hr, e2, n2⟩ := ih ys (cs.set (off + j) v) off (j + 1) B R _ _ e1 hup hb h2 hone.2 (by simp; omega)
    have huu : upd (upd η n (.cells (cs.set (off + j) v) t)) n (.cells (setL (cs.set (off + j) v) (off + (j + 1)) vs) t) = upd η n (.cells (setL cs (off + j) (v :: vs)) t) := by
      funext m
      unfold upd
      split
      · simp [setL, Nat.add_assoc]
      · simp [*]
    rw [huu] at e2 n2
    exact ⟨w', by simp [storeCells, hst, hr], e2, n1.trans n2⟩

/-- Writing. -/
theorem storeE_sound {lock size : Nat} {a : VA} {v : VV} {h : VH} {K : VH → Prop} (hK : storeE lock size a v h K) :
    ∃ h', K h' ∧ (∀ n, n < lock → h'.at n = h.at n) ∧ ∀ (ty : TypeId) (agg : Bool), tyI P ty = some (agg, size) → ∀ (B : Nat) (R : Rn) (w : World) (p : Addr) (x : Value), Emb B R h.at w → ARel R a p → VRel R v x →
      ∃ w', (storeVar ty p x).run P w = .ok () w' ∧ Emb B R h'.at w' ∧ Nxt h.at R w h'.at R w' := by
  unfold storeE at hK
  split at hK
  · rename_i n off vs hvs
    split at hK
    · rename_i cs t hn
      obtain ⟨h1, h2⟩ := cond_f hK
      simp only [Bool.and_eq_true] at h1
      obtain ⟨⟨⟨hlock, hsz⟩, hle⟩, hone⟩ := h1
      rw [foL_eq] at h2
      have hput : ∀ m, (h.put n (.cells (setL cs off vs) t)).at m = upd h.at n (.cells (setL cs off vs) t) m := fun m => by
        rw [VH.at_put h n _ (by rw [hn]; simp)]
      refine ⟨h.put n (.cells (setL cs off vs) t), h2, fun m hm => ?_, fun ty agg hty B R w p x e hp hx => ?_⟩
      · rw [hput]
        have := Nat.le_of_ble_eq_true hlock
        simp [upd, show m ≠ n by omega]
      · obtain ⟨b, hb, rfl⟩ := hp
        have hcs := cs_rel hx hvs
        have hl := hcs.length
        have hsz' : vs.length = size := Nat.eq_of_beq_eq_true hsz
        have hle' := Nat.le_of_ble_eq_true hle
        obtain ⟨w', hr, e1, n1⟩ := storeCells_sound (P := P) vs x.cells.toList cs off 0 B R h.at w e hn hb hcs hone (by omega)
        rw [VH.at_put h n _ (by rw [hn]; simp)]
        refine ⟨w', ?_, e1, n1⟩
        obtain ⟨t1, t2⟩ := tyI_spec (w := w) hty
        have : x.cells.size = size := by rw [← hsz', hl]; simp
        simp [storeVar, t2, this, hr]
    · exact hK.elim
  · exact hK.elim

/-- A new block. -/
theorem newE_eq (h : VH) (cs : List VV) (t : TypeId) (K : Nat → VH → Prop) : newE h cs t K = K h.nx (h.new (.cells cs t)) := by
  cases h
  simp only [newE, foN_eq, foL_eq, VH.new]

end

end Go.Sx
