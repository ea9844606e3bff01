/- Data that nobody changes: loops, results, arguments. -/
import Derived.Test.YtlboglkgbhjpeaaSxL
import Derived.Test.YtlboglkgbhjpeaaSxV

namespace Go.Sx
open Go

theorem exRel_mono {R R' : Rn} (h : R.le R') {e : VEx} {ex : Exit} (hx : ExRel R e ex) : ExRel R' e ex := by
  cases e with
  | panic v => obtain ⟨x, h1, h2⟩ := hx; exact ⟨x, h1.mono h, h2⟩
  | _ => exact hx

/-- Some cells, one behind another, are told as data. -/
def frzL (lock : Nat) : List (Nat × Nat) → VH → (VH → Prop) → Prop
  | [], h, K => K h
  | (m, j) :: r, h, K => frzC lock m j h fun h => frzL lock r h K

theorem frzL_sound {lock : Nat} : ∀ (l : List (Nat × Nat)) (h : VH) (K : VH → Prop), frzL lock l h K → ∃ h', K h' ∧ LockP lock h h' ∧ Told h h'
  | [], h, K, hK => ⟨h, hK, lockP_refl _ _, Told.refl _⟩
  | (m, j) :: r, h, K, hK => by
    obtain ⟨h1, hK, l1, t1⟩ := frzC_sound hK
    obtain ⟨h2, hK, l2, t2⟩ := frzL_sound r h1 K hK
    exact ⟨h2, hK, lockP_trans l1 l2, t1.trans t2⟩

/-- What is looked at behind a round, some cells told as data. -/
def obsZ (zs : List (Nat × Nat)) (nx : Nat) (ds ns : List Nat) (Q : VEx → List VV → List VB → Prop) : CK := fun e t h => frzL 0 zs h fun h => obs nx ds ns Q e t h

section
variable {P : Program}

theorem Told.sem {pl : Bool} {c : Code} {n : Nat} {t t' : Slots} {h h1 h' : VH} {e : VEx} (ht : Told h1 h') (hs : SemC P pl c n t h e t' h1) : SemC P pl c n t h e t' h' := by
  intro F hF hp B ds R a w em tr hn hds
  refine wpIn_mono (hs F hF hp B ds R a w em tr hn hds) ?_
  rintro ex a' w' ⟨R', rs, h1, h2, h3, h4, h5, h6, h7, hz, h8⟩
  obtain ⟨R2, n2, e2⟩ := ht B R' w' h2
  have hle := n2.le h2
  exact ⟨R2, rs, h1.trans n2, e2, h3.mono hle, h4, h5, h6.next n2, h7, hz, exRel_mono hle h8⟩

theorem loop_allZ {σ : Type} (hmix : P.follows .mixedOrders = true) {call : CallT} (hg : Good P call) {lsp : σ → Nat → Option LT} {un n nx : Nat} {zs : List (Nat × Nat)} {ds ns : List Nat} {b : Code} (V : σ → List VV) (Bk : σ → List VB) (Inv : σ → Prop) (μ : σ → Nat) (Out : σ → VEx → List VV → List VB → Prop)
    (hls : ∀ s, Inv s → ∀ id T, lsp s id = some T → ∀ b' ∈ blocksOf id b, LSound P true (.block id b') n T)
    (hr : ∀ s, Inv s → codeE P call (lsp s) true un n 0 b (ds.zip (V s)) ⟨nx, ns.zip (Bk s)⟩ (obsZ zs nx ds ns (RoundQ V Bk Inv μ Out s))) :
    ∀ s, Inv s → ∃ e vs bs, Out s e vs bs ∧ e ≠ .normal ∧ LoopTo P true b n (ds.zip (V s)) ⟨nx, ns.zip (Bk s)⟩ e (ds.zip vs) ⟨nx, ns.zip bs⟩ := by
  have key : ∀ (m : Nat) (s : σ), μ s < m → Inv s → ∃ e vs bs, Out s e vs bs ∧ e ≠ .normal ∧ LoopTo P true b n (ds.zip (V s)) ⟨nx, ns.zip (Bk s)⟩ e (ds.zip vs) ⟨nx, ns.zip bs⟩ := by
    intro m
    induction m with
    | zero => intro s hs; omega
    | succ m ih =>
      intro s hs hi
      obtain ⟨e, t', h1, hK, _, hsem⟩ := code_sound (pl := true) hmix hg b _ _ _ (hls s hi) (hr s hi)
      obtain ⟨h', hK, _, htd⟩ := frzL_sound zs h1 _ hK
      have hsem := htd.sem hsem
      obtain ⟨hbel, hQ⟩ := cond_f hK
      simp only [Bool.and_eq_true] at hbel
      obtain ⟨⟨b1, b2⟩, b3⟩ := hbel
      have hpan : ∀ v, e = .panic v → v.bel nx = true := fun v hv => by subst hv; exact b3
      by_cases hn : e = .normal
      · subst hn
        obtain ⟨s', q1, q2, q3, q4, q5⟩ := hQ
        obtain ⟨e2, vs, bs, w1, w2, w3⟩ := ih s' (by omega) q1
        have hsem2 := sem_weak (bs := ns.zip (Bk s')) (t2 := ds.zip (V s')) hsem (Nat.le_refl nx) (fitB_zip h' ns (Bk s') q4) (belB_zip ns _ _ q4 b2) (by rw [← q3]; exact fitS_zip t' ds) (by rw [← q3]; exact belS_zip ds _ b1) hpan
        exact ⟨e2, vs, bs, q5 _ _ _ w1, w2, .next hsem2 w3⟩
      · have hsem2 := sem_weak (bs := ns.zip (ns.map h'.at)) (t2 := ds.zip (ds.map (look t'))) hsem (Nat.le_refl nx) (fitB_zip h' ns _ (fitBs_refl _)) (belB_zip ns _ _ (fitBs_refl _) b2) (fitS_zip t' ds) (belS_zip ds _ b1) hpan
        refine ⟨e, _, _, ?_, hn, .last hsem2 hn⟩
        cases e <;> first | exact (hn rfl).elim | exact hQ
  exact fun s hi => key (μ s + 1) s (Nat.lt_succ_self _) hi

/-- A loop's row. -/
theorem loop_rowZ {σ : Type} (hmix : P.follows .mixedOrders = true) {call : CallT} (hg : Good P call) {lsp : σ → Nat → Option LT} {un n nx id : Nat} {zs : List (Nat × Nat)} {ds ns : List Nat} {b : Code} {T : LT} (V : σ → List VV) (Bk : σ → List VB) (Inv : σ → Prop) (μ : σ → Nat) (Out : σ → VEx → List VV → List VB → Prop)
    (hls : ∀ s, Inv s → ∀ id T, lsp s id = some T → ∀ b' ∈ blocksOf id b, LSound P true (.block id b') n T)
    (hr : ∀ s, Inv s → codeE P call (lsp s) true un n 0 b (ds.zip (V s)) ⟨nx, ns.zip (Bk s)⟩ (obsZ zs nx ds ns (RoundQ V Bk Inv μ Out s)))
    (hT : ∀ lock t h K, T lock t h K → ∃ s, FitP lock h t ⟨nx, ns.zip (Bk s)⟩ (ds.zip (V s)) ∧ Inv s ∧ ∀ e vs bs, Out s e vs bs → K (exitOf id e) (ds.zip vs) ⟨nx, ns.zip bs⟩) :
    LSound P true (.block id (.loop b)) n T := by
  intro lock t h K hK
  obtain ⟨s, hf, hi, hO⟩ := hT lock t h K hK
  obtain rfl := hf.1.1
  obtain ⟨e, vs, bs, w1, w2, w3⟩ := loop_allZ hmix hg V Bk Inv μ Out hls hr s hi
  refine ⟨_, _, _, hO e vs bs w1, lock0 _ _, sem_fit hf (block_sound (loopTo_sound w3) ?_)⟩
  cases e with
  | exit id' =>
    by_cases hid : id' = id
    · subst hid
      exact .inl ⟨rfl, by simp [exitOf]⟩
    · exact .inr ⟨by simpa using hid, by simp [exitOf, beq_f hid]⟩
  | _ => exact .inr ⟨by simp, rfl⟩

/-- A list that a function returns, told as data. -/
theorem calls_tell {f : FuncId} {args : List VV} {h h' : VH} {v v2 : VV} {m L s : Nat} {g : Nat → List VV} {t : TypeId} (hs : CallsV P f args h (.ret v) h') (hm : h'.at m = .vec L g s t)
    (hv : ∀ (R R' : Rn) (x : Value), R.le R' → (∀ y, VRel R (.sl m L) y → VRel R' (.tl L s g) y) → VRel R v x → VRel R' v2 x) : CallsV P f args h (.ret v2) ⟨h'.nx, (m, .gone) :: h'.bs⟩ := by
  intro B R w xs em hx
  refine (hs B R w xs em hx).mono ?_
  rintro e w' ⟨R', n1, e1, x, hx1, he⟩
  obtain ⟨R2, hle, e2, n2, hy⟩ := emb_frzV e1 hm
  have hat : (VH.mk h'.nx ((m, .gone) :: h'.bs)).at = upd h'.at m .gone := VH.at_put h' m .gone (by rw [hm]; simp)
  exact ⟨R2, by rw [hat]; exact n1.trans n2, by rw [hat]; exact e2, x, hv R' R2 x hle hy hx1, he⟩

/-! Data that a caller lends. -/
/-- More of the same blocks. -/
def Ext (R R' : Rn) : Prop := R'.arr = R.arr ∧ R'.str = R.str ∧ ∀ b xs, R.frz b = some xs → ∃ ys, R'.frz b = some ys ∧ ∀ (k : Nat) (x : Value), xs[k]? = some x → ys[k]? = some x

theorem take_ext {xs ys : List Value} {o s : Nat} (h : ∀ (k : Nat) (x : Value), xs[k]? = some x → ys[k]? = some x) (hl : o + s ≤ xs.length) : (ys.drop o).take s = (xs.drop o).take s := by
  apply List.ext_getElem?
  intro j
  rw [List.getElem?_take, List.getElem?_take]
  split
  · rename_i hj
    rw [List.getElem?_drop, List.getElem?_drop]
    have h1 : xs[o + j]? = some xs[o + j] := List.getElem?_eq_getElem (by omega)
    rw [h1, h _ _ h1]
  · rfl

theorem ext_len {xs ys : List Value} (h : ∀ (k : Nat) (x : Value), xs[k]? = some x → ys[k]? = some x) : xs.length ≤ ys.length := by
  rcases Nat.eq_zero_or_pos xs.length with h0 | h0
  · omega
  · have h1 : xs[xs.length - 1]? = some xs[xs.length - 1] := List.getElem?_eq_getElem (by omega)
    have := (List.getElem?_eq_some_iff.1 (h _ _ h1)).1
    omega

mutual
theorem ext_V : ∀ {R R' : Rn} (_ : Ext R.no R'.no) (v : VV) (x : Value), VRel R.no v x → VRel R'.no v x
  | _, _, _, .bool _, _, hx => hx
  | _, _, _, .int _ _, _, hx => hx
  | _, _, _, .nilp, _, hx => hx
  | _, _, h, .ptr a, _, ⟨p, hp, hx⟩ => ⟨p, ext_A h a p hp, hx⟩
  | _, _, _, .nils, _, hx => hx
  | _, _, h, .slice a _ _, _, ⟨hl, p, hp, hx⟩ => ⟨hl, p, hp.imp id (fun ⟨q, h1, h2⟩ => ⟨q, h1, ext_A h a q h2⟩), hx⟩
  | _, _, h, .func _ first cap, _, ⟨xs, ys, h1, h2, hx⟩ => ⟨xs, ys, ext_L h first xs h1, ext_L h cap ys h2, hx⟩
  | _, _, _, .nilf, _, hx => hx
  | _, _, h, .iface _ v, _, ⟨y, hy, hx⟩ => ⟨y, ext_V h v y hy, hx⟩
  | _, _, _, .niff, _, hx => hx
  | _, _, h, .agg cs, _, ⟨xs, h1, hx⟩ => ⟨xs, ext_L h cs xs h1, hx⟩
  | _, _, h, .tup vs, _, ⟨xs, h1, hx⟩ => ⟨xs, ext_L h vs xs h1, hx⟩
  | _, _, _, .opq _, _, hx => hx
  | _, _, _, .any, _, hx => hx
  | _, _, _, .yld _, _, ⟨b, hb, _⟩ => by cases hb
  | _, _, _, .sl _ _, _, ⟨hx, _⟩ => by cases hx
  | _, _, _, .sub _ _ _ _ _, _, ⟨v, a, c, hx, _⟩ => by cases hx
  | _, _, _, .mp _, _, ⟨b, hb, _⟩ => by cases hb
  | _, _, h, .tl _ _ g, _, ⟨p, cap, h1, h2, h3⟩ => ⟨p, cap, h1, h2, fun i hi => by
      obtain ⟨b, o, xs, g1, g2, g3, g5, g4⟩ := h3 i hi
      obtain ⟨ys, k1, k2⟩ := h.2.2 b xs g2
      exact ⟨b, o, ys, g1, k1, Nat.le_trans g3 (ext_len k2), g5, by rw [take_ext k2 g3]; exact ext_L h (g i) _ g4⟩⟩
  | _, _, h, .tp cs, _, ⟨b, o, xs, h1, h2, h3⟩ => by
      obtain ⟨ys, k1, k2⟩ := h.2.2 b xs h2
      have hl := h3.length
      rw [List.length_take, List.length_drop] at hl
      rcases Nat.eq_zero_or_pos cs.length with h0 | h0
      · refine ⟨b, o, ys, h1, k1, ?_⟩
        have e1 := ext_L h cs _ h3
        rw [h0, List.take_zero] at e1 ⊢
        exact e1
      · exact ⟨b, o, ys, h1, k1, by rw [take_ext k2 (by omega)]; exact ext_L h cs _ h3⟩
theorem ext_L : ∀ {R R' : Rn} (_ : Ext R.no R'.no) (cs : List VV) (xs : List Value), VRelL R.no cs xs → VRelL R'.no cs xs
  | _, _, _, [], _, hx => hx
  | _, _, h, c :: cs, _, ⟨y, ys, h1, h2, hx⟩ => ⟨y, ys, ext_V h c y h1, ext_L h cs ys h2, hx⟩
theorem ext_A : ∀ {R R' : Rn} (_ : Ext R.no R'.no) (a : VA) (p : Addr), ARel R.no a p → ARel R'.no a p
  | _, _, _, .own _ _, _, ⟨b, hb, _⟩ => by cases hb
  | R, R', h, .el n ix i off, _, hx => by
    simp only [ARel] at hx ⊢
    have h1 : R'.no.arr = R.no.arr := h.1
    have h2 : R'.no.str = R.no.str := h.2.1
    rw [h1, h2]; exact hx
  | _, _, _, .ve _ _ _ _ _, _, ⟨_, v, b, hb, _⟩ => by cases hb
  | _, _, _, .fa _ _ _, _, ⟨b, hb, _⟩ => by cases hb
end
end
end Go.Sx
