/- Abstract values and heaps, and how they stand to the model's. -/
import Derived.CallsIn
import Derived.OrdersIn
import Derived.KernelRfl
import Derived.Below
import Derived.RangeFuncOwn
import Derived.RangeFuncLeaves

namespace Go.Sx
open Go

/-- An abstract address: a cell of a block known by its name; a cell of an element of a read-only array. -/
inductive VA where
  | own (n off : Nat)
  | el (n : Nat) (ix : List Int) (i : Int) (off : Nat)

inductive VV where
  | bool (b : Bool)
  | int (k : IntKind) (n : Int)
  | nilp
  | ptr (a : VA)
  | nils
  | slice (a : VA) (len cap : Nat)
  | func (f : FuncId) (first cap : List VV)
  | nilf
  | iface (t : TypeId) (v : VV)
  | niff
  | agg (cs : List VV)
  | tup (vs : List VV)
  | opq (v : Value)
  | any
  | yld (n : Nat)

/-- Where the named blocks lie. -/
structure Rn where
  blk : Nat → Option Nat
  arr : Nat → List Int → Addr
  str : Nat → Nat

def ARel (R : Rn) : VA → Addr → Prop
  | .own n off, x => ∃ b, R.blk n = some b ∧ x = ⟨b, off, none⟩
  | .el n ix i off, x => x = (R.arr n ix).add (i.toNat * R.str n + off)

mutual
def VRel (R : Rn) : VV → Value → Prop
  | .bool b, x => x = .bool b
  | .int k n, x => x = .int k n
  | .nilp, x => x = .pointer none
  | .ptr a, x => ∃ p, ARel R a p ∧ x = .pointer (some p)
  | .nils, x => x = .slice none 0 0
  | .slice a len cap, x => len ≤ cap ∧ ∃ p, (cap = 0 ∨ ARel R a p) ∧ x = .slice (some p) len cap
  | .func f first cap, x => ∃ xs ys, VRelL R first xs ∧ VRelL R cap ys ∧ x = .func (.func f) xs.toArray ys.toArray
  | .nilf, x => x = .nilFunc
  | .iface t v, x => ∃ y, VRel R v y ∧ x = .iface t y
  | .niff, x => x = .nilIface
  | .agg cs, x => ∃ xs, VRelL R cs xs ∧ x = .agg xs.toArray
  | .tup vs, x => ∃ xs, VRelL R vs xs ∧ x = .tuple xs.toArray
  | .opq v, x => x = v
  | .any, _ => True
  | .yld n, x => ∃ b, R.blk n = some b ∧ x = .func (.yield b) #[] #[]
def VRelL (R : Rn) : List VV → List Value → Prop
  | [], xs => xs = []
  | c :: cs, xs => ∃ y ys, VRel R c y ∧ VRelL R cs ys ∧ xs = y :: ys
end

def Rn.le (R R' : Rn) : Prop := (∀ n b, R.blk n = some b → R'.blk n = some b) ∧ R'.arr = R.arr ∧ R'.str = R.str

theorem ARel.mono {R R' : Rn} (h : R.le R') {a : VA} {x : Addr} (hx : ARel R a x) : ARel R' a x := by
  cases a with
  | own n off => obtain ⟨b, hb, rfl⟩ := hx; exact ⟨b, h.1 _ _ hb, rfl⟩
  | el n ix i off => simp only [ARel] at hx ⊢; rw [h.2.1, h.2.2]; exact hx

mutual
theorem VRel.mono {R R' : Rn} (h : R.le R') : ∀ (v : VV) (x : Value), VRel R v x → VRel R' v x
  | .bool _, _, hx => hx
  | .int _ _, _, hx => hx
  | .nilp, _, hx => hx
  | .ptr _, _, ⟨p, hp, hx⟩ => ⟨p, hp.mono h, hx⟩
  | .nils, _, hx => hx
  | .slice _ _ _, _, ⟨hl, p, hp, hx⟩ => ⟨hl, p, hp.imp id (ARel.mono h), hx⟩
  | .func _ first cap, _, ⟨xs, ys, h1, h2, hx⟩ => ⟨xs, ys, VRelL.mono h first xs h1, VRelL.mono h cap ys h2, hx⟩
  | .nilf, _, hx => hx
  | .iface _ v, _, ⟨y, hy, hx⟩ => ⟨y, VRel.mono h v y hy, hx⟩
  | .niff, _, hx => hx
  | .agg cs, _, ⟨xs, h1, hx⟩ => ⟨xs, VRelL.mono h cs xs h1, hx⟩
  | .tup vs, _, ⟨xs, h1, hx⟩ => ⟨xs, VRelL.mono h vs xs h1, hx⟩
  | .opq _, _, hx => hx
  | .any, _, hx => hx
  | .yld _, _, ⟨b, hb, hx⟩ => ⟨b, h.1 _ _ hb, hx⟩
theorem VRelL.mono {R R' : Rn} (h : R.le R') : ∀ (cs : List VV) (xs : List Value), VRelL R cs xs → VRelL R' cs xs
  | [], _, hx => hx
  | c :: cs, _, ⟨y, ys, h1, h2, hx⟩ => ⟨y, ys, VRel.mono h c y h1, VRelL.mono h cs ys h2, hx⟩
end

theorem VRelL.length {R : Rn} : ∀ {cs : List VV} {xs : List Value}, VRelL R cs xs → cs.length = xs.length
  | [], _, h => by simp only [VRelL] at h; subst h; rfl
  | c :: cs, _, h => by obtain ⟨y, ys, _, h2, rfl⟩ := h; simp [h2.length]

theorem VRelL.get {R : Rn} : ∀ {cs : List VV} {xs : List Value}, VRelL R cs xs → ∀ (i : Nat) (v : VV), cs[i]? = some v → ∃ x, xs[i]? = some x ∧ VRel R v x
  | [], _, _ => fun i v hv => by simp at hv
  | c :: cs, _, h => by
    obtain ⟨y, ys, h1, h2, rfl⟩ := h
    intro i v hv
    cases i with
    | zero => simp at hv; subst hv; exact ⟨y, by simp, h1⟩
    | succ i => simpa using h2.get i v (by simpa using hv)

theorem VRelL.none {R : Rn} {cs : List VV} {xs : List Value} (h : VRelL R cs xs) {i : Nat} (hi : cs[i]? = none) : xs[i]? = none := by
  have := h.length
  simp at hi ⊢
  omega

theorem VRelL.set {R : Rn} : ∀ {cs : List VV} {xs : List Value}, VRelL R cs xs → ∀ (i : Nat) (v : VV) (x : Value), VRel R v x → VRelL R (cs.set i v) (xs.set i x)
  | [], _, h => by simp only [VRelL] at h; subst h; intro i v x _; simp [VRelL]
  | c :: cs, _, h => by
    obtain ⟨y, ys, h1, h2, rfl⟩ := h
    intro i v x hv
    cases i with
    | zero => exact ⟨x, ys, hv, h2, rfl⟩
    | succ i => exact ⟨y, ys.set i x, h1, h2.set i v x hv, rfl⟩

theorem VRelL.append {R : Rn} : ∀ {cs ds : List VV} {xs ys : List Value}, VRelL R cs xs → VRelL R ds ys → VRelL R (cs ++ ds) (xs ++ ys)
  | [], _, _, _, h, h' => by simp only [VRelL] at h; subst h; simpa using h'
  | c :: cs, _, _, _, h, h' => by
    obtain ⟨y, ys, h1, h2, rfl⟩ := h
    exact ⟨y, _, h1, h2.append h', rfl⟩

theorem VRelL.drop {R : Rn} : ∀ {cs : List VV} {xs : List Value} (n : Nat), VRelL R cs xs → VRelL R (cs.drop n) (xs.drop n)
  | _, _, 0, h => by simpa using h
  | [], _, n + 1, h => by simp only [VRelL] at h; subst h; simp [VRelL]
  | c :: cs, _, n + 1, h => by
    obtain ⟨y, ys, h1, h2, rfl⟩ := h
    simpa using h2.drop n

theorem VRelL.take {R : Rn} : ∀ {cs : List VV} {xs : List Value} (n : Nat), VRelL R cs xs → VRelL R (cs.take n) (xs.take n)
  | _, _, 0, h => by simp [VRelL]
  | [], _, n + 1, h => by simp only [VRelL] at h; subst h; simp [VRelL]
  | c :: cs, _, n + 1, h => by
    obtain ⟨y, ys, h1, h2, rfl⟩ := h
    exact ⟨y, _, h1, h2.take n, by simp⟩

theorem VRelL.replicate {R : Rn} {v : VV} {x : Value} (h : VRel R v x) : ∀ (n : Nat), VRelL R (List.replicate n v) (List.replicate n x)
  | 0 => by simp [VRelL]
  | n + 1 => ⟨x, _, h, VRelL.replicate h n, by simp [List.replicate_succ]⟩

/-- How code is left. -/
inductive VEx where
  | normal
  | exit (id : Nat)
  | goto (l : Nat)
  | ret
  | panic (v : VV)

/-- The slots, the newest first. -/
abbrev Slots := List (Nat × VV)

def look : Slots → Nat → VV
  | [], _ => .any
  | (m, v) :: r, n => bif Nat.beq m n then v else look r n

/-- What a block holds; a loop over a function: whether it is ready, the jump that is pending, the slots, how many they are, the parameters, the code. -/
inductive VB where
  | cells (cs : List VV) (t : TypeId)
  | arr (stride : Nat) (ok : List Int → Int → Prop) (g : List Int → Int → List VV)
  | gone
  | free
  | loop (st : Bool) (pd : Option VEx) (t : Slots) (m : Nat) (ps : List Nat) (assign body : Code)

def VB.live : VB → Prop
  | .cells .. => True
  | .loop .. => True
  | _ => False

def pdc : Option VEx → Option Code
  | some .ret => some .ret
  | some (.exit id) => some (.exit id)
  | some (.goto l) => some (.goto l)
  | _ => none

/-- A loop's record. -/
structure LRel (R : Rn) (st : Bool) (pd : Option VEx) (t : Slots) (m : Nat) (ps : List Nat) (assign body : Code) (r : Loop) : Prop where
  state : r.state = if st then .ready else .done
  pending : r.pending = pdc pd
  params : r.params = ps.toArray
  assign : r.assign = assign
  body : r.body = body
  size : r.tmps.size = m
  tmps : ∀ d, VRel R (look t d) (r.tmps.getD d undef)

theorem LRel.mono {R R' : Rn} (h : R.le R') {st : Bool} {pd : Option VEx} {t : Slots} {m : Nat} {ps : List Nat} {assign body : Code} {r : Loop} (l : LRel R st pd t m ps assign body r) : LRel R' st pd t m ps assign body r :=
  ⟨l.state, l.pending, l.params, l.assign, l.body, l.size, fun d => VRel.mono h _ _ (l.tmps d)⟩

/-- A heap: the next name, and the blocks, the newest first. -/
structure VH where
  nx : Nat
  bs : List (Nat × VB)

def lookB : List (Nat × VB) → Nat → VB
  | [], _ => .gone
  | (m, b) :: r, n => bif Nat.beq m n then b else lookB r n

def VH.at (h : VH) (n : Nat) : VB := bif Nat.blt n h.nx then lookB h.bs n else .free

def VH.put (h : VH) (n : Nat) (b : VB) : VH := ⟨h.nx, (n, b) :: h.bs⟩

def VH.new (h : VH) (b : VB) : VH := ⟨h.nx + 1, (h.nx, b) :: h.bs⟩

/-- No named block. -/
def Rn.no (R : Rn) : Rn := ⟨fun _ => none, R.arr, R.str⟩

theorem Rn.no_le (R : Rn) : R.no.le R := ⟨fun _ _ h => (by cases h), rfl, rfl⟩

/-- The world holds the named blocks. -/
structure Emb (B : Nat) (R : Rn) (η : Nat → VB) (w : World) : Prop where
  base : B ≤ w.heap.size
  own : ∀ n cs t, η n = .cells cs t → ∃ b xs, R.blk n = some b ∧ B ≤ b ∧ VRelL R cs xs ∧ w.heap[b]? = some (.cells xs.toArray t (0, 0))
  inj : ∀ n m b, (η n).live → (η m).live → R.blk n = some b → R.blk m = some b → n = m
  arr : ∀ n s ok g, η n = .arr s ok g → R.str n = s ∧ ∀ ix i, ok ix i → 0 ≤ i ∧ (R.arr n ix).block < B ∧ (R.arr n ix).spot = none ∧
    ∃ xs, VRelL R.no (g ix i) xs ∧ xs.length = s ∧ ∀ k x, xs[k]? = some x → w.cell? ((R.arr n ix).add (i.toNat * s + k)) = some x
  fresh : ∀ n, η n = .free → R.blk n = none
  lp : ∀ n st pd t m ps as bd, η n = .loop st pd t m ps as bd → ∃ b r, R.blk n = some b ∧ B ≤ b ∧ w.heap[b]? = some (.loop r) ∧ LRel R st pd t m ps as bd r

/-- One run's step from (η, R, w) on: nothing but named blocks is turned. -/
structure Nxt (η : Nat → VB) (R : Rn) (w : World) (η' : Nat → VB) (R' : Rn) (w' : World) : Prop where
  keep : ∀ n, η n ≠ .free → η' n ≠ .free
  old : ∀ n, η n ≠ .free → R'.blk n = R.blk n
  new : ∀ n b, η n = .free → R'.blk n = some b → w.heap.size ≤ b
  arr : R'.arr = R.arr
  str : R'.str = R.str
  live : ∀ n, η n ≠ .free → (η' n).live → (η n).live
  size : w.heap.size ≤ w'.heap.size
  frame : ∀ b, b < w.heap.size → (∀ n, (η n).live → R.blk n ≠ some b) → w'.heap[b]? = w.heap[b]?
  os : w'.os = w.os
  tape : w'.tape = w.tape
  output : w'.output = w.output

theorem VB.live_not_free {b : VB} (h : b.live) : b ≠ .free := by cases b <;> simp_all [VB.live]

theorem Nxt.refl (η : Nat → VB) (R : Rn) (w : World) (hf : ∀ n, η n = .free → R.blk n = none) : Nxt η R w η R w :=
  ⟨fun _ h => h, fun _ _ => rfl, fun n b h hb => (by rw [hf n h] at hb; cases hb), rfl, rfl, fun _ _ h => h, Nat.le_refl _, fun _ _ _ => rfl, rfl, rfl, rfl⟩

theorem Nxt.trans {η η1 η2 : Nat → VB} {R R1 R2 : Rn} {w w1 w2 : World} (h : Nxt η R w η1 R1 w1) (k : Nxt η1 R1 w1 η2 R2 w2) : Nxt η R w η2 R2 w2 where
  keep n hn := k.keep n (h.keep n hn)
  old n hn := (k.old n (h.keep n hn)).trans (h.old n hn)
  new n b hn hb := by
    by_cases h1 : η1 n = .free
    · exact Nat.le_trans h.size (k.new n b h1 hb)
    · exact h.new n b hn (by rw [← k.old n h1]; exact hb)
  arr := k.arr.trans h.arr
  str := k.str.trans h.str
  live n hn hl := h.live n hn (k.live n (h.keep n hn) hl)
  size := Nat.le_trans h.size k.size
  frame b hb hn := by
    rw [k.frame b (Nat.lt_of_lt_of_le hb h.size) ?_, h.frame b hb hn]
    intro n hl hR
    by_cases h0 : η n = .free
    · have := h.new n b h0 hR; omega
    · exact hn n (h.live n h0 hl) (by rw [← h.old n h0]; exact hR)
  os := k.os.trans h.os
  tape := k.tape.trans h.tape
  output := k.output.trans h.output

theorem Nxt.le {η η1 : Nat → VB} {R R1 : Rn} {w w1 : World} {B : Nat} (h : Nxt η R w η1 R1 w1) (e : Emb B R η w) : R.le R1 :=
  ⟨fun n b hb => by
    have : η n ≠ .free := fun hf => by rw [e.fresh n hf] at hb; cases hb
    rw [h.old n this]; exact hb, h.arr, h.str⟩

def upd (η : Nat → VB) (n : Nat) (b : VB) : Nat → VB := fun m => if m = n then b else η m

def Rn.put (R : Rn) (n b : Nat) : Rn := { R with blk := fun m => if m = n then some b else R.blk m }

theorem Emb.lt {B : Nat} {R : Rn} {η : Nat → VB} {w : World} (e : Emb B R η w) {n : Nat} (hl : (η n).live) {b : Nat} (hb : R.blk n = some b) : b < w.heap.size := by
  cases hn : η n with
  | cells cs t =>
    obtain ⟨b', xs, h1, _, _, h2⟩ := e.own n cs t hn
    rw [hb] at h1; cases h1
    exact (Array.getElem?_eq_some_iff.1 h2).1
  | loop st pd t m ps as bd =>
    obtain ⟨b', r, h1, _, h2, _⟩ := e.lp n st pd t m ps as bd hn
    rw [hb] at h1; cases h1
    exact (Array.getElem?_eq_some_iff.1 h2).1
  | _ => rw [hn] at hl; exact hl.elim

theorem Emb.alloc {B : Nat} {R : Rn} {η : Nat → VB} {w : World} (e : Emb B R η w) {n0 : Nat} (hn0 : η n0 = .free) {cs : List VV} {xs : List Value} {t : TypeId} (hx : VRelL R cs xs) :
    Emb B (R.put n0 w.heap.size) (upd η n0 (.cells cs t)) (w.alloc (.cells xs.toArray t)) ∧ Nxt η R w (upd η n0 (.cells cs t)) (R.put n0 w.heap.size) (w.alloc (.cells xs.toArray t)) := by
  have hfree := e.fresh n0 hn0
  have hle : R.le (R.put n0 w.heap.size) := ⟨fun n b hb => by
    simp only [Rn.put]
    by_cases h : n = n0
    · subst h; rw [hfree] at hb; cases hb
    · simp [h, hb], rfl, rfl⟩
  have hold : ∀ b, b < w.heap.size → (w.alloc (.cells xs.toArray t)).heap[b]? = w.heap[b]? := fun b hb => by
    show (w.heap.push _)[b]? = _
    rw [Array.getElem?_push, if_neg (by omega)]
  refine ⟨⟨?_, ?_, ?_, ?_, ?_, ?_⟩, ?_⟩
  · have := e.base; simp; omega
  · intro n cs' t' hn
    by_cases h : n = n0
    · subst h
      simp [upd] at hn
      obtain ⟨rfl, rfl⟩ := hn
      refine ⟨w.heap.size, xs, by simp [Rn.put], e.base, hx.mono hle, ?_⟩
      show (w.heap.push _)[w.heap.size]? = _
      simp
    · simp [upd, h] at hn
      obtain ⟨b, ys, h1, h2, h3, h4⟩ := e.own n cs' t' hn
      exact ⟨b, ys, by simp [Rn.put, h, h1], h2, h3.mono hle, by rw [hold b (Array.getElem?_eq_some_iff.1 h4).1]; exact h4⟩
  · intro n m b hn hm h1 h2
    by_cases hn' : n = n0 <;> by_cases hm' : m = n0
    · rw [hn', hm']
    · simp [Rn.put, hn'] at h1
      simp [Rn.put, hm'] at h2
      simp [upd, hm'] at hm
      have := e.lt hm h2
      omega
    · simp [Rn.put, hn'] at h1
      simp [Rn.put, hm'] at h2
      simp [upd, hn'] at hn
      have := e.lt hn h1
      omega
    · simp [Rn.put, hn'] at h1
      simp [Rn.put, hm'] at h2
      simp [upd, hm'] at hm
      simp [upd, hn'] at hn
      exact e.inj n m b hn hm h1 h2
  · intro n s ok g hn
    have h : n ≠ n0 := fun h => by simp [upd, h] at hn
    simp [upd, h] at hn
    obtain ⟨h1, h2⟩ := e.arr n s ok g hn
    refine ⟨h1, fun ix i hi => ?_⟩
    obtain ⟨h3, h4, h4', ys, h5, h6, h7⟩ := h2 ix i hi
    refine ⟨h3, h4, h4', ys, h5, h6, fun k x hk => ?_⟩
    rw [World.cell?_alloc_lt]
    · exact h7 k x hk
    · have := e.base; have : ((R.arr n ix).add (i.toNat * s + k)).block = (R.arr n ix).block := by unfold Addr.add; split <;> rfl
      show ((R.arr n ix).add (i.toNat * s + k)).block < _
      omega
  · intro n hn
    have h : n ≠ n0 := fun h => by simp [upd, h] at hn
    simp [upd, h] at hn
    simp [Rn.put, h, e.fresh n hn]
  · intro n st pd t' m ps as bd hn
    have h : n ≠ n0 := fun h => by simp [upd, h] at hn
    simp [upd, h] at hn
    obtain ⟨b, r, h1, h2, h3, h4⟩ := e.lp n st pd t' m ps as bd hn
    exact ⟨b, r, by simp [Rn.put, h, h1], h2, by rw [hold b (Array.getElem?_eq_some_iff.1 h3).1]; exact h3, h4.mono hle⟩
  · refine ⟨fun n hn => ?_, fun n hn => ?_, fun n b hn hb => ?_, rfl, rfl, fun n hn hl => ?_, by simp, fun b hb _ => hold b hb, rfl, rfl, rfl⟩
    · by_cases h : n = n0 <;> simp [upd, h]; exact hn
    · have h : n ≠ n0 := fun h => by subst h; exact hn hn0
      simp [Rn.put, h]
    · by_cases h : n = n0
      · simp [Rn.put, h] at hb; omega
      · simp [Rn.put, h] at hb; rw [e.fresh n hn] at hb; cases hb
    · have h : n ≠ n0 := fun h => by subst h; exact hn hn0
      simpa [upd, h] using hl

theorem Emb.cell {B : Nat} {R : Rn} {η : Nat → VB} {w : World} (e : Emb B R η w) {n : Nat} {cs : List VV} {t : TypeId} (hn : η n = .cells cs t) {off : Nat} {v : VV} (hv : cs[off]? = some v) {b : Nat} (hb : R.blk n = some b) :
    ∃ x, w.cell? ⟨b, off, none⟩ = some x ∧ VRel R v x ∧ w.frozen? ⟨b, off, none⟩ = false := by
  obtain ⟨b', xs, h1, _, h3, h4⟩ := e.own n cs t hn
  rw [hb] at h1; cases h1
  obtain ⟨x, hx, hr⟩ := h3.get off v hv
  refine ⟨x, ?_, hr, ?_⟩
  · simp [World.cell?, h4, hx]
  · simp [World.frozen?, h4]

theorem Emb.store {B : Nat} {R : Rn} {η : Nat → VB} {w : World} (e : Emb B R η w) {n : Nat} {cs : List VV} {t : TypeId} (hn : η n = .cells cs t) {off : Nat} {v : VV} {x : Value} (hx : VRel R v x) {b : Nat} (hb : R.blk n = some b) :
    Emb B R (upd η n (.cells (cs.set off v) t)) (w.setCell ⟨b, off, none⟩ x) ∧ Nxt η R w (upd η n (.cells (cs.set off v) t)) R (w.setCell ⟨b, off, none⟩ x) := by
  obtain ⟨b', xs, h1, hB, h3, h4⟩ := e.own n cs t hn
  rw [hb] at h1; cases h1
  have hlive : (η n).live := by rw [hn]; trivial
  have hother : ∀ k, k ≠ b → (w.setCell ⟨b, off, none⟩ x).heap[k]? = w.heap[k]? := fun k hk => RowKit.Below.heap_setCell w ⟨b, off, none⟩ x k hk
  have hsame : (w.setCell ⟨b, off, none⟩ x).heap[b]? = some (.cells (xs.set off x).toArray t (0, 0)) := by
    simp only [World.setCell, Array.getElem?_modify, h4]
    simp [List.setIfInBounds_toArray]
  refine ⟨⟨?_, ?_, ?_, ?_, ?_, ?_⟩, ?_⟩
  · simpa using e.base
  · intro m cs' t' hm
    by_cases h : m = n
    · subst h
      simp [upd] at hm
      obtain ⟨rfl, rfl⟩ := hm
      exact ⟨b, xs.set off x, hb, hB, h3.set off v x hx, hsame⟩
    · simp [upd, h] at hm
      obtain ⟨b2, ys, g1, g2, g3, g4⟩ := e.own m cs' t' hm
      refine ⟨b2, ys, g1, g2, g3, ?_⟩
      rw [hother b2 (fun hbb => by subst hbb; exact h (e.inj m n b2 (by rw [hm]; trivial) hlive g1 hb))]
      exact g4
  · intro m k b2 hm hk g1 g2
    refine e.inj m k b2 ?_ ?_ g1 g2
    · by_cases h : m = n
      · subst h; exact hlive
      · simpa [upd, h] using hm
    · by_cases h : k = n
      · subst h; exact hlive
      · simpa [upd, h] using hk
  · intro m s ok g hm
    have h : m ≠ n := fun h => by simp [upd, h] at hm
    simp [upd, h] at hm
    obtain ⟨g1, g2⟩ := e.arr m s ok g hm
    refine ⟨g1, fun ix i hi => ?_⟩
    obtain ⟨g3, g4, g4', ys, g5, g6, g7⟩ := g2 ix i hi
    refine ⟨g3, g4, g4', ys, g5, g6, fun k y hk => ?_⟩
    rw [World.cell?_setCell_other]
    · exact g7 k y hk
    · intro heq
      have : ((R.arr m ix).add (i.toNat * s + k)).block = (R.arr m ix).block := by unfold Addr.add; split <;> rfl
      rw [← heq] at this
      simp at this
      omega
  · intro m hm
    have h : m ≠ n := fun h => by simp [upd, h] at hm
    simp [upd, h] at hm
    exact e.fresh m hm
  · intro m st pd t' q ps as bd hm
    have h : m ≠ n := fun h => by simp [upd, h] at hm
    simp [upd, h] at hm
    obtain ⟨b2, r, g1, g2, g3, g4⟩ := e.lp m st pd t' q ps as bd hm
    refine ⟨b2, r, g1, g2, ?_, g4⟩
    rw [hother b2 (fun hbb => by subst hbb; exact h (e.inj m n b2 (by rw [hm]; trivial) hlive g1 hb))]
    exact g3
  · refine ⟨fun m hm => ?_, fun _ _ => rfl, fun m b2 hm hb2 => ?_, rfl, rfl, fun m hm hl => ?_, by simp, fun k hk hnl => ?_, rfl, rfl, rfl⟩
    · by_cases h : m = n <;> simp [upd, h]; exact hm
    · rw [e.fresh m hm] at hb2; cases hb2
    · by_cases h : m = n
      · subst h; exact hlive
      · simpa [upd, h] using hl
    · exact hother k (fun hkb => hnl n hlive (by rw [hkb]; exact hb))

theorem blt_t {m n : Nat} (h : m < n) : Nat.blt m n = true := by rw [Nat.blt_eq]; exact h
theorem blt_f {m n : Nat} (h : ¬ m < n) : Nat.blt m n = false := by rw [Bool.eq_false_iff, ne_eq, Nat.blt_eq]; exact h

theorem VH.at_nx (h : VH) : h.at h.nx = .free := by
  unfold VH.at
  rw [show Nat.blt h.nx h.nx = false from blt_f (Nat.lt_irrefl _)]
  rfl

theorem VH.at_new (h : VH) (b : VB) : (h.new b).at = upd h.at h.nx b := by
  funext m
  unfold VH.at VH.new upd
  by_cases h1 : m = h.nx
  · subst h1
    have : Nat.blt h.nx (h.nx + 1) = true := blt_t (by omega)
    simp [this, lookB]
  · simp only [h1, if_false]
    by_cases h2 : m < h.nx
    · have a1 : Nat.blt m (h.nx + 1) = true := blt_t (by omega)
      have a2 : Nat.blt m h.nx = true := blt_t h2
      have a3 : Nat.beq h.nx m = false := by rw [Bool.eq_false_iff]; intro hh; exact h1 (Nat.eq_of_beq_eq_true hh).symm
      simp [a1, a2, a3, lookB]
    · have a1 : Nat.blt m (h.nx + 1) = false := blt_f (by omega)
      have a2 : Nat.blt m h.nx = false := blt_f (by omega)
      simp [a1, a2]

theorem VH.at_put (h : VH) (n : Nat) (b : VB) (hn : h.at n ≠ .free) : (h.put n b).at = upd h.at n b := by
  funext m
  unfold VH.at VH.put upd
  by_cases h1 : m = n
  · subst h1
    have : Nat.blt m h.nx = true := by
      by_cases hh : Nat.blt m h.nx = true
      · exact hh
      · exfalso; apply hn; unfold VH.at; simp [hh]
    simp [this, lookB]
  · have a3 : Nat.beq n m = false := by rw [Bool.eq_false_iff]; intro hh; exact h1 (Nat.eq_of_beq_eq_true hh).symm
    simp [h1, a3, lookB]

end Go.Sx
