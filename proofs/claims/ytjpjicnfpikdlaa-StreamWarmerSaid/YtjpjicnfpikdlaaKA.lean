/- stream: Ka1 Ka2 Ka3, in one text. -/
import Derived.Test.YtjpjicnfpikdlaaSxY
import Derived.Test.YtjpjicnfpikdlaaSxQ
import Derived.Test.YtjpjicnfpikdlaaProg
/- stream: what a point does (plain). -/

namespace Go.Sx.Str
open Go Go.Sx Go.Proofs
set_option maxRecDepth 100000

theorem hmix : Try.prog.follows .mixedOrders = true := by kernel_rfl

theorem none_good {un : Nat} (m : Nat) : Good Try.prog (callN Try.prog noSpec noL un m) :=
  callN_good hmix (fun _ _ h => by cases h) (fun _ _ _ _ _ _ _ h => by cases h) m

theorem good0 : Good Try.prog (callN Try.prog noSpec noL 10 20) := none_good 20

theorem noL_ok {b : Code} {n : Nat} : ∀ id T, (fun _ : Nat => (none : Option LT)) id = some T → ∀ b' ∈ blocksOf id b, LSound Try.prog true (.block id b') n T := fun _ _ h => by cases h

theorem lo_one {f : FuncId} {id : Nat} {T : LT} (hb : blocksOf id (bodyOf Try.prog f) = [.loop (loopB id (bodyOf Try.prog f))]) (hs : LSound Try.prog true (.block id (.loop (loopB id (bodyOf Try.prog f)))) (ntOf Try.prog f) T) : LoopsOk Try.prog f [(id, T)] := by
  intro x hx
  simp only [List.mem_singleton] at hx
  subst hx
  exact ⟨hb, hs⟩

theorem cond_b {b : Bool} {p q : Prop} (h1 : b = true → p) (h2 : b = false → q) : (bif b then p else q) := by
  cases b
  · exact h2 rfl
  · exact h1 rfl

def boQ (Q : Bool → Prop) : VRes → VH → Prop := fun r _ => match r with
  | .ret (.bool b) => Q b
  | _ => False

theorem boQ_of {Q : Bool → Prop} {r : VRes} {h : VH} (hq : boQ Q r h) : ∃ b, r = .ret (.bool b) ∧ Q b := by
  unfold boQ at hq
  split at hq
  · exact ⟨_, rfl, hq⟩
  · exact hq.elim

theorem by_bo {call : CallT} (hg : Good Try.prog call) {f : FuncId} {args : List VV} {b : Bool} (hK : call 0 (.fn f) args ⟨0, []⟩ (boQ (· = b))) (ha : belL 0 args = true) (h : VH) : CallsV Try.prog f args h (.ret (.bool b)) h := by
  obtain ⟨r, h', h1, _, h2⟩ := hg _ _ _ _ _ hK
  obtain ⟨b', rfl, rfl⟩ := boQ_of h1
  exact calls_lift0 h2 ha rfl

def maxI : Nat := 9223372036854775807
abbrev I (n : Int) : VV := .int .i64 n

/-- A point, and water. -/
structure Pt where
  k : Int
  flo : Int
  fhi : Int
  wlo : Int
  whi : Int
  hlo : Int
  hhi : Int
  slo : Int
  shi : Int

structure Wt where
  flo : Int
  fhi : Int
  wlo : Int
  whi : Int

def ptL (p : Pt) : List VV := [I p.k, I p.flo, I p.fhi, I p.wlo, I p.whi, I p.hlo, I p.hhi, I p.slo, I p.shi]
def wtL (w : Wt) : List VV := [I w.flo, I w.fhi, I w.wlo, I w.whi]
def ptsA (n : Nat) (l : Int → Pt) : VB := .arr 9 (fun ix i => ix = [] ∧ 0 ≤ i ∧ i < (n : Int)) (fun _ i => ptL (l i))

def spanB (lo hi least most : Int) : Bool := decide (least ≤ lo) && decide (lo ≤ hi) && decide (hi ≤ most)
def watB (w : Wt) : Bool := spanB w.flo w.fhi 1 1073741824 && spanB w.wlo w.whi 0 100000
/-- Is a point valid? -/
def ptB (p : Pt) : Bool :=
  bif decide (p.k = 0) then spanB p.flo p.fhi 1 1073741824 && spanB p.wlo p.whi 0 100000
  else bif decide (p.k = 1) then spanB p.flo p.fhi 0 1073741824
  else bif decide (p.k = 2) then spanB p.hlo p.hhi 0 1099511627776
  else bif decide (p.k = 3) then spanB p.wlo p.whi 0 100000 && spanB p.slo p.shi 0 10000
  else false

def mD (t f u g : Int) : Int := quoZ (t * f + u * g) (f + g)
def mU (t f u g : Int) : Int := quoZ (t * f + u * g + (f + g) - 1) (f + g)

/-- What is known behind a point. -/
def joinW (w : Wt) (p : Pt) : Wt :=
  ⟨w.flo + p.flo, w.fhi + p.fhi, if p.wlo < w.wlo then mD w.wlo w.flo p.wlo p.fhi else mD w.wlo w.fhi p.wlo p.flo, if p.whi < w.whi then mU w.whi w.fhi p.whi p.flo else mU w.whi w.flo p.whi p.fhi⟩
def drawW (w : Wt) (p : Pt) : Wt := ⟨w.flo - p.fhi, w.fhi - p.flo, w.wlo, w.whi⟩
def addW (w : Wt) (p : Pt) : Wt := ⟨w.flo, w.fhi, w.wlo + quoZ p.hlo w.fhi, w.whi + quoZ (p.hhi + w.flo - 1) w.flo⟩
def airW (w : Wt) (p : Pt) : Wt :=
  ⟨w.flo, w.fhi, if w.wlo > p.wlo then mD w.wlo (10000 - p.shi) p.wlo p.shi else mD w.wlo (10000 - p.slo) p.wlo p.slo, if w.whi > p.whi then mU w.whi (10000 - p.slo) p.whi p.slo else mU w.whi (10000 - p.shi) p.whi p.shi⟩
def stepW (w : Wt) (p : Pt) : Wt :=
  bif decide (p.k = 0) then joinW w p else bif decide (p.k = 1) then drawW w p else bif decide (p.k = 2) then addW w p else airW w p

/-- Behind a point: is there an error? -/
def errW (w : Wt) : Int := bif decide (w.flo < 1) then 10 else bif decide (w.fhi > 1073741824) || decide (w.whi > 100000) then 12 else 0

/-- What is known behind m points from the i-th on; the index and the error that end it. -/
def runL (l : Int → Pt) : Nat → Int → Wt → List Wt
  | 0, _, _ => []
  | m + 1, i, w => stepW w (l i) :: runL l m (i + 1) (stepW w (l i))
def runE (l : Int → Pt) : Nat → Int → Wt → Int
  | 0, _, _ => 0
  | m + 1, i, w => bif !ptB (l i) then 1 else bif decide (errW (stepW w (l i)) = 0) then runE l m (i + 1) (stepW w (l i)) else errW (stepW w (l i))
def runI (l : Int → Pt) : Nat → Int → Wt → Int
  | 0, i, _ => i
  | m + 1, i, w => bif ptB (l i) && decide (errW (stepW w (l i)) = 0) then runI l m (i + 1) (stepW w (l i)) else i

def w0 : Wt := ⟨0, 0, 0, 0⟩
def vecW (xs : List Wt) : VB := .vec xs.length (fun j => wtL (xs.getD j w0)) 4 25

/-- Water that is valid, as it is kept. -/
structure WOk (w : Wt) : Prop where
  f : 1 ≤ w.flo ∧ w.flo ≤ w.fhi ∧ w.fhi ≤ 1073741824
  w : 0 ≤ w.wlo ∧ w.wlo ≤ w.whi ∧ w.whi ≤ 100000

theorem spanB_iff {a c x y : Int} : spanB a c x y = true ↔ x ≤ a ∧ a ≤ c ∧ c ≤ y := by simp [spanB, and_assoc]

theorem watB_iff {w : Wt} : watB w = true ↔ WOk w := by
  unfold watB
  rw [Bool.and_eq_true, spanB_iff, spanB_iff]
  exact ⟨fun h => ⟨h.1, h.2⟩, fun h => ⟨h.f, h.w⟩⟩

theorem mul_in {a b A B : Int} (ha : 0 ≤ a ∧ a ≤ A) (hb : 0 ≤ b ∧ b ≤ B) : 0 ≤ a * b ∧ a * b ≤ A * B :=
  ⟨Int.mul_nonneg ha.1 hb.1, Int.le_trans (Int.mul_le_mul_of_nonneg_right ha.2 hb.1) (Int.mul_le_mul_of_nonneg_left hb.2 (by omega))⟩

/-- A mean, rounded, is one. -/
theorem mD_le {t f u g : Int} (ht : 0 ≤ t) (hu : 0 ≤ u) (hf : 0 ≤ f) (hg : 0 ≤ g) (h : 0 < f + g) : 0 ≤ mD t f u g ∧ mD t f u g * (f + g) ≤ t * f + u * g := by
  have h0 : 0 ≤ t * f + u * g := Int.add_nonneg (Int.mul_nonneg ht hf) (Int.mul_nonneg hu hg)
  unfold mD
  rw [quoZ_nn h0]
  exact ⟨Int.ediv_nonneg h0 (by omega), Int.ediv_mul_le _ (by omega)⟩

theorem mU_ge {t f u g : Int} (ht : 0 ≤ t) (hu : 0 ≤ u) (hf : 0 ≤ f) (hg : 0 ≤ g) (h : 0 < f + g) : 0 ≤ mU t f u g ∧ t * f + u * g ≤ mU t f u g * (f + g) := by
  have h0 : 0 ≤ t * f + u * g := Int.add_nonneg (Int.mul_nonneg ht hf) (Int.mul_nonneg hu hg)
  unfold mU
  rw [quoZ_nn (by omega)]
  refine ⟨Int.ediv_nonneg (by omega) (by omega), ?_⟩
  generalize t * f + u * g = s at *
  generalize f + g = d at *
  have h1 := Int.lt_ediv_add_one_mul_self (s + d - 1) h
  rw [Int.add_mul, Int.one_mul] at h1
  omega

theorem mU_le {t f u g M : Int} (ht : 0 ≤ t ∧ t ≤ M) (hu : 0 ≤ u ∧ u ≤ M) (hf : 0 ≤ f) (hg : 0 ≤ g) (h : 0 < f + g) : mU t f u g ≤ M := by
  have h0 : 0 ≤ t * f + u * g := Int.add_nonneg (Int.mul_nonneg ht.1 hf) (Int.mul_nonneg hu.1 hg)
  have h1 : t * f ≤ M * f := Int.mul_le_mul_of_nonneg_right ht.2 hf
  have h2 : u * g ≤ M * g := Int.mul_le_mul_of_nonneg_right hu.2 hg
  have h3 : M * (f + g) = M * f + M * g := Int.mul_add _ _ _
  unfold mU
  rw [quoZ_nn (by omega)]
  have h4 : (t * f + u * g + (f + g) - 1) / (f + g) < M + 1 := Int.ediv_lt_of_lt_mul h (by rw [Int.add_mul, Int.one_mul]; omega)
  omega
end Go.Sx.Str

/- stream: small functions, evaluated. -/

namespace Go.Sx.Str
open Go Go.Sx Go.Proofs
set_option maxRecDepth 100000

theorem span_ev (lo hi least most : Int) (Q : VRes → VH → Prop) : callN Try.prog noSpec noL 10 20 0 (.fn 48) [.agg [I lo, I hi], I least, I most] ⟨0, []⟩ Q =
  (bif decide (lo ≥ least) then
 bif decide (lo ≤ hi) then
 Q (VRes.ret (VV.bool (decide (hi ≤ most)))) (VH.mk (0 + 1) ([(0, VB.cells [I lo, I hi] 23)]))
 else Q (VRes.ret (VV.bool false)) (VH.mk (0 + 1) ([(0, VB.cells [I lo, I hi] 23)]))
 else Q (VRes.ret (VV.bool false)) (VH.mk (0 + 1) ([(0, VB.cells [I lo, I hi] 23)]))) := by kernel_rfl

theorem isSpan_ev (lo hi least most : Int) (Q : VRes → VH → Prop) : callN Try.prog noSpec noL 10 20 0 (.fn 49) [.agg [I lo, I hi], I least, I most] ⟨0, []⟩ Q =
  (bif decide (lo ≥ least) then
 bif decide (lo ≤ hi) then
 Q (VRes.ret (VV.bool (decide (hi ≤ most)))) (VH.mk (0 + 1) ([(0, VB.cells [I lo, I hi] 23)]))
 else Q (VRes.ret (VV.bool false)) (VH.mk (0 + 1) ([(0, VB.cells [I lo, I hi] 23)]))
 else Q (VRes.ret (VV.bool false)) (VH.mk (0 + 1) ([(0, VB.cells [I lo, I hi] 23)]))) := by kernel_rfl

theorem mean_ev (t f u g : Int) (Q : VRes → VH → Prop) : callN Try.prog noSpec noL 10 20 0 (.fn 79) [I t, I f, I u, I g] ⟨0, []⟩ Q =
  (bif inK IntKind.i64 (t * f) then
 bif inK IntKind.i64 (u * g) then
 bif inK IntKind.i64 (t * f + u * g) then
 bif inK IntKind.i64 (f + g) then
 bif decide (f + g = (0 : Int)) then
 False
 else bif inK IntKind.i64 (quoZ (t * f + u * g) (f + g)) then
 bif inK IntKind.i64 (f + g) then
 bif inK IntKind.i64 (t * f + u * g + (f + g)) then
 bif inK IntKind.i64 (t * f + u * g + (f + g) - (1 : Int)) then
 bif decide (f + g = (0 : Int)) then
 False
 else bif inK IntKind.i64 (quoZ (t * f + u * g + (f + g) - (1 : Int)) (f + g)) then
 Q (VRes.ret (VV.tup [I (quoZ (t * f + u * g) (f + g)), I (quoZ (t * f + u * g + (f + g) - (1 : Int)) (f + g))])) (VH.mk (0) ([]))
 else False
 else False
 else False
 else False
 else False
 else False
 else False
 else False
 else False) := by kernel_rfl

theorem up_ev (a b : Int) (Q : VRes → VH → Prop) : callN Try.prog noSpec noL 10 20 0 (.fn 80) [I a, I b] ⟨0, []⟩ Q =
  (bif inK IntKind.i64 (a + b) then
 bif inK IntKind.i64 (a + b - (1 : Int)) then
 bif decide (b = (0 : Int)) then
 False
 else bif inK IntKind.i64 (quoZ (a + b - (1 : Int)) b) then
 Q (VRes.ret (I (quoZ (a + b - (1 : Int)) b))) (VH.mk (0) ([]))
 else False
 else False
 else False) := by kernel_rfl

theorem up2_ev (a b : Int) (Q : VRes → VH → Prop) : callN Try.prog noSpec noL 10 20 0 (.fn 59) [I a, I b] ⟨0, []⟩ Q =
  (bif inK IntKind.i64 (a + b) then
 bif inK IntKind.i64 (a + b - (1 : Int)) then
 bif decide (b = (0 : Int)) then
 False
 else bif inK IntKind.i64 (quoZ (a + b - (1 : Int)) b) then
 Q (VRes.ret (I (quoZ (a + b - (1 : Int)) b))) (VH.mk (0) ([]))
 else False
 else False
 else False) := by kernel_rfl

theorem mix_ev (t f u g : Int) (Q : VRes → VH → Prop) : callN Try.prog noSpec noL 10 20 0 (.fn 58) [I t, I f, I u, I g] ⟨0, []⟩ Q =
  (bif inK IntKind.i64 (t * f) then
 bif inK IntKind.i64 (u * g) then
 bif inK IntKind.i64 (t * f + u * g) then
 bif inK IntKind.i64 (f + g) then
 Q (VRes.ret (VV.tup [I (t * f + u * g), I (f + g)])) (VH.mk (0) ([]))
 else False
 else False
 else False
 else False) := by kernel_rfl

theorem in_ev (n a b : Int) (Q : VRes → VH → Prop) : callN Try.prog noSpec noL 10 20 0 (.fn 39) [I n, I a, I b] ⟨0, []⟩ Q =
  (bif decide (n ≥ a) then
 Q (VRes.ret (VV.bool (decide (n ≤ b)))) (VH.mk (0) ([]))
 else Q (VRes.ret (VV.bool false)) (VH.mk (0) ([]))) := by kernel_rfl

theorem within_ev (n a b : Int) (Q : VRes → VH → Prop) : callN Try.prog noSpec noL 10 20 0 (.fn 38) [I n, I a, I b] ⟨0, []⟩ Q =
  (bif decide (n ≥ a) then
 Q (VRes.ret (VV.bool (decide (n ≤ b)))) (VH.mk (0) ([]))
 else Q (VRes.ret (VV.bool false)) (VH.mk (0) ([]))) := by kernel_rfl


end Go.Sx.Str

/- stream: small functions as rows. -/

namespace Go.Sx.Str
open Go Go.Sx Go.Proofs
set_option maxRecDepth 100000

theorem lift0 {f : FuncId} {args : List VV} {r : VRes} {h h' : VH} (hc : CallsV Try.prog f args ⟨0, []⟩ r h') (ha : belL 0 args = true) (hr : r.bel 0 = true) : CallsV Try.prog f args h r h :=
  calls_lift hc (Nat.zero_le _) (fun m hm => absurd hm (Nat.not_lt_zero m)) (fun m hm => absurd hm (Nat.not_lt_zero m)) (fun m hm => absurd hm (Nat.not_lt_zero m)) (fun m hm => absurd hm (Nat.not_lt_zero m)) ha hr

theorem span_v (lo hi a b : Int) (h : VH) : CallsV Try.prog 48 [.agg [I lo, I hi], I a, I b] h (.ret (.bool (spanB lo hi a b))) h := by
  refine by_bo good0 ?_ rfl h
  rw [span_ev]
  unfold spanB boQ
  repeat' first
    | (refine cond_d (fun _ => ?_) (fun _ => ?_))
  all_goals (simp; try omega)

theorem isSpan_v (lo hi a b : Int) (h : VH) : CallsV Try.prog 49 [.agg [I lo, I hi], I a, I b] h (.ret (.bool (spanB lo hi a b))) h := by
  refine by_bo good0 ?_ rfl h
  rw [isSpan_ev]
  unfold spanB boQ
  repeat' first
    | (refine cond_d (fun _ => ?_) (fun _ => ?_))
  all_goals (simp; try omega)

def inB (n a b : Int) : Bool := decide (a ≤ n) && decide (n ≤ b)
theorem inB_iff {n a b : Int} : inB n a b = true ↔ a ≤ n ∧ n ≤ b := by simp [inB]

theorem in_v (n a b : Int) (h : VH) : CallsV Try.prog 39 [I n, I a, I b] h (.ret (.bool (inB n a b))) h := by
  refine by_bo good0 ?_ rfl h
  rw [in_ev]
  unfold inB boQ
  refine cond_d (fun _ => ?_) (fun _ => ?_) <;> (simp; try omega)

theorem within_v (n a b : Int) (h : VH) : CallsV Try.prog 38 [I n, I a, I b] h (.ret (.bool (inB n a b))) h := by
  refine by_bo good0 ?_ rfl h
  rw [within_ev]
  unfold inB boQ
  refine cond_d (fun _ => ?_) (fun _ => ?_) <;> (simp; try omega)

def spanT (f : FuncId) : FuncId × Spec1 := (f, fun _ args h K => match args with
  | [.agg [.int .i64 a, .int .i64 b], .int .i64 x, .int .i64 y] => K (.ret (.bool (spanB a b x y))) h
  | _ => False)
def inT (f : FuncId) : FuncId × Spec1 := (f, fun _ args h K => match args with
  | [.int .i64 n, .int .i64 a, .int .i64 b] => K (.ret (.bool (inB n a b))) h
  | _ => False)

theorem spanT_ok {f : FuncId} (hf : ∀ lo hi a b h, CallsV Try.prog f [.agg [I lo, I hi], I a, I b] h (.ret (.bool (spanB lo hi a b))) h) : SpOk Try.prog (spanT f).1 (spanT f).2 := by
  intro lock args h K hK
  simp only [spanT] at hK
  split at hK
  · exact ⟨_, h, hK, lockP_refl _ _, hf _ _ _ _ h⟩
  · exact hK.elim

theorem inT_ok {f : FuncId} (hf : ∀ n a b h, CallsV Try.prog f [I n, I a, I b] h (.ret (.bool (inB n a b))) h) : SpOk Try.prog (inT f).1 (inT f).2 := by
  intro lock args h K hK
  simp only [inT] at hK
  split at hK
  · exact ⟨_, h, hK, lockP_refl _ _, hf _ _ _ h⟩
  · exact hK.elim

/-- Numbers of a mean. -/
def meanOk (t f u g : Int) : Prop := (0 ≤ t ∧ t ≤ 100000) ∧ (0 ≤ f ∧ f ≤ 1073741824) ∧ (0 ≤ u ∧ u ≤ 100000) ∧ (0 ≤ g ∧ g ≤ 1073741824) ∧ 0 < f + g

def meanT : FuncId × Spec1 := (79, fun _ args h K => match args with
  | [.int .i64 t, .int .i64 f, .int .i64 u, .int .i64 g] => meanOk t f u g ∧ K (.ret (.tup [I (mD t f u g), I (mU t f u g)])) h
  | _ => False)
def mixT : FuncId × Spec1 := (58, fun _ args h K => match args with
  | [.int .i64 t, .int .i64 f, .int .i64 u, .int .i64 g] => meanOk t f u g ∧ K (.ret (.tup [I (t * f + u * g), I (f + g)])) h
  | _ => False)
/-- Numbers of a quotient. -/
def upOk (a b : Int) : Prop := (0 ≤ a ∧ a ≤ 4611686018427387904) ∧ (0 < b ∧ b ≤ 4294967296)
def upT (f : FuncId) : FuncId × Spec1 := (f, fun _ args h K => match args with
  | [.int .i64 a, .int .i64 b] => upOk a b ∧ K (.ret (I (quoZ (a + b - 1) b))) h
  | _ => False)

theorem sum_in {t f u g : Int} (h : meanOk t f u g) : (0 ≤ t * f ∧ t * f ≤ 107374182400000) ∧ (0 ≤ u * g ∧ u * g ≤ 107374182400000) := by
  obtain ⟨h1, h2, h3, h4, _⟩ := h
  exact ⟨mul_in h1 h2, mul_in h3 h4⟩

theorem quo_in {a b : Int} (ha : 0 ≤ a) (hb : 0 < b) : 0 ≤ quoZ a b ∧ quoZ a b ≤ a := by
  rw [quoZ_nn ha]
  exact ⟨Int.ediv_nonneg ha (by omega), Int.ediv_le_self _ ha⟩

theorem meanT_ok : SpOk Try.prog meanT.1 meanT.2 := by
  intro lock args h K hK
  simp only [meanT] at hK
  split at hK
  · rename_i t f u g
    obtain ⟨hm, hK⟩ := hK
    obtain ⟨s1, s2⟩ := sum_in hm
    obtain ⟨h1, h2, h3, h4, h5⟩ := hm
    have q1 := quo_in (a := t * f + u * g) (b := f + g) (by omega) h5
    have q2 := quo_in (a := t * f + u * g + (f + g) - 1) (b := f + g) (by omega) h5
    obtain ⟨r, h', hQ, hc⟩ := of_callN good0 (f := 79) (args := [I t, I f, I u, I g]) (h := ⟨0, []⟩) (K := fun r _ => r = .ret (.tup [I (mD t f u g), I (mU t f u g)]))
      (by
        rw [mean_ev]
        exact cond_r (by omega) (cond_r (by omega) (cond_r (by omega) (cond_r (by omega) (cond_d (fun h => by omega) (fun _ => cond_r (by omega) (cond_r (by omega) (cond_r (by omega) (cond_r (by omega) (cond_d (fun h => by omega) (fun _ => cond_r (by omega) rfl)))))))))))
    subst hQ
    exact ⟨_, h, hK, lockP_refl _ _, lift0 hc rfl rfl⟩
  · exact hK.elim

theorem mixT_ok : SpOk Try.prog mixT.1 mixT.2 := by
  intro lock args h K hK
  simp only [mixT] at hK
  split at hK
  · rename_i t f u g
    obtain ⟨hm, hK⟩ := hK
    obtain ⟨s1, s2⟩ := sum_in hm
    obtain ⟨h1, h2, h3, h4, h5⟩ := hm
    obtain ⟨r, h', hQ, hc⟩ := of_callN good0 (f := 58) (args := [I t, I f, I u, I g]) (h := ⟨0, []⟩) (K := fun r _ => r = .ret (.tup [I (t * f + u * g), I (f + g)]))
      (by
        rw [mix_ev]
        exact cond_r (by omega) (cond_r (by omega) (cond_r (by omega) (cond_r (by omega) rfl))))
    subst hQ
    exact ⟨_, h, hK, lockP_refl _ _, lift0 hc rfl rfl⟩
  · exact hK.elim

theorem up_v {a b : Int} (ho : upOk a b) : ∃ h', CallsV Try.prog 80 [I a, I b] ⟨0, []⟩ (.ret (I (quoZ (a + b - 1) b))) h' := by
  obtain ⟨h1, h2⟩ := ho
  have q1 := quo_in (a := a + b - 1) (b := b) (by omega) h2.1
  obtain ⟨r, h', hQ, hc⟩ := of_callN good0 (f := 80) (args := [I a, I b]) (h := ⟨0, []⟩) (K := fun r _ => r = .ret (I (quoZ (a + b - 1) b)))
    (by
      rw [up_ev]
      exact cond_r (by omega) (cond_r (by omega) (cond_d (fun h => by omega) (fun _ => cond_r (by omega) rfl))))
  subst hQ
  exact ⟨h', hc⟩

theorem up2_v {a b : Int} (ho : upOk a b) : ∃ h', CallsV Try.prog 59 [I a, I b] ⟨0, []⟩ (.ret (I (quoZ (a + b - 1) b))) h' := by
  obtain ⟨h1, h2⟩ := ho
  have q1 := quo_in (a := a + b - 1) (b := b) (by omega) h2.1
  obtain ⟨r, h', hQ, hc⟩ := of_callN good0 (f := 59) (args := [I a, I b]) (h := ⟨0, []⟩) (K := fun r _ => r = .ret (I (quoZ (a + b - 1) b)))
    (by
      rw [up2_ev]
      exact cond_r (by omega) (cond_r (by omega) (cond_d (fun h => by omega) (fun _ => cond_r (by omega) rfl))))
  subst hQ
  exact ⟨h', hc⟩

theorem upT_ok {f : FuncId} (hf : ∀ a b, upOk a b → ∃ h', CallsV Try.prog f [I a, I b] ⟨0, []⟩ (.ret (I (quoZ (a + b - 1) b))) h') : SpOk Try.prog (upT f).1 (upT f).2 := by
  intro lock args h K hK
  simp only [upT] at hK
  split at hK
  · obtain ⟨ho, hK⟩ := hK
    obtain ⟨h', hc⟩ := hf _ _ ho
    exact ⟨_, h, hK, lockP_refl _ _, lift0 hc rfl rfl⟩
  · exact hK.elim
end Go.Sx.Str
