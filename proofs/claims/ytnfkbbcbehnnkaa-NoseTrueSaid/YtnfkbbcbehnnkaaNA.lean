/- stream: Na1 Na2 Na3 Na4 Na5, in one text. -/
import Derived.Test.YtnfkbbcbehnnkaaSxN
import Derived.Test.YtnfkbbcbehnnkaaSxX
import Derived.Test.YtnfkbbcbehnnkaaProg
/- nose: basics. -/

namespace Go.Sx.Nos
open Go Go.Sx Go.Proofs
set_option maxRecDepth 100000

theorem hmix : Try.prog.follows .mixedOrders = true := by kernel_rfl

theorem none_good {un : Nat} (m : Nat) : Good Try.prog (callN Try.prog noSpec noL un m) :=
  callN_good hmix (fun _ _ h => by cases h) (fun _ _ _ _ _ _ _ h => by cases h) m

theorem good0 : Good Try.prog (callN Try.prog noSpec noL 10 20) := none_good 20

theorem noL_ok {b : Code} {n : Nat} : ∀ id T, (fun _ : Nat => (none : Option LT)) id = some T → ∀ b' ∈ blocksOf id b, LSound Try.prog true (.block id b') n T := fun _ _ h => by cases h

theorem lo_one {f : FuncId} {id : Nat} {T : LT} (hb : blocksOf id (bodyOf Try.prog f) = [.loop (loopB id (bodyOf Try.prog f))]) (hs : LSound Try.prog true (.block id (.loop (loopB id (bodyOf Try.prog f)))) (ntOf Try.prog f) T) : LoopsOk Try.prog f [(id, T)] := by
  intro x hx
  simp only [List.mem_singleton] at hx
  subst hx
  exact ⟨hb, hs⟩

theorem cond_b {b : Bool} {p q : Prop} (h1 : b = true → p) (h2 : b = false → q) : (bif b then p else q) := by
  cases b
  · exact h2 rfl
  · exact h1 rfl

def boQ (Q : Bool → Prop) : VRes → VH → Prop := fun r _ => match r with
  | .ret (.bool b) => Q b
  | _ => False

theorem boQ_of {Q : Bool → Prop} {r : VRes} {h : VH} (hq : boQ Q r h) : ∃ b, r = .ret (.bool b) ∧ Q b := by
  unfold boQ at hq
  split at hq
  · exact ⟨_, rfl, hq⟩
  · exact hq.elim

theorem by_bo {call : CallT} (hg : Good Try.prog call) {f : FuncId} {args : List VV} {b : Bool} (hK : call 0 (.fn f) args ⟨0, []⟩ (boQ (· = b))) (ha : belL 0 args = true) (h : VH) : CallsV Try.prog f args h (.ret (.bool b)) h := by
  obtain ⟨r, h', h1, _, h2⟩ := hg _ _ _ _ _ hK
  obtain ⟨b', rfl, rfl⟩ := boQ_of h1
  exact calls_lift0 h2 ha rfl

abbrev I (n : Int) : VV := .int .i64 n

/-- A tasting, a standard, a panel. -/
structure Ts where
  j : Int
  s : Int
  p : Int
  c : Int
  o : Int

structure Sd where
  s : Int
  lo : Int
  hi : Int

structure Pn where
  D : List Int
  T : List Ts
  S : List Sd

def tsL (t : Ts) : List VV := [I t.j, I t.s, I t.p, I t.c, I t.o]
def sdL (s : Sd) : List VV := [I s.s, I s.lo, I s.hi]
def t0 : Ts := ⟨0, 0, 0, 0, 0⟩
def s0 : Sd := ⟨0, 0, 0⟩
def dG (D : List Int) : Nat → List VV := fun j => [I (D.getD j 0)]
def tG (T : List Ts) : Nat → List VV := fun j => tsL (T.getD j t0)
def sG (S : List Sd) : Nat → List VV := fun j => sdL (S.getD j s0)

/-- The kinds of an unknown's cells. -/
def kU : List PK := [.bool, .int .i64, .int .i64]

noncomputable def fl (i : Nat) : Field := match Try.prog.underlying 73 with
  | some (.struct fs) => fs.getD i ⟨ "", 0, 0, false, "", "", 0⟩
  | _ => ⟨ "", 0, 0, false, "", "", 0⟩
theorem u73 : Try.prog.underlying 73 = some (.struct #[fl 0, fl 1, fl 2]) := by kernel_rfl
theorem fl0 : (fl 0).type = 4 ∧ (fl 0).offset = 0 ∧ ((fl 0).name == "_") = false := ⟨by kernel_rfl, by kernel_rfl, by kernel_rfl⟩
theorem fl1 : (fl 1).type = 3 ∧ (fl 1).offset = 1 ∧ ((fl 1).name == "_") = false := ⟨by kernel_rfl, by kernel_rfl, by kernel_rfl⟩
theorem fl2 : (fl 2).type = 3 ∧ (fl 2).offset = 2 ∧ ((fl 2).name == "_") = false := ⟨by kernel_rfl, by kernel_rfl, by kernel_rfl⟩
theorem u4 : Try.prog.underlying 4 = some .bool := by kernel_rfl
theorem u3 : Try.prog.underlying 3 = some (.int .i64) := by kernel_rfl
theorem check73 (b : Bool) (x : Bool) (y z : Int) (w : World) : (Instr.checkKey b 10000 73 (.agg #[.bool x, .int .i64 y, .int .i64 z])).run Try.prog w = .ok () w := by
  rw [show (10000 : Nat) = 9998 + 1 + 1 by rfl, Instr.checkKey]
  simp only [Sem.run_bind, run_und u73, Result.andThen_ok]
  obtain ⟨a1, a2, a3⟩ := fl0
  obtain ⟨b1, b2, b3⟩ := fl1
  obtain ⟨c1, c2, c3⟩ := fl2
  have a4 : (fl 0).name ≠ "_" := by simpa using a3
  have b4 : (fl 1).name ≠ "_" := by simpa using b3
  have c4 : (fl 2).name ≠ "_" := by simpa using c3
  have p4 : (Instr.checkKey b 9999 4 (.bool x)).run Try.prog w = .ok () w := by
    rw [show (9999 : Nat) = 9998 + 1 by rfl, Instr.checkKey]; simp [run_und u4]
  have p3 : ∀ v : Int, (Instr.checkKey b 9999 3 (.int .i64 v)).run Try.prog w = .ok () w := fun v => by
    rw [show (9999 : Nat) = 9998 + 1 by rfl, Instr.checkKey]; simp [run_und u3]
  simp [a1, a2, a4, b1, b2, b4, c1, c2, c4, part, isAgg, run_und u4, run_und u3, p4, p3]

theorem eq73 (x x' : Bool) (y z y' z' : Int) : eqT Try.prog 10000 73 (.agg [.bool x, I y, I z]) (.agg [.bool x', I y', I z']) = some ((x == x') && (decide (y = y') && (decide (z = z') && true))) := by kernel_rfl

theorem keyU {k : List Int} (h : keyB kU k = true) : ∃ (x : Bool) (y z : Int), k = [bif x then 1 else 0, y, z] := by
  match k, h with
  | [a, y, z], h =>
    simp only [kU, keyB, Bool.and_true, Bool.or_eq_true, decide_eq_true_eq] at h
    rcases h with rfl | rfl
    · exact ⟨false, y, z, rfl⟩
    · exact ⟨true, y, z, rfl⟩
  | [], h => simp [kU, keyB] at h
  | [_], h => simp [kU, keyB] at h
  | [_, _], h => simp [kU, keyB] at h
  | _ :: _ :: _ :: _ :: _, h => simp [kU, keyB] at h

theorem key73 : KeyLaw Try.prog 73 kU := by
  refine ⟨⟨_, u73⟩, fun w k hk => ?_⟩
  obtain ⟨x, y, z, rfl⟩ := keyU hk
  have kv : ∀ (x : Bool) (y z : Int), keyV kU [bif x then 1 else 0, y, z] = [.bool x, .int .i64 y, .int .i64 z] := fun x y z => by cases x <;> rfl
  rw [kv]
  refine ⟨fun b => check73 b x y z w, fun k' hk' => ?_⟩
  obtain ⟨x', y', z', rfl⟩ := keyU hk'
  rw [kv]
  have := eqT_sound (P := Try.prog) (R := ⟨fun _ => none, fun _ _ => ⟨0, 0, none⟩, fun _ => 0, fun _ _ => none⟩) 10000 73 (.agg [.bool x, I y, I z]) (.agg [.bool x', I y', I z']) (.agg #[.bool x, .int .i64 y, .int .i64 z]) (.agg #[.bool x', .int .i64 y', .int .i64 z']) _ w ⟨[_, _, _], ⟨_, _, rfl, ⟨_, _, rfl, ⟨_, _, rfl, rfl, rfl⟩, rfl⟩, rfl⟩, rfl⟩ ⟨[_, _, _], ⟨_, _, rfl, ⟨_, _, rfl, ⟨_, _, rfl, rfl, rfl⟩, rfl⟩, rfl⟩, rfl⟩ (eq73 x x' y z y' z')
  unfold Op.equal Op.maxDepth
  rw [this]
  congr 1
  rw [Bool.eq_iff_iff]
  cases x <;> cases x' <;> simp
end Go.Sx.Nos

/- nose: numbers of unknowns, evaluated. -/

namespace Go.Sx.Nos
open Go Go.Sx Go.Proofs
set_option maxRecDepth 100000

def nuR (Q : VRes → List VB → Prop) : VRes → VH → Prop := fun r h => Q r [h.at 0, h.at 1]
theorem num_ev (es : List (List Int × Int)) (d : Nat → Int) (b : Bool) (y z : Int) (Q : VRes → List VB → Prop) : callN Try.prog noSpec noL 10 20 0 (.fn 61) [.ptr (.own 1 0), .agg [.bool b, I y, I z]] ⟨2, [(1, .fam [.mp 0] 4225 d 93), (0, .map kU (.int .i64) es)]⟩ (nuR Q) =
  (KeyLaw Try.prog 73 kU ∧ bif !hasE es [bif b then
 (1 : Int)
 else (0 : Int), y, z] then
 KeyLaw Try.prog 73 kU ∧ Q (VRes.ret (I (↑es.length : Int))) [VB.map kU (PK.int IntKind.i64) (setE es [bif b then
 (1 : Int)
 else (0 : Int), y, z] (↑es.length : Int)), VB.fam [VV.mp 0] 4225 d (93 : TypeId)]
 else Q (VRes.ret (I (valOf es [bif b then
 (1 : Int)
 else (0 : Int), y, z]))) [VB.map kU (PK.int IntKind.i64) es, VB.fam [VV.mp 0] 4225 d (93 : TypeId)]) := by kernel_rfl


end Go.Sx.Nos

/- nose: numbers of unknowns. -/

namespace Go.Sx.Nos
open Go Go.Sx Go.Proofs
set_option maxRecDepth 100000

abbrev Nd := List Int

/-- The place of an unknown in a list of them; behind its end, if it is not there. -/
def ixN : List Nd → Nd → Nat
  | [], _ => 0
  | y :: r, x => if y = x then 0 else ixN r x + 1

/-- A list with one unknown more, if it is not there. -/
def addN (N : List Nd) (x : Nd) : List Nd := if x ∈ N then N else N ++ [x]

def esF : Nat → List Nd → List (Nd × Int)
  | _, [] => []
  | i, x :: r => (x, (i : Int)) :: esF (i + 1) r
def esOf (N : List Nd) : List (Nd × Int) := esF 0 N

theorem esF_len : ∀ (N : List Nd) (i : Nat), (esF i N).length = N.length
  | [], _ => rfl
  | x :: r, i => by simp [esF, esF_len r]

theorem esOf_len (N : List Nd) : (esOf N).length = N.length := esF_len N 0

theorem esF_has : ∀ (N : List Nd) (i : Nat) (x : Nd), hasE (esF i N) x = decide (x ∈ N)
  | [], _, _ => rfl
  | y :: r, i, x => by
    simp only [esF, hasE, esF_has r]
    by_cases h : y = x
    · subst h; simp
    · rw [if_neg h]
      simp only [List.mem_cons, decide_eq_decide]
      exact ⟨fun hh => .inr hh, fun hh => hh.resolve_left fun e => h e.symm⟩

theorem esOf_has (N : List Nd) (x : Nd) : hasE (esOf N) x = decide (x ∈ N) := esF_has N 0 x

theorem esF_val : ∀ (N : List Nd) (i : Nat) (x : Nd), x ∈ N → getE (esF i N) x = some (((i + ixN N x : Nat)) : Int)
  | [], _, _, h => by cases h
  | y :: r, i, x, h => by
    simp only [esF, getE, ixN]
    by_cases he : y = x
    · subst he; simp
    · rw [if_neg he, if_neg he, esF_val r (i + 1) x ((List.mem_cons.1 h).resolve_left fun e => he e.symm)]
      congr 2; omega

theorem esOf_val {N : List Nd} {x : Nd} (h : x ∈ N) : valOf (esOf N) x = (ixN N x : Int) := by
  simp [valOf, esOf, esF_val N 0 x h]

theorem esF_set : ∀ (N : List Nd) (i : Nat) (x : Nd), x ∉ N → setE (esF i N) x ((i + N.length : Nat) : Int) = esF i (N ++ [x])
  | [], _, _, _ => rfl
  | y :: r, i, x, h => by
    have h1 : ¬ y = x := fun e => h (by simp [e])
    have h2 : x ∉ r := fun e => h (by simp [e])
    simp only [esF, setE, if_neg h1, List.cons_append]
    have := esF_set r (i + 1) x h2
    rw [show i + (y :: r).length = i + 1 + r.length by simp; omega, this]

theorem esOf_set {N : List Nd} {x : Nd} (h : x ∉ N) : setE (esOf N) x (N.length : Int) = esOf (N ++ [x]) := by
  have := esF_set N 0 x h
  rwa [Nat.zero_add] at this

theorem ixN_not : ∀ {N : List Nd} {x : Nd}, x ∉ N → ixN N x = N.length
  | [], _, _ => rfl
  | y :: r, x, h => by
    simp only [ixN, List.length_cons]
    rw [if_neg (fun e => h (by simp [e])), ixN_not fun e => h (by simp [e])]

theorem ixN_lt : ∀ {N : List Nd} {x : Nd}, x ∈ N → ixN N x < N.length
  | [], _, h => by cases h
  | y :: r, x, h => by
    simp only [ixN, List.length_cons]
    by_cases he : y = x
    · rw [if_pos he]; omega
    · rw [if_neg he]
      have := ixN_lt ((List.mem_cons.1 h).resolve_left fun e => he e.symm)
      omega

theorem ixN_get : ∀ {N : List Nd} {x : Nd}, x ∈ N → N[ixN N x]? = some x
  | [], _, h => by cases h
  | y :: r, x, h => by
    simp only [ixN]
    by_cases he : y = x
    · rw [if_pos he, he]; rfl
    · rw [if_neg he]
      simpa using ixN_get ((List.mem_cons.1 h).resolve_left fun e => he e.symm)

theorem ixN_app : ∀ {N M : List Nd} {x : Nd}, x ∈ N → ixN (N ++ M) x = ixN N x
  | [], _, _, h => by cases h
  | y :: r, M, x, h => by
    simp only [List.cons_append, ixN]
    by_cases he : y = x
    · rw [if_pos he, if_pos he]
    · rw [if_neg he, if_neg he, ixN_app ((List.mem_cons.1 h).resolve_left fun e => he e.symm)]

theorem mem_addN (N : List Nd) (x : Nd) : x ∈ addN N x := by
  unfold addN
  split <;> simp_all

theorem sub_addN {N : List Nd} {x y : Nd} (h : y ∈ N) : y ∈ addN N x := by
  unfold addN
  split <;> simp_all

theorem ixN_add {N : List Nd} {x y : Nd} (h : y ∈ N) : ixN (addN N x) y = ixN N y := by
  unfold addN
  split
  · rfl
  · exact ixN_app h

theorem ixN_new (N : List Nd) (x : Nd) : ixN (addN N x) x = ixN N x := by
  unfold addN
  split
  · rfl
  · rename_i h
    have : ∀ (N : List Nd), x ∉ N → ixN (N ++ [x]) x = N.length := by
      intro N
      induction N with
      | nil => intro _; simp [ixN]
      | cons y r ih =>
        intro h
        simp only [List.cons_append, ixN, List.length_cons]
        rw [if_neg (fun e => h (by simp [e])), ih fun e => h (by simp [e])]
    rw [this N h, ixN_not h]

/-- The block of a map of unknowns; of what was tasted. -/
abbrev maB (N : List Nd) : VB := .map kU (.int .i64) (esOf N)
abbrev faB (m : Nat) (d : Nat → Int) : VB := .fam [.mp m] 4225 d 93

def ndB (b : Bool) (y z : Int) : Nd := [bif b then 1 else 0, y, z]

theorem num_v (N : List Nd) (d : Nat → Int) (b : Bool) (y z : Int) : CallsV Try.prog 61 [.ptr (.own 1 0), .agg [.bool b, I y, I z]] ⟨2, [(1, faB 0 d), (0, maB N)]⟩ (.ret (I (ixN N (ndB b y z) : Nat))) ⟨2, [(0, maB (addN N (ndB b y z))), (1, faB 0 d)]⟩ := by
  obtain ⟨r, h', hQ, hc⟩ := of_callN good0 (f := 61) (args := [.ptr (.own 1 0), .agg [.bool b, I y, I z]]) (h := ⟨2, [(1, faB 0 d), (0, maB N)]⟩)
    (K := nuR fun r bs => r = .ret (I (ixN N (ndB b y z) : Nat)) ∧ bs = [maB (addN N (ndB b y z)), faB 0 d])
    (by
      rw [num_ev, esOf_has, esOf_len]
      refine ⟨key73, ?_⟩
      by_cases h : ndB b y z ∈ N
      · rw [show [bif b then (1 : Int) else (0 : Int), y, z] = ndB b y z from rfl, decide_eq_true h, esOf_val h]
        refine ⟨rfl, ?_⟩
        rw [show addN N (ndB b y z) = N from if_pos h]
      · rw [show [bif b then (1 : Int) else (0 : Int), y, z] = ndB b y z from rfl, decide_eq_false h, esOf_set h]
        refine ⟨key73, by rw [ixN_not h], ?_⟩
        rw [show addN N (ndB b y z) = N ++ [ndB b y z] from if_neg h])
  obtain ⟨rfl, hb⟩ := hQ
  injection hb with g0 g1
  injection g1 with g1 _
  exact calls_weak hc (show 2 ≤ 2 by decide) ⟨by rw [g0]; exact VB.fit_refl _, by rw [g1]; exact VB.fit_refl _, trivial⟩ rfl rfl

/-- A contract over what was tasted, wherever it lies. -/
theorem tasted_at {f : FuncId} {args : List VV} {N N' : List Nd} {d d' : Nat → Int} {r : VRes} {m t : Nat} {h : VH} (hs : CallsV Try.prog f args ⟨2, [(1, faB 0 d), (0, maB N)]⟩ r ⟨2, [(0, maB N'), (1, faB 0 d')]⟩)
    (hm : h.at m = maB N) (ht : h.at t = faB m d) (ha : belL 2 args = true) (hr : r.bel 2 = true) : CallsV Try.prog f (renL (fun n => bif Nat.beq n 0 then m else t) args) h (r.ren fun n => bif Nat.beq n 0 then m else t) ⟨h.nx, (t, faB m d') :: (m, maB N') :: h.bs⟩ := by
  have hmt : m ≠ t := fun e => by rw [e, ht] at hm; cases hm
  have n1 : (VH.mk h.nx ((m, maB N') :: h.bs)).at = upd h.at m (maB N') := VH.at_put h m _ (by rw [hm]; simp)
  have n2 : (VH.mk h.nx ((t, faB m d') :: (m, maB N') :: h.bs)).at = upd (upd h.at m (maB N')) t (faB m d') := by
    have := VH.at_put (VH.mk h.nx ((m, maB N') :: h.bs)) t (faB m d') (by rw [n1]; simp [upd, hmt.symm, ht])
    rw [n1] at this
    exact this
  have two : ∀ n, n < 2 → n = 0 ∨ n = 1 := fun n hn => by omega
  refine calls_ren (hm := ⟨2, [(1, faB 0 d), (0, maB N)]⟩) (hm' := ⟨2, [(0, maB N'), (1, faB 0 d')]⟩) (fun n => bif Nat.beq n 0 then m else t) (fun n k hn hk he => ?_) hs (fun n hn => ?_) (fun n hn => ?_) (fun q hq => ?_) (fun n hn => ?_) ha hr
  · rcases two n hn with rfl | rfl <;> rcases two k hk with rfl | rfl <;> first | rfl | exact absurd he hmt | exact absurd he.symm hmt
  · rcases two n hn with rfl | rfl
    · exact ⟨trivial, hm⟩
    · exact ⟨trivial, ht⟩
  · rcases two n hn with rfl | rfl
    · refine ⟨trivial, rfl, ?_⟩
      rw [n2]
      simp only [upd, show (bif Nat.beq 0 0 then m else t) = m from rfl, if_neg hmt, if_true]
      rfl
    · refine ⟨trivial, rfl, ?_⟩
      rw [n2]
      simp only [upd, show (bif Nat.beq 1 0 then m else t) = t from rfl, if_true]
      rfl
  · have h0 : m ≠ q := hq 0 (show 0 < 2 by decide)
    have h1 : t ≠ q := hq 1 (show 1 < 2 by decide)
    rw [n2]
    simp [upd, h0.symm, h1.symm]
  · rcases two n hn with rfl | rfl <;> rfl

/-- The number of an unknown. -/
def numT : FuncId × Spec1 := (61, fun lock args h K => match args with
  | [.ptr (.own t 0), .agg [.bool b, .int .i64 y, .int .i64 z]] => (match h.at t with
    | .fam [.mp m] 4225 _ 93 => ∃ N : List Nd, h.at m = maB N ∧ bif Nat.ble lock m then (match h with
      | ⟨nx, bs⟩ => K (.ret (I (ixN N (ndB b y z) : Nat))) ⟨nx, (m, maB (addN N (ndB b y z))) :: bs⟩) else False
    | _ => False)
  | _ => False)

theorem numT_ok : SpOk Try.prog numT.1 numT.2 := by
  intro lock args h K hK
  simp only [numT] at hK
  split at hK
  · rename_i t b y z
    split at hK
    · rename_i m d ht
      obtain ⟨N, hm, hK⟩ := hK
      obtain ⟨hl, hK⟩ := cond_f hK
      have hmt : m ≠ t := fun e => by rw [e, ht] at hm; cases hm
      have h2 := tasted_at (m := m) (t := t) (num_v N d b y z) hm ht rfl rfl
      have n1 : (VH.mk h.nx ((m, maB (addN N (ndB b y z))) :: h.bs)).at = upd h.at m (maB (addN N (ndB b y z))) := VH.at_put h m _ (by rw [hm]; simp)
      refine ⟨_, ⟨h.nx, (m, maB (addN N (ndB b y z))) :: h.bs⟩, by cases h; exact hK, fun n hn hf => ?_, ?_⟩
      · rw [n1]
        have := Nat.le_of_ble_eq_true hl
        simp [upd, show n ≠ m by omega]
      · have hat : (VH.mk h.nx ((t, faB m d) :: (m, maB (addN N (ndB b y z))) :: h.bs)).at = (VH.mk h.nx ((m, maB (addN N (ndB b y z))) :: h.bs)).at := by
          have := VH.at_put (VH.mk h.nx ((m, maB (addN N (ndB b y z))) :: h.bs)) t (faB m d) (by rw [n1]; simp [upd, hmt.symm, ht])
          refine this.trans ?_
          funext q
          rw [n1]
          unfold upd
          split
          · rename_i hq; subst hq; rw [if_neg hmt.symm, ht]
          · rfl
        intro B R w xs em hx
        refine (h2 B R w xs em hx).mono ?_
        rintro e w' ⟨R', a1, a2, a3⟩
        rw [hat] at a1 a2
        exact ⟨R', a1, a2, a3⟩
    · exact hK.elim
  · exact hK.elim
end Go.Sx.Nos

/- nose: limits, evaluated. -/

namespace Go.Sx.Nos
open Go Go.Sx Go.Proofs
set_option maxRecDepth 100000

theorem lim_ev (N : List Nd) (d : Nat → Int) (b : Bool) (y z : Int) (b' : Bool) (y' z' : Int) (n : Int) (Q : VRes → List VB → Prop) : callN Try.prog (tabS [numT]) noL 10 20 0 (.fn 69) [.ptr (.own 1 0), .agg [.bool b, I y, I z], .agg [.bool b', I y', I z'], I n] ⟨2, [(1, faB 0 d), (0, maB N)]⟩ (nuR Q) =
  (∃ N_1, (maskH [0, 1, 2, 3] (VH.mk (4) [(3, VB.cells [VV.bool b', I y', I z'] 73), (2, VB.cells [VV.bool b, I y, I z] 73), (1, faB 0 d), (0, maB N)])).at 0 = maB N_1 ∧ keepP (VH.mk (4) [(3, VB.cells [VV.bool b', I y', I z'] 73), (2, VB.cells [VV.bool b, I y, I z] 73), (1, faB 0 d), (0, maB N)]) (VH.mk (VH.mk (4) [(3, VB.cells [VV.bool b', I y', I z'] 73), (2, VB.cells [VV.bool b, I y, I z] 73), (1, faB 0 d), (0, maB N)]).nx ((0, maB (addN N_1 (ndB b y z))) :: maskL (VH.mk (4) [(3, VB.cells [VV.bool b', I y', I z'] 73), (2, VB.cells [VV.bool b, I y, I z] 73), (1, faB 0 d), (0, maB N)]) [0, 1, 2, 3])) 0 [0, 1, 2, 3] ∧ ∃ N_2, (VH.mk (4) [(0, VB.map kU (PK.int IntKind.i64) (esOf (addN N_1 (ndB b y z)))), (3, VB.cells [VV.bool b', I y', I z'] 73), (2, VB.cells [VV.bool b, I y, I z] 73), (1, faB 0 d), (0, maB N)]).at 0 = maB N_2 ∧ bif decide ((0 : Int) ≤ (↑(ixN N_1 (ndB b y z)) : Int) ∧ (↑(ixN N_1 (ndB b y z)) : Int) < (↑65 : Int)) then
 bif decide ((0 : Int) ≤ (↑(ixN N_2 (ndB b' y' z')) : Int) ∧ (↑(ixN N_2 (ndB b' y' z')) : Int) < (↑65 : Int)) then
 bif decide ((↑(ixN N_1 (ndB b y z)) : Int).toNat * (65) + (↑(ixN N_2 (ndB b' y' z')) : Int).toNat * (1) < 4225) then
 bif decide ((0 : Int) ≤ (↑(ixN N_1 (ndB b y z)) : Int) ∧ (↑(ixN N_1 (ndB b y z)) : Int) < (↑65 : Int)) then
 bif decide ((0 : Int) ≤ (↑(ixN N_2 (ndB b' y' z')) : Int) ∧ (↑(ixN N_2 (ndB b' y' z')) : Int) < (↑65 : Int)) then
 bif decide ((↑(ixN N_1 (ndB b y z)) : Int).toNat * (65) + (↑(ixN N_2 (ndB b' y' z')) : Int).toNat * (1) + (1) ≤ 4225) then
 Q (VRes.ret (VV.tup [])) [VB.map kU (PK.int IntKind.i64) (esOf (addN N_2 (ndB b' y' z'))), VB.fam [VV.mp 0] 4225 (setF d ((↑(ixN N_1 (ndB b y z)) : Int).toNat * (65) + (↑(ixN N_2 (ndB b' y' z')) : Int).toNat * (1)) [min (d ((↑(ixN N_1 (ndB b y z)) : Int).toNat * (65) + (↑(ixN N_2 (ndB b' y' z')) : Int).toNat * (1))) n]) (93 : TypeId)]
 else False
 else False
 else False
 else False
 else False
 else False) := by kernel_rfl


end Go.Sx.Nos

/- nose: limits. -/

namespace Go.Sx.Nos
open Go Go.Sx Go.Proofs
set_option maxRecDepth 100000

/-- The cell of two unknowns; a cell turned. -/
def cel (N : List Nd) (a b : Nd) : Nat := ixN N a * 65 + ixN (addN N a) b
def limD (N : List Nd) (d : Nat → Int) (a b : Nd) (n : Int) : Nat → Int := fun k => if k = cel N a b then min (d (cel N a b)) n else d k
def limN (N : List Nd) (a b : Nd) : List Nd := addN (addN N a) b

theorem limD_eq (N : List Nd) (d : Nat → Int) (a b : Nd) (n : Int) : setF d ((ixN N a : Int).toNat * 65 + (ixN (addN N a) b : Int).toNat * 1) [min (d ((ixN N a : Int).toNat * 65 + (ixN (addN N a) b : Int).toNat * 1)) n] = limD N d a b n := by
  funext k
  rw [Int.toNat_natCast, Int.toNat_natCast, Nat.mul_one, setF_eq]
  unfold limD cel
  by_cases h : k = ixN N a * 65 + ixN (addN N a) b
  · rw [if_pos h, if_pos (by simp; omega), h]
    simp
  · rw [if_neg h, if_neg (by simp; omega)]

theorem addN_le (N : List Nd) (x : Nd) : N.length ≤ (addN N x).length := by
  unfold addN
  split <;> simp

theorem cel_lt {N : List Nd} {a b : Nd} (h : (limN N a b).length ≤ 65) : ixN N a < 65 ∧ ixN (addN N a) b < 65 := by
  have h1 := ixN_lt (mem_addN N a)
  have h2 := ixN_lt (mem_addN (addN N a) b)
  have h3 := addN_le (addN N a) b
  rw [ixN_new] at h1 h2
  unfold limN at h
  omega

theorem lim_v (N : List Nd) (d : Nat → Int) (b : Bool) (y z : Int) (b' : Bool) (y' z' : Int) (n : Int) (hl : (limN N (ndB b y z) (ndB b' y' z')).length ≤ 65) :
    CallsV Try.prog 69 [.ptr (.own 1 0), .agg [.bool b, I y, I z], .agg [.bool b', I y', I z'], I n] ⟨2, [(1, faB 0 d), (0, maB N)]⟩ (.ret (.tup [])) ⟨2, [(0, maB (limN N (ndB b y z) (ndB b' y' z'))), (1, faB 0 (limD N d (ndB b y z) (ndB b' y' z') n))]⟩ := by
  obtain ⟨h1, h2⟩ := cel_lt hl
  obtain ⟨r, h', hQ, hc⟩ := of_callN (tab_good hmix (l := [numT]) (fun x hx => by
      simp only [List.mem_singleton] at hx
      subst hx
      exact numT_ok) 20) (un := 10) (f := 69) (args := [.ptr (.own 1 0), .agg [.bool b, I y, I z], .agg [.bool b', I y', I z'], I n]) (h := ⟨2, [(1, faB 0 d), (0, maB N)]⟩)
    (K := nuR fun r bs => r = .ret (.tup []) ∧ bs = [maB (limN N (ndB b y z) (ndB b' y' z')), faB 0 (limD N d (ndB b y z) (ndB b' y' z') n)])
    (by
      rw [lim_ev]
      have w1 : (0 : Int) ≤ (ixN N (ndB b y z) : Int) ∧ (ixN N (ndB b y z) : Int) < ((65 : Nat) : Int) := ⟨by omega, by omega⟩
      have w2 : (0 : Int) ≤ (ixN (addN N (ndB b y z)) (ndB b' y' z') : Int) ∧ (ixN (addN N (ndB b y z)) (ndB b' y' z') : Int) < ((65 : Nat) : Int) := ⟨by omega, by omega⟩
      refine ⟨N, rfl, ⟨rfl, rfl, rfl, trivial⟩, addN N (ndB b y z), rfl, ?_⟩
      refine cond_dk w1 (cond_dk w2 (cond_dk (by simp only [Int.toNat_natCast]; omega) (cond_dk w1 (cond_dk w2 (cond_dk (by simp only [Int.toNat_natCast]; omega) ⟨rfl, ?_⟩)))))
      rw [limD_eq]
      rfl)
  obtain ⟨rfl, hb⟩ := hQ
  injection hb with g0 g1
  injection g1 with g1 _
  exact calls_weak hc (show 2 ≤ 2 by decide) ⟨by rw [g0]; exact VB.fit_refl _, by rw [g1]; exact VB.fit_refl _, trivial⟩ rfl rfl

/-- A limit is laid down. -/
def limT : FuncId × Spec1 := (69, fun lock args h K => match args with
  | [.ptr (.own t 0), .agg [.bool b, .int .i64 y, .int .i64 z], .agg [.bool b', .int .i64 y', .int .i64 z'], .int .i64 n] => (match h.at t with
    | .fam [.mp m] 4225 d 93 => ∃ N : List Nd, (h.at m = maB N ∧ (limN N (ndB b y z) (ndB b' y' z')).length ≤ 65) ∧ bif (Nat.ble lock m && Nat.ble lock t) then (match h with
      | ⟨nx, bs⟩ => K (.ret (.tup [])) ⟨nx, (t, faB m (limD N d (ndB b y z) (ndB b' y' z') n)) :: (m, maB (limN N (ndB b y z) (ndB b' y' z'))) :: bs⟩) else False
    | _ => False)
  | _ => False)

theorem limT_ok : SpOk Try.prog limT.1 limT.2 := by
  intro lock args h K hK
  simp only [limT] at hK
  split at hK
  · rename_i t b y z b' y' z' n
    split at hK
    · rename_i m d ht
      obtain ⟨N, ⟨hm, hlen⟩, hK⟩ := hK
      obtain ⟨hl, hK⟩ := cond_f hK
      simp only [Bool.and_eq_true] at hl
      have hmt : m ≠ t := fun e => by rw [e, ht] at hm; cases hm
      have h2 := tasted_at (m := m) (t := t) (lim_v N d b y z b' y' z' n hlen) hm ht rfl rfl
      refine ⟨_, _, by cases h; exact hK, fun q hq hf => ?_, h2⟩
      have n1 : (VH.mk h.nx ((m, maB (limN N (ndB b y z) (ndB b' y' z'))) :: h.bs)).at = upd h.at m (maB (limN N (ndB b y z) (ndB b' y' z'))) := VH.at_put h m _ (by rw [hm]; simp)
      have n2 := VH.at_put (VH.mk h.nx ((m, maB (limN N (ndB b y z) (ndB b' y' z'))) :: h.bs)) t (faB m (limD N d (ndB b y z) (ndB b' y' z') n)) (by rw [n1]; simp [upd, hmt.symm, ht])
      have n3 : (VH.mk h.nx ((t, faB m (limD N d (ndB b y z) (ndB b' y' z') n)) :: (m, maB (limN N (ndB b y z) (ndB b' y' z'))) :: h.bs)).at q = h.at q := by
        have := congrFun n2 q
        refine this.trans ?_
        rw [n1]
        have a1 := Nat.le_of_ble_eq_true hl.1
        have a2 := Nat.le_of_ble_eq_true hl.2
        simp [upd, show q ≠ m by omega, show q ≠ t by omega]
      exact n3
    · exact hK.elim
  · exact hK.elim
end Go.Sx.Nos
