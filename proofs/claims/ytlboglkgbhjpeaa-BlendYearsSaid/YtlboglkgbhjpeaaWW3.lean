/- stream: Cd3 Cd4 Cd5 Cd6 Ce0 Ce2 Cf2 Cg2 Ch22 Ch0 Ci22 Cj1 Cj2 Cj3 Cj4 Ck1 Bq1, in one text. -/
import Derived.Test.YtlboglkgbhjpeaaWW2
/- blend: plans (plain). -/

namespace Go.Sx.Bln
open Go Go.Sx Go.Proofs
set_option maxRecDepth 1000000

/-- The choices of the paths: path, year, stock. -/
abbrev Rsl := Nat → Nat → Nat → Int
/-- Of the first paths of a set those whose need is that of the first one, and the need. -/
def grpF (P : List (List Int)) (y rest : Nat) : Nat → Nat × Int
  | 0 => (0, -1)
  | i + 1 => if rest.testBit i ∧ ((grpF P y rest i).2 < 0 ∨ (P.getD i []).getD y 0 = (grpF P y rest i).2) then ((grpF P y rest i).1 ||| 2 ^ i, (P.getD i []).getD y 0) else grpF P y rest i
/-- The first choice behind which there is a plan. -/
def tryF (meet : (Nat → Int) → Bool) (sub : (Nat → Int) → Option Rsl) : List (Nat → Int) → Option ((Nat → Int) × Rsl)
  | [] => none
  | c :: r => if meet c then (match sub c with
    | some x => some (c, x)
    | none => tryF meet sub r) else tryF meet sub r
def putR (o y : Nat) (c : Nat → Int) (x acc : Rsl) : Rsl := fun i y' => if o.testBit i then (if y' = y then c else x i y') else acc i y'
/-- Set by set. -/
def goF (fol : Nat → Int → Option ((Nat → Int) × Rsl)) (P : List (List Int)) (y : Nat) : Nat → Nat → Rsl → Option Rsl
  | 0, _, acc => some acc
  | f + 1, rest, acc => if rest = 0 then some acc else (match fol (grpF P y rest P.length).1 (grpF P y rest P.length).2 with
    | none => none
    | some (c, x) => goF fol P y f (rest ^^^ (rest &&& (grpF P y rest P.length).1)) (putR (grpF P y rest P.length).1 y c x acc))
/-- The first plan of a set of paths, so many years ahead of the end, with what is left. -/
def planF (l : List Stk) (t : Tst) (P : List (List Int)) (Y : Nat) : Nat → Nat → (Nat → Int) → Option Rsl
  | 0, _, _ => some (fun _ _ _ => 0)
  | k + 1, S, a => goF (fun o d => tryF (fun c => meetsF l t c ((Y : Int) - (k + 1 : Nat)) d) (fun c => planF l t P Y k o (lsF a c 6)) (allC a l.length)) P (Y - (k + 1)) S S (fun _ _ _ => 0)
/-- The first choice for some paths. -/
abbrev folF (l : List Stk) (t : Tst) (P : List (List Int)) (Y k : Nat) (a : Nat → Int) (o : Nat) (d : Int) : Option ((Nat → Int) × Rsl) :=
  tryF (fun c => meetsF l t c ((Y : Int) - (k + 1 : Nat)) d) (fun c => planF l t P Y k o (lsF a c 6)) (allC a l.length)

section
variable {l : List Stk} {t : Tst} {P : List (List Int)} {Y : Nat}

theorem allC_congr {a b : Nat → Int} : ∀ k : Nat, (∀ i, i < k → a i = b i) → allC a k = allC b k
  | 0, _ => rfl
  | k + 1, h => by
    unfold allC
    rw [allC_congr k (fun i hi => h i (by omega))]
    congr 1
    funext c
    unfold rowC
    rw [h k (by omega)]

theorem planF_congr (hl : l.length ≤ 6) : ∀ (k S : Nat) (a b : Nat → Int), (∀ i, i < 6 → a i = b i) → planF l t P Y k S a = planF l t P Y k S b
  | 0, _, _, _, _ => rfl
  | k + 1, S, a, b, h => by
    unfold planF
    have e1 : allC a l.length = allC b l.length := allC_congr _ (fun i hi => h i (by omega))
    have e2 : ∀ (o : Nat) (c : Nat → Int), planF l t P Y k o (lsF a c 6) = planF l t P Y k o (lsF b c 6) := fun o c => planF_congr hl k o _ _ (fun i hi => by
      unfold lsF
      rw [if_pos hi, if_pos hi, h i hi])
    rw [e1]
    simp only [e2]

/-- All needs are at least 0. -/
def ndB (P : List (List Int)) : Prop := ∀ i j : Nat, 0 ≤ (P.getD i []).getD j 0 ∧ (P.getD i []).getD j 0 ≤ 1048576
/-- The set is of the rest, and is not empty. -/
theorem grpF_bits (hP : ndB P) (y rest : Nat) : ∀ n : Nat, (∀ i, (grpF P y rest n).1.testBit i = true → i < n ∧ rest.testBit i = true) ∧ ((grpF P y rest n).2 < 0 → (grpF P y rest n).1 = 0 ∧ ∀ i, i < n → rest.testBit i = false) ∧ (-1 ≤ (grpF P y rest n).2 ∧ (grpF P y rest n).2 ≤ 1048576) ∧ (0 ≤ (grpF P y rest n).2 → (grpF P y rest n).1 ≠ 0)
  | 0 => ⟨fun i h => by simp [grpF] at h, fun _ => ⟨rfl, fun i hi => by omega⟩, by simp [grpF], fun h => by simp [grpF] at h⟩
  | n + 1 => by
    obtain ⟨h1, h2, h3, h4⟩ := grpF_bits hP y rest n
    unfold grpF
    by_cases hc : rest.testBit n ∧ ((grpF P y rest n).2 < 0 ∨ (P.getD n []).getD y 0 = (grpF P y rest n).2)
    · rw [if_pos hc]
      have hp := hP n y
      refine ⟨fun i hi => ?_, fun hneg => ?_, ⟨by dsimp only; omega, hp.2⟩, fun _ h0 => ?_⟩
      · dsimp only at hi
        rw [Nat.testBit_or, Bool.or_eq_true] at hi
        rcases hi with hi | hi
        · obtain ⟨g1, g2⟩ := h1 i hi
          exact ⟨by omega, g2⟩
        · rw [Nat.testBit_two_pow] at hi
          simp only [decide_eq_true_eq] at hi
          subst hi
          exact ⟨by omega, hc.1⟩
      · dsimp only at hneg
        omega
      · dsimp only at h0
        have : ((grpF P y rest n).1 ||| 2 ^ n).testBit n = true := by
          rw [Nat.testBit_or, Nat.testBit_two_pow]
          simp
        rw [h0] at this
        simp at this
    · rw [if_neg hc]
      refine ⟨fun i hi => ⟨Nat.lt_succ_of_lt (h1 i hi).1, (h1 i hi).2⟩, fun hneg => ?_, h3, h4⟩
      obtain ⟨g1, g2⟩ := h2 hneg
      refine ⟨g1, fun i hi => ?_⟩
      by_cases e : i = n
      · subst e
        cases hb : rest.testBit i with
        | false => rfl
        | true => exact (hc ⟨hb, .inl hneg⟩).elim
      · exact g2 i (by omega)

theorem grpF_le (hP : ndB P) (y rest : Nat) : ∀ n : Nat, (grpF P y rest n).1 < 2 ^ n := fun n => by
  refine Nat.lt_pow_two_of_testBit _ (fun i hi => ?_)
  cases hb : (grpF P y rest n).1.testBit i with
  | false => rfl
  | true => have := ((grpF_bits hP y rest n).1 i hb).1; omega

/-- What is left of the rest is less. -/
theorem rest_lt {rest o : Nat} (hsub : ∀ i, o.testBit i = true → rest.testBit i = true) (ho : o ≠ 0) : rest ^^^ (rest &&& o) < rest := by
  have e : rest &&& o = o := by
    apply Nat.eq_of_testBit_eq
    intro i
    rw [Nat.testBit_and]
    cases hb : o.testBit i with
    | false => simp
    | true => rw [hsub i hb]; rfl
  rw [e]
  have e2 : rest &&& (rest ^^^ o) = rest ^^^ o := by
    apply Nat.eq_of_testBit_eq
    intro i
    rw [Nat.testBit_and, Nat.testBit_xor]
    cases hb : o.testBit i with
    | false => simp
    | true => rw [hsub i hb]; rfl
  have h1 : rest ^^^ o ≤ rest := by
    have := Nat.and_le_left (n := rest) (m := rest ^^^ o)
    omega
  have h2 : rest ^^^ o ≠ rest := fun h => by
    apply ho
    apply Nat.eq_of_testBit_eq
    intro i
    have := congrArg (fun n => n.testBit i) h
    simp only [Nat.testBit_xor] at this
    rw [Nat.zero_testBit]
    revert this
    cases rest.testBit i <;> cases o.testBit i <;> simp
  omega

/-- The bits of what is left. -/
theorem rest_bit {rest o i : Nat} : (rest ^^^ (rest &&& o)).testBit i = (rest.testBit i && !o.testBit i) := by
  rw [Nat.testBit_xor, Nat.testBit_and]
  cases rest.testBit i <;> cases o.testBit i <;> rfl

theorem goF_fuel (hP : ndB P) {fol : Nat → Int → Option ((Nat → Int) × Rsl)} {y : Nat} : ∀ (f rest : Nat) (acc : Rsl), rest < 2 ^ P.length → rest ≤ f → goF fol P y f rest acc = goF fol P y rest rest acc := by
  intro f
  induction f using Nat.strongRecOn with
  | ind f ih =>
    intro rest acc hr hf
    by_cases hz : rest = 0
    · subst hz
      cases f with
      | zero => rfl
      | succ f => unfold goF; rw [if_pos rfl]
    · obtain ⟨h1, h2, h3, h4⟩ := grpF_bits hP y rest P.length
      have hown : (grpF P y rest P.length).1 ≠ 0 := by
        by_cases hn : (grpF P y rest P.length).2 < 0
        · exfalso
          apply hz
          apply Nat.eq_of_testBit_eq
          intro i
          rw [Nat.zero_testBit]
          by_cases hi : i < P.length
          · exact (h2 hn).2 i hi
          · exact Nat.testBit_lt_two_pow (Nat.lt_of_lt_of_le hr (Nat.pow_le_pow_right (by omega) (by omega)))
        · exact h4 (by omega)
      have hlt := rest_lt (fun i hi => (h1 i hi).2) hown
      obtain ⟨f', rfl⟩ : ∃ f', f = f' + 1 := ⟨f - 1, by omega⟩
      obtain ⟨r', hr'⟩ : ∃ r', rest = r' + 1 := ⟨rest - 1, by omega⟩
      have key : ∀ g : Nat, goF fol P y (g + 1) rest acc = (match fol (grpF P y rest P.length).1 (grpF P y rest P.length).2 with
          | none => none
          | some (c, x) => goF fol P y g (rest ^^^ (rest &&& (grpF P y rest P.length).1)) (putR (grpF P y rest P.length).1 y c x acc)) := fun g => by
        show (if rest = 0 then _ else _) = _
        rw [if_neg hz]
      have e2 : goF fol P y rest rest acc = goF fol P y (r' + 1) rest acc := by
        conv => lhs; rw [show goF fol P y rest = goF fol P y (r' + 1) by rw [← hr']]
      rw [e2, key, key]
      cases fol (grpF P y rest P.length).1 (grpF P y rest P.length).2 with
      | none => rfl
      | some cx =>
        obtain ⟨c, x⟩ := cx
        dsimp only
        generalize hq : rest ^^^ (rest &&& (grpF P y rest P.length).1) = q at hlt ⊢
        rw [ih f' (by omega) q _ (by omega) (by omega), ← ih r' (by omega) q _ (by omega) (by omega)]

/-- One set more. -/
theorem goF_step (hP : ndB P) {fol : Nat → Int → Option ((Nat → Int) × Rsl)} {y rest : Nat} {acc : Rsl} (hr : rest < 2 ^ P.length) (hz : rest ≠ 0) :
    (grpF P y rest P.length).1 ≠ 0 ∧ rest ^^^ (rest &&& (grpF P y rest P.length).1) < rest ∧ goF fol P y rest rest acc = (match fol (grpF P y rest P.length).1 (grpF P y rest P.length).2 with
      | none => none
      | some (c, x) => goF fol P y (rest ^^^ (rest &&& (grpF P y rest P.length).1)) (rest ^^^ (rest &&& (grpF P y rest P.length).1)) (putR (grpF P y rest P.length).1 y c x acc)) := by
  obtain ⟨h1, h2, h3, h4⟩ := grpF_bits hP y rest P.length
  have hown : (grpF P y rest P.length).1 ≠ 0 := by
    by_cases hn : (grpF P y rest P.length).2 < 0
    · exfalso
      apply hz
      apply Nat.eq_of_testBit_eq
      intro i
      rw [Nat.zero_testBit]
      by_cases hi : i < P.length
      · exact (h2 hn).2 i hi
      · exact Nat.testBit_lt_two_pow (Nat.lt_of_lt_of_le hr (Nat.pow_le_pow_right (by omega) (by omega)))
    · exact h4 (by omega)
  have hlt := rest_lt (fun i hi => (h1 i hi).2) hown
  refine ⟨hown, hlt, ?_⟩
  rw [← goF_fuel hP (rest + 1) rest acc hr (by omega)]
  show (if rest = 0 then _ else _) = _
  rw [if_neg hz]
  cases fol (grpF P y rest P.length).1 (grpF P y rest P.length).2 with
  | none => rfl
  | some cx =>
    obtain ⟨c, x⟩ := cx
    dsimp only
    exact goF_fuel hP _ _ _ (by omega) (by omega)
end
end Go.Sx.Bln

/- blend: what a search for a plan leaves (plain). -/

namespace Go.Sx.Bln
open Go Go.Sx Go.Proofs
set_option maxRecDepth 1000000

/-! Sets as bits. -/
theorem bit_v : ∀ s : Nat, s < 16 → ∀ k : Nat, k < 4 → ((IntKind.i64.wrap (↑(BitVec.ofInt IntKind.i64.bits ((s : Int).fdiv ((2 : Int) ^ min k IntKind.i64.bits)) &&& BitVec.ofInt IntKind.i64.bits (1 : Int)).toNat : Int) = 1) ↔ s.testBit k = true) := by
  decide +kernel
theorem or_v : ∀ s : Nat, s < 16 → ∀ k : Nat, k < 4 → (IntKind.i64.wrap (↑(BitVec.ofInt IntKind.i64.bits (s : Int) ||| BitVec.ofInt IntKind.i64.bits ((1 : Int) * (2 : Int) ^ min k IntKind.i64.bits)).toNat : Int)) = ((s ||| 2 ^ k : Nat) : Int) := by
  decide +kernel
theorem andnot_v : ∀ s : Nat, s < 16 → ∀ o : Nat, o < 16 → (IntKind.i64.wrap (↑(BitVec.ofInt IntKind.i64.bits (s : Int) &&& ~~~(BitVec.ofInt IntKind.i64.bits (o : Int))).toNat : Int)) = ((s ^^^ (s &&& o) : Nat) : Int) := by
  decide +kernel

abbrev kS : List PK := [.int .i64, .int .i64, .int .i64, .int .i64, .int .i64, .int .i64, .int .i64, .int .i64]
abbrev Mde := Nat → Nat → Int
abbrev Lst := List (List Int × Int)
/-- The key of a state. -/
def kyF (y S : Int) (a : Nat → Int) : List Int := [y, S, a 0, a 1, a 2, a 3, a 4, a 5]
structure St where
  M : Mde
  es : Lst

/-- From the states that are lost there is no plan. -/
def LostOk (l : List Stk) (t : Tst) (P : List (List Int)) (Y : Nat) (es : Lst) : Prop := (∀ e ∈ es, keyB kS e.1 = true) ∧ ∀ e ∈ es, e.2 = 1 ∧ ∃ (k S : Nat) (a : Nat → Int), k ≤ Y ∧ e.1 = kyF ((Y : Int) - k) S a ∧ planF l t P Y k S a = none

section
variable {l : List Stk} {t : Tst} {P : List (List Int)} {Y : Nat}

theorem getE_mem : ∀ {es : Lst} {key : List Int} {v : Int}, getE es key = some v → (key, v) ∈ es
  | [], _, _, h => by cases h
  | (k, x) :: r, key, v, h => by
    unfold getE at h
    split at h
    · rename_i e; cases h; subst e; exact List.mem_cons_self ..
    · exact List.mem_cons_of_mem _ (getE_mem h)
theorem setE_mem : ∀ {es : Lst} {key : List Int} {x : Int} {e : List Int × Int}, e ∈ setE es key x → e = (key, x) ∨ e ∈ es
  | [], key, x, e, h => by
    unfold setE at h
    rw [List.mem_singleton] at h
    exact .inl h
  | (k, v) :: r, key, x, e, h => by
    unfold setE at h
    split at h
    · rcases List.mem_cons.1 h with h | h
      · exact .inl h
      · exact .inr (List.mem_cons_of_mem _ h)
    · rcases List.mem_cons.1 h with h | h
      · subst h; exact .inr (List.mem_cons_self ..)
      · rcases setE_mem h with h | h
        · exact .inl h
        · exact .inr (List.mem_cons_of_mem _ h)

theorem lost_get (hl : l.length ≤ 6) {es : Lst} (h : LostOk l t P Y es) {k S : Nat} {a : Nat → Int} (hk : k ≤ Y) (hv : valOf es (kyF ((Y : Int) - k) S a) ≠ 0) : planF l t P Y k S a = none := by
  unfold valOf at hv
  cases hg : getE es (kyF ((Y : Int) - k) S a) with
  | none => rw [hg] at hv; exact (hv rfl).elim
  | some v =>
    obtain ⟨_, k', S', a', hk', he, hp⟩ := h.2 _ (getE_mem hg)
    dsimp only [kyF] at he
    simp only [List.cons.injEq] at he
    obtain ⟨e1, e2, e3, e4, e5, e6, e7, e8, _⟩ := he
    obtain rfl : k' = k := by omega
    obtain rfl : S' = S := by omega
    rw [← hp]
    refine planF_congr hl _ _ _ _ (fun i hi => ?_)
    match i with
    | 0 => exact e3
    | 1 => exact e4
    | 2 => exact e5
    | 3 => exact e6
    | 4 => exact e7
    | 5 => exact e8
    | _ + 6 => omega
theorem lost_set {es : Lst} (h : LostOk l t P Y es) {k S : Nat} {a : Nat → Int} (hk : k ≤ Y) (hp : planF l t P Y k S a = none) : LostOk l t P Y (setE es (kyF ((Y : Int) - k) S a) 1) := by
  refine ⟨fun e he => ?_, fun e he => ?_⟩
  · rcases setE_mem he with rfl | he
    · rfl
    · exact h.1 e he
  · rcases setE_mem he with rfl | he
    · exact ⟨rfl, k, S, a, hk, rfl, hp⟩
    · exact h.2 e he

/-- What is left of the casks. -/
def leftB (l : List Stk) (a : Nat → Int) : Prop := (∀ i, i < l.length → 0 ≤ a i ∧ a i ≤ 6) ∧ ∀ i, l.length ≤ i → a i = 0
theorem left_nB {a : Nat → Int} (h : leftB l a) : nB a := fun i _ => by
  by_cases hi : i < l.length
  · exact h.1 i hi
  · rw [h.2 i (by omega)]; omega
theorem left_less {a c : Nat → Int} (h : leftB l a) (hc : c ∈ allC a l.length) (hl : l.length ≤ 6) : leftB l (lsF a c 6) ∧ bdL a c ∧ nB c := by
  obtain ⟨c1, c2⟩ := (all_mem (fun i hi => (h.1 i hi).1)).1 hc
  have ha := left_nB h
  have hcb : nB c := fun i hi => by
    by_cases hi2 : i < l.length
    · have := c1 i hi2; have := h.1 i hi2; omega
    · rw [c2 i (by omega)]; omega
  refine ⟨⟨fun i hi => ?_, fun i hi => ?_⟩, fun i hi => ?_, hcb⟩
  · unfold lsF
    rw [if_pos (by omega)]
    have := c1 i hi; have := h.1 i hi; omega
  · unfold lsF
    rw [h.2 i hi, c2 i hi]
    split <;> rfl
  · have := ha i hi; have := hcb i hi; omega

/-- The set-up of a search. -/
structure Cfg (l : List Stk) (t : Tst) (P : List (List Int)) (Y : Nat) : Prop where
  hl : lB l
  hp : pB l t.T.length
  ht : tB t
  Y4 : Y ≤ 4
  P4 : P.length ≤ 4
  len : ∀ i, i < P.length → (P.getD i []).length = Y
  nd : ndB P

/-- The choices of other paths, and of the years ahead, are as they were. -/
def Same (Y k S : Nat) (M M' : Mde) : Prop := ∀ i y j, j < 6 → y < Y → (S.testBit i = false ∨ y < Y - k) → M' i (y * 6 + j) = M i (y * 6 + j)
/-- What is asked of a state, and what comes of it. -/
def PreF (l : List Stk) (t : Tst) (P : List (List Int)) (Y k S : Nat) (a : Nat → Int) (es : Lst) : Prop := k ≤ Y ∧ S < 2 ^ P.length ∧ leftB l a ∧ LostOk l t P Y es
def PostF (l : List Stk) (t : Tst) (P : List (List Int)) (Y k S : Nat) (a : Nat → Int) (M : Mde) (b : Bool) (s : St) : Prop :=
  b = (planF l t P Y k S a).isSome ∧ LostOk l t P Y s.es ∧ Same Y k S M s.M ∧
    ∀ x, planF l t P Y k S a = some x → ∀ i y j, j < 6 → S.testBit i = true → Y - k ≤ y → y < Y → s.M i (y * 6 + j) = x i y j
/-- The same of a set of paths with one need. -/
def PreW (l : List Stk) (t : Tst) (P : List (List Int)) (Y k O : Nat) (a : Nat → Int) (es : Lst) : Prop := k + 1 ≤ Y ∧ O < 2 ^ P.length ∧ leftB l a ∧ LostOk l t P Y es
def PostW (l : List Stk) (t : Tst) (P : List (List Int)) (Y k O : Nat) (d : Int) (a : Nat → Int) (M : Mde) (b : Bool) (s : St) : Prop :=
  b = (folF l t P Y k a O d).isSome ∧ LostOk l t P Y s.es ∧ Same Y (k + 1) O M s.M ∧
    ∀ c x, folF l t P Y k a O d = some (c, x) → ∀ i y j, j < 6 → O.testBit i = true → Y - (k + 1) ≤ y → y < Y → s.M i (y * 6 + j) = if y = Y - (k + 1) then c j else x i y j
end
end Go.Sx.Bln

/- blend: how a search goes on (plain). -/

namespace Go.Sx.Bln
open Go Go.Sx Go.Proofs
set_option maxRecDepth 1000000

theorem tryF_none {meet : (Nat → Int) → Bool} {sub : (Nat → Int) → Option Rsl} : ∀ {L : List (Nat → Int)}, (∀ c ∈ L, meet c = true → sub c = none) → tryF meet sub L = none
  | [], _ => rfl
  | c :: r, h => by
    have ih := tryF_none (L := r) (fun d hd => h d (List.mem_cons_of_mem _ hd))
    unfold tryF
    by_cases hm : meet c = true
    · rw [if_pos hm, h c (List.mem_cons_self ..) hm]
      exact ih
    · rw [if_neg hm]
      exact ih
theorem tryF_some {meet : (Nat → Int) → Bool} {sub : (Nat → Int) → Option Rsl} {c0 : Nat → Int} {x : Rsl} : ∀ {L : List (Nat → Int)} {j : Nat}, j < L.length → (∀ i, i < j → meet (L.getD i c0) = true → sub (L.getD i c0) = none) → meet (L.getD j c0) = true → sub (L.getD j c0) = some x → tryF meet sub L = some (L.getD j c0, x)
  | [], j, hj, _, _, _ => by simp at hj
  | c :: r, 0, _, _, hm, hx => by
    have hm : meet c = true := hm
    have hx : sub c = some x := hx
    unfold tryF
    rw [if_pos hm, hx]
    rfl
  | c :: r, j + 1, hj, h, hm, hx => by
    have ih := tryF_some (L := r) (j := j) (c0 := c0) (by simpa using hj) (fun i hi => h (i + 1) (by omega)) hm hx
    have h0 : meet c = true → sub c = none := h 0 (by omega)
    unfold tryF
    by_cases hmc : meet c = true
    · rw [if_pos hmc, h0 hmc]
      exact ih
    · rw [if_neg hmc]
      exact ih

theorem Same.refl (Y k S : Nat) (M : Mde) : Same Y k S M M := fun _ _ _ _ _ _ => rfl
theorem Same.trans {Y k S : Nat} {M M1 M2 : Mde} (h : Same Y k S M M1) (h2 : Same Y k S M1 M2) : Same Y k S M M2 := fun i y j hj hy hc => (h2 i y j hj hy hc).trans (h i y j hj hy hc)
/-- What changes in later years only. -/
theorem Same.later {Y k S : Nat} {M M1 : Mde} (h : Same Y k S M M1) : Same Y (k + 1) S M M1 := fun i y j hj hy hc => h i y j hj hy (hc.imp id (fun h => by omega))
/-- What changes in a part of the paths only. -/
theorem Same.part {Y k S O : Nat} {M M1 : Mde} (hs : ∀ i, O.testBit i = true → S.testBit i = true) (h : Same Y k O M M1) : Same Y k S M M1 := fun i y j hj hy hc => h i y j hj hy (hc.imp (fun h => by
  cases hb : O.testBit i with
  | false => rfl
  | true => rw [hs i hb] at h; exact h) id)

section
variable {l : List Stk} {t : Tst} {P : List (List Int)} {Y : Nat}

/-- A choice is written for some paths. -/
abbrev wrM (g : Nat → Int) (y : Int) (c : Nat → Int) : Nat → Int := setF g (0 + y.toNat * 6) [c 0, c 1, c 2, c 3, c 4, c 5]
theorem wrM_get {g : Nat → Int} {y : Int} {Y0 : Nat} (hy : y = Y0) {c : Nat → Int} {y' j : Nat} (hj : j < 6) : wrM g y c (y' * 6 + j) = if y' = Y0 then c j else g (y' * 6 + j) := by
  subst hy
  unfold wrM
  rw [setF_get]
  have e : 0 + ((Y0 : Nat) : Int).toNat * 6 = Y0 * 6 := by omega
  rw [e]
  by_cases h : y' = Y0
  · subst h
    rw [if_pos rfl, if_pos ⟨by omega, by simp only [List.length_cons, List.length_nil]; omega⟩]
    have : y' * 6 + j - y' * 6 = j := by omega
    rw [this]
    exact ch_get hj
  · rw [if_neg h, if_neg (by simp only [List.length_cons, List.length_nil]; omega)]

theorem postW_true {k O : Nat} {d : Int} {a c : Nat → Int} {M0 M M2 : Mde} {x : Rsl} {s : St} {y : Int} (hk : k + 1 ≤ Y) (hO : O < 2 ^ P.length) (hy : y = ((Y - (k + 1) : Nat) : Int)) (hf : folF l t P Y k a O d = some (c, x)) (hx : planF l t P Y k O (lsF a c 6) = some x) (hsame : Same Y (k + 1) O M0 M)
    (hp : PostF l t P Y k O (lsF a c 6) M true s) (h2 : ∀ i, i < P.length → M2 i = if O.testBit i = true then wrM (s.M i) y c else s.M i) (h3 : ∀ i, P.length ≤ i → M2 i = s.M i) : PostW l t P Y k O d a M0 true ⟨M2, s.es⟩ := by
  obtain ⟨_, p2, p3, p4⟩ := hp
  have hall : ∀ i, M2 i = if O.testBit i = true then wrM (s.M i) y c else s.M i := fun i => by
    by_cases hi : i < P.length
    · exact h2 i hi
    · rw [h3 i (by omega), if_neg]
      rw [Nat.testBit_lt_two_pow (Nat.lt_of_lt_of_le hO (Nat.pow_le_pow_right (by omega) (by omega)))]
      simp
  refine ⟨by rw [hf]; rfl, p2, ?_, ?_⟩
  · refine Same.trans hsame (fun i y' j hj hy' hc => ?_)
    show M2 i (y' * 6 + j) = _
    rw [hall]
    by_cases hb : O.testBit i = true
    · rw [if_pos hb, wrM_get hy hj, if_neg]
      · exact p3 i y' j hj hy' (.inr (by
          rcases hc with hc | hc
          · rw [hb] at hc; cases hc
          · omega))
      · rcases hc with hc | hc
        · rw [hb] at hc; cases hc
        · omega
    · rw [if_neg hb]
      exact p3 i y' j hj hy' (.inl (by simpa using hb))
  · intro c' x' he i y' j hj hb h1 h2
    rw [hf] at he
    cases he
    show M2 i (y' * 6 + j) = _
    rw [hall, if_pos hb, wrM_get hy hj]
    by_cases hyy : y' = Y - (k + 1)
    · rw [if_pos hyy, if_pos hyy]
    · rw [if_neg hyy, if_neg hyy]
      exact p4 x hx i y' j hj hb (by omega) h2

/-- Sets of paths that are done. -/
structure DoneF (l : List Stk) (t : Tst) (P : List (List Int)) (Y k S : Nat) (a : Nat → Int) (M0 : Mde) (r : Nat) (acc : Rsl) (s : St) : Prop where
  sub : ∀ i, r.testBit i = true → S.testBit i = true
  lt : r < 2 ^ P.length
  lost : LostOk l t P Y s.es
  same : Same Y (k + 1) S M0 s.M
  eq : planF l t P Y (k + 1) S a = goF (folF l t P Y k a) P (Y - (k + 1)) r r acc
  has : ∀ i y j, j < 6 → S.testBit i = true → r.testBit i = false → Y - (k + 1) ≤ y → y < Y → s.M i (y * 6 + j) = acc i y j

theorem done_start {k S : Nat} {a : Nat → Int} {M : Mde} {es : Lst} (hp : PreF l t P Y (k + 1) S a es) : DoneF l t P Y k S a M S (fun _ _ _ => 0) ⟨M, es⟩ :=
  ⟨fun _ h => h, hp.2.1, hp.2.2.2, Same.refl _ _ _ _, rfl, fun i y j hj h1 h2 => by rw [h1] at h2; cases h2⟩
theorem done_end {k S : Nat} {a : Nat → Int} {M0 : Mde} {acc : Rsl} {s : St} (h : DoneF l t P Y k S a M0 0 acc s) : PostF l t P Y (k + 1) S a M0 true s := by
  have e : planF l t P Y (k + 1) S a = some acc := h.eq
  refine ⟨by rw [e]; rfl, h.lost, h.same, fun x hx i y j hj h1 h2 h3 => ?_⟩
  rw [e] at hx
  cases hx
  exact h.has i y j hj h1 (Nat.zero_testBit i) h2 h3
/-- One set more. -/
theorem done_step (hP : ndB P) {k S r : Nat} {a : Nat → Int} {M0 : Mde} {acc : Rsl} {s s' : St} (h : DoneF l t P Y k S a M0 r acc s) (hr : r ≠ 0) {O : Nat} {d : Int} (hg : grpF P (Y - (k + 1)) r P.length = (O, d)) :
    (PostW l t P Y k O d a s.M true s' → ∃ acc', DoneF l t P Y k S a M0 (r ^^^ (r &&& O)) acc' s' ∧ r ^^^ (r &&& O) < r) ∧ (PostW l t P Y k O d a s.M false s' → planF l t P Y (k + 1) S a = none ∧ LostOk l t P Y s'.es ∧ Same Y (k + 1) S M0 s'.M) := by
  obtain ⟨g1, g2, g3⟩ := goF_step hP (fol := folF l t P Y k a) (y := Y - (k + 1)) (acc := acc) h.lt hr
  have hb := (grpF_bits hP (Y - (k + 1)) r P.length).1
  rw [hg] at g1 g2 g3 hb
  dsimp only at g1 g2 g3 hb
  have hOS : ∀ i, O.testBit i = true → S.testBit i = true := fun i hi => h.sub i (hb i hi).2
  refine ⟨fun ⟨w1, w2, w3, w4⟩ => ?_, fun ⟨w1, w2, w3, w4⟩ => ?_⟩
  · cases hf : folF l t P Y k a O d with
    | none => rw [hf] at w1; cases w1
    | some cx =>
      obtain ⟨c, x⟩ := cx
      rw [hf] at g3
      refine ⟨putR O (Y - (k + 1)) c x acc, ⟨fun i hi => ?_, by have := h.lt; omega, w2, h.same.trans (Same.part hOS w3), h.eq.trans g3, fun i y j hj h1 h2 h3 h4 => ?_⟩, g2⟩
      · rw [rest_bit] at hi
        simp only [Bool.and_eq_true] at hi
        exact h.sub i hi.1
      · rw [rest_bit] at h2
        unfold putR
        by_cases hOi : O.testBit i = true
        · rw [if_pos hOi, w4 c x hf i y j hj hOi h3 h4]
          split <;> rfl
        · rw [if_neg hOi]
          have hOf : O.testBit i = false := by simpa using hOi
          rw [w3 i y j hj h4 (.inl hOf)]
          refine h.has i y j hj h1 ?_ h3 h4
          rw [hOf] at h2
          simpa using h2
  · cases hf : folF l t P Y k a O d with
    | some cx => rw [hf] at w1; cases w1
    | none =>
      rw [hf] at g3
      exact ⟨h.eq.trans g3, w2, h.same.trans (Same.part hOS w3)⟩
end
end Go.Sx.Bln

/- blend: states as keys of a map. -/

namespace Go.Sx.Bln
open Go Go.Sx Go.Proofs
set_option maxRecDepth 1000000

noncomputable def fl82 (i : Nat) : Field := match Try.prog.underlying 82 with
  | some (.struct fs) => fs.getD i ⟨ "", 0, 0, false, "", "", 0⟩
  | _ => ⟨ "", 0, 0, false, "", "", 0⟩
theorem u82 : Try.prog.underlying 82 = some (.struct #[fl82 0, fl82 1, fl82 2]) := by kernel_rfl
theorem fl820 : (fl82 0).type = 3 ∧ (fl82 0).offset = 0 ∧ ((fl82 0).name == "_") = false := ⟨by kernel_rfl, by kernel_rfl, by kernel_rfl⟩
theorem fl821 : (fl82 1).type = 3 ∧ (fl82 1).offset = 1 ∧ ((fl82 1).name == "_") = false := ⟨by kernel_rfl, by kernel_rfl, by kernel_rfl⟩
theorem fl822 : (fl82 2).type = 80 ∧ (fl82 2).offset = 2 ∧ ((fl82 2).name == "_") = false := ⟨by kernel_rfl, by kernel_rfl, by kernel_rfl⟩
theorem u80 : Try.prog.underlying 80 = some (.array 6 3) := by kernel_rfl
theorem u3 : Try.prog.underlying 3 = some (.int .i64) := by kernel_rfl
theorem check80 (e : Bool) (a b c d f g : Int) (w : World) : (Instr.checkKey e 9999 80 (.agg #[.int .i64 a, .int .i64 b, .int .i64 c, .int .i64 d, .int .i64 f, .int .i64 g])).run Try.prog w = .ok () w := by
  rw [show (9999 : Nat) = 9998 + 1 by rfl, Instr.checkKey]
  simp only [Sem.run_bind, run_und u80, Result.andThen_ok]
  have p3 : ∀ v : Int, (Instr.checkKey e 9998 3 (.int .i64 v)).run Try.prog w = .ok () w := fun v => by
    rw [show (9998 : Nat) = 9997 + 1 by rfl, Instr.checkKey]; simp [run_und u3]
  have hr : List.range' 0 6 1 = [0, 1, 2, 3, 4, 5] := rfl
  simp [Std.Legacy.Range.forIn_eq_forIn_range', Std.Legacy.Range.size, hr, part, isAgg, run_und u3, p3]
theorem check82 (e : Bool) (y z a b c d f g : Int) (w : World) : (Instr.checkKey e 10000 82 (.agg #[.int .i64 y, .int .i64 z, .int .i64 a, .int .i64 b, .int .i64 c, .int .i64 d, .int .i64 f, .int .i64 g])).run Try.prog w = .ok () w := by
  rw [show (10000 : Nat) = 9999 + 1 by rfl, Instr.checkKey]
  simp only [Sem.run_bind, run_und u82, Result.andThen_ok]
  obtain ⟨a1, a2, a3⟩ := fl820
  obtain ⟨b1, b2, b3⟩ := fl821
  obtain ⟨c1, c2, c3⟩ := fl822
  have a4 : (fl82 0).name ≠ "_" := by simpa using a3
  have b4 : (fl82 1).name ≠ "_" := by simpa using b3
  have c4 : (fl82 2).name ≠ "_" := by simpa using c3
  have p3 : ∀ v : Int, (Instr.checkKey e 9999 3 (.int .i64 v)).run Try.prog w = .ok () w := fun v => by
    rw [show (9999 : Nat) = 9998 + 1 by rfl, Instr.checkKey]; simp [run_und u3]
  have p80 := check80 e a b c d f g w
  simp [a1, a2, a4, b1, b2, b4, c1, c2, c4, part, isAgg, run_und u80, run_und u3, p3, Array.extract]
  show ((Sem.run Try.prog (Instr.checkKey e 9999 80 (.agg #[.int .i64 a, .int .i64 b, .int .i64 c, .int .i64 d, .int .i64 f, .int .i64 g])) w).andThen _) = _
  rw [p80]
  rfl

theorem eq82 (y z a b c d f g y' z' a' b' c' d' f' g' : Int) : eqT Try.prog 10000 82 (.agg [I y, I z, I a, I b, I c, I d, I f, I g]) (.agg [I y', I z', I a', I b', I c', I d', I f', I g']) = some (decide (y = y') && (decide (z = z') && ((decide (a = a') && (decide (b = b') && (decide (c = c') && (decide (d = d') && (decide (f = f') && (decide (g = g') && true)))))) && true))) := by kernel_rfl

theorem keyS {k : List Int} (h : keyB kS k = true) : ∃ y z a b c d f g : Int, k = [y, z, a, b, c, d, f, g] := by
  match k, h with
  | [y, z, a, b, c, d, f, g], _ => exact ⟨y, z, a, b, c, d, f, g, rfl⟩
  | [], h => simp [keyB] at h
  | [_], h => simp [keyB] at h
  | [_, _], h => simp [keyB] at h
  | [_, _, _], h => simp [keyB] at h
  | [_, _, _, _], h => simp [keyB] at h
  | [_, _, _, _, _], h => simp [keyB] at h
  | [_, _, _, _, _, _], h => simp [keyB] at h
  | [_, _, _, _, _, _, _], h => simp [keyB] at h
  | _ :: _ :: _ :: _ :: _ :: _ :: _ :: _ :: _ :: _, h => simp [keyB] at h

theorem key82 : KeyLaw Try.prog 82 kS := by
  refine ⟨⟨_, u82⟩, fun w k hk => ?_⟩
  obtain ⟨y, z, a, b, c, d, f, g, rfl⟩ := keyS hk
  refine ⟨fun e => check82 e y z a b c d f g w, fun k' hk' => ?_⟩
  obtain ⟨y', z', a', b', c', d', f', g', rfl⟩ := keyS hk'
  have rel : ∀ y z a b c d f g : Int, VRel ⟨fun _ => none, fun _ _ => ⟨0, 0, none⟩, fun _ => 0, fun _ _ => none, fun _ => none⟩ (.agg [I y, I z, I a, I b, I c, I d, I f, I g]) (.agg #[.int .i64 y, .int .i64 z, .int .i64 a, .int .i64 b, .int .i64 c, .int .i64 d, .int .i64 f, .int .i64 g]) := fun y z a b c d f g =>
    ⟨[_, _, _, _, _, _, _, _], ⟨_, _, rfl, ⟨_, _, rfl, ⟨_, _, rfl, ⟨_, _, rfl, ⟨_, _, rfl, ⟨_, _, rfl, ⟨_, _, rfl, ⟨_, _, rfl, rfl, rfl⟩, rfl⟩, rfl⟩, rfl⟩, rfl⟩, rfl⟩, rfl⟩, rfl⟩, rfl⟩
  have := eqT_sound (P := Try.prog) 10000 82 _ _ _ _ _ w (rel y z a b c d f g) (rel y' z' a' b' c' d' f' g') (eq82 y z a b c d f g y' z' a' b' c' d' f' g')
  show (Op.equal 82 (.agg #[.int .i64 y, .int .i64 z, .int .i64 a, .int .i64 b, .int .i64 c, .int .i64 d, .int .i64 f, .int .i64 g]) (.agg #[.int .i64 y', .int .i64 z', .int .i64 a', .int .i64 b', .int .i64 c', .int .i64 d', .int .i64 f', .int .i64 g'])).run _ _ = _
  unfold Op.equal Op.maxDepth
  rw [this]
  congr 1
  rw [Bool.eq_iff_iff]
  simp
end Go.Sx.Bln

/- blend: what Plan's closures share. -/

namespace Go.Sx.Bln
open Go Go.Sx Go.Proofs
set_option maxRecDepth 1000000

/-- The blocks are these. -/
def atL : List Nat → List VB → VH → Prop
  | n :: ns, b :: bs, h => h.at n = b ∧ atL ns bs h
  | _, _, _ => True
def lZ : LT := fun _ _ _ _ => False
theorem lZ_ok {c : Code} {n : Nat} : LSound Try.prog true c n lZ := fun _ _ _ _ h => h.elim
def sFa (n Y : Nat) : VV := .slice (.fa n 0 0) Y Y
def faS (y S : Int) (a : Nat → Int) : VB := .fam [I y, I S] 6 (fun k => (ch a).getD k 0) 82
def rfO2 : Code → Option (Code × Code)
  | .rangeFunc _ _ ac bd => some (ac, bd)
  | .seq a b => match rfO2 a with
    | some r => some r
    | none => rfO2 b
  | .block _ b => rfO2 b
  | .scope b => rfO2 b
  | _ => none
noncomputable def asFo : Code := match rfO2 (bodyOf Try.prog 40) with
  | some (ac, _) => ac
  | none => .skip
noncomputable def bdFo : Code := match rfO2 (bodyOf Try.prog 40) with
  | some (_, bd) => bd
  | none => .skip
end Go.Sx.Bln

/- blend: Plan's closures with 2 paths, evaluated. -/

namespace Go.Sx.Bln
open Go Go.Sx Go.Proofs
set_option maxRecDepth 1000000

def BP2 (l : List Stk) (t : Tst) (P : List (List Int)) (Y : Nat) (M : Mde) (es : Lst) : List VB := [.cells (tsL t) 25, .cells [pthD P] 26, .cells (stD l :: tsL t) 74, .cells [.ptr (.own 2 0)] 72, .cells [I Y] 3, .cells [sFa 7 Y, sFa 8 Y] 76, .cells [.slice (.own 5 0) 2 2] 75, .fam [] (Y * 6) (M 0) 80, .fam [] (Y * 6) (M 1) 80,
  .map kS .bool es, .cells [.mp 9] 77, .cells [.func 44 [] [.ptr (.own 4 0), .ptr (.own 10 0), .ptr (.own 1 0), .ptr (.own 12 0)]] 78, .cells [.func 40 [] [.ptr (.own 3 0), .ptr (.own 11 0), .ptr (.own 1 0), .ptr (.own 6 0)]] 88]
def nsB2 : List Nat := [0, 1, 2, 3, 4, 5, 6, 7, 8, 9, 10, 11, 12]
/-- 'find', as a row. -/
def findR2 (l : List Stk) (t : Tst) (P : List (List Int)) (Y k : Nat) : FuncId × Spec1 := (44, fun lock args h K => match args, h with
  | [.agg (.int .i64 y :: .int .i64 S :: ns), x1, x2, x3, x4], ⟨nx, bs⟩ => ∃ (S' : Nat) (a : Nat → Int) (M : Mde) (es : Lst), (x1 = .ptr (.own 4 0) ∧ x2 = .ptr (.own 10 0) ∧ x3 = .ptr (.own 1 0) ∧ x4 = .ptr (.own 12 0)) ∧ (lock = 0 ∧ 13 ≤ nx) ∧ atL nsB2 (BP2 l t P Y M es) ⟨nx, bs⟩ ∧ (y = (Y : Int) - k ∧ S = S' ∧ ns = nL a) ∧ PreF l t P Y k S' a es ∧
      ∀ (b : Bool) (s : St), PostF l t P Y k S' a M b s → K (.ret (.bool b)) ⟨nx, (7, .fam [] (Y * 6) (s.M 0) 80) :: (8, .fam [] (Y * 6) (s.M 1) 80) :: (9, .map kS .bool s.es) :: bs⟩
  | _, _ => False)
/-- 'follow', as a row. -/
def folR2 (l : List Stk) (t : Tst) (P : List (List Int)) (Y k : Nat) : FuncId × Spec1 := (40, fun lock args h K => match args, h with
  | [.agg (.int .i64 y :: .int .i64 S :: ns), .int .i64 o, .int .i64 d, x1, x2, x3, x4], ⟨nx, bs⟩ => ∃ (S' O : Nat) (a : Nat → Int) (M : Mde) (es : Lst), (x1 = .ptr (.own 3 0) ∧ x2 = .ptr (.own 11 0) ∧ x3 = .ptr (.own 1 0) ∧ x4 = .ptr (.own 6 0)) ∧ (lock = 0 ∧ 13 ≤ nx) ∧ atL nsB2 (BP2 l t P Y M es) ⟨nx, bs⟩ ∧ (y = (Y : Int) - (k + 1 : Nat) ∧ S = S' ∧ o = O ∧ ns = nL a) ∧ PreW l t P Y k O a es ∧
      ∀ (b : Bool) (s : St), PostW l t P Y k O d a M b s → K (.ret (.bool b)) ⟨nx, (7, .fam [] (Y * 6) (s.M 0) 80) :: (8, .fam [] (Y * 6) (s.M 1) 80) :: (9, .map kS .bool s.es) :: bs⟩
  | _, _ => False)
def slFo2 (y S own need : Int) (a : Nat → Int) : Slots := [(16, VV.func 74 [] [.ptr (.own 17 0), .ptr (.own 18 0)]), (15, VV.agg (nL a)), (14, VV.ptr (VA.own 13 2)), (13, .ptr (.own 2 0)), (10, .ptr (.own 16 0)), (9, .ptr (.own 15 0)), (8, .ptr (.own 14 0)), (7, .ptr (.own 13 0)), (0, VV.agg (I y :: I S :: nL a)), (1, I own), (2, I need), (3, .ptr (.own 3 0)), (4, .ptr (.own 11 0)), (5, .ptr (.own 1 0)), (6, .ptr (.own 6 0))]
def VFo2 : List VV := [.ptr (.own 20 0), .yld 19, .ptr (.own 17 0), .ptr (.own 18 0)]
def VFi2 (i : Int) : List VV := I i :: VFo2
def nsFo2 : List Nat := [0, 1, 2, 3, 4, 5, 6, 7, 8, 9, 10, 11, 12, 13, 14, 15, 16, 17, 18, 19, 20]
noncomputable def BFo2 (l : List Stk) (t : Tst) (P : List (List Int)) (Y : Nat) (y S own need : Int) (a : Nat → Int) (M : Mde) (es : Lst) (n : Nat → Int) : List VB := BP2 l t P Y M es ++ [faS y S a, .cells [I own] 3, .cells [I need] 3, .cells [.bool false] 4, .cells [.ptr (.own 2 0)] 72, faN a, .loop true none (slFo2 y S own need a) 58 [17] asFo bdFo, .fam [] 6 n 80]
theorem ino2_ev (l : List Stk) (t : Tst) (P : List (List Int)) (Y : Nat) (y S own need i : Int) (a : Nat → Int) (M : Mde) (es : Lst) (n : Nat → Int) (X : VEx → List VV → List VB → Prop) : codeE Try.prog (callN Try.prog noSpec noL 10 20) (fun _ => none) true 10 (ntOf Try.prog 74) 0 (loopB 2 (bodyOf Try.prog 74)) (dsI.zip (VFi2 i)) ⟨22, nsFo2.zip (BFo2 l t P Y y S own need a M es n)⟩ (obs 22 dsI nsFo2 X) =
  (bif decide (i ≥ (0 : Int)) then
 bif decide ((0 : Int) ≤ i ∧ i < (↑6 : Int)) then
 bif decide (i.toNat * (1) < 6) then
 bif decide ((0 : Int) ≤ i ∧ i < (↑6 : Int)) then
 bif decide (i.toNat * (1) < 6) then
 bif decide (n (i.toNat * (1)) = (fun (k : Nat) => (ch a).getD k (0 : Int)) (i.toNat * (1))) then
 bif decide ((0 : Int) ≤ i ∧ i < (↑6 : Int)) then
 bif decide (i.toNat * (1) + (1) ≤ 6) then
 bif inK IntKind.i64 (i - (1 : Int)) then
 X VEx.normal [I (i - (1 : Int)), VV.ptr (VA.own 20 0), VV.yld 19, VV.ptr (VA.own 17 0), VV.ptr (VA.own 18 0)] [VB.cells [VV.tl t.T.length 1 (dG t.T), I t.far, I t.least] (25 : TypeId), VB.cells [VV.tl P.length 1 (pthG P)] (26 : TypeId), VB.cells [VV.tl l.length 5 (stG l), VV.tl t.T.length 1 (dG t.T), I t.far, I t.least] (74 : TypeId), VB.cells [VV.ptr (VA.own 2 0)] (72 : TypeId), VB.cells [I (↑Y : Int)] (3 : TypeId), VB.cells [VV.slice (VA.fa 7 0 0) Y Y, VV.slice (VA.fa 8 0 0) Y Y] (76 : TypeId), VB.cells [VV.slice (VA.own 5 0) 2 2] (75 : TypeId), VB.fam [] (Y * 6) (M 0) (80 : TypeId), VB.fam [] (Y * 6) (M 1) (80 : TypeId), VB.map [PK.int IntKind.i64, PK.int IntKind.i64, PK.int IntKind.i64, PK.int IntKind.i64, PK.int IntKind.i64, PK.int IntKind.i64, PK.int IntKind.i64, PK.int IntKind.i64] PK.bool es, VB.cells [VV.mp 9] (77 : TypeId), VB.cells [VV.func (44 : FuncId) [] [VV.ptr (VA.own 4 0), VV.ptr (VA.own 10 0), VV.ptr (VA.own 1 0), VV.ptr (VA.own 12 0)]] (78 : TypeId), VB.cells [VV.func (40 : FuncId) [] [VV.ptr (VA.own 3 0), VV.ptr (VA.own 11 0), VV.ptr (VA.own 1 0), VV.ptr (VA.own 6 0)]] (88 : TypeId), VB.fam [I y, I S] 6 (fun (k : Nat) => (ch a).getD k (0 : Int)) (82 : TypeId), VB.cells [I own] (3 : TypeId), VB.cells [I need] (3 : TypeId), VB.cells [VV.bool false] (4 : TypeId), VB.cells [VV.ptr (VA.own 2 0)] (72 : TypeId), VB.fam [] 6 (fun (k : Nat) => (ch a).getD k (0 : Int)) (80 : TypeId), VB.loop true none (slFo2 y S own need a) 58 [17] asFo bdFo, VB.fam [] 6 (setF n (i.toNat * (1)) [(0 : Int)]) (80 : TypeId)]
 else False
 else False
 else False
 else X (VEx.exit 2) [I i, VV.ptr (VA.own 20 0), VV.yld 19, VV.ptr (VA.own 17 0), VV.ptr (VA.own 18 0)] [VB.cells [VV.tl t.T.length 1 (dG t.T), I t.far, I t.least] (25 : TypeId), VB.cells [VV.tl P.length 1 (pthG P)] (26 : TypeId), VB.cells [VV.tl l.length 5 (stG l), VV.tl t.T.length 1 (dG t.T), I t.far, I t.least] (74 : TypeId), VB.cells [VV.ptr (VA.own 2 0)] (72 : TypeId), VB.cells [I (↑Y : Int)] (3 : TypeId), VB.cells [VV.slice (VA.fa 7 0 0) Y Y, VV.slice (VA.fa 8 0 0) Y Y] (76 : TypeId), VB.cells [VV.slice (VA.own 5 0) 2 2] (75 : TypeId), VB.fam [] (Y * 6) (M 0) (80 : TypeId), VB.fam [] (Y * 6) (M 1) (80 : TypeId), VB.map [PK.int IntKind.i64, PK.int IntKind.i64, PK.int IntKind.i64, PK.int IntKind.i64, PK.int IntKind.i64, PK.int IntKind.i64, PK.int IntKind.i64, PK.int IntKind.i64] PK.bool es, VB.cells [VV.mp 9] (77 : TypeId), VB.cells [VV.func (44 : FuncId) [] [VV.ptr (VA.own 4 0), VV.ptr (VA.own 10 0), VV.ptr (VA.own 1 0), VV.ptr (VA.own 12 0)]] (78 : TypeId), VB.cells [VV.func (40 : FuncId) [] [VV.ptr (VA.own 3 0), VV.ptr (VA.own 11 0), VV.ptr (VA.own 1 0), VV.ptr (VA.own 6 0)]] (88 : TypeId), VB.fam [I y, I S] 6 (fun (k : Nat) => (ch a).getD k (0 : Int)) (82 : TypeId), VB.cells [I own] (3 : TypeId), VB.cells [I need] (3 : TypeId), VB.cells [VV.bool false] (4 : TypeId), VB.cells [VV.ptr (VA.own 2 0)] (72 : TypeId), VB.fam [] 6 (fun (k : Nat) => (ch a).getD k (0 : Int)) (80 : TypeId), VB.loop true none (slFo2 y S own need a) 58 [17] asFo bdFo, VB.fam [] 6 n (80 : TypeId)]
 else False
 else False
 else False
 else False
 else X (VEx.exit 2) [I i, VV.ptr (VA.own 20 0), VV.yld 19, VV.ptr (VA.own 17 0), VV.ptr (VA.own 18 0)] [VB.cells [VV.tl t.T.length 1 (dG t.T), I t.far, I t.least] (25 : TypeId), VB.cells [VV.tl P.length 1 (pthG P)] (26 : TypeId), VB.cells [VV.tl l.length 5 (stG l), VV.tl t.T.length 1 (dG t.T), I t.far, I t.least] (74 : TypeId), VB.cells [VV.ptr (VA.own 2 0)] (72 : TypeId), VB.cells [I (↑Y : Int)] (3 : TypeId), VB.cells [VV.slice (VA.fa 7 0 0) Y Y, VV.slice (VA.fa 8 0 0) Y Y] (76 : TypeId), VB.cells [VV.slice (VA.own 5 0) 2 2] (75 : TypeId), VB.fam [] (Y * 6) (M 0) (80 : TypeId), VB.fam [] (Y * 6) (M 1) (80 : TypeId), VB.map [PK.int IntKind.i64, PK.int IntKind.i64, PK.int IntKind.i64, PK.int IntKind.i64, PK.int IntKind.i64, PK.int IntKind.i64, PK.int IntKind.i64, PK.int IntKind.i64] PK.bool es, VB.cells [VV.mp 9] (77 : TypeId), VB.cells [VV.func (44 : FuncId) [] [VV.ptr (VA.own 4 0), VV.ptr (VA.own 10 0), VV.ptr (VA.own 1 0), VV.ptr (VA.own 12 0)]] (78 : TypeId), VB.cells [VV.func (40 : FuncId) [] [VV.ptr (VA.own 3 0), VV.ptr (VA.own 11 0), VV.ptr (VA.own 1 0), VV.ptr (VA.own 6 0)]] (88 : TypeId), VB.fam [I y, I S] 6 (fun (k : Nat) => (ch a).getD k (0 : Int)) (82 : TypeId), VB.cells [I own] (3 : TypeId), VB.cells [I need] (3 : TypeId), VB.cells [VV.bool false] (4 : TypeId), VB.cells [VV.ptr (VA.own 2 0)] (72 : TypeId), VB.fam [] 6 (fun (k : Nat) => (ch a).getD k (0 : Int)) (80 : TypeId), VB.loop true none (slFo2 y S own need a) 58 [17] asFo bdFo, VB.fam [] 6 n (80 : TypeId)]) := by kernel_rfl

noncomputable def lIo2 (l : List Stk) (t : Tst) (P : List (List Int)) (Y : Nat) (y S own need : Int) (a : Nat → Int) : LT := fun lock tt h K =>
  ∃ M es n, FitP lock h tt ⟨22, nsFo2.zip (BFo2 l t P Y y S own need a M es n)⟩ (dsI.zip (VFi2 (l.length - 1))) ∧ l.length ≤ 6 ∧ ∀ (k : Nat) (n' : Nat → Int), scanC a l.length n = (k, n') → K .normal (dsI.zip (VFi2 (k - 1))) ⟨22, nsFo2.zip (BFo2 l t P Y y S own need a M es n')⟩
theorem fr2_ev (l : List Stk) (t : Tst) (D0 D1 : List Int) (Y k : Nat) (M : Mde) (es : Lst) (y S need : Int) (O : Nat) (a n : Nat → Int) (X : VEx → List VV → List VB → Prop) : codeE Try.prog (callN Try.prog (tabS [meetsR l t, lessT, findR2 l t [D0, D1] Y k]) noL 10 20) (tabB [(2, lIo2 l t [D0, D1] Y y S O need a)]) true 10 (ntOf Try.prog 74) 0 (loopB 0 (bodyOf Try.prog 74)) (dsC.zip VFo2) ⟨21, nsFo2.zip (BFo2 l t [D0, D1] Y y S O need a M es n)⟩ (obs 21 dsC nsFo2 X) =
  (∃ (n_1 : Nat → Int), isD (VH.mk (22) ((19, VB.gone) :: (21, VB.fam [] (6) (setF (fun (_ : Nat) => (0 : Int)) 0 [n (0 + 0), n (0 + 1), n (0 + 2), n (0 + 3), n (0 + 4), n (0 + 5)]) 80) :: (21, VB.fam [] (6) (fun (_ : Nat) => (0 : Int)) 80) :: nsFo2.zip (BFo2 l t [D0, D1] Y y S (↑O : Int) need a M es n))) 4 (VV.ptr (VA.own 2 0)) (VV.tp (stD l :: tsL t)) ∧ [I (setF (fun (_ : Nat) => (0 : Int)) 0 [n (0 + 0), n (0 + 1), n (0 + 2), n (0 + 3), n (0 + 4), n (0 + 5)] (0 + 0)), I (setF (fun (_ : Nat) => (0 : Int)) 0 [n (0 + 0), n (0 + 1), n (0 + 2), n (0 + 3), n (0 + 4), n (0 + 5)] (0 + 1)), I (setF (fun (_ : Nat) => (0 : Int)) 0 [n (0 + 0), n (0 + 1), n (0 + 2), n (0 + 3), n (0 + 4), n (0 + 5)] (0 + 2)), I (setF (fun (_ : Nat) => (0 : Int)) 0 [n (0 + 0), n (0 + 1), n (0 + 2), n (0 + 3), n (0 + 4), n (0 + 5)] (0 + 3)), I (setF (fun (_ : Nat) => (0 : Int)) 0 [n (0 + 0), n (0 + 1), n (0 + 2), n (0 + 3), n (0 + 4), n (0 + 5)] (0 + 4)), I (setF (fun (_ : Nat) => (0 : Int)) 0 [n (0 + 0), n (0 + 1), n (0 + 2), n (0 + 3), n (0 + 4), n (0 + 5)] (0 + 5))] = nL n_1 ∧ (conB l t n_1 ∧ (0 : Int) ≤ y ∧ y ≤ (1000 : Int)) ∧ bif !meetsF l t n_1 y need then
 bif inK IntKind.i64 ((↑l.length : Int) - (1 : Int)) then
 ∃ (M_1 : Mde), ∃ (es_1 : Lst), ∃ (n_2 : Nat → Int), FitP 0 (VH.mk (22) ((19, VB.loop true none (slFo2 y S (↑O : Int) need a) 58 [17] asFo bdFo) :: (19, VB.gone) :: (21, VB.fam [] (6) (setF (fun (_ : Nat) => (0 : Int)) 0 [n (0 + 0), n (0 + 1), n (0 + 2), n (0 + 3), n (0 + 4), n (0 + 5)]) 80) :: (21, VB.fam [] (6) (fun (_ : Nat) => (0 : Int)) 80) :: nsFo2.zip (BFo2 l t [D0, D1] Y y S (↑O : Int) need a M es n))) ((5, I ((↑l.length : Int) - (1 : Int))) :: (15, I ((↑l.length : Int) - (1 : Int))) :: (14, I (↑l.length : Int)) :: (13, VV.tl l.length 5 (stG l)) :: (12, VV.ptr (VA.own 2 0)) :: (11, VV.ptr (VA.own 2 0)) :: (10, VV.ptr (VA.own 2 0)) :: (9, VV.bool false) :: (9, VV.bool !true) :: (8, VV.bool true) :: (7, VV.agg [I (n (0 + 0)), I (n (0 + 1)), I (n (0 + 2)), I (n (0 + 3)), I (n (0 + 4)), I (n (0 + 5))]) :: (6, VV.yld 19) :: dsC.zip VFo2) (VH.mk 22 (nsFo2.zip (BFo2 l t [D0, D1] Y y S (↑O : Int) need a M_1 es_1 n_2))) (dsI.zip (VFi2 ((↑l.length : Int) - (1 : Int)))) ∧ l.length ≤ 6 ∧ ∀ (k : Nat) (n' : Nat → Int), scanC a l.length n_2 = (k, n') → bif decide ((↑k : Int) - (1 : Int) < (0 : Int)) then
 X VEx.ret [VV.ptr (VA.own 20 0), VV.yld 19, VV.ptr (VA.own 17 0), VV.ptr (VA.own 18 0)] [VB.cells [VV.tl t.T.length 1 (dG t.T), I t.far, I t.least] (25 : TypeId), VB.cells [VV.tl [D0, D1].length 1 (pthG [D0, D1])] (26 : TypeId), VB.cells [VV.tl l.length 5 (stG l), VV.tl t.T.length 1 (dG t.T), I t.far, I t.least] (74 : TypeId), VB.cells [VV.ptr (VA.own 2 0)] (72 : TypeId), VB.cells [I (↑Y : Int)] (3 : TypeId), VB.cells [VV.slice (VA.fa 7 0 0) Y Y, VV.slice (VA.fa 8 0 0) Y Y] (76 : TypeId), VB.cells [VV.slice (VA.own 5 0) 2 2] (75 : TypeId), VB.fam [] (Y * 6) (M_1 0) (80 : TypeId), VB.fam [] (Y * 6) (M_1 1) (80 : TypeId), VB.map [PK.int IntKind.i64, PK.int IntKind.i64, PK.int IntKind.i64, PK.int IntKind.i64, PK.int IntKind.i64, PK.int IntKind.i64, PK.int IntKind.i64, PK.int IntKind.i64] PK.bool es_1, VB.cells [VV.mp 9] (77 : TypeId), VB.cells [VV.func (44 : FuncId) [] [VV.ptr (VA.own 4 0), VV.ptr (VA.own 10 0), VV.ptr (VA.own 1 0), VV.ptr (VA.own 12 0)]] (78 : TypeId), VB.cells [VV.func (40 : FuncId) [] [VV.ptr (VA.own 3 0), VV.ptr (VA.own 11 0), VV.ptr (VA.own 1 0), VV.ptr (VA.own 6 0)]] (88 : TypeId), VB.fam [I y, I S] 6 (fun (k : Nat) => (ch a).getD k (0 : Int)) (82 : TypeId), VB.cells [I (↑O : Int)] (3 : TypeId), VB.cells [I need] (3 : TypeId), VB.cells [VV.bool false] (4 : TypeId), VB.cells [VV.ptr (VA.own 2 0)] (72 : TypeId), VB.fam [] 6 (fun (k : Nat) => (ch a).getD k (0 : Int)) (80 : TypeId), VB.loop true none (slFo2 y S (↑O : Int) need a) 58 [17] asFo bdFo, VB.fam [] 6 n' (80 : TypeId)]
 else bif decide ((0 : Int) ≤ (↑k : Int) - (1 : Int) ∧ (↑k : Int) - (1 : Int) < (↑6 : Int)) then
 bif decide (((↑k : Int) - (1 : Int)).toNat * (1) < 6) then
 bif inK IntKind.i64 (n' (((↑k : Int) - (1 : Int)).toNat * (1)) + (1 : Int)) then
 bif decide ((0 : Int) ≤ (↑k : Int) - (1 : Int) ∧ (↑k : Int) - (1 : Int) < (↑6 : Int)) then
 bif decide (((↑k : Int) - (1 : Int)).toNat * (1) + (1) ≤ 6) then
 X VEx.normal [VV.ptr (VA.own 20 0), VV.yld 19, VV.ptr (VA.own 17 0), VV.ptr (VA.own 18 0)] [VB.cells [VV.tl t.T.length 1 (dG t.T), I t.far, I t.least] (25 : TypeId), VB.cells [VV.tl [D0, D1].length 1 (pthG [D0, D1])] (26 : TypeId), VB.cells [VV.tl l.length 5 (stG l), VV.tl t.T.length 1 (dG t.T), I t.far, I t.least] (74 : TypeId), VB.cells [VV.ptr (VA.own 2 0)] (72 : TypeId), VB.cells [I (↑Y : Int)] (3 : TypeId), VB.cells [VV.slice (VA.fa 7 0 0) Y Y, VV.slice (VA.fa 8 0 0) Y Y] (76 : TypeId), VB.cells [VV.slice (VA.own 5 0) 2 2] (75 : TypeId), VB.fam [] (Y * 6) (M_1 0) (80 : TypeId), VB.fam [] (Y * 6) (M_1 1) (80 : TypeId), VB.map [PK.int IntKind.i64, PK.int IntKind.i64, PK.int IntKind.i64, PK.int IntKind.i64, PK.int IntKind.i64, PK.int IntKind.i64, PK.int IntKind.i64, PK.int IntKind.i64] PK.bool es_1, VB.cells [VV.mp 9] (77 : TypeId), VB.cells [VV.func (44 : FuncId) [] [VV.ptr (VA.own 4 0), VV.ptr (VA.own 10 0), VV.ptr (VA.own 1 0), VV.ptr (VA.own 12 0)]] (78 : TypeId), VB.cells [VV.func (40 : FuncId) [] [VV.ptr (VA.own 3 0), VV.ptr (VA.own 11 0), VV.ptr (VA.own 1 0), VV.ptr (VA.own 6 0)]] (88 : TypeId), VB.fam [I y, I S] 6 (fun (k : Nat) => (ch a).getD k (0 : Int)) (82 : TypeId), VB.cells [I (↑O : Int)] (3 : TypeId), VB.cells [I need] (3 : TypeId), VB.cells [VV.bool false] (4 : TypeId), VB.cells [VV.ptr (VA.own 2 0)] (72 : TypeId), VB.fam [] 6 (fun (k : Nat) => (ch a).getD k (0 : Int)) (80 : TypeId), VB.loop true none (slFo2 y S (↑O : Int) need a) 58 [17] asFo bdFo, VB.fam [] 6 (setF n' (((↑k : Int) - (1 : Int)).toNat * (1)) [n' (((↑k : Int) - (1 : Int)).toNat * (1)) + (1 : Int)]) (80 : TypeId)]
 else False
 else False
 else False
 else False
 else False
 else False
 else bif inK IntKind.i64 (y + (1 : Int)) then
 ∃ (a_1 : Nat → Int), ∃ (b : Nat → Int), [I ((fun (k : Nat) => (ch a).getD k (0 : Int)) (0 + 0)), I ((fun (k : Nat) => (ch a).getD k (0 : Int)) (0 + 1)), I ((fun (k : Nat) => (ch a).getD k (0 : Int)) (0 + 2)), I ((fun (k : Nat) => (ch a).getD k (0 : Int)) (0 + 3)), I ((fun (k : Nat) => (ch a).getD k (0 : Int)) (0 + 4)), I ((fun (k : Nat) => (ch a).getD k (0 : Int)) (0 + 5))] = nL a_1 ∧ [I (setF (fun (_ : Nat) => (0 : Int)) 0 [n (0 + 0), n (0 + 1), n (0 + 2), n (0 + 3), n (0 + 4), n (0 + 5)] (0 + 0)), I (setF (fun (_ : Nat) => (0 : Int)) 0 [n (0 + 0), n (0 + 1), n (0 + 2), n (0 + 3), n (0 + 4), n (0 + 5)] (0 + 1)), I (setF (fun (_ : Nat) => (0 : Int)) 0 [n (0 + 0), n (0 + 1), n (0 + 2), n (0 + 3), n (0 + 4), n (0 + 5)] (0 + 2)), I (setF (fun (_ : Nat) => (0 : Int)) 0 [n (0 + 0), n (0 + 1), n (0 + 2), n (0 + 3), n (0 + 4), n (0 + 5)] (0 + 3)), I (setF (fun (_ : Nat) => (0 : Int)) 0 [n (0 + 0), n (0 + 1), n (0 + 2), n (0 + 3), n (0 + 4), n (0 + 5)] (0 + 4)), I (setF (fun (_ : Nat) => (0 : Int)) 0 [n (0 + 0), n (0 + 1), n (0 + 2), n (0 + 3), n (0 + 4), n (0 + 5)] (0 + 5))] = nL b ∧ bdL a_1 b ∧ ∃ (S' : Nat), ∃ (a_2 : Nat → Int), ∃ (M_1 : Mde), ∃ (es_1 : Lst), (VV.ptr (VA.own 4 0) = VV.ptr (VA.own 4 0) ∧ VV.ptr (VA.own 10 0) = VV.ptr (VA.own 10 0) ∧ VV.ptr (VA.own 1 0) = VV.ptr (VA.own 1 0) ∧ VV.ptr (VA.own 12 0) = VV.ptr (VA.own 12 0)) ∧ (0 = 0 ∧ 13 ≤ 22) ∧ atL nsB2 (BP2 l t [D0, D1] Y M_1 es_1) (VH.mk (22) ((19, VB.gone) :: (21, VB.fam [] (6) (setF (fun (_ : Nat) => (0 : Int)) 0 [n (0 + 0), n (0 + 1), n (0 + 2), n (0 + 3), n (0 + 4), n (0 + 5)]) 80) :: (21, VB.fam [] (6) (fun (_ : Nat) => (0 : Int)) 80) :: nsFo2.zip (BFo2 l t [D0, D1] Y y S (↑O : Int) need a M es n))) ∧ (y + (1 : Int) = (↑Y : Int) - (↑k : Int) ∧ (↑O : Int) = (↑S' : Int) ∧ [I (lsF a_1 b 6 0), I (lsF a_1 b 6 1), I (lsF a_1 b 6 2), I (lsF a_1 b 6 3), I (lsF a_1 b 6 4), I (lsF a_1 b 6 5)] = nL a_2) ∧ PreF l t [D0, D1] Y k S' a_2 es_1 ∧ ∀ (b : Bool) (s : St), PostF l t [D0, D1] Y k S' a_2 M_1 b s → bif !b then
 bif inK IntKind.i64 ((↑l.length : Int) - (1 : Int)) then
 ∃ (M_2 : Mde), ∃ (es_2 : Lst), ∃ (n_2 : Nat → Int), FitP 0 (VH.mk (22) ((19, VB.loop true none (slFo2 y S (↑O : Int) need a) 58 [17] asFo bdFo) :: (7, VB.fam [] (Y * 6) (s.M 0) (80 : TypeId)) :: (8, VB.fam [] (Y * 6) (s.M 1) (80 : TypeId)) :: (9, VB.map kS PK.bool s.es) :: (19, VB.gone) :: (21, VB.fam [] (6) (setF (fun (_ : Nat) => (0 : Int)) 0 [n (0 + 0), n (0 + 1), n (0 + 2), n (0 + 3), n (0 + 4), n (0 + 5)]) 80) :: (21, VB.fam [] (6) (fun (_ : Nat) => (0 : Int)) 80) :: nsFo2.zip (BFo2 l t [D0, D1] Y y S (↑O : Int) need a M es n))) ((5, I ((↑l.length : Int) - (1 : Int))) :: (15, I ((↑l.length : Int) - (1 : Int))) :: (14, I (↑l.length : Int)) :: (13, VV.tl l.length 5 (stG l)) :: (12, VV.ptr (VA.own 2 0)) :: (11, VV.ptr (VA.own 2 0)) :: (10, VV.ptr (VA.own 2 0)) :: (9, VV.bool false) :: (9, VV.bool !true) :: (8, VV.bool true) :: (7, VV.agg [I (n (0 + 0)), I (n (0 + 1)), I (n (0 + 2)), I (n (0 + 3)), I (n (0 + 4)), I (n (0 + 5))]) :: (6, VV.yld 19) :: dsC.zip VFo2) (VH.mk 22 (nsFo2.zip (BFo2 l t [D0, D1] Y y S (↑O : Int) need a M_2 es_2 n_2))) (dsI.zip (VFi2 ((↑l.length : Int) - (1 : Int)))) ∧ l.length ≤ 6 ∧ ∀ (k : Nat) (n' : Nat → Int), scanC a l.length n_2 = (k, n') → bif decide ((↑k : Int) - (1 : Int) < (0 : Int)) then
 X VEx.ret [VV.ptr (VA.own 20 0), VV.yld 19, VV.ptr (VA.own 17 0), VV.ptr (VA.own 18 0)] [VB.cells [VV.tl t.T.length 1 (dG t.T), I t.far, I t.least] (25 : TypeId), VB.cells [VV.tl [D0, D1].length 1 (pthG [D0, D1])] (26 : TypeId), VB.cells [VV.tl l.length 5 (stG l), VV.tl t.T.length 1 (dG t.T), I t.far, I t.least] (74 : TypeId), VB.cells [VV.ptr (VA.own 2 0)] (72 : TypeId), VB.cells [I (↑Y : Int)] (3 : TypeId), VB.cells [VV.slice (VA.fa 7 0 0) Y Y, VV.slice (VA.fa 8 0 0) Y Y] (76 : TypeId), VB.cells [VV.slice (VA.own 5 0) 2 2] (75 : TypeId), VB.fam [] (Y * 6) (M_2 0) (80 : TypeId), VB.fam [] (Y * 6) (M_2 1) (80 : TypeId), VB.map [PK.int IntKind.i64, PK.int IntKind.i64, PK.int IntKind.i64, PK.int IntKind.i64, PK.int IntKind.i64, PK.int IntKind.i64, PK.int IntKind.i64, PK.int IntKind.i64] PK.bool es_2, VB.cells [VV.mp 9] (77 : TypeId), VB.cells [VV.func (44 : FuncId) [] [VV.ptr (VA.own 4 0), VV.ptr (VA.own 10 0), VV.ptr (VA.own 1 0), VV.ptr (VA.own 12 0)]] (78 : TypeId), VB.cells [VV.func (40 : FuncId) [] [VV.ptr (VA.own 3 0), VV.ptr (VA.own 11 0), VV.ptr (VA.own 1 0), VV.ptr (VA.own 6 0)]] (88 : TypeId), VB.fam [I y, I S] 6 (fun (k : Nat) => (ch a).getD k (0 : Int)) (82 : TypeId), VB.cells [I (↑O : Int)] (3 : TypeId), VB.cells [I need] (3 : TypeId), VB.cells [VV.bool false] (4 : TypeId), VB.cells [VV.ptr (VA.own 2 0)] (72 : TypeId), VB.fam [] 6 (fun (k : Nat) => (ch a).getD k (0 : Int)) (80 : TypeId), VB.loop true none (slFo2 y S (↑O : Int) need a) 58 [17] asFo bdFo, VB.fam [] 6 n' (80 : TypeId)]
 else bif decide ((0 : Int) ≤ (↑k : Int) - (1 : Int) ∧ (↑k : Int) - (1 : Int) < (↑6 : Int)) then
 bif decide (((↑k : Int) - (1 : Int)).toNat * (1) < 6) then
 bif inK IntKind.i64 (n' (((↑k : Int) - (1 : Int)).toNat * (1)) + (1 : Int)) then
 bif decide ((0 : Int) ≤ (↑k : Int) - (1 : Int) ∧ (↑k : Int) - (1 : Int) < (↑6 : Int)) then
 bif decide (((↑k : Int) - (1 : Int)).toNat * (1) + (1) ≤ 6) then
 X VEx.normal [VV.ptr (VA.own 20 0), VV.yld 19, VV.ptr (VA.own 17 0), VV.ptr (VA.own 18 0)] [VB.cells [VV.tl t.T.length 1 (dG t.T), I t.far, I t.least] (25 : TypeId), VB.cells [VV.tl [D0, D1].length 1 (pthG [D0, D1])] (26 : TypeId), VB.cells [VV.tl l.length 5 (stG l), VV.tl t.T.length 1 (dG t.T), I t.far, I t.least] (74 : TypeId), VB.cells [VV.ptr (VA.own 2 0)] (72 : TypeId), VB.cells [I (↑Y : Int)] (3 : TypeId), VB.cells [VV.slice (VA.fa 7 0 0) Y Y, VV.slice (VA.fa 8 0 0) Y Y] (76 : TypeId), VB.cells [VV.slice (VA.own 5 0) 2 2] (75 : TypeId), VB.fam [] (Y * 6) (M_2 0) (80 : TypeId), VB.fam [] (Y * 6) (M_2 1) (80 : TypeId), VB.map [PK.int IntKind.i64, PK.int IntKind.i64, PK.int IntKind.i64, PK.int IntKind.i64, PK.int IntKind.i64, PK.int IntKind.i64, PK.int IntKind.i64, PK.int IntKind.i64] PK.bool es_2, VB.cells [VV.mp 9] (77 : TypeId), VB.cells [VV.func (44 : FuncId) [] [VV.ptr (VA.own 4 0), VV.ptr (VA.own 10 0), VV.ptr (VA.own 1 0), VV.ptr (VA.own 12 0)]] (78 : TypeId), VB.cells [VV.func (40 : FuncId) [] [VV.ptr (VA.own 3 0), VV.ptr (VA.own 11 0), VV.ptr (VA.own 1 0), VV.ptr (VA.own 6 0)]] (88 : TypeId), VB.fam [I y, I S] 6 (fun (k : Nat) => (ch a).getD k (0 : Int)) (82 : TypeId), VB.cells [I (↑O : Int)] (3 : TypeId), VB.cells [I need] (3 : TypeId), VB.cells [VV.bool false] (4 : TypeId), VB.cells [VV.ptr (VA.own 2 0)] (72 : TypeId), VB.fam [] 6 (fun (k : Nat) => (ch a).getD k (0 : Int)) (80 : TypeId), VB.loop true none (slFo2 y S (↑O : Int) need a) 58 [17] asFo bdFo, VB.fam [] 6 (setF n' (((↑k : Int) - (1 : Int)).toNat * (1)) [n' (((↑k : Int) - (1 : Int)).toNat * (1)) + (1 : Int)]) (80 : TypeId)]
 else False
 else False
 else False
 else False
 else False
 else False
 else bif decide (IntKind.i64.wrap (↑(BitVec.ofInt IntKind.i64.bits ((↑O : Int).fdiv ((2 : Int) ^ min (Int.toNat (0 : Int)) IntKind.i64.bits)) &&& BitVec.ofInt IntKind.i64.bits (1 : Int)).toNat : Int) = (1 : Int)) then
 bif decide ((0 : Int) ≤ y ∧ y < (↑Y : Int)) then
 bif decide (0 + y.toNat * (6) + (6) ≤ Y * 6) then
 bif decide (IntKind.i64.wrap (↑(BitVec.ofInt IntKind.i64.bits ((↑O : Int).fdiv ((2 : Int) ^ min ((0 : Int) + (1 : Int)).toNat IntKind.i64.bits)) &&& BitVec.ofInt IntKind.i64.bits (1 : Int)).toNat : Int) = (1 : Int)) then
 bif decide ((0 : Int) ≤ y ∧ y < (↑Y : Int)) then
 bif decide (0 + y.toNat * (6) + (6) ≤ Y * 6) then
 X VEx.ret [VV.ptr (VA.own 20 0), VV.yld 19, VV.ptr (VA.own 17 0), VV.ptr (VA.own 18 0)] [VB.cells [VV.tl t.T.length 1 (dG t.T), I t.far, I t.least] (25 : TypeId), VB.cells [VV.tl [D0, D1].length 1 (pthG [D0, D1])] (26 : TypeId), VB.cells [VV.tl l.length 5 (stG l), VV.tl t.T.length 1 (dG t.T), I t.far, I t.least] (74 : TypeId), VB.cells [VV.ptr (VA.own 2 0)] (72 : TypeId), VB.cells [I (↑Y : Int)] (3 : TypeId), VB.cells [VV.slice (VA.fa 7 0 0) Y Y, VV.slice (VA.fa 8 0 0) Y Y] (76 : TypeId), VB.cells [VV.slice (VA.own 5 0) 2 2] (75 : TypeId), VB.fam [] (Y * 6) (setF (s.M 0) (0 + y.toNat * (6)) [setF (fun (_ : Nat) => (0 : Int)) 0 [n (0 + 0), n (0 + 1), n (0 + 2), n (0 + 3), n (0 + 4), n (0 + 5)] (0 + 0), setF (fun (_ : Nat) => (0 : Int)) 0 [n (0 + 0), n (0 + 1), n (0 + 2), n (0 + 3), n (0 + 4), n (0 + 5)] (0 + 1), setF (fun (_ : Nat) => (0 : Int)) 0 [n (0 + 0), n (0 + 1), n (0 + 2), n (0 + 3), n (0 + 4), n (0 + 5)] (0 + 2), setF (fun (_ : Nat) => (0 : Int)) 0 [n (0 + 0), n (0 + 1), n (0 + 2), n (0 + 3), n (0 + 4), n (0 + 5)] (0 + 3), setF (fun (_ : Nat) => (0 : Int)) 0 [n (0 + 0), n (0 + 1), n (0 + 2), n (0 + 3), n (0 + 4), n (0 + 5)] (0 + 4), setF (fun (_ : Nat) => (0 : Int)) 0 [n (0 + 0), n (0 + 1), n (0 + 2), n (0 + 3), n (0 + 4), n (0 + 5)] (0 + 5)]) (80 : TypeId), VB.fam [] (Y * 6) (setF (s.M 1) (0 + y.toNat * (6)) [setF (fun (_ : Nat) => (0 : Int)) 0 [n (0 + 0), n (0 + 1), n (0 + 2), n (0 + 3), n (0 + 4), n (0 + 5)] (0 + 0), setF (fun (_ : Nat) => (0 : Int)) 0 [n (0 + 0), n (0 + 1), n (0 + 2), n (0 + 3), n (0 + 4), n (0 + 5)] (0 + 1), setF (fun (_ : Nat) => (0 : Int)) 0 [n (0 + 0), n (0 + 1), n (0 + 2), n (0 + 3), n (0 + 4), n (0 + 5)] (0 + 2), setF (fun (_ : Nat) => (0 : Int)) 0 [n (0 + 0), n (0 + 1), n (0 + 2), n (0 + 3), n (0 + 4), n (0 + 5)] (0 + 3), setF (fun (_ : Nat) => (0 : Int)) 0 [n (0 + 0), n (0 + 1), n (0 + 2), n (0 + 3), n (0 + 4), n (0 + 5)] (0 + 4), setF (fun (_ : Nat) => (0 : Int)) 0 [n (0 + 0), n (0 + 1), n (0 + 2), n (0 + 3), n (0 + 4), n (0 + 5)] (0 + 5)]) (80 : TypeId), VB.map [PK.int IntKind.i64, PK.int IntKind.i64, PK.int IntKind.i64, PK.int IntKind.i64, PK.int IntKind.i64, PK.int IntKind.i64, PK.int IntKind.i64, PK.int IntKind.i64] PK.bool s.es, VB.cells [VV.mp 9] (77 : TypeId), VB.cells [VV.func (44 : FuncId) [] [VV.ptr (VA.own 4 0), VV.ptr (VA.own 10 0), VV.ptr (VA.own 1 0), VV.ptr (VA.own 12 0)]] (78 : TypeId), VB.cells [VV.func (40 : FuncId) [] [VV.ptr (VA.own 3 0), VV.ptr (VA.own 11 0), VV.ptr (VA.own 1 0), VV.ptr (VA.own 6 0)]] (88 : TypeId), VB.fam [I y, I S] 6 (fun (k : Nat) => (ch a).getD k (0 : Int)) (82 : TypeId), VB.cells [I (↑O : Int)] (3 : TypeId), VB.cells [I need] (3 : TypeId), VB.cells [VV.bool true] (4 : TypeId), VB.cells [VV.ptr (VA.own 2 0)] (72 : TypeId), VB.fam [] 6 (fun (k : Nat) => (ch a).getD k (0 : Int)) (80 : TypeId), VB.loop false (some VEx.ret) (slFo2 y S (↑O : Int) need a) 58 [17] asFo bdFo, VB.fam [] 6 n (80 : TypeId)]
 else False
 else False
 else X VEx.ret [VV.ptr (VA.own 20 0), VV.yld 19, VV.ptr (VA.own 17 0), VV.ptr (VA.own 18 0)] [VB.cells [VV.tl t.T.length 1 (dG t.T), I t.far, I t.least] (25 : TypeId), VB.cells [VV.tl [D0, D1].length 1 (pthG [D0, D1])] (26 : TypeId), VB.cells [VV.tl l.length 5 (stG l), VV.tl t.T.length 1 (dG t.T), I t.far, I t.least] (74 : TypeId), VB.cells [VV.ptr (VA.own 2 0)] (72 : TypeId), VB.cells [I (↑Y : Int)] (3 : TypeId), VB.cells [VV.slice (VA.fa 7 0 0) Y Y, VV.slice (VA.fa 8 0 0) Y Y] (76 : TypeId), VB.cells [VV.slice (VA.own 5 0) 2 2] (75 : TypeId), VB.fam [] (Y * 6) (setF (s.M 0) (0 + y.toNat * (6)) [setF (fun (_ : Nat) => (0 : Int)) 0 [n (0 + 0), n (0 + 1), n (0 + 2), n (0 + 3), n (0 + 4), n (0 + 5)] (0 + 0), setF (fun (_ : Nat) => (0 : Int)) 0 [n (0 + 0), n (0 + 1), n (0 + 2), n (0 + 3), n (0 + 4), n (0 + 5)] (0 + 1), setF (fun (_ : Nat) => (0 : Int)) 0 [n (0 + 0), n (0 + 1), n (0 + 2), n (0 + 3), n (0 + 4), n (0 + 5)] (0 + 2), setF (fun (_ : Nat) => (0 : Int)) 0 [n (0 + 0), n (0 + 1), n (0 + 2), n (0 + 3), n (0 + 4), n (0 + 5)] (0 + 3), setF (fun (_ : Nat) => (0 : Int)) 0 [n (0 + 0), n (0 + 1), n (0 + 2), n (0 + 3), n (0 + 4), n (0 + 5)] (0 + 4), setF (fun (_ : Nat) => (0 : Int)) 0 [n (0 + 0), n (0 + 1), n (0 + 2), n (0 + 3), n (0 + 4), n (0 + 5)] (0 + 5)]) (80 : TypeId), VB.fam [] (Y * 6) (s.M 1) (80 : TypeId), VB.map [PK.int IntKind.i64, PK.int IntKind.i64, PK.int IntKind.i64, PK.int IntKind.i64, PK.int IntKind.i64, PK.int IntKind.i64, PK.int IntKind.i64, PK.int IntKind.i64] PK.bool s.es, VB.cells [VV.mp 9] (77 : TypeId), VB.cells [VV.func (44 : FuncId) [] [VV.ptr (VA.own 4 0), VV.ptr (VA.own 10 0), VV.ptr (VA.own 1 0), VV.ptr (VA.own 12 0)]] (78 : TypeId), VB.cells [VV.func (40 : FuncId) [] [VV.ptr (VA.own 3 0), VV.ptr (VA.own 11 0), VV.ptr (VA.own 1 0), VV.ptr (VA.own 6 0)]] (88 : TypeId), VB.fam [I y, I S] 6 (fun (k : Nat) => (ch a).getD k (0 : Int)) (82 : TypeId), VB.cells [I (↑O : Int)] (3 : TypeId), VB.cells [I need] (3 : TypeId), VB.cells [VV.bool true] (4 : TypeId), VB.cells [VV.ptr (VA.own 2 0)] (72 : TypeId), VB.fam [] 6 (fun (k : Nat) => (ch a).getD k (0 : Int)) (80 : TypeId), VB.loop false (some VEx.ret) (slFo2 y S (↑O : Int) need a) 58 [17] asFo bdFo, VB.fam [] 6 n (80 : TypeId)]
 else False
 else False
 else bif decide (IntKind.i64.wrap (↑(BitVec.ofInt IntKind.i64.bits ((↑O : Int).fdiv ((2 : Int) ^ min ((0 : Int) + (1 : Int)).toNat IntKind.i64.bits)) &&& BitVec.ofInt IntKind.i64.bits (1 : Int)).toNat : Int) = (1 : Int)) then
 bif decide ((0 : Int) ≤ y ∧ y < (↑Y : Int)) then
 bif decide (0 + y.toNat * (6) + (6) ≤ Y * 6) then
 X VEx.ret [VV.ptr (VA.own 20 0), VV.yld 19, VV.ptr (VA.own 17 0), VV.ptr (VA.own 18 0)] [VB.cells [VV.tl t.T.length 1 (dG t.T), I t.far, I t.least] (25 : TypeId), VB.cells [VV.tl [D0, D1].length 1 (pthG [D0, D1])] (26 : TypeId), VB.cells [VV.tl l.length 5 (stG l), VV.tl t.T.length 1 (dG t.T), I t.far, I t.least] (74 : TypeId), VB.cells [VV.ptr (VA.own 2 0)] (72 : TypeId), VB.cells [I (↑Y : Int)] (3 : TypeId), VB.cells [VV.slice (VA.fa 7 0 0) Y Y, VV.slice (VA.fa 8 0 0) Y Y] (76 : TypeId), VB.cells [VV.slice (VA.own 5 0) 2 2] (75 : TypeId), VB.fam [] (Y * 6) (s.M 0) (80 : TypeId), VB.fam [] (Y * 6) (setF (s.M 1) (0 + y.toNat * (6)) [setF (fun (_ : Nat) => (0 : Int)) 0 [n (0 + 0), n (0 + 1), n (0 + 2), n (0 + 3), n (0 + 4), n (0 + 5)] (0 + 0), setF (fun (_ : Nat) => (0 : Int)) 0 [n (0 + 0), n (0 + 1), n (0 + 2), n (0 + 3), n (0 + 4), n (0 + 5)] (0 + 1), setF (fun (_ : Nat) => (0 : Int)) 0 [n (0 + 0), n (0 + 1), n (0 + 2), n (0 + 3), n (0 + 4), n (0 + 5)] (0 + 2), setF (fun (_ : Nat) => (0 : Int)) 0 [n (0 + 0), n (0 + 1), n (0 + 2), n (0 + 3), n (0 + 4), n (0 + 5)] (0 + 3), setF (fun (_ : Nat) => (0 : Int)) 0 [n (0 + 0), n (0 + 1), n (0 + 2), n (0 + 3), n (0 + 4), n (0 + 5)] (0 + 4), setF (fun (_ : Nat) => (0 : Int)) 0 [n (0 + 0), n (0 + 1), n (0 + 2), n (0 + 3), n (0 + 4), n (0 + 5)] (0 + 5)]) (80 : TypeId), VB.map [PK.int IntKind.i64, PK.int IntKind.i64, PK.int IntKind.i64, PK.int IntKind.i64, PK.int IntKind.i64, PK.int IntKind.i64, PK.int IntKind.i64, PK.int IntKind.i64] PK.bool s.es, VB.cells [VV.mp 9] (77 : TypeId), VB.cells [VV.func (44 : FuncId) [] [VV.ptr (VA.own 4 0), VV.ptr (VA.own 10 0), VV.ptr (VA.own 1 0), VV.ptr (VA.own 12 0)]] (78 : TypeId), VB.cells [VV.func (40 : FuncId) [] [VV.ptr (VA.own 3 0), VV.ptr (VA.own 11 0), VV.ptr (VA.own 1 0), VV.ptr (VA.own 6 0)]] (88 : TypeId), VB.fam [I y, I S] 6 (fun (k : Nat) => (ch a).getD k (0 : Int)) (82 : TypeId), VB.cells [I (↑O : Int)] (3 : TypeId), VB.cells [I need] (3 : TypeId), VB.cells [VV.bool true] (4 : TypeId), VB.cells [VV.ptr (VA.own 2 0)] (72 : TypeId), VB.fam [] 6 (fun (k : Nat) => (ch a).getD k (0 : Int)) (80 : TypeId), VB.loop false (some VEx.ret) (slFo2 y S (↑O : Int) need a) 58 [17] asFo bdFo, VB.fam [] 6 n (80 : TypeId)]
 else False
 else False
 else X VEx.ret [VV.ptr (VA.own 20 0), VV.yld 19, VV.ptr (VA.own 17 0), VV.ptr (VA.own 18 0)] [VB.cells [VV.tl t.T.length 1 (dG t.T), I t.far, I t.least] (25 : TypeId), VB.cells [VV.tl [D0, D1].length 1 (pthG [D0, D1])] (26 : TypeId), VB.cells [VV.tl l.length 5 (stG l), VV.tl t.T.length 1 (dG t.T), I t.far, I t.least] (74 : TypeId), VB.cells [VV.ptr (VA.own 2 0)] (72 : TypeId), VB.cells [I (↑Y : Int)] (3 : TypeId), VB.cells [VV.slice (VA.fa 7 0 0) Y Y, VV.slice (VA.fa 8 0 0) Y Y] (76 : TypeId), VB.cells [VV.slice (VA.own 5 0) 2 2] (75 : TypeId), VB.fam [] (Y * 6) (s.M 0) (80 : TypeId), VB.fam [] (Y * 6) (s.M 1) (80 : TypeId), VB.map [PK.int IntKind.i64, PK.int IntKind.i64, PK.int IntKind.i64, PK.int IntKind.i64, PK.int IntKind.i64, PK.int IntKind.i64, PK.int IntKind.i64, PK.int IntKind.i64] PK.bool s.es, VB.cells [VV.mp 9] (77 : TypeId), VB.cells [VV.func (44 : FuncId) [] [VV.ptr (VA.own 4 0), VV.ptr (VA.own 10 0), VV.ptr (VA.own 1 0), VV.ptr (VA.own 12 0)]] (78 : TypeId), VB.cells [VV.func (40 : FuncId) [] [VV.ptr (VA.own 3 0), VV.ptr (VA.own 11 0), VV.ptr (VA.own 1 0), VV.ptr (VA.own 6 0)]] (88 : TypeId), VB.fam [I y, I S] 6 (fun (k : Nat) => (ch a).getD k (0 : Int)) (82 : TypeId), VB.cells [I (↑O : Int)] (3 : TypeId), VB.cells [I need] (3 : TypeId), VB.cells [VV.bool true] (4 : TypeId), VB.cells [VV.ptr (VA.own 2 0)] (72 : TypeId), VB.fam [] 6 (fun (k : Nat) => (ch a).getD k (0 : Int)) (80 : TypeId), VB.loop false (some VEx.ret) (slFo2 y S (↑O : Int) need a) 58 [17] asFo bdFo, VB.fam [] 6 n (80 : TypeId)]
 else False) := by kernel_rfl

noncomputable def BFoT2 (l : List Stk) (t : Tst) (P : List (List Int)) (Y : Nat) (y S own need : Int) (a : Nat → Int) (M : Mde) (es : Lst) (n : Nat → Int) : List VB := BP2 l t P Y M es ++ [faS y S a, .cells [I own] 3, .cells [I need] 3, .cells [.bool true] 4, .cells [.ptr (.own 2 0)] 72, faN a, .loop false (some .ret) (slFo2 y S own need a) 58 [17] asFo bdFo, .fam [] 6 n 80]
noncomputable def lFo2 (l : List Stk) (t : Tst) (P : List (List Int)) (Y k : Nat) (y S d : Int) (O : Nat) (a : Nat → Int) : LT := fun lock tt h K =>
  ∃ M es, FitP lock h tt ⟨21, nsFo2.zip (BFo2 l t P Y y S O d a M es fun _ => 0)⟩ (dsC.zip VFo2) ∧ (y = (Y : Int) - (k + 1 : Nat) ∧ Cfg l t P Y ∧ PreW l t P Y k O a es) ∧ (∀ s n', PostW l t P Y k O d a M false s → K .ret (dsC.zip VFo2) ⟨21, nsFo2.zip (BFo2 l t P Y y S O d a s.M s.es n')⟩) ∧
    ∀ s n', PostW l t P Y k O d a M true s → K .ret (dsC.zip VFo2) ⟨21, nsFo2.zip (BFoT2 l t P Y y S O d a s.M s.es n')⟩
theorem fob2_ev (l : List Stk) (t : Tst) (D0 D1 : List Int) (Y k : Nat) (M : Mde) (es : Lst) (y S d : Int) (O : Nat) (a : Nat → Int) (Q : VRes → VH → Prop) : callN Try.prog noSpec (atF 74 [(0, lFo2 l t [D0, D1] Y k y S d O a)]) 10 20 0 (.fn 40) [.agg (I y :: I S :: nL a), I O, I d, .ptr (.own 3 0), .ptr (.own 11 0), .ptr (.own 1 0), .ptr (.own 6 0)] ⟨13, nsB2.zip (BP2 l t [D0, D1] Y M es)⟩ (fun r h => Q r h) =
  (∃ (M_1 : Mde), ∃ (es_1 : Lst), FitP 0 (VH.mk (21) ((20, VB.fam [] (6) (fun (_ : Nat) => (0 : Int)) 80) :: (19, VB.loop true none [(16, VV.func 74 [] [VV.ptr (VA.own (17) 0), VV.ptr (VA.own (18) 0)]), (15, VV.agg [I ((fun (k : Nat) => [a 0, a 1, a 2, a 3, a 4, a 5].getD k (0 : Int)) (0 + 0)), I ((fun (k : Nat) => [a 0, a 1, a 2, a 3, a 4, a 5].getD k (0 : Int)) (0 + 1)), I ((fun (k : Nat) => [a 0, a 1, a 2, a 3, a 4, a 5].getD k (0 : Int)) (0 + 2)), I ((fun (k : Nat) => [a 0, a 1, a 2, a 3, a 4, a 5].getD k (0 : Int)) (0 + 3)), I ((fun (k : Nat) => [a 0, a 1, a 2, a 3, a 4, a 5].getD k (0 : Int)) (0 + 4)), I ((fun (k : Nat) => [a 0, a 1, a 2, a 3, a 4, a 5].getD k (0 : Int)) (0 + 5))]), (14, VV.ptr (VA.own (13) (2))), (13, VV.ptr (VA.own 2 0)), (10, VV.ptr (VA.own (16) 0)), (9, VV.ptr (VA.own (15) 0)), (8, VV.ptr (VA.own (14) 0)), (7, VV.ptr (VA.own (13) 0)), (0, VV.agg (I y :: I S :: nL a)), (1, I (↑O : Int)), (2, I d), (3, VV.ptr (VA.own 3 0)), (4, VV.ptr (VA.own 11 0)), (5, VV.ptr (VA.own 1 0)), (6, VV.ptr (VA.own 6 0))] (58) #[17].toList (Code.region 2 #[Oper.mk (some 11) (Op.alloc 80) 0 "plan.go:53" #[] none, Oper.mk none (Op.store 80 (Operand.tmp 11) (Operand.tmp 17)) 0 "plan.go:53" #[Edge.mk 0 Ground.data, Edge.mk 0 Ground.phase] none] false) (Code.block 1 (((Code.region 3 #[Oper.mk (some 18) (Op.load 72 (Operand.tmp 3)) 72 "plan.go:54" #[] none, Oper.mk (some 19) (Op.load 80 (Operand.tmp 11)) 80 "plan.go:54" #[] none, Oper.mk (some 20) (Op.fieldAddr 82 (Operand.tmp 7) 0) 0 "plan.go:54" #[] none, Oper.mk (some 21) (Op.load 3 (Operand.tmp 20)) 3 "plan.go:54" #[Edge.mk 2 Ground.data] none, Oper.mk (some 22) (Op.load 3 (Operand.tmp 9)) 3 "plan.go:54" #[] none, Oper.mk (some 23) (Op.call (Call.mk (Callee.value (Operand.func 42)) #[Operand.tmp 18, Operand.tmp 19, Operand.tmp 21, Operand.tmp 22] #[72, 80, 3, 3])) 4 "plan.go:54" #[Edge.mk 0 Ground.data, Edge.mk 1 Ground.data, Edge.mk 3 Ground.data, Edge.mk 4 Ground.data] none, Oper.mk (some 24) (Op.unOp UnOp.not 4 (Operand.tmp 23)) 4 "plan.go:54" #[Edge.mk 5 Ground.data] none, Oper.mk (some 25) (Op.move (Operand.tmp 24)) 4 "plan.go:54" #[Edge.mk 6 Ground.data, Edge.mk 5 Ground.chain] none, Oper.mk (some 26) (Op.load 78 (Operand.tmp 4)) 78 "plan.go:54" #[Edge.mk 7 Ground.guard] (some (7, false)), Oper.mk (some 27) (Op.fieldAddr 82 (Operand.tmp 7) 0) 0 "plan.go:54" #[Edge.mk 7 Ground.guard] (some (7, false)), Oper.mk (some 28) (Op.load 3 (Operand.tmp 27)) 3 "plan.go:54" #[Edge.mk 9 Ground.data, Edge.mk 7 Ground.guard] (some (7, false)), Oper.mk (some 29) (Op.binOp BinOp.add 3 (Operand.tmp 28) (Operand.const (Value.int IntKind.i64 (1 : Int))) 3) 3 "plan.go:54" #[Edge.mk 10 Ground.data, Edge.mk 7 Ground.guard] (some (7, false)), Oper.mk (some 30) (Op.load 3 (Operand.tmp 8)) 3 "plan.go:54" #[Edge.mk 7 Ground.guard] (some (7, false)), Oper.mk (some 31) (Op.fieldAddr 82 (Operand.tmp 7) 2) 0 "plan.go:54" #[Edge.mk 7 Ground.guard] (some (7, false)), Oper.mk (some 32) (Op.load 80 (Operand.tmp 31)) 80 "plan.go:54" #[Edge.mk 13 Ground.data, Edge.mk 7 Ground.guard] (some (7, false)), Oper.mk (some 33) (Op.load 80 (Operand.tmp 11)) 80 "plan.go:54" #[Edge.mk 7 Ground.guard] (some (7, false)), Oper.mk (some 34) (Op.call (Call.mk (Callee.value (Operand.func 43)) #[Operand.tmp 32, Operand.tmp 33] #[80, 80])) 80 "plan.go:54" #[Edge.mk 14 Ground.data, Edge.mk 15 Ground.data, Edge.mk 7 Ground.chain, Edge.mk 7 Ground.guard] (some (7, false)), Oper.mk (some 35) (Op.build 82 #[(0, Operand.tmp 29), (1, Operand.tmp 30), (2, Operand.tmp 34)]) 82 "plan.go:54" #[Edge.mk 11 Ground.data, Edge.mk 12 Ground.data, Edge.mk 16 Ground.data, Edge.mk 7 Ground.guard] (some (7, false)), Oper.mk (some 36) (Op.call (Call.mk (Callee.value (Operand.tmp 26)) #[Operand.tmp 35] #[82])) 4 "plan.go:54" #[Edge.mk 8 Ground.data, Edge.mk 17 Ground.data, Edge.mk 16 Ground.chain, Edge.mk 7 Ground.guard] (some (7, false)), Oper.mk (some 37) (Op.unOp UnOp.not 4 (Operand.tmp 36)) 4 "plan.go:54" #[Edge.mk 18 Ground.data, Edge.mk 7 Ground.guard] (some (7, false)), Oper.mk (some 38) (Op.pick (Operand.tmp 25) (Operand.const (Value.bool true)) (Operand.tmp 37)) 4 "plan.go:54" #[Edge.mk 7 Ground.data, Edge.mk 19 Ground.data] none] true).seq (Code.cond (Operand.tmp 38) (Code.exit 1) Code.skip)).seq (((Code.region 4 #[Oper.mk (some 39) (Op.load 26 (Operand.tmp 5)) 26 "plan.go:57" #[] none, Oper.mk (some 40) (Op.call (Call.mk (Callee.builtin Builtin.len) #[Operand.tmp 39] #[26])) 3 "plan.go:57" #[Edge.mk 0 Ground.data] none, Oper.mk (some 41) (Op.move (Operand.const (Value.int IntKind.i64 (0 : Int)))) 3 "plan.go:57" #[] none] false).seq (Code.block 2 ((Code.region 5 #[Oper.mk (some 42) (Op.binOp BinOp.lss 3 (Operand.tmp 41) (Operand.tmp 40) 3) 0 "plan.go:57" #[] none] false).seq ((Code.cond (Operand.tmp 42) Code.skip (Code.exit 2)).seq ((Code.block 3 ((Code.region 6 #[Oper.mk (some 43) (Op.move (Operand.tmp 41)) 3 "plan.go:57" #[] none, Oper.mk (some 12) (Op.assign (Operand.tmp 43)) 3 "plan.go:57" #[Edge.mk 0 Ground.data, Edge.mk 0 Ground.phase] none] false).seq ((Code.region 7 #[Oper.mk (some 44) (Op.load 3 (Operand.tmp 8)) 3 "plan.go:58" #[] none, Oper.mk (some 45) (Op.move (Operand.tmp 12)) 3 "plan.go:58" #[] none, Oper.mk (some 46) (Op.binOp BinOp.shr 3 (Operand.tmp 44) (Operand.tmp 45) 3) 3 "plan.go:58" #[Edge.mk 0 Ground.data, Edge.mk 1 Ground.data] none, Oper.mk (some 47) (Op.binOp BinOp.and 3 (Operand.tmp 46) (Operand.const (Value.int IntKind.i64 (1 : Int))) 3) 3 "plan.go:58" #[Edge.mk 2 Ground.data] none, Oper.mk (some 48) (Op.binOp BinOp.eql 3 (Operand.tmp 47) (Operand.const (Value.int IntKind.i64 (1 : Int))) 3) 4 "plan.go:58" #[Edge.mk 3 Ground.data] none] false).seq (Code.cond (Operand.tmp 48) (Code.region 8 #[Oper.mk (some 49) (Op.load 75 (Operand.tmp 6)) 75 "plan.go:59" #[] none, Oper.mk (some 50) (Op.move (Operand.tmp 12)) 3 "plan.go:59" #[] none, Oper.mk (some 51) (Op.indexAddr 75 (Operand.tmp 49) (Operand.tmp 50)) 0 "plan.go:59" #[Edge.mk 0 Ground.data, Edge.mk 1 Ground.data] none, Oper.mk (some 52) (Op.load 76 (Operand.tmp 51)) 76 "plan.go:59" #[Edge.mk 2 Ground.data] none, Oper.mk (some 53) (Op.fieldAddr 82 (Operand.tmp 7) 0) 0 "plan.go:59" #[] none, Oper.mk (some 54) (Op.load 3 (Operand.tmp 53)) 3 "plan.go:59" #[Edge.mk 4 Ground.data] none, Oper.mk (some 55) (Op.load 80 (Operand.tmp 11)) 80 "plan.go:59" #[] none, Oper.mk (some 56) (Op.indexAddr 76 (Operand.tmp 52) (Operand.tmp 54)) 0 "plan.go:59" #[Edge.mk 3 Ground.data, Edge.mk 5 Ground.data, Edge.mk 0 Ground.phase, Edge.mk 1 Ground.phase, Edge.mk 2 Ground.phase, Edge.mk 3 Ground.phase, Edge.mk 4 Ground.phase, Edge.mk 5 Ground.phase, Edge.mk 6 Ground.phase] none, Oper.mk none (Op.store 80 (Operand.tmp 56) (Operand.tmp 55)) 0 "plan.go:59" #[Edge.mk 7 Ground.data, Edge.mk 6 Ground.data, Edge.mk 0 Ground.phase, Edge.mk 1 Ground.phase, Edge.mk 2 Ground.phase, Edge.mk 3 Ground.phase, Edge.mk 4 Ground.phase, Edge.mk 5 Ground.phase, Edge.mk 6 Ground.phase] none] true) Code.skip)))).seq (Code.region 9 #[Oper.mk (some 57) (Op.binOp BinOp.add 3 (Operand.tmp 41) (Operand.const (Value.int IntKind.i64 (1 : Int))) 3) 3 "plan.go:57" #[] none, Oper.mk (some 41) (Op.move (Operand.tmp 57)) 3 "plan.go:57" #[Edge.mk 0 Ground.data] none] false)))).loop)).seq ((Code.region 10 #[Oper.mk none (Op.store 4 (Operand.tmp 10) (Operand.const (Value.bool true))) 0 "plan.go:62" #[] none] false).seq Code.ret))))) :: (18, VB.fam [] (6) (fun (k : Nat) => [(fun (k : Nat) => [a 0, a 1, a 2, a 3, a 4, a 5].getD k (0 : Int)) (0 + 0), (fun (k : Nat) => [a 0, a 1, a 2, a 3, a 4, a 5].getD k (0 : Int)) (0 + 1), (fun (k : Nat) => [a 0, a 1, a 2, a 3, a 4, a 5].getD k (0 : Int)) (0 + 2), (fun (k : Nat) => [a 0, a 1, a 2, a 3, a 4, a 5].getD k (0 : Int)) (0 + 3), (fun (k : Nat) => [a 0, a 1, a 2, a 3, a 4, a 5].getD k (0 : Int)) (0 + 4), (fun (k : Nat) => [a 0, a 1, a 2, a 3, a 4, a 5].getD k (0 : Int)) (0 + 5)].getD k (0 : Int)) 80) :: (17, VB.cells [VV.ptr (VA.own 2 0)] 72) :: (16, VB.cells [VV.bool false] 4) :: (15, VB.cells [I d] 3) :: (14, VB.cells [I (↑O : Int)] 3) :: (13, VB.fam [I y, I S] (6) (fun (k : Nat) => [a 0, a 1, a 2, a 3, a 4, a 5].getD k (0 : Int)) 82) :: nsB2.zip (BP2 l t [D0, D1] Y M es))) [(4, VV.ptr (VA.own (20) 0)), (0, VV.yld (19)), (1, VV.ptr (VA.own (17) 0)), (2, VV.ptr (VA.own (18) 0))] (VH.mk 21 (nsFo2.zip (BFo2 l t [D0, D1] Y y S (↑O : Int) d a M_1 es_1 fun (_ : Nat) => (0 : Int)))) (dsC.zip VFo2) ∧ (y = (↑Y : Int) - (↑(k + 1) : Int) ∧ Cfg l t [D0, D1] Y ∧ PreW l t [D0, D1] Y k O a es_1) ∧ (∀ (s : St) (n' : Nat → Int), PostW l t [D0, D1] Y k O d a M_1 false s → Q (VRes.ret (VV.bool false)) (VH.mk 21 [(16, VB.cells [VV.bool false] (4 : TypeId)), (19, VB.gone), (0, VB.cells [VV.tl t.T.length 1 (dG t.T), I t.far, I t.least] (25 : TypeId)), (1, VB.cells [VV.tl [D0, D1].length 1 (pthG [D0, D1])] (26 : TypeId)), (2, VB.cells [VV.tl l.length 5 (stG l), VV.tl t.T.length 1 (dG t.T), I t.far, I t.least] (74 : TypeId)), (3, VB.cells [VV.ptr (VA.own 2 0)] (72 : TypeId)), (4, VB.cells [I (↑Y : Int)] (3 : TypeId)), (5, VB.cells [VV.slice (VA.fa 7 0 0) Y Y, VV.slice (VA.fa 8 0 0) Y Y] (76 : TypeId)), (6, VB.cells [VV.slice (VA.own 5 0) 2 2] (75 : TypeId)), (7, VB.fam [] (Y * 6) (s.M 0) (80 : TypeId)), (8, VB.fam [] (Y * 6) (s.M 1) (80 : TypeId)), (9, VB.map [PK.int IntKind.i64, PK.int IntKind.i64, PK.int IntKind.i64, PK.int IntKind.i64, PK.int IntKind.i64, PK.int IntKind.i64, PK.int IntKind.i64, PK.int IntKind.i64] PK.bool s.es), (10, VB.cells [VV.mp 9] (77 : TypeId)), (11, VB.cells [VV.func (44 : FuncId) [] [VV.ptr (VA.own 4 0), VV.ptr (VA.own 10 0), VV.ptr (VA.own 1 0), VV.ptr (VA.own 12 0)]] (78 : TypeId)), (12, VB.cells [VV.func (40 : FuncId) [] [VV.ptr (VA.own 3 0), VV.ptr (VA.own 11 0), VV.ptr (VA.own 1 0), VV.ptr (VA.own 6 0)]] (88 : TypeId)), (13, VB.fam [I y, I S] 6 (fun (k : Nat) => (ch a).getD k (0 : Int)) (82 : TypeId)), (14, VB.cells [I (↑O : Int)] (3 : TypeId)), (15, VB.cells [I d] (3 : TypeId)), (16, VB.cells [VV.bool false] (4 : TypeId)), (17, VB.cells [VV.ptr (VA.own 2 0)] (72 : TypeId)), (18, VB.fam [] 6 (fun (k : Nat) => (ch a).getD k (0 : Int)) (80 : TypeId)), (19, VB.loop true none (slFo2 y S (↑O : Int) d a) 58 [17] asFo bdFo), (20, VB.fam [] 6 n' (80 : TypeId))])) ∧ ∀ (s : St) (n' : Nat → Int), PostW l t [D0, D1] Y k O d a M_1 true s → Q (VRes.ret (VV.bool true)) (VH.mk 21 [(19, VB.gone), (0, VB.cells [VV.tl t.T.length 1 (dG t.T), I t.far, I t.least] (25 : TypeId)), (1, VB.cells [VV.tl [D0, D1].length 1 (pthG [D0, D1])] (26 : TypeId)), (2, VB.cells [VV.tl l.length 5 (stG l), VV.tl t.T.length 1 (dG t.T), I t.far, I t.least] (74 : TypeId)), (3, VB.cells [VV.ptr (VA.own 2 0)] (72 : TypeId)), (4, VB.cells [I (↑Y : Int)] (3 : TypeId)), (5, VB.cells [VV.slice (VA.fa 7 0 0) Y Y, VV.slice (VA.fa 8 0 0) Y Y] (76 : TypeId)), (6, VB.cells [VV.slice (VA.own 5 0) 2 2] (75 : TypeId)), (7, VB.fam [] (Y * 6) (s.M 0) (80 : TypeId)), (8, VB.fam [] (Y * 6) (s.M 1) (80 : TypeId)), (9, VB.map [PK.int IntKind.i64, PK.int IntKind.i64, PK.int IntKind.i64, PK.int IntKind.i64, PK.int IntKind.i64, PK.int IntKind.i64, PK.int IntKind.i64, PK.int IntKind.i64] PK.bool s.es), (10, VB.cells [VV.mp 9] (77 : TypeId)), (11, VB.cells [VV.func (44 : FuncId) [] [VV.ptr (VA.own 4 0), VV.ptr (VA.own 10 0), VV.ptr (VA.own 1 0), VV.ptr (VA.own 12 0)]] (78 : TypeId)), (12, VB.cells [VV.func (40 : FuncId) [] [VV.ptr (VA.own 3 0), VV.ptr (VA.own 11 0), VV.ptr (VA.own 1 0), VV.ptr (VA.own 6 0)]] (88 : TypeId)), (13, VB.fam [I y, I S] 6 (fun (k : Nat) => (ch a).getD k (0 : Int)) (82 : TypeId)), (14, VB.cells [I (↑O : Int)] (3 : TypeId)), (15, VB.cells [I d] (3 : TypeId)), (16, VB.cells [VV.bool true] (4 : TypeId)), (17, VB.cells [VV.ptr (VA.own 2 0)] (72 : TypeId)), (18, VB.fam [] 6 (fun (k : Nat) => (ch a).getD k (0 : Int)) (80 : TypeId)), (19, VB.loop false (some VEx.ret) (slFo2 y S (↑O : Int) d a) 58 [17] asFo bdFo), (20, VB.fam [] 6 n' (80 : TypeId))])) := by kernel_rfl

def dsF2 : List Nat := [7, 6, 5, 0, 1, 2, 3, 4]
def VF2 (y S : Int) (a : Nat → Int) (r : Int) : List VV := [I r, .bool false, .ptr (.own 13 0), .agg (I y :: I S :: nL a), .ptr (.own 4 0), .ptr (.own 10 0), .ptr (.own 1 0), .ptr (.own 12 0)]
def nsF2 : List Nat := [0, 1, 2, 3, 4, 5, 6, 7, 8, 9, 10, 11, 12, 13]
def BF2 (l : List Stk) (t : Tst) (P : List (List Int)) (Y : Nat) (y S : Int) (a : Nat → Int) (M : Mde) (es : Lst) : List VB := BP2 l t P Y M es ++ [faS y S a]
def dsG2 : List Nat := [25, 24, 23, 9, 8] ++ dsF2
def VG2 (P : List (List Int)) (y S : Int) (a : Nat → Int) (r i d o : Int) : List VV := [I i, I P.length, pthD P, I d, I o] ++ VF2 y S a r
theorem gi2_ev (l : List Stk) (t : Tst) (P : List (List Int)) (Y : Nat) (M : Mde) (es : Lst) (y S i d : Int) (o r : Nat) (a : Nat → Int) (X : VEx → List VV → List VB → Prop) : codeE Try.prog (callN Try.prog noSpec noL 10 20) (fun _ => none) true 10 (ntOf Try.prog 44) 0 (loopB 2 (bodyOf Try.prog 44)) (dsG2.zip (VG2 P y S a r i d o)) ⟨14, nsF2.zip (BF2 l t P Y y S a M es)⟩ (obs 14 dsG2 nsF2 X) =
  (bif decide (i < (↑P.length : Int)) then
 bif decide ((0 : Int) ≤ i ∧ i < (↑P.length : Int)) then
 bif decide (i < (0 : Int)) then
 False
 else bif decide (IntKind.i64.wrap (↑(BitVec.ofInt IntKind.i64.bits ((↑r : Int).fdiv ((2 : Int) ^ min i.toNat IntKind.i64.bits)) &&& BitVec.ofInt IntKind.i64.bits (1 : Int)).toNat : Int) = (1 : Int)) then
 bif decide (d < (0 : Int)) then
 bif decide (i < (0 : Int)) then
 False
 else bif inK IntKind.i64 ((1 : Int) * (2 : Int) ^ min i.toNat IntKind.i64.bits) then
 bif decide ((0 : Int) ≤ y ∧ y < (↑(P.getD i.toNat []).length : Int)) then
 bif inK IntKind.i64 (i + (1 : Int)) then
 X VEx.normal [I (i + (1 : Int)), I (↑P.length : Int), VV.tl P.length 1 (pthG P), I ((P.getD i.toNat []).getD y.toNat (0 : Int)), I (IntKind.i64.wrap (↑(BitVec.ofInt IntKind.i64.bits (↑o : Int) ||| BitVec.ofInt IntKind.i64.bits ((1 : Int) * (2 : Int) ^ min i.toNat IntKind.i64.bits)).toNat : Int)), I (↑r : Int), VV.bool false, VV.ptr (VA.own 13 0), VV.agg [I y, I S, I (a 0), I (a 1), I (a 2), I (a 3), I (a 4), I (a 5)], VV.ptr (VA.own 4 0), VV.ptr (VA.own 10 0), VV.ptr (VA.own 1 0), VV.ptr (VA.own 12 0)] [VB.cells [VV.tl t.T.length 1 (dG t.T), I t.far, I t.least] (25 : TypeId), VB.cells [VV.tl P.length 1 (pthG P)] (26 : TypeId), VB.cells [VV.tl l.length 5 (stG l), VV.tl t.T.length 1 (dG t.T), I t.far, I t.least] (74 : TypeId), VB.cells [VV.ptr (VA.own 2 0)] (72 : TypeId), VB.cells [I (↑Y : Int)] (3 : TypeId), VB.cells [VV.slice (VA.fa 7 0 0) Y Y, VV.slice (VA.fa 8 0 0) Y Y] (76 : TypeId), VB.cells [VV.slice (VA.own 5 0) 2 2] (75 : TypeId), VB.fam [] (Y * 6) (M 0) (80 : TypeId), VB.fam [] (Y * 6) (M 1) (80 : TypeId), VB.map [PK.int IntKind.i64, PK.int IntKind.i64, PK.int IntKind.i64, PK.int IntKind.i64, PK.int IntKind.i64, PK.int IntKind.i64, PK.int IntKind.i64, PK.int IntKind.i64] PK.bool es, VB.cells [VV.mp 9] (77 : TypeId), VB.cells [VV.func (44 : FuncId) [] [VV.ptr (VA.own 4 0), VV.ptr (VA.own 10 0), VV.ptr (VA.own 1 0), VV.ptr (VA.own 12 0)]] (78 : TypeId), VB.cells [VV.func (40 : FuncId) [] [VV.ptr (VA.own 3 0), VV.ptr (VA.own 11 0), VV.ptr (VA.own 1 0), VV.ptr (VA.own 6 0)]] (88 : TypeId), VB.fam [I y, I S] 6 (fun (k : Nat) => (ch a).getD k (0 : Int)) (82 : TypeId)]
 else False
 else False
 else False
 else bif decide ((0 : Int) ≤ y ∧ y < (↑(P.getD i.toNat []).length : Int)) then
 bif decide ((P.getD i.toNat []).getD y.toNat (0 : Int) = d) then
 bif decide (i < (0 : Int)) then
 False
 else bif inK IntKind.i64 ((1 : Int) * (2 : Int) ^ min i.toNat IntKind.i64.bits) then
 bif decide ((0 : Int) ≤ y ∧ y < (↑(P.getD i.toNat []).length : Int)) then
 bif inK IntKind.i64 (i + (1 : Int)) then
 X VEx.normal [I (i + (1 : Int)), I (↑P.length : Int), VV.tl P.length 1 (pthG P), I ((P.getD i.toNat []).getD y.toNat (0 : Int)), I (IntKind.i64.wrap (↑(BitVec.ofInt IntKind.i64.bits (↑o : Int) ||| BitVec.ofInt IntKind.i64.bits ((1 : Int) * (2 : Int) ^ min i.toNat IntKind.i64.bits)).toNat : Int)), I (↑r : Int), VV.bool false, VV.ptr (VA.own 13 0), VV.agg [I y, I S, I (a 0), I (a 1), I (a 2), I (a 3), I (a 4), I (a 5)], VV.ptr (VA.own 4 0), VV.ptr (VA.own 10 0), VV.ptr (VA.own 1 0), VV.ptr (VA.own 12 0)] [VB.cells [VV.tl t.T.length 1 (dG t.T), I t.far, I t.least] (25 : TypeId), VB.cells [VV.tl P.length 1 (pthG P)] (26 : TypeId), VB.cells [VV.tl l.length 5 (stG l), VV.tl t.T.length 1 (dG t.T), I t.far, I t.least] (74 : TypeId), VB.cells [VV.ptr (VA.own 2 0)] (72 : TypeId), VB.cells [I (↑Y : Int)] (3 : TypeId), VB.cells [VV.slice (VA.fa 7 0 0) Y Y, VV.slice (VA.fa 8 0 0) Y Y] (76 : TypeId), VB.cells [VV.slice (VA.own 5 0) 2 2] (75 : TypeId), VB.fam [] (Y * 6) (M 0) (80 : TypeId), VB.fam [] (Y * 6) (M 1) (80 : TypeId), VB.map [PK.int IntKind.i64, PK.int IntKind.i64, PK.int IntKind.i64, PK.int IntKind.i64, PK.int IntKind.i64, PK.int IntKind.i64, PK.int IntKind.i64, PK.int IntKind.i64] PK.bool es, VB.cells [VV.mp 9] (77 : TypeId), VB.cells [VV.func (44 : FuncId) [] [VV.ptr (VA.own 4 0), VV.ptr (VA.own 10 0), VV.ptr (VA.own 1 0), VV.ptr (VA.own 12 0)]] (78 : TypeId), VB.cells [VV.func (40 : FuncId) [] [VV.ptr (VA.own 3 0), VV.ptr (VA.own 11 0), VV.ptr (VA.own 1 0), VV.ptr (VA.own 6 0)]] (88 : TypeId), VB.fam [I y, I S] 6 (fun (k : Nat) => (ch a).getD k (0 : Int)) (82 : TypeId)]
 else False
 else False
 else False
 else bif inK IntKind.i64 (i + (1 : Int)) then
 X VEx.normal [I (i + (1 : Int)), I (↑P.length : Int), VV.tl P.length 1 (pthG P), I d, I (↑o : Int), I (↑r : Int), VV.bool false, VV.ptr (VA.own 13 0), VV.agg [I y, I S, I (a 0), I (a 1), I (a 2), I (a 3), I (a 4), I (a 5)], VV.ptr (VA.own 4 0), VV.ptr (VA.own 10 0), VV.ptr (VA.own 1 0), VV.ptr (VA.own 12 0)] [VB.cells [VV.tl t.T.length 1 (dG t.T), I t.far, I t.least] (25 : TypeId), VB.cells [VV.tl P.length 1 (pthG P)] (26 : TypeId), VB.cells [VV.tl l.length 5 (stG l), VV.tl t.T.length 1 (dG t.T), I t.far, I t.least] (74 : TypeId), VB.cells [VV.ptr (VA.own 2 0)] (72 : TypeId), VB.cells [I (↑Y : Int)] (3 : TypeId), VB.cells [VV.slice (VA.fa 7 0 0) Y Y, VV.slice (VA.fa 8 0 0) Y Y] (76 : TypeId), VB.cells [VV.slice (VA.own 5 0) 2 2] (75 : TypeId), VB.fam [] (Y * 6) (M 0) (80 : TypeId), VB.fam [] (Y * 6) (M 1) (80 : TypeId), VB.map [PK.int IntKind.i64, PK.int IntKind.i64, PK.int IntKind.i64, PK.int IntKind.i64, PK.int IntKind.i64, PK.int IntKind.i64, PK.int IntKind.i64, PK.int IntKind.i64] PK.bool es, VB.cells [VV.mp 9] (77 : TypeId), VB.cells [VV.func (44 : FuncId) [] [VV.ptr (VA.own 4 0), VV.ptr (VA.own 10 0), VV.ptr (VA.own 1 0), VV.ptr (VA.own 12 0)]] (78 : TypeId), VB.cells [VV.func (40 : FuncId) [] [VV.ptr (VA.own 3 0), VV.ptr (VA.own 11 0), VV.ptr (VA.own 1 0), VV.ptr (VA.own 6 0)]] (88 : TypeId), VB.fam [I y, I S] 6 (fun (k : Nat) => (ch a).getD k (0 : Int)) (82 : TypeId)]
 else False
 else False
 else bif inK IntKind.i64 (i + (1 : Int)) then
 X VEx.normal [I (i + (1 : Int)), I (↑P.length : Int), VV.tl P.length 1 (pthG P), I d, I (↑o : Int), I (↑r : Int), VV.bool false, VV.ptr (VA.own 13 0), VV.agg [I y, I S, I (a 0), I (a 1), I (a 2), I (a 3), I (a 4), I (a 5)], VV.ptr (VA.own 4 0), VV.ptr (VA.own 10 0), VV.ptr (VA.own 1 0), VV.ptr (VA.own 12 0)] [VB.cells [VV.tl t.T.length 1 (dG t.T), I t.far, I t.least] (25 : TypeId), VB.cells [VV.tl P.length 1 (pthG P)] (26 : TypeId), VB.cells [VV.tl l.length 5 (stG l), VV.tl t.T.length 1 (dG t.T), I t.far, I t.least] (74 : TypeId), VB.cells [VV.ptr (VA.own 2 0)] (72 : TypeId), VB.cells [I (↑Y : Int)] (3 : TypeId), VB.cells [VV.slice (VA.fa 7 0 0) Y Y, VV.slice (VA.fa 8 0 0) Y Y] (76 : TypeId), VB.cells [VV.slice (VA.own 5 0) 2 2] (75 : TypeId), VB.fam [] (Y * 6) (M 0) (80 : TypeId), VB.fam [] (Y * 6) (M 1) (80 : TypeId), VB.map [PK.int IntKind.i64, PK.int IntKind.i64, PK.int IntKind.i64, PK.int IntKind.i64, PK.int IntKind.i64, PK.int IntKind.i64, PK.int IntKind.i64, PK.int IntKind.i64] PK.bool es, VB.cells [VV.mp 9] (77 : TypeId), VB.cells [VV.func (44 : FuncId) [] [VV.ptr (VA.own 4 0), VV.ptr (VA.own 10 0), VV.ptr (VA.own 1 0), VV.ptr (VA.own 12 0)]] (78 : TypeId), VB.cells [VV.func (40 : FuncId) [] [VV.ptr (VA.own 3 0), VV.ptr (VA.own 11 0), VV.ptr (VA.own 1 0), VV.ptr (VA.own 6 0)]] (88 : TypeId), VB.fam [I y, I S] 6 (fun (k : Nat) => (ch a).getD k (0 : Int)) (82 : TypeId)]
 else False
 else False
 else X (VEx.exit 2) [I i, I (↑P.length : Int), VV.tl P.length 1 (pthG P), I d, I (↑o : Int), I (↑r : Int), VV.bool false, VV.ptr (VA.own 13 0), VV.agg [I y, I S, I (a 0), I (a 1), I (a 2), I (a 3), I (a 4), I (a 5)], VV.ptr (VA.own 4 0), VV.ptr (VA.own 10 0), VV.ptr (VA.own 1 0), VV.ptr (VA.own 12 0)] [VB.cells [VV.tl t.T.length 1 (dG t.T), I t.far, I t.least] (25 : TypeId), VB.cells [VV.tl P.length 1 (pthG P)] (26 : TypeId), VB.cells [VV.tl l.length 5 (stG l), VV.tl t.T.length 1 (dG t.T), I t.far, I t.least] (74 : TypeId), VB.cells [VV.ptr (VA.own 2 0)] (72 : TypeId), VB.cells [I (↑Y : Int)] (3 : TypeId), VB.cells [VV.slice (VA.fa 7 0 0) Y Y, VV.slice (VA.fa 8 0 0) Y Y] (76 : TypeId), VB.cells [VV.slice (VA.own 5 0) 2 2] (75 : TypeId), VB.fam [] (Y * 6) (M 0) (80 : TypeId), VB.fam [] (Y * 6) (M 1) (80 : TypeId), VB.map [PK.int IntKind.i64, PK.int IntKind.i64, PK.int IntKind.i64, PK.int IntKind.i64, PK.int IntKind.i64, PK.int IntKind.i64, PK.int IntKind.i64, PK.int IntKind.i64] PK.bool es, VB.cells [VV.mp 9] (77 : TypeId), VB.cells [VV.func (44 : FuncId) [] [VV.ptr (VA.own 4 0), VV.ptr (VA.own 10 0), VV.ptr (VA.own 1 0), VV.ptr (VA.own 12 0)]] (78 : TypeId), VB.cells [VV.func (40 : FuncId) [] [VV.ptr (VA.own 3 0), VV.ptr (VA.own 11 0), VV.ptr (VA.own 1 0), VV.ptr (VA.own 6 0)]] (88 : TypeId), VB.fam [I y, I S] 6 (fun (k : Nat) => (ch a).getD k (0 : Int)) (82 : TypeId)]) := by kernel_rfl

def lG2 (l : List Stk) (t : Tst) (P : List (List Int)) (Y k : Nat) (y S : Int) (a : Nat → Int) (r : Nat) : LT := fun lock tt h K =>
  ∃ M es, FitP lock h tt ⟨14, nsF2.zip (BF2 l t P Y y S a M es)⟩ (dsG2.zip (VG2 P y S a r 0 (-1) 0)) ∧ (y = ((Y - (k + 1) : Nat) : Int) ∧ k + 1 ≤ Y ∧ Cfg l t P Y ∧ r < 16) ∧ ∀ o d, grpF P (Y - (k + 1)) r P.length = (o, d) → K .normal (dsG2.zip (VG2 P y S a r P.length d o)) ⟨14, nsF2.zip (BF2 l t P Y y S a M es)⟩
theorem gm2_ev (l : List Stk) (t : Tst) (D0 D1 : List Int) (Y k : Nat) (M : Mde) (es : Lst) (y : Int) (S r : Nat) (a : Nat → Int) (X : VEx → List VV → List VB → Prop) : codeE Try.prog (callN Try.prog (tabS [folR2 l t [D0, D1] Y k]) noL 10 20) (tabB [(2, lG2 l t [D0, D1] Y k y S a r)]) true 10 (ntOf Try.prog 44) 0 (loopB 0 (bodyOf Try.prog 44)) (dsF2.zip (VF2 y S a r)) ⟨14, nsF2.zip (BF2 l t [D0, D1] Y y S a M es)⟩ (obs 14 dsF2 nsF2 X) =
  (bif decide ((↑r : Int) > (0 : Int)) then
 ∃ (M_1 : Mde), ∃ (es_1 : Lst), FitP 0 (VH.mk 14 (nsF2.zip (BF2 l t [D0, D1] Y y (↑S : Int) a M es))) ((25, I 0) :: (24, I (↑[D0, D1].length : Int)) :: (23, VV.tl [D0, D1].length 1 (pthG [D0, D1])) :: (9, I (-1)) :: (8, I 0) :: (22, VV.bool true) :: (22, VV.bool (decide ((↑r : Int) > (0 : Int)))) :: (21, I (↑r : Int)) :: dsF2.zip (VF2 y (↑S : Int) a (↑r : Int))) (VH.mk 14 (nsF2.zip (BF2 l t [D0, D1] Y y (↑S : Int) a M_1 es_1))) (dsG2.zip (VG2 [D0, D1] y (↑S : Int) a (↑r : Int) (0 : Int) (-1 : Int) (0 : Int))) ∧ (y = (↑(Y - (k + 1)) : Int) ∧ k + 1 ≤ Y ∧ Cfg l t [D0, D1] Y ∧ r < 16) ∧ ∀ (o : Nat) (d : Int), grpF [D0, D1] (Y - (k + 1)) r [D0, D1].length = (o, d) → ∃ (S' : Nat), ∃ (O : Nat), ∃ (a_2 : Nat → Int), ∃ (M : Mde), ∃ (es : Lst), (VV.ptr (VA.own 3 0) = VV.ptr (VA.own 3 0) ∧ VV.ptr (VA.own 11 0) = VV.ptr (VA.own 11 0) ∧ VV.ptr (VA.own 1 0) = VV.ptr (VA.own 1 0) ∧ VV.ptr (VA.own 6 0) = VV.ptr (VA.own 6 0)) ∧ (0 = 0 ∧ 13 ≤ 14) ∧ atL nsB2 (BP2 l t [D0, D1] Y M es) (VH.mk 14 (nsF2.zip (BF2 l t [D0, D1] Y y (↑S : Int) a M_1 es_1))) ∧ (y = (↑Y : Int) - (↑(k + 1) : Int) ∧ (↑S : Int) = (↑S' : Int) ∧ (↑o : Int) = (↑O : Int) ∧ [I ((fun (k : Nat) => (ch a).getD k (0 : Int)) (0 + 0)), I ((fun (k : Nat) => (ch a).getD k (0 : Int)) (0 + 1)), I ((fun (k : Nat) => (ch a).getD k (0 : Int)) (0 + 2)), I ((fun (k : Nat) => (ch a).getD k (0 : Int)) (0 + 3)), I ((fun (k : Nat) => (ch a).getD k (0 : Int)) (0 + 4)), I ((fun (k : Nat) => (ch a).getD k (0 : Int)) (0 + 5))] = nL a_2) ∧ PreW l t [D0, D1] Y k O a_2 es ∧ ∀ (b : Bool) (s : St), PostW l t [D0, D1] Y k O d a_2 M b s → bif !b then
 KeyLaw Try.prog 82 kS ∧ X VEx.ret [I (↑r : Int), VV.bool false, VV.ptr (VA.own 13 0), VV.agg [I y, I (↑S : Int), I (a 0), I (a 1), I (a 2), I (a 3), I (a 4), I (a 5)], VV.ptr (VA.own 4 0), VV.ptr (VA.own 10 0), VV.ptr (VA.own 1 0), VV.ptr (VA.own 12 0)] [VB.cells [VV.tl t.T.length 1 (dG t.T), I t.far, I t.least] (25 : TypeId), VB.cells [VV.tl [D0, D1].length 1 (pthG [D0, D1])] (26 : TypeId), VB.cells [VV.tl l.length 5 (stG l), VV.tl t.T.length 1 (dG t.T), I t.far, I t.least] (74 : TypeId), VB.cells [VV.ptr (VA.own 2 0)] (72 : TypeId), VB.cells [I (↑Y : Int)] (3 : TypeId), VB.cells [VV.slice (VA.fa 7 0 0) Y Y, VV.slice (VA.fa 8 0 0) Y Y] (76 : TypeId), VB.cells [VV.slice (VA.own 5 0) 2 2] (75 : TypeId), VB.fam [] (Y * 6) (s.M 0) (80 : TypeId), VB.fam [] (Y * 6) (s.M 1) (80 : TypeId), VB.map [PK.int IntKind.i64, PK.int IntKind.i64, PK.int IntKind.i64, PK.int IntKind.i64, PK.int IntKind.i64, PK.int IntKind.i64, PK.int IntKind.i64, PK.int IntKind.i64] PK.bool (setE s.es [y, (↑S : Int), (fun (k : Nat) => (ch a).getD k (0 : Int)) (0 + 0), (fun (k : Nat) => (ch a).getD k (0 : Int)) (0 + 1), (fun (k : Nat) => (ch a).getD k (0 : Int)) (0 + 2), (fun (k : Nat) => (ch a).getD k (0 : Int)) (0 + 3), (fun (k : Nat) => (ch a).getD k (0 : Int)) (0 + 4), (fun (k : Nat) => (ch a).getD k (0 : Int)) (0 + 5)] (bif true then
 (1 : Int)
 else (0 : Int))), VB.cells [VV.mp 9] (77 : TypeId), VB.cells [VV.func (44 : FuncId) [] [VV.ptr (VA.own 4 0), VV.ptr (VA.own 10 0), VV.ptr (VA.own 1 0), VV.ptr (VA.own 12 0)]] (78 : TypeId), VB.cells [VV.func (40 : FuncId) [] [VV.ptr (VA.own 3 0), VV.ptr (VA.own 11 0), VV.ptr (VA.own 1 0), VV.ptr (VA.own 6 0)]] (88 : TypeId), VB.fam [I y, I (↑S : Int)] 6 (fun (k : Nat) => (ch a).getD k (0 : Int)) (82 : TypeId)]
 else X VEx.normal [I (IntKind.i64.wrap (↑(BitVec.ofInt IntKind.i64.bits (↑r : Int) &&& ~~~BitVec.ofInt IntKind.i64.bits (↑o : Int)).toNat : Int)), VV.bool false, VV.ptr (VA.own 13 0), VV.agg [I y, I (↑S : Int), I (a 0), I (a 1), I (a 2), I (a 3), I (a 4), I (a 5)], VV.ptr (VA.own 4 0), VV.ptr (VA.own 10 0), VV.ptr (VA.own 1 0), VV.ptr (VA.own 12 0)] [VB.cells [VV.tl t.T.length 1 (dG t.T), I t.far, I t.least] (25 : TypeId), VB.cells [VV.tl [D0, D1].length 1 (pthG [D0, D1])] (26 : TypeId), VB.cells [VV.tl l.length 5 (stG l), VV.tl t.T.length 1 (dG t.T), I t.far, I t.least] (74 : TypeId), VB.cells [VV.ptr (VA.own 2 0)] (72 : TypeId), VB.cells [I (↑Y : Int)] (3 : TypeId), VB.cells [VV.slice (VA.fa 7 0 0) Y Y, VV.slice (VA.fa 8 0 0) Y Y] (76 : TypeId), VB.cells [VV.slice (VA.own 5 0) 2 2] (75 : TypeId), VB.fam [] (Y * 6) (s.M 0) (80 : TypeId), VB.fam [] (Y * 6) (s.M 1) (80 : TypeId), VB.map [PK.int IntKind.i64, PK.int IntKind.i64, PK.int IntKind.i64, PK.int IntKind.i64, PK.int IntKind.i64, PK.int IntKind.i64, PK.int IntKind.i64, PK.int IntKind.i64] PK.bool s.es, VB.cells [VV.mp 9] (77 : TypeId), VB.cells [VV.func (44 : FuncId) [] [VV.ptr (VA.own 4 0), VV.ptr (VA.own 10 0), VV.ptr (VA.own 1 0), VV.ptr (VA.own 12 0)]] (78 : TypeId), VB.cells [VV.func (40 : FuncId) [] [VV.ptr (VA.own 3 0), VV.ptr (VA.own 11 0), VV.ptr (VA.own 1 0), VV.ptr (VA.own 6 0)]] (88 : TypeId), VB.fam [I y, I (↑S : Int)] 6 (fun (k : Nat) => (ch a).getD k (0 : Int)) (82 : TypeId)]
 else X (VEx.exit 0) [I (↑r : Int), VV.bool false, VV.ptr (VA.own 13 0), VV.agg [I y, I (↑S : Int), I (a 0), I (a 1), I (a 2), I (a 3), I (a 4), I (a 5)], VV.ptr (VA.own 4 0), VV.ptr (VA.own 10 0), VV.ptr (VA.own 1 0), VV.ptr (VA.own 12 0)] [VB.cells [VV.tl t.T.length 1 (dG t.T), I t.far, I t.least] (25 : TypeId), VB.cells [VV.tl [D0, D1].length 1 (pthG [D0, D1])] (26 : TypeId), VB.cells [VV.tl l.length 5 (stG l), VV.tl t.T.length 1 (dG t.T), I t.far, I t.least] (74 : TypeId), VB.cells [VV.ptr (VA.own 2 0)] (72 : TypeId), VB.cells [I (↑Y : Int)] (3 : TypeId), VB.cells [VV.slice (VA.fa 7 0 0) Y Y, VV.slice (VA.fa 8 0 0) Y Y] (76 : TypeId), VB.cells [VV.slice (VA.own 5 0) 2 2] (75 : TypeId), VB.fam [] (Y * 6) (M 0) (80 : TypeId), VB.fam [] (Y * 6) (M 1) (80 : TypeId), VB.map [PK.int IntKind.i64, PK.int IntKind.i64, PK.int IntKind.i64, PK.int IntKind.i64, PK.int IntKind.i64, PK.int IntKind.i64, PK.int IntKind.i64, PK.int IntKind.i64] PK.bool es, VB.cells [VV.mp 9] (77 : TypeId), VB.cells [VV.func (44 : FuncId) [] [VV.ptr (VA.own 4 0), VV.ptr (VA.own 10 0), VV.ptr (VA.own 1 0), VV.ptr (VA.own 12 0)]] (78 : TypeId), VB.cells [VV.func (40 : FuncId) [] [VV.ptr (VA.own 3 0), VV.ptr (VA.own 11 0), VV.ptr (VA.own 1 0), VV.ptr (VA.own 6 0)]] (88 : TypeId), VB.fam [I y, I (↑S : Int)] 6 (fun (k : Nat) => (ch a).getD k (0 : Int)) (82 : TypeId)]) := by kernel_rfl

def lFi2 (l : List Stk) (t : Tst) (P : List (List Int)) (Y k : Nat) (y : Int) (S : Nat) (a : Nat → Int) : LT := fun lock tt h K =>
  ∃ M es, FitP lock h tt ⟨14, nsF2.zip (BF2 l t P Y y S a M es)⟩ (dsF2.zip (VF2 y S a S)) ∧ (y = (Y : Int) - (k + 1 : Nat) ∧ Cfg l t P Y ∧ PreF l t P Y (k + 1) S a es) ∧ (∀ s, PostF l t P Y (k + 1) S a M true s → K .normal (dsF2.zip (VF2 y S a 0)) ⟨14, nsF2.zip (BF2 l t P Y y S a s.M s.es)⟩) ∧
    ∀ s (r : Int), PostF l t P Y (k + 1) S a M false s → K .ret (dsF2.zip (VF2 y S a r)) ⟨14, nsF2.zip (BF2 l t P Y y S a s.M s.es)⟩
theorem fib2_ev (l : List Stk) (t : Tst) (D0 D1 : List Int) (Y k : Nat) (M : Mde) (es : Lst) (y : Int) (S : Nat) (a : Nat → Int) (Q : VRes → VH → Prop) : callN Try.prog noSpec (atF 44 [(0, lFi2 l t [D0, D1] Y k y S a)]) 10 20 0 (.fn 44) [.agg (I y :: I S :: nL a), .ptr (.own 4 0), .ptr (.own 10 0), .ptr (.own 1 0), .ptr (.own 12 0)] ⟨13, nsB2.zip (BP2 l t [D0, D1] Y M es)⟩ (fun r h => Q r h) =
  (bif decide (y = (↑Y : Int)) then
 Q (VRes.ret (VV.bool true)) (VH.mk (14) [(13, VB.fam [I y, I (↑S : Int)] (6) (fun (k : Nat) => [a 0, a 1, a 2, a 3, a 4, a 5].getD k (0 : Int)) 82), (0, VB.cells [VV.tl t.T.length 1 (dG t.T), I t.far, I t.least] (25 : TypeId)), (1, VB.cells [VV.tl [D0, D1].length 1 (pthG [D0, D1])] (26 : TypeId)), (2, VB.cells [VV.tl l.length 5 (stG l), VV.tl t.T.length 1 (dG t.T), I t.far, I t.least] (74 : TypeId)), (3, VB.cells [VV.ptr (VA.own 2 0)] (72 : TypeId)), (4, VB.cells [I (↑Y : Int)] (3 : TypeId)), (5, VB.cells [VV.slice (VA.fa 7 0 0) Y Y, VV.slice (VA.fa 8 0 0) Y Y] (76 : TypeId)), (6, VB.cells [VV.slice (VA.own 5 0) 2 2] (75 : TypeId)), (7, VB.fam [] (Y * 6) (M 0) (80 : TypeId)), (8, VB.fam [] (Y * 6) (M 1) (80 : TypeId)), (9, VB.map [PK.int IntKind.i64, PK.int IntKind.i64, PK.int IntKind.i64, PK.int IntKind.i64, PK.int IntKind.i64, PK.int IntKind.i64, PK.int IntKind.i64, PK.int IntKind.i64] PK.bool es), (10, VB.cells [VV.mp 9] (77 : TypeId)), (11, VB.cells [VV.func (44 : FuncId) [] [VV.ptr (VA.own 4 0), VV.ptr (VA.own 10 0), VV.ptr (VA.own 1 0), VV.ptr (VA.own 12 0)]] (78 : TypeId)), (12, VB.cells [VV.func (40 : FuncId) [] [VV.ptr (VA.own 3 0), VV.ptr (VA.own 11 0), VV.ptr (VA.own 1 0), VV.ptr (VA.own 6 0)]] (88 : TypeId))])
 else KeyLaw Try.prog 82 kS ∧ bif decide (valOf es [y, (↑S : Int), (fun (k : Nat) => [a 0, a 1, a 2, a 3, a 4, a 5].getD k (0 : Int)) (0 + 0), (fun (k : Nat) => [a 0, a 1, a 2, a 3, a 4, a 5].getD k (0 : Int)) (0 + 1), (fun (k : Nat) => [a 0, a 1, a 2, a 3, a 4, a 5].getD k (0 : Int)) (0 + 2), (fun (k : Nat) => [a 0, a 1, a 2, a 3, a 4, a 5].getD k (0 : Int)) (0 + 3), (fun (k : Nat) => [a 0, a 1, a 2, a 3, a 4, a 5].getD k (0 : Int)) (0 + 4), (fun (k : Nat) => [a 0, a 1, a 2, a 3, a 4, a 5].getD k (0 : Int)) (0 + 5)] = (1 : Int)) then
 Q (VRes.ret (VV.bool false)) (VH.mk (14) [(13, VB.fam [I y, I (↑S : Int)] (6) (fun (k : Nat) => [a 0, a 1, a 2, a 3, a 4, a 5].getD k (0 : Int)) 82), (0, VB.cells [VV.tl t.T.length 1 (dG t.T), I t.far, I t.least] (25 : TypeId)), (1, VB.cells [VV.tl [D0, D1].length 1 (pthG [D0, D1])] (26 : TypeId)), (2, VB.cells [VV.tl l.length 5 (stG l), VV.tl t.T.length 1 (dG t.T), I t.far, I t.least] (74 : TypeId)), (3, VB.cells [VV.ptr (VA.own 2 0)] (72 : TypeId)), (4, VB.cells [I (↑Y : Int)] (3 : TypeId)), (5, VB.cells [VV.slice (VA.fa 7 0 0) Y Y, VV.slice (VA.fa 8 0 0) Y Y] (76 : TypeId)), (6, VB.cells [VV.slice (VA.own 5 0) 2 2] (75 : TypeId)), (7, VB.fam [] (Y * 6) (M 0) (80 : TypeId)), (8, VB.fam [] (Y * 6) (M 1) (80 : TypeId)), (9, VB.map [PK.int IntKind.i64, PK.int IntKind.i64, PK.int IntKind.i64, PK.int IntKind.i64, PK.int IntKind.i64, PK.int IntKind.i64, PK.int IntKind.i64, PK.int IntKind.i64] PK.bool es), (10, VB.cells [VV.mp 9] (77 : TypeId)), (11, VB.cells [VV.func (44 : FuncId) [] [VV.ptr (VA.own 4 0), VV.ptr (VA.own 10 0), VV.ptr (VA.own 1 0), VV.ptr (VA.own 12 0)]] (78 : TypeId)), (12, VB.cells [VV.func (40 : FuncId) [] [VV.ptr (VA.own 3 0), VV.ptr (VA.own 11 0), VV.ptr (VA.own 1 0), VV.ptr (VA.own 6 0)]] (88 : TypeId))])
 else ∃ (M_1 : Mde), ∃ (es_1 : Lst), FitP 0 (VH.mk (14) ((13, VB.fam [I y, I (↑S : Int)] (6) (fun (k : Nat) => [a 0, a 1, a 2, a 3, a 4, a 5].getD k (0 : Int)) 82) :: nsB2.zip (BP2 l t [D0, D1] Y M es))) [(7, I (↑S : Int)), (20, I (↑S : Int)), (19, VV.ptr (VA.own (13) (1))), (18, VV.bool false), (18, VV.bool (decide (valOf es [y, (↑S : Int), (fun (k : Nat) => [a 0, a 1, a 2, a 3, a 4, a 5].getD k (0 : Int)) (0 + 0), (fun (k : Nat) => [a 0, a 1, a 2, a 3, a 4, a 5].getD k (0 : Int)) (0 + 1), (fun (k : Nat) => [a 0, a 1, a 2, a 3, a 4, a 5].getD k (0 : Int)) (0 + 2), (fun (k : Nat) => [a 0, a 1, a 2, a 3, a 4, a 5].getD k (0 : Int)) (0 + 3), (fun (k : Nat) => [a 0, a 1, a 2, a 3, a 4, a 5].getD k (0 : Int)) (0 + 4), (fun (k : Nat) => [a 0, a 1, a 2, a 3, a 4, a 5].getD k (0 : Int)) (0 + 5)] = (1 : Int)))), (17, VV.agg [I y, I (↑S : Int), I ((fun (k : Nat) => [a 0, a 1, a 2, a 3, a 4, a 5].getD k (0 : Int)) (0 + 0)), I ((fun (k : Nat) => [a 0, a 1, a 2, a 3, a 4, a 5].getD k (0 : Int)) (0 + 1)), I ((fun (k : Nat) => [a 0, a 1, a 2, a 3, a 4, a 5].getD k (0 : Int)) (0 + 2)), I ((fun (k : Nat) => [a 0, a 1, a 2, a 3, a 4, a 5].getD k (0 : Int)) (0 + 3)), I ((fun (k : Nat) => [a 0, a 1, a 2, a 3, a 4, a 5].getD k (0 : Int)) (0 + 4)), I ((fun (k : Nat) => [a 0, a 1, a 2, a 3, a 4, a 5].getD k (0 : Int)) (0 + 5))]), (16, VV.mp 9), (15, VV.bool false), (15, VV.bool (decide (y = (↑Y : Int)))), (14, I (↑Y : Int)), (13, I y), (12, VV.ptr (VA.own (13) 0)), (6, VV.bool false), (5, VV.ptr (VA.own (13) 0)), (0, VV.agg (I y :: I (↑S : Int) :: nL a)), (1, VV.ptr (VA.own 4 0)), (2, VV.ptr (VA.own 10 0)), (3, VV.ptr (VA.own 1 0)), (4, VV.ptr (VA.own 12 0))] (VH.mk 14 (nsF2.zip (BF2 l t [D0, D1] Y y (↑S : Int) a M_1 es_1))) (dsF2.zip (VF2 y (↑S : Int) a (↑S : Int))) ∧ (y = (↑Y : Int) - (↑(k + 1) : Int) ∧ Cfg l t [D0, D1] Y ∧ PreF l t [D0, D1] Y (k + 1) S a es_1) ∧ (∀ (s : St), PostF l t [D0, D1] Y (k + 1) S a M_1 true s → Q (VRes.ret (VV.bool true)) (VH.mk 14 [(0, VB.cells [VV.tl t.T.length 1 (dG t.T), I t.far, I t.least] (25 : TypeId)), (1, VB.cells [VV.tl [D0, D1].length 1 (pthG [D0, D1])] (26 : TypeId)), (2, VB.cells [VV.tl l.length 5 (stG l), VV.tl t.T.length 1 (dG t.T), I t.far, I t.least] (74 : TypeId)), (3, VB.cells [VV.ptr (VA.own 2 0)] (72 : TypeId)), (4, VB.cells [I (↑Y : Int)] (3 : TypeId)), (5, VB.cells [VV.slice (VA.fa 7 0 0) Y Y, VV.slice (VA.fa 8 0 0) Y Y] (76 : TypeId)), (6, VB.cells [VV.slice (VA.own 5 0) 2 2] (75 : TypeId)), (7, VB.fam [] (Y * 6) (s.M 0) (80 : TypeId)), (8, VB.fam [] (Y * 6) (s.M 1) (80 : TypeId)), (9, VB.map [PK.int IntKind.i64, PK.int IntKind.i64, PK.int IntKind.i64, PK.int IntKind.i64, PK.int IntKind.i64, PK.int IntKind.i64, PK.int IntKind.i64, PK.int IntKind.i64] PK.bool s.es), (10, VB.cells [VV.mp 9] (77 : TypeId)), (11, VB.cells [VV.func (44 : FuncId) [] [VV.ptr (VA.own 4 0), VV.ptr (VA.own 10 0), VV.ptr (VA.own 1 0), VV.ptr (VA.own 12 0)]] (78 : TypeId)), (12, VB.cells [VV.func (40 : FuncId) [] [VV.ptr (VA.own 3 0), VV.ptr (VA.own 11 0), VV.ptr (VA.own 1 0), VV.ptr (VA.own 6 0)]] (88 : TypeId)), (13, VB.fam [I y, I (↑S : Int)] 6 (fun (k : Nat) => (ch a).getD k (0 : Int)) (82 : TypeId))])) ∧ ∀ (s : St) (r : Int), PostF l t [D0, D1] Y (k + 1) S a M_1 false s → Q (VRes.ret (VV.bool false)) (VH.mk 14 [(0, VB.cells [VV.tl t.T.length 1 (dG t.T), I t.far, I t.least] (25 : TypeId)), (1, VB.cells [VV.tl [D0, D1].length 1 (pthG [D0, D1])] (26 : TypeId)), (2, VB.cells [VV.tl l.length 5 (stG l), VV.tl t.T.length 1 (dG t.T), I t.far, I t.least] (74 : TypeId)), (3, VB.cells [VV.ptr (VA.own 2 0)] (72 : TypeId)), (4, VB.cells [I (↑Y : Int)] (3 : TypeId)), (5, VB.cells [VV.slice (VA.fa 7 0 0) Y Y, VV.slice (VA.fa 8 0 0) Y Y] (76 : TypeId)), (6, VB.cells [VV.slice (VA.own 5 0) 2 2] (75 : TypeId)), (7, VB.fam [] (Y * 6) (s.M 0) (80 : TypeId)), (8, VB.fam [] (Y * 6) (s.M 1) (80 : TypeId)), (9, VB.map [PK.int IntKind.i64, PK.int IntKind.i64, PK.int IntKind.i64, PK.int IntKind.i64, PK.int IntKind.i64, PK.int IntKind.i64, PK.int IntKind.i64, PK.int IntKind.i64] PK.bool s.es), (10, VB.cells [VV.mp 9] (77 : TypeId)), (11, VB.cells [VV.func (44 : FuncId) [] [VV.ptr (VA.own 4 0), VV.ptr (VA.own 10 0), VV.ptr (VA.own 1 0), VV.ptr (VA.own 12 0)]] (78 : TypeId)), (12, VB.cells [VV.func (40 : FuncId) [] [VV.ptr (VA.own 3 0), VV.ptr (VA.own 11 0), VV.ptr (VA.own 1 0), VV.ptr (VA.own 6 0)]] (88 : TypeId)), (13, VB.fam [I y, I (↑S : Int)] 6 (fun (k : Nat) => (ch a).getD k (0 : Int)) (82 : TypeId))])) := by kernel_rfl

theorem fiz2_ev (l : List Stk) (t : Tst) (D0 D1 : List Int) (Y : Nat) (M : Mde) (es : Lst) (y : Int) (S : Nat) (a : Nat → Int) (Q : VRes → VH → Prop) : callN Try.prog noSpec (atF 44 [(0, lZ)]) 10 20 0 (.fn 44) [.agg (I y :: I S :: nL a), .ptr (.own 4 0), .ptr (.own 10 0), .ptr (.own 1 0), .ptr (.own 12 0)] ⟨13, nsB2.zip (BP2 l t [D0, D1] Y M es)⟩ (fun r h => Q r h) =
  (bif decide (y = (↑Y : Int)) then
 Q (VRes.ret (VV.bool true)) (VH.mk (14) [(13, VB.fam [I y, I (↑S : Int)] (6) (fun (k : Nat) => [a 0, a 1, a 2, a 3, a 4, a 5].getD k (0 : Int)) 82), (0, VB.cells [VV.tl t.T.length 1 (dG t.T), I t.far, I t.least] (25 : TypeId)), (1, VB.cells [VV.tl [D0, D1].length 1 (pthG [D0, D1])] (26 : TypeId)), (2, VB.cells [VV.tl l.length 5 (stG l), VV.tl t.T.length 1 (dG t.T), I t.far, I t.least] (74 : TypeId)), (3, VB.cells [VV.ptr (VA.own 2 0)] (72 : TypeId)), (4, VB.cells [I (↑Y : Int)] (3 : TypeId)), (5, VB.cells [VV.slice (VA.fa 7 0 0) Y Y, VV.slice (VA.fa 8 0 0) Y Y] (76 : TypeId)), (6, VB.cells [VV.slice (VA.own 5 0) 2 2] (75 : TypeId)), (7, VB.fam [] (Y * 6) (M 0) (80 : TypeId)), (8, VB.fam [] (Y * 6) (M 1) (80 : TypeId)), (9, VB.map [PK.int IntKind.i64, PK.int IntKind.i64, PK.int IntKind.i64, PK.int IntKind.i64, PK.int IntKind.i64, PK.int IntKind.i64, PK.int IntKind.i64, PK.int IntKind.i64] PK.bool es), (10, VB.cells [VV.mp 9] (77 : TypeId)), (11, VB.cells [VV.func (44 : FuncId) [] [VV.ptr (VA.own 4 0), VV.ptr (VA.own 10 0), VV.ptr (VA.own 1 0), VV.ptr (VA.own 12 0)]] (78 : TypeId)), (12, VB.cells [VV.func (40 : FuncId) [] [VV.ptr (VA.own 3 0), VV.ptr (VA.own 11 0), VV.ptr (VA.own 1 0), VV.ptr (VA.own 6 0)]] (88 : TypeId))])
 else KeyLaw Try.prog 82 kS ∧ bif decide (valOf es [y, (↑S : Int), (fun (k : Nat) => [a 0, a 1, a 2, a 3, a 4, a 5].getD k (0 : Int)) (0 + 0), (fun (k : Nat) => [a 0, a 1, a 2, a 3, a 4, a 5].getD k (0 : Int)) (0 + 1), (fun (k : Nat) => [a 0, a 1, a 2, a 3, a 4, a 5].getD k (0 : Int)) (0 + 2), (fun (k : Nat) => [a 0, a 1, a 2, a 3, a 4, a 5].getD k (0 : Int)) (0 + 3), (fun (k : Nat) => [a 0, a 1, a 2, a 3, a 4, a 5].getD k (0 : Int)) (0 + 4), (fun (k : Nat) => [a 0, a 1, a 2, a 3, a 4, a 5].getD k (0 : Int)) (0 + 5)] = (1 : Int)) then
 Q (VRes.ret (VV.bool false)) (VH.mk (14) [(13, VB.fam [I y, I (↑S : Int)] (6) (fun (k : Nat) => [a 0, a 1, a 2, a 3, a 4, a 5].getD k (0 : Int)) 82), (0, VB.cells [VV.tl t.T.length 1 (dG t.T), I t.far, I t.least] (25 : TypeId)), (1, VB.cells [VV.tl [D0, D1].length 1 (pthG [D0, D1])] (26 : TypeId)), (2, VB.cells [VV.tl l.length 5 (stG l), VV.tl t.T.length 1 (dG t.T), I t.far, I t.least] (74 : TypeId)), (3, VB.cells [VV.ptr (VA.own 2 0)] (72 : TypeId)), (4, VB.cells [I (↑Y : Int)] (3 : TypeId)), (5, VB.cells [VV.slice (VA.fa 7 0 0) Y Y, VV.slice (VA.fa 8 0 0) Y Y] (76 : TypeId)), (6, VB.cells [VV.slice (VA.own 5 0) 2 2] (75 : TypeId)), (7, VB.fam [] (Y * 6) (M 0) (80 : TypeId)), (8, VB.fam [] (Y * 6) (M 1) (80 : TypeId)), (9, VB.map [PK.int IntKind.i64, PK.int IntKind.i64, PK.int IntKind.i64, PK.int IntKind.i64, PK.int IntKind.i64, PK.int IntKind.i64, PK.int IntKind.i64, PK.int IntKind.i64] PK.bool es), (10, VB.cells [VV.mp 9] (77 : TypeId)), (11, VB.cells [VV.func (44 : FuncId) [] [VV.ptr (VA.own 4 0), VV.ptr (VA.own 10 0), VV.ptr (VA.own 1 0), VV.ptr (VA.own 12 0)]] (78 : TypeId)), (12, VB.cells [VV.func (40 : FuncId) [] [VV.ptr (VA.own 3 0), VV.ptr (VA.own 11 0), VV.ptr (VA.own 1 0), VV.ptr (VA.own 6 0)]] (88 : TypeId))])
 else False) := by kernel_rfl

end Go.Sx.Bln

/- blend: Plan's closures with 2 paths. -/

namespace Go.Sx.Bln
open Go Go.Sx Go.Proofs
set_option maxRecDepth 1000000

section
variable {l : List Stk} {t : Tst} {P : List (List Int)} {Y k : Nat} {y S d : Int} {own : Int} {a : Nat → Int}

/-! The next choice. -/
noncomputable def OJ2 (l : List Stk) (t : Tst) (P : List (List Int)) (Y : Nat) (y S own d : Int) (a : Nat → Int) (s : (Mde × Lst) × Nat × (Nat → Int)) (e : VEx) (vs : List VV) (bs : List VB) : Prop :=
  e = .exit 2 ∧ vs = VFi2 ((scanC a s.2.1 s.2.2).1 - 1) ∧ bs = BFo2 l t P Y y S own d a s.1.1 s.1.2 (scanC a s.2.1 s.2.2).2
theorem lIo2_ok : LSound Try.prog true (.block 2 (.loop (loopB 2 (bodyOf Try.prog 74)))) (ntOf Try.prog 74) (lIo2 l t P Y y S own d a) := by
  by_cases hn : l.length ≤ 6
  · refine loop_row hmix good0 (un := 10) (ds := dsI) (ns := nsFo2) (nx := 22) (fun s : (Mde × Lst) × Nat × (Nat → Int) => VFi2 (s.2.1 - 1)) (fun s => BFo2 l t P Y y S own d a s.1.1 s.1.2 s.2.2) (fun s => s.2.1 ≤ l.length) (fun s => s.2.1) (OJ2 l t P Y y S own d a) noL_ok ?_ ?_
    · rintro ⟨⟨M, es⟩, k, n⟩ h0
      dsimp only at h0 ⊢
      refine cast (ino2_ev l t P Y y S own d (k - 1) a M es n _).symm ?_
      cases k with
      | zero => exact cond_d (fun h => by omega) (fun _ => ⟨rfl, rfl, rfl⟩)
      | succ k =>
        have e : (((k + 1 : Nat) : Int) - 1) = (k : Int) := by omega
        rw [e]
        have e2 : (k : Int).toNat * 1 = k := by omega
        rw [e2, show (fun k => (ch a).getD k (0 : Int)) k = a k from ch_get (by omega)]
        refine cond_d (fun _ => ?_) (fun h => by omega)
        refine cond_dk ⟨by omega, by omega⟩ (cond_dk (by omega) (cond_dk ⟨by omega, by omega⟩ (cond_dk (by omega) (cond_d (fun g => cond_dk ⟨by omega, by omega⟩ (cond_dk (by omega) (cond_r (by omega) ?_))) (fun g => ?_)))))
        · refine ⟨((M, es), k, setC n k 0), ?_, ?_, rfl, fitBs_refl _, fun e vs bs he => ?_⟩
          · show k ≤ _; omega
          · show k < k + 1; omega
          · have hs : scanC a (k + 1) n = scanC a k (setC n k 0) := by
              show (if _ then _ else _) = _
              rw [if_pos g]
            obtain ⟨h1, h2, h3⟩ := he
            refine ⟨h1, ?_, ?_⟩
            · rw [h2]; dsimp only; rw [hs]
            · rw [h3]; dsimp only; rw [hs]
        · have hs : scanC a (k + 1) n = (k + 1, n) := by
            show (if _ then _ else _) = _
            rw [if_neg g]
          refine ⟨rfl, ?_, ?_⟩
          · dsimp only; rw [hs]; dsimp only; rw [e]; rfl
          · dsimp only; rw [hs]; rfl
    · rintro lock tt h K ⟨M, es, n, hf, _, k1⟩
      refine ⟨((M, es), l.length, n), hf, Nat.le_refl _, ?_⟩
      rintro e vs bs ⟨rfl, rfl, rfl⟩
      exact k1 _ _ rfl
  · rintro lock tt h K ⟨M, es, n, hf, hc, _⟩
    exact (hn hc).elim

/-! The paths with one need. -/
theorem lG2_ok {r : Nat} : LSound Try.prog true (.block 2 (.loop (loopB 2 (bodyOf Try.prog 44)))) (ntOf Try.prog 44) (lG2 l t P Y k y S a r) := by
  by_cases hh : y = ((Y - (k + 1) : Nat) : Int) ∧ k + 1 ≤ Y ∧ Cfg l t P Y ∧ r < 16
  · obtain ⟨hy, hk, cf, hr⟩ := hh
    have hp4 := cf.P4
    refine loop_row hmix good0 (un := 10) (ds := dsG2) (ns := nsF2) (nx := 14) (fun s : (Mde × Lst) × Nat => VG2 P y S a r s.2 (grpF P (Y - (k + 1)) r s.2).2 (grpF P (Y - (k + 1)) r s.2).1) (fun s => BF2 l t P Y y S a s.1.1 s.1.2) (fun s => s.2 ≤ P.length) (fun s => P.length - s.2)
      (fun s e vs bs => e = .exit 2 ∧ vs = VG2 P y S a r P.length (grpF P (Y - (k + 1)) r P.length).2 (grpF P (Y - (k + 1)) r P.length).1 ∧ bs = BF2 l t P Y y S a s.1.1 s.1.2) noL_ok ?_ ?_
    · rintro ⟨⟨M, es⟩, i⟩ h0
      dsimp only at h0 ⊢
      refine cast (gi2_ev l t P Y M es y S i _ _ r a _).symm ?_
      have hgb := grpF_le cf.nd (Y - (k + 1)) r i
      have hs : grpF P (Y - (k + 1)) r (i + 1) = if r.testBit i ∧ ((grpF P (Y - (k + 1)) r i).2 < 0 ∨ (P.getD i []).getD (Y - (k + 1)) 0 = (grpF P (Y - (k + 1)) r i).2) then ((grpF P (Y - (k + 1)) r i).1 ||| 2 ^ i, (P.getD i []).getD (Y - (k + 1)) 0) else grpF P (Y - (k + 1)) r i := rfl
      have h16 : (grpF P (Y - (k + 1)) r i).1 < 16 := Nat.lt_of_lt_of_le hgb (Nat.pow_le_pow_right (n := 2) (by omega) (show i ≤ 4 by omega))
      generalize hRQ : RoundQ (σ := (Mde × Lst) × Nat) _ _ _ _ _ ((M, es), i) = RQ
      have fin : ∀ (o' : Nat) (d' : Int), grpF P (Y - (k + 1)) r (i + 1) = (o', d') → i < P.length → RQ .normal (VG2 P y S a r ((i : Int) + 1) d' o') (BF2 l t P Y y S a M es) := by
        intro o' d' he hlt
        rw [← hRQ]
        refine ⟨((M, es), i + 1), ?_, ?_, ?_, fitBs_refl _, fun _ _ _ h => h⟩
        · show i + 1 ≤ _; omega
        · show P.length - (i + 1) < P.length - i; omega
        · dsimp only; rw [he]; rfl
      generalize hg : grpF P (Y - (k + 1)) r i = g at hs h16 ⊢
      obtain ⟨o, dd⟩ := g
      dsimp only at hs h16 ⊢
      by_cases hlt : i < P.length
      · have hidx : (0 : Int) ≤ y ∧ y < ((P.getD i []).length : Nat) := by rw [cf.len i hlt]; omega
        have hi4 : i < 4 := by omega
        have hpow : (1 : Int) * (2 : Int) ^ min i IntKind.i64.bits ≤ 8 ∧ 0 ≤ (1 : Int) * (2 : Int) ^ min i IntKind.i64.bits := by
          match i, hi4 with
          | 0, _ => exact ⟨by decide, by decide⟩
          | 1, _ => exact ⟨by decide, by decide⟩
          | 2, _ => exact ⟨by decide, by decide⟩
          | 3, _ => exact ⟨by decide, by decide⟩
        have ey : y.toNat = Y - (k + 1) := by omega
        refine cond_dk (by omega) (cond_dk ⟨by omega, by omega⟩ (cond_d (fun h => by omega) (fun _ => ?_)))
        rw [show (i : Int).toNat = i by omega, ey, or_v o h16 i hi4]
        refine cond_d (fun b => ?_) (fun b => ?_)
        · have b := (bit_v r hr i hi4).1 b
          refine cond_d (fun g1 => cond_d (fun h => by omega) (fun _ => cond_r (by omega) (cond_dk hidx (cond_r (by omega) (fin _ _ ?_ hlt))))) (fun g1 => cond_dk hidx (cond_d (fun g2 => cond_d (fun h => by omega) (fun _ => cond_r (by omega) (cond_dk hidx (cond_r (by omega) (fin _ _ ?_ hlt))))) (fun g2 => cond_r (by omega) (fin _ _ ?_ hlt))))
          · rw [hs, if_pos ⟨b, .inl g1⟩]
          · rw [hs, if_pos ⟨b, .inr g2⟩]
          · rw [hs, if_neg (fun h => h.2.elim g1 g2)]
        · have b : ¬ r.testBit i = true := fun h => b ((bit_v r hr i hi4).2 h)
          refine cond_r (by omega) (fin _ _ ?_ hlt)
          rw [hs, if_neg (fun h => b h.1)]
      · obtain rfl : i = P.length := by omega
        refine cond_d (fun h => by omega) (fun _ => ?_)
        rw [← hRQ]
        refine ⟨rfl, ?_, rfl⟩
        rw [hg]; rfl
    · rintro lock tt h K ⟨M, es, hf, _, k1⟩
      refine ⟨((M, es), 0), hf, Nat.zero_le _, ?_⟩
      rintro e vs bs ⟨rfl, rfl, rfl⟩
      exact k1 _ _ rfl
  · rintro lock tt h K ⟨M, es, hf, hc, _⟩
    exact (hh hc).elim
end

section
variable {l : List Stk} {t : Tst} {D0 D1 : List Int} {Y k : Nat}

theorem hc62 {h : VH} (h6 : (h.at 2).cs? = some (stD l :: tsL t, 74)) : isD h 4 (.ptr (.own 2 0)) (.tp (stD l :: tsL t)) := ⟨_, _, h6, isD_l, ⟨rfl, rfl, fun _ _ => rfl⟩, ⟨rfl, rfl⟩, ⟨rfl, rfl⟩, trivial⟩

/-! 'follow'. -/
structure WS2 where
  M0 : Mde
  j : Nat
  M : Mde
  es : Lst
noncomputable def OW2 (l : List Stk) (t : Tst) (P : List (List Int)) (Y k : Nat) (y S d : Int) (O : Nat) (a : Nat → Int) (s : WS2) (e : VEx) (vs : List VV) (bs : List VB) : Prop :=
  e = .ret ∧ vs = VFo2 ∧ ∃ st n', (PostW l t P Y k O d a s.M0 false st ∧ bs = BFo2 l t P Y y S O d a st.M st.es n') ∨ (PostW l t P Y k O d a s.M0 true st ∧ bs = BFoT2 l t P Y y S O d a st.M st.es n')
theorem lFo2_ok (hfind : SpOk Try.prog (findR2 l t [D0, D1] Y k).1 (findR2 l t [D0, D1] Y k).2) {y S d : Int} {O : Nat} {a : Nat → Int} : LSound Try.prog true (.block 0 (.loop (loopB 0 (bodyOf Try.prog 74)))) (ntOf Try.prog 74) (lFo2 l t [D0, D1] Y k y S d O a) := by
  by_cases hh : y = (Y : Int) - (k + 1 : Nat) ∧ Cfg l t [D0, D1] Y ∧ k + 1 ≤ Y ∧ O < 2 ^ [D0, D1].length ∧ leftB l a
  · obtain ⟨hy, cf, hk, hO, ha⟩ := hh
    have hl6 := cf.hl.1
    have hY4 := cf.Y4
    have hm0 : ∀ i, i < l.length → 0 ≤ a i := fun i hi => (ha.1 i hi).1
    have hO16 : O < 16 := Nat.lt_of_lt_of_le hO (Nat.pow_le_pow_right (n := 2) (by omega) (show 2 ≤ 4 by omega))
    have htab : ∀ f T, tabS [meetsR l t, lessT, findR2 l t [D0, D1] Y k] f = some T → SpOk Try.prog f T := tab_ok _ (fun x hx => by
      simp only [List.mem_cons, List.not_mem_nil, or_false] at hx
      rcases hx with rfl | rfl | rfl
      · exact meetsR_ok l t
      · exact lessT_ok
      · exact hfind)
    refine loop_row hmix (noL_good htab) (lsp := tabB [(2, lIo2 l t [D0, D1] Y y S O d a)]) (un := 10) (ds := dsC) (ns := nsFo2) (nx := 21) (fun _ : WS2 => VFo2) (fun s => BFo2 l t [D0, D1] Y y S O d a s.M s.es (chAt a l.length s.j))
      (fun s => s.j < (allC a l.length).length ∧ LostOk l t [D0, D1] Y s.es ∧ Same Y (k + 1) O s.M0 s.M ∧ ∀ i, i < s.j → meetsF l t (chAt a l.length i) y d = true → planF l t [D0, D1] Y k O (lsF a (chAt a l.length i) 6) = none) (fun s => (allC a l.length).length - s.j) (OW2 l t [D0, D1] Y k y S d O a) (lsp_one (by kernel_rfl) lIo2_ok) ?_ ?_
    · rintro ⟨M0, j, M, es⟩ ⟨hj, hlost, hsame, hbad⟩
      dsimp only at hj hlost hsame hbad
      refine cast (fr2_ev l t D0 D1 Y k M es y S d O a _ _).symm ?_
      have hcm := chAt_mem (most := a) (k := l.length) hj
      obtain ⟨hleft, hbd, hnc⟩ := left_less ha hcm hl6
      have hnx := scan_nxt (most := a) l.length (chAt a l.length j)
      have hnext := chAt_next hm0 hj
      have hsucc : ∀ x, meetsF l t (chAt a l.length j) y d = true → planF l t [D0, D1] Y k O (lsF a (chAt a l.length j) 6) = some x → folF l t [D0, D1] Y k a O d = some (chAt a l.length j, x) := fun x g1 g2 => by
        refine tryF_some (c0 := fun _ => 0) hj (fun i hi hm => hbad i hi ?_) ?_ g2
        · rw [hy]; exact hm
        · show meetsF l t (chAt a l.length j) _ d = true
          rw [← hy]; exact g1
      generalize hRQ : RoundQ (σ := WS2) _ _ _ _ _ ⟨M0, j, M, es⟩ = RQ
      generalize hcj : chAt a l.length j = c at hcm hleft hbd hnc hnx hnext hsucc ⊢
      -- behind the body: the next choice
      have fin : ∀ (M' : Mde) (es' : Lst), LostOk l t [D0, D1] Y es' → Same Y (k + 1) O M0 M' → (meetsF l t c y d = true → planF l t [D0, D1] Y k O (lsF a c 6) = none) → ∀ (k2 : Nat) (n' : Nat → Int), scanC a l.length c = (k2, n') →
        (bif decide ((k2 : Int) - 1 < 0) then RQ .ret VFo2 (BFo2 l t [D0, D1] Y y S O d a M' es' n')
        else bif decide (0 ≤ (k2 : Int) - 1 ∧ (k2 : Int) - 1 < (6 : Nat)) then (bif decide (((k2 : Int) - 1).toNat * 1 < 6) then (bif inK .i64 (n' (((k2 : Int) - 1).toNat * 1) + 1) then (bif decide (0 ≤ (k2 : Int) - 1 ∧ (k2 : Int) - 1 < (6 : Nat)) then (bif decide (((k2 : Int) - 1).toNat * 1 + 1 ≤ 6) then
          RQ .normal VFo2 (BFo2 l t [D0, D1] Y y S O d a M' es' (setF n' (((k2 : Int) - 1).toNat * 1) [n' (((k2 : Int) - 1).toNat * 1) + 1])) else False) else False) else False) else False) else False) := by
        intro M' es' hl' hs' hno k2 n' hk2
        have hbad' : ∀ i, i < j + 1 → meetsF l t (chAt a l.length i) y d = true → planF l t [D0, D1] Y k O (lsF a (chAt a l.length i) 6) = none := fun i hi hm => by
          by_cases e : i = j
          · subst e; rw [hcj] at hm ⊢; exact hno hm
          · exact hbad i (by omega) hm
        rw [hk2] at hnx
        obtain ⟨hk1, hnx⟩ := hnx
        dsimp only at hk1
        cases k2 with
        | zero =>
          dsimp only at hnx
          have hj1 : j + 1 = (allC a l.length).length := by
            rcases hnext with ⟨h1, _⟩ | ⟨_, h2⟩
            · exact h1
            · rw [hnx] at h2; cases h2
          refine cond_d (fun _ => ?_) (fun h => by omega)
          rw [← hRQ]
          refine ⟨rfl, rfl, ⟨M', es'⟩, n', .inl ⟨?_, rfl⟩⟩
          have hf : folF l t [D0, D1] Y k a O d = none := tryF_none (fun c' hc' hm' => by
            obtain ⟨i, hi, rfl⟩ := List.getElem_of_mem hc'
            have e : chAt a l.length i = (allC a l.length)[i] := by
              unfold chAt
              rw [List.getD_eq_getElem?_getD, List.getElem?_eq_getElem hi]; rfl
            rw [← e]
            refine hbad' i (by omega) ?_
            rw [e, hy]; exact hm')
          exact ⟨by rw [hf]; rfl, hl', hs', fun c' x' he => by rw [hf] at he; cases he⟩
        | succ k2 =>
          dsimp only at hnx
          have e : (((k2 + 1 : Nat) : Int) - 1) = (k2 : Int) := by omega
          rw [e]
          have e2 : (k2 : Int).toNat * 1 = k2 := by omega
          rw [e2]
          obtain ⟨hj1, hch⟩ : j + 1 < (allC a l.length).length ∧ chAt a l.length (j + 1) = setC n' k2 (n' k2 + 1) := by
            rcases hnext with ⟨_, h2⟩ | ⟨h1, h2⟩
            · rw [hnx] at h2; cases h2
            · rw [hnx] at h2
              injection h2 with h2
              exact ⟨h1, h2.symm⟩
          have hb6 := (left_less ha (chAt_mem hj1) hl6).2.2 k2 (by omega)
          rw [hch, setC_same] at hb6
          refine cond_d (fun h => by omega) (fun _ => cond_dk ⟨by omega, by omega⟩ (cond_dk (by omega) (cond_r (by omega) (cond_dk ⟨by omega, by omega⟩ (cond_dk (by omega) ?_)))))
          rw [← hRQ]
          refine ⟨⟨M0, j + 1, M', es'⟩, ⟨hj1, hl', hs', hbad'⟩, ?_, rfl, ?_, fun _ _ _ h => h⟩
          · show (allC a l.length).length - (j + 1) < (allC a l.length).length - j
            omega
          · dsimp only
            rw [hch]
            exact fitBs_refl _
      have hir : -9223372036854775808 ≤ (l.length : Int) - 1 ∧ (l.length : Int) - 1 ≤ 9223372036854775807 := by omega
      have hF : ∀ (M' : Mde) (es' : Lst) (h : VH) (tt : Slots), h.nx = 22 → fitB (nsFo2.zip (BFo2 l t [D0, D1] Y y S O d a M' es' c)) h → fitS (dsI.zip (VFi2 (l.length - 1))) tt → FitP 0 h tt ⟨22, nsFo2.zip (BFo2 l t [D0, D1] Y y S O d a M' es' c)⟩ (dsI.zip (VFi2 (l.length - 1))) := fun _ _ _ _ h1 h2 h3 => ⟨⟨rfl, h1, h2⟩, h3⟩
      refine ⟨c, hc62 rfl, rfl, ⟨⟨hnc, cf.hl, cf.hp, cf.ht⟩, by omega, by omega⟩, cond_i (fun g => ?_) (fun g => ?_)⟩
      · have g : meetsF l t c y d = false := by simpa using g
        refine cond_r hir ⟨M, es, c, hF M es _ _ rfl ?_ ?_, hl6, fin M es hlost hsame (fun h => by rw [g] at h; cases h)⟩
        · exact ⟨VB.fit_refl _, VB.fit_refl _, VB.fit_refl _, VB.fit_refl _, VB.fit_refl _, VB.fit_refl _, VB.fit_refl _, VB.fit_refl _, VB.fit_refl _, VB.fit_refl _, VB.fit_refl _, VB.fit_refl _, VB.fit_refl _, VB.fit_refl _, VB.fit_refl _, VB.fit_refl _, VB.fit_refl _, VB.fit_refl _, VB.fit_refl _, VB.fit_refl _, VB.fit_refl _, trivial⟩
        · exact ⟨rfl, rfl, rfl, rfl, rfl, trivial⟩
      · have g : meetsF l t c y d = true := by simpa using g
        refine cond_r (by omega) ⟨a, c, rfl, rfl, hbd, O, lsF a c 6, M, es, ⟨rfl, rfl, rfl, rfl⟩, ⟨rfl, by omega⟩, ⟨rfl, rfl, rfl, rfl, rfl, rfl, rfl, rfl, rfl, rfl, rfl, rfl, rfl, trivial⟩, ⟨by omega, rfl, rfl⟩, ⟨by omega, hO, hleft, hlost⟩, ?_⟩
        rintro b s ⟨p1, p2, p3, p4⟩
        refine cond_i (fun g2 => ?_) (fun g2 => ?_)
        · have g2 : b = false := by simpa using g2
          refine cond_r hir ⟨s.M, s.es, c, hF s.M s.es _ _ rfl ?_ ?_, hl6, fin s.M s.es p2 (hsame.trans p3.later) (fun _ => ?_)⟩
          · exact ⟨VB.fit_refl _, VB.fit_refl _, VB.fit_refl _, VB.fit_refl _, VB.fit_refl _, VB.fit_refl _, VB.fit_refl _, VB.fit_refl _, VB.fit_refl _, VB.fit_refl _, VB.fit_refl _, VB.fit_refl _, VB.fit_refl _, VB.fit_refl _, VB.fit_refl _, VB.fit_refl _, VB.fit_refl _, VB.fit_refl _, VB.fit_refl _, VB.fit_refl _, VB.fit_refl _, trivial⟩
          · exact ⟨rfl, rfl, rfl, rfl, rfl, trivial⟩
          · rw [g2] at p1
            cases hx : planF l t [D0, D1] Y k O (lsF a c 6) with
            | none => rfl
            | some x => rw [hx] at p1; cases p1
        · have g2 : b = true := by simpa using g2
          subst g2
          obtain ⟨x, hx⟩ : ∃ x, planF l t [D0, D1] Y k O (lsF a c 6) = some x := by
            cases hx : planF l t [D0, D1] Y k O (lsF a c 6) with
            | none => rw [hx] at p1; cases p1
            | some x => exact ⟨x, rfl⟩
          have hyY : (0 : Int) ≤ y ∧ y < (Y : Int) := ⟨by omega, by omega⟩
          have hyY6 : 0 + y.toNat * 6 + 6 ≤ Y * 6 := by omega
          have fin2 : ∀ M2 : Mde, (∀ i, i < [D0, D1].length → M2 i = if O.testBit i = true then wrM (s.M i) y c else s.M i) → (∀ i, [D0, D1].length ≤ i → M2 i = s.M i) → ∀ bs, bs = BFoT2 l t [D0, D1] Y y S O d a M2 s.es c → RQ .ret VFo2 bs := by
            rintro M2 h2 h3 bs rfl
            rw [← hRQ]
            exact ⟨rfl, rfl, ⟨M2, s.es⟩, c, .inr ⟨postW_true hk hO (by omega) (hsucc x g hx) hx hsame ⟨p1, p2, p3, p4⟩ h2 h3, rfl⟩⟩
          refine cond_d (fun b0 => cond_dk hyY (cond_dk hyY6 ?_)) (fun b0 => ?_)
          · have b0 : O.testBit 0 = true := (bit_v O hO16 0 (by omega)).1 b0
            refine cond_d (fun b1 => cond_dk hyY (cond_dk hyY6 ?_)) (fun b1 => ?_)
            · have b1 : O.testBit 1 = true := (bit_v O hO16 1 (by omega)).1 b1
              exact fin2 (fun i => if i = 0 then wrM (s.M 0) y c else (if i = 1 then wrM (s.M 1) y c else (s.M i))) (fun i hi => by
                  match i, hi with
                  | 0, _ => rw [if_pos b0]; rfl
                  | 1, _ => rw [if_pos b1]; rfl
                  | _ + 2, hi => exact absurd hi (by show ¬ _ + 2 < 2; omega)) (fun i hi => by
                  have hi : 2 ≤ i := hi
                  rw [if_neg (show ¬ i = 0 by omega), if_neg (show ¬ i = 1 by omega)]) _ rfl
            · have b1 : ¬ O.testBit 1 = true := fun h => b1 ((bit_v O hO16 1 (by omega)).2 h)
              exact fin2 (fun i => if i = 0 then wrM (s.M 0) y c else (if i = 1 then s.M 1 else (s.M i))) (fun i hi => by
                  match i, hi with
                  | 0, _ => rw [if_pos b0]; rfl
                  | 1, _ => rw [if_neg b1]; rfl
                  | _ + 2, hi => exact absurd hi (by show ¬ _ + 2 < 2; omega)) (fun i hi => by
                  have hi : 2 ≤ i := hi
                  rw [if_neg (show ¬ i = 0 by omega), if_neg (show ¬ i = 1 by omega)]) _ rfl
          · have b0 : ¬ O.testBit 0 = true := fun h => b0 ((bit_v O hO16 0 (by omega)).2 h)
            refine cond_d (fun b1 => cond_dk hyY (cond_dk hyY6 ?_)) (fun b1 => ?_)
            · have b1 : O.testBit 1 = true := (bit_v O hO16 1 (by omega)).1 b1
              exact fin2 (fun i => if i = 0 then s.M 0 else (if i = 1 then wrM (s.M 1) y c else (s.M i))) (fun i hi => by
                  match i, hi with
                  | 0, _ => rw [if_neg b0]; rfl
                  | 1, _ => rw [if_pos b1]; rfl
                  | _ + 2, hi => exact absurd hi (by show ¬ _ + 2 < 2; omega)) (fun i hi => by
                  have hi : 2 ≤ i := hi
                  rw [if_neg (show ¬ i = 0 by omega), if_neg (show ¬ i = 1 by omega)]) _ rfl
            · have b1 : ¬ O.testBit 1 = true := fun h => b1 ((bit_v O hO16 1 (by omega)).2 h)
              exact fin2 (fun i => if i = 0 then s.M 0 else (if i = 1 then s.M 1 else (s.M i))) (fun i hi => by
                  match i, hi with
                  | 0, _ => rw [if_neg b0]; rfl
                  | 1, _ => rw [if_neg b1]; rfl
                  | _ + 2, hi => exact absurd hi (by show ¬ _ + 2 < 2; omega)) (fun i hi => by
                  have hi : 2 ≤ i := hi
                  rw [if_neg (show ¬ i = 0 by omega), if_neg (show ¬ i = 1 by omega)]) _ rfl
    · rintro lock tt h K ⟨M, es, hf, ⟨_, _, hpw⟩, k1, k2⟩
      refine ⟨⟨M, 0, M, es⟩, ?_, ⟨all_pos hm0, hpw.2.2.2, Same.refl _ _ _ _, fun i hi => absurd hi (Nat.not_lt_zero i)⟩, ?_⟩
      · dsimp only
        rw [chAt_zero hm0]; exact hf
      · rintro e vs bs ⟨rfl, rfl, st, n', ⟨hp, rfl⟩ | ⟨hp, rfl⟩⟩
        · exact k1 st n' hp
        · exact k2 st n' hp
  · rintro lock tt h K ⟨M, es, hf, ⟨h1, h2, h3⟩, _⟩
    exact (hh ⟨h1, h2, h3.1, h3.2.1, h3.2.2.1⟩).elim
end
end Go.Sx.Bln

/- blend: Plan's closures with 2 paths, as rows. -/

namespace Go.Sx.Bln
open Go Go.Sx Go.Proofs
set_option maxRecDepth 1000000

section
variable {l : List Stk} {t : Tst} {D0 D1 : List Int} {Y k : Nat}

theorem liftW2 {y S o d : Int} {a : Nat → Int} {b : Bool} {s : St} {M : Mde} {es : Lst} {nx : Nat} {bs : List (Nat × VB)} (hnx : 13 ≤ nx) (hat : atL nsB2 (BP2 l t [D0, D1] Y M es) ⟨nx, bs⟩)
    (hc : CallsV Try.prog 40 [.agg (I y :: I S :: nL a), I o, I d, .ptr (.own 3 0), .ptr (.own 11 0), .ptr (.own 1 0), .ptr (.own 6 0)] ⟨13, nsB2.zip (BP2 l t [D0, D1] Y M es)⟩ (.ret (.bool b)) ⟨13, nsB2.zip (BP2 l t [D0, D1] Y s.M s.es)⟩) :
    CallsV Try.prog 40 [.agg (I y :: I S :: nL a), I o, I d, .ptr (.own 3 0), .ptr (.own 11 0), .ptr (.own 1 0), .ptr (.own 6 0)] ⟨nx, bs⟩ (.ret (.bool b)) ⟨nx, (7, .fam [] (Y * 6) (s.M 0) 80) :: (8, .fam [] (Y * 6) (s.M 1) 80) :: (9, .map kS .bool s.es) :: bs⟩ := by
  obtain ⟨e0, e1, e2, e3, e4, e5, e6, e7, e8, e9, e10, e11, e12, _⟩ := hat
  have hput : (VH.mk nx ((7, .fam [] (Y * 6) (s.M 0) 80) :: (8, .fam [] (Y * 6) (s.M 1) 80) :: (9, .map kS .bool s.es) :: bs)).at = upd (upd (upd (VH.mk nx bs).at 9 (.map kS .bool s.es)) 8 (.fam [] (Y * 6) (s.M 1) 80)) 7 (.fam [] (Y * 6) (s.M 0) 80) := by
    have q2 : (VH.mk nx ((9, VB.map kS .bool s.es) :: bs)).at = upd (VH.mk nx bs).at 9 (.map kS .bool s.es) := VH.at_put ⟨nx, bs⟩ 9 _ (by rw [e9]; exact fun h => by cases h)
    have q1 : (VH.mk nx ((8, VB.fam [] (Y * 6) (s.M 1) 80) :: (9, VB.map kS .bool s.es) :: bs)).at = upd (upd (VH.mk nx bs).at 9 (.map kS .bool s.es)) 8 (.fam [] (Y * 6) (s.M 1) 80) := by
      rw [← q2]
      exact VH.at_put ⟨nx, (9, VB.map kS .bool s.es) :: bs⟩ 8 _ (by rw [q2]; simp only [upd, show ¬ (8 : Nat) = 9 by omega, if_false]; rw [e8]; exact fun h => by cases h)
    have q0 : (VH.mk nx ((7, VB.fam [] (Y * 6) (s.M 0) 80) :: (8, VB.fam [] (Y * 6) (s.M 1) 80) :: (9, VB.map kS .bool s.es) :: bs)).at = upd (upd (upd (VH.mk nx bs).at 9 (.map kS .bool s.es)) 8 (.fam [] (Y * 6) (s.M 1) 80)) 7 (.fam [] (Y * 6) (s.M 0) 80) := by
      rw [← q1]
      exact VH.at_put ⟨nx, (8, VB.fam [] (Y * 6) (s.M 1) 80) :: (9, VB.map kS .bool s.es) :: bs⟩ 7 _ (by rw [q1]; simp only [upd, show ¬ (7 : Nat) = 9 by omega, show ¬ (7 : Nat) = 8 by omega, if_false]; rw [e7]; exact fun h => by cases h)
    exact q0
  have := calls_ren (P := Try.prog) (h := ⟨nx, bs⟩) (h1 := ⟨nx, (7, .fam [] (Y * 6) (s.M 0) 80) :: (8, .fam [] (Y * 6) (s.M 1) 80) :: (9, .map kS .bool s.es) :: bs⟩) id (fun _ _ _ _ h => h) hc (fun n hn => by
    have hn : n < 13 := hn
    match n, hn with
    | 0, _ => exact ⟨trivial, e0⟩
    | 1, _ => exact ⟨trivial, e1⟩
    | 2, _ => exact ⟨trivial, e2⟩
    | 3, _ => exact ⟨trivial, e3⟩
    | 4, _ => exact ⟨trivial, e4⟩
    | 5, _ => exact ⟨trivial, e5⟩
    | 6, _ => exact ⟨trivial, e6⟩
    | 7, _ => exact ⟨trivial, e7⟩
    | 8, _ => exact ⟨trivial, e8⟩
    | 9, _ => exact ⟨trivial, e9⟩
    | 10, _ => exact ⟨trivial, e10⟩
    | 11, _ => exact ⟨trivial, e11⟩
    | 12, _ => exact ⟨trivial, e12⟩
    | _ + 13, hn => exact absurd hn (by omega)) (fun n hn => by
    have hn : n < 13 := hn
    match n, hn with
    | 0, _ => exact ⟨trivial, rfl, by rw [hput]; simp only [upd, show ¬ (0 : Nat) = 9 by omega, show ¬ (0 : Nat) = 7 by omega, show ¬ (0 : Nat) = 8 by omega, if_false, id]; exact e0⟩
    | 1, _ => exact ⟨trivial, rfl, by rw [hput]; simp only [upd, show ¬ (1 : Nat) = 9 by omega, show ¬ (1 : Nat) = 7 by omega, show ¬ (1 : Nat) = 8 by omega, if_false, id]; exact e1⟩
    | 2, _ => exact ⟨trivial, rfl, by rw [hput]; simp only [upd, show ¬ (2 : Nat) = 9 by omega, show ¬ (2 : Nat) = 7 by omega, show ¬ (2 : Nat) = 8 by omega, if_false, id]; exact e2⟩
    | 3, _ => exact ⟨trivial, rfl, by rw [hput]; simp only [upd, show ¬ (3 : Nat) = 9 by omega, show ¬ (3 : Nat) = 7 by omega, show ¬ (3 : Nat) = 8 by omega, if_false, id]; exact e3⟩
    | 4, _ => exact ⟨trivial, rfl, by rw [hput]; simp only [upd, show ¬ (4 : Nat) = 9 by omega, show ¬ (4 : Nat) = 7 by omega, show ¬ (4 : Nat) = 8 by omega, if_false, id]; exact e4⟩
    | 5, _ => exact ⟨trivial, rfl, by rw [hput]; simp only [upd, show ¬ (5 : Nat) = 9 by omega, show ¬ (5 : Nat) = 7 by omega, show ¬ (5 : Nat) = 8 by omega, if_false, id]; exact e5⟩
    | 6, _ => exact ⟨trivial, rfl, by rw [hput]; simp only [upd, show ¬ (6 : Nat) = 9 by omega, show ¬ (6 : Nat) = 7 by omega, show ¬ (6 : Nat) = 8 by omega, if_false, id]; exact e6⟩
    | 7, _ => exact ⟨trivial, rfl, by rw [hput]; simp [upd]; rfl⟩
    | 8, _ => exact ⟨trivial, rfl, by rw [hput]; simp [upd]; rfl⟩
    | 9, _ => exact ⟨trivial, rfl, by rw [hput]; simp [upd]; rfl⟩
    | 10, _ => exact ⟨trivial, rfl, by rw [hput]; simp only [upd, show ¬ (10 : Nat) = 9 by omega, show ¬ (10 : Nat) = 7 by omega, show ¬ (10 : Nat) = 8 by omega, if_false, id]; exact e10⟩
    | 11, _ => exact ⟨trivial, rfl, by rw [hput]; simp only [upd, show ¬ (11 : Nat) = 9 by omega, show ¬ (11 : Nat) = 7 by omega, show ¬ (11 : Nat) = 8 by omega, if_false, id]; exact e11⟩
    | 12, _ => exact ⟨trivial, rfl, by rw [hput]; simp only [upd, show ¬ (12 : Nat) = 9 by omega, show ¬ (12 : Nat) = 7 by omega, show ¬ (12 : Nat) = 8 by omega, if_false, id]; exact e12⟩
    | _ + 13, hn => exact absurd hn (by omega)) (fun q hq => by
    rw [hput]
    have hq' : ∀ n, n < 13 → n ≠ q := fun n hn => hq n hn
    simp only [upd, if_neg (hq' 7 (by omega)).symm, if_neg (hq' 8 (by omega)).symm, if_neg (hq' 9 (by omega)).symm]) (fun n hn => by
    have hn : n < 13 := hn
    match n, hn with
    | 0, _ => rfl
    | 1, _ => rfl
    | 2, _ => rfl
    | 3, _ => rfl
    | 4, _ => rfl
    | 5, _ => rfl
    | 6, _ => rfl
    | 7, _ => rfl
    | 8, _ => rfl
    | 9, _ => rfl
    | 10, _ => rfl
    | 11, _ => rfl
    | 12, _ => rfl
    | _ + 13, hn => exact absurd hn (by omega)) rfl rfl
  exact this
theorem liftF2 {y S o d : Int} {a : Nat → Int} {b : Bool} {s : St} {M : Mde} {es : Lst} {nx : Nat} {bs : List (Nat × VB)} (hnx : 13 ≤ nx) (hat : atL nsB2 (BP2 l t [D0, D1] Y M es) ⟨nx, bs⟩)
    (hc : CallsV Try.prog 44 [.agg (I y :: I S :: nL a), .ptr (.own 4 0), .ptr (.own 10 0), .ptr (.own 1 0), .ptr (.own 12 0)] ⟨13, nsB2.zip (BP2 l t [D0, D1] Y M es)⟩ (.ret (.bool b)) ⟨13, nsB2.zip (BP2 l t [D0, D1] Y s.M s.es)⟩) :
    CallsV Try.prog 44 [.agg (I y :: I S :: nL a), .ptr (.own 4 0), .ptr (.own 10 0), .ptr (.own 1 0), .ptr (.own 12 0)] ⟨nx, bs⟩ (.ret (.bool b)) ⟨nx, (7, .fam [] (Y * 6) (s.M 0) 80) :: (8, .fam [] (Y * 6) (s.M 1) 80) :: (9, .map kS .bool s.es) :: bs⟩ := by
  obtain ⟨e0, e1, e2, e3, e4, e5, e6, e7, e8, e9, e10, e11, e12, _⟩ := hat
  have hput : (VH.mk nx ((7, .fam [] (Y * 6) (s.M 0) 80) :: (8, .fam [] (Y * 6) (s.M 1) 80) :: (9, .map kS .bool s.es) :: bs)).at = upd (upd (upd (VH.mk nx bs).at 9 (.map kS .bool s.es)) 8 (.fam [] (Y * 6) (s.M 1) 80)) 7 (.fam [] (Y * 6) (s.M 0) 80) := by
    have q2 : (VH.mk nx ((9, VB.map kS .bool s.es) :: bs)).at = upd (VH.mk nx bs).at 9 (.map kS .bool s.es) := VH.at_put ⟨nx, bs⟩ 9 _ (by rw [e9]; exact fun h => by cases h)
    have q1 : (VH.mk nx ((8, VB.fam [] (Y * 6) (s.M 1) 80) :: (9, VB.map kS .bool s.es) :: bs)).at = upd (upd (VH.mk nx bs).at 9 (.map kS .bool s.es)) 8 (.fam [] (Y * 6) (s.M 1) 80) := by
      rw [← q2]
      exact VH.at_put ⟨nx, (9, VB.map kS .bool s.es) :: bs⟩ 8 _ (by rw [q2]; simp only [upd, show ¬ (8 : Nat) = 9 by omega, if_false]; rw [e8]; exact fun h => by cases h)
    have q0 : (VH.mk nx ((7, VB.fam [] (Y * 6) (s.M 0) 80) :: (8, VB.fam [] (Y * 6) (s.M 1) 80) :: (9, VB.map kS .bool s.es) :: bs)).at = upd (upd (upd (VH.mk nx bs).at 9 (.map kS .bool s.es)) 8 (.fam [] (Y * 6) (s.M 1) 80)) 7 (.fam [] (Y * 6) (s.M 0) 80) := by
      rw [← q1]
      exact VH.at_put ⟨nx, (8, VB.fam [] (Y * 6) (s.M 1) 80) :: (9, VB.map kS .bool s.es) :: bs⟩ 7 _ (by rw [q1]; simp only [upd, show ¬ (7 : Nat) = 9 by omega, show ¬ (7 : Nat) = 8 by omega, if_false]; rw [e7]; exact fun h => by cases h)
    exact q0
  have := calls_ren (P := Try.prog) (h := ⟨nx, bs⟩) (h1 := ⟨nx, (7, .fam [] (Y * 6) (s.M 0) 80) :: (8, .fam [] (Y * 6) (s.M 1) 80) :: (9, .map kS .bool s.es) :: bs⟩) id (fun _ _ _ _ h => h) hc (fun n hn => by
    have hn : n < 13 := hn
    match n, hn with
    | 0, _ => exact ⟨trivial, e0⟩
    | 1, _ => exact ⟨trivial, e1⟩
    | 2, _ => exact ⟨trivial, e2⟩
    | 3, _ => exact ⟨trivial, e3⟩
    | 4, _ => exact ⟨trivial, e4⟩
    | 5, _ => exact ⟨trivial, e5⟩
    | 6, _ => exact ⟨trivial, e6⟩
    | 7, _ => exact ⟨trivial, e7⟩
    | 8, _ => exact ⟨trivial, e8⟩
    | 9, _ => exact ⟨trivial, e9⟩
    | 10, _ => exact ⟨trivial, e10⟩
    | 11, _ => exact ⟨trivial, e11⟩
    | 12, _ => exact ⟨trivial, e12⟩
    | _ + 13, hn => exact absurd hn (by omega)) (fun n hn => by
    have hn : n < 13 := hn
    match n, hn with
    | 0, _ => exact ⟨trivial, rfl, by rw [hput]; simp only [upd, show ¬ (0 : Nat) = 9 by omega, show ¬ (0 : Nat) = 7 by omega, show ¬ (0 : Nat) = 8 by omega, if_false, id]; exact e0⟩
    | 1, _ => exact ⟨trivial, rfl, by rw [hput]; simp only [upd, show ¬ (1 : Nat) = 9 by omega, show ¬ (1 : Nat) = 7 by omega, show ¬ (1 : Nat) = 8 by omega, if_false, id]; exact e1⟩
    | 2, _ => exact ⟨trivial, rfl, by rw [hput]; simp only [upd, show ¬ (2 : Nat) = 9 by omega, show ¬ (2 : Nat) = 7 by omega, show ¬ (2 : Nat) = 8 by omega, if_false, id]; exact e2⟩
    | 3, _ => exact ⟨trivial, rfl, by rw [hput]; simp only [upd, show ¬ (3 : Nat) = 9 by omega, show ¬ (3 : Nat) = 7 by omega, show ¬ (3 : Nat) = 8 by omega, if_false, id]; exact e3⟩
    | 4, _ => exact ⟨trivial, rfl, by rw [hput]; simp only [upd, show ¬ (4 : Nat) = 9 by omega, show ¬ (4 : Nat) = 7 by omega, show ¬ (4 : Nat) = 8 by omega, if_false, id]; exact e4⟩
    | 5, _ => exact ⟨trivial, rfl, by rw [hput]; simp only [upd, show ¬ (5 : Nat) = 9 by omega, show ¬ (5 : Nat) = 7 by omega, show ¬ (5 : Nat) = 8 by omega, if_false, id]; exact e5⟩
    | 6, _ => exact ⟨trivial, rfl, by rw [hput]; simp only [upd, show ¬ (6 : Nat) = 9 by omega, show ¬ (6 : Nat) = 7 by omega, show ¬ (6 : Nat) = 8 by omega, if_false, id]; exact e6⟩
    | 7, _ => exact ⟨trivial, rfl, by rw [hput]; simp [upd]; rfl⟩
    | 8, _ => exact ⟨trivial, rfl, by rw [hput]; simp [upd]; rfl⟩
    | 9, _ => exact ⟨trivial, rfl, by rw [hput]; simp [upd]; rfl⟩
    | 10, _ => exact ⟨trivial, rfl, by rw [hput]; simp only [upd, show ¬ (10 : Nat) = 9 by omega, show ¬ (10 : Nat) = 7 by omega, show ¬ (10 : Nat) = 8 by omega, if_false, id]; exact e10⟩
    | 11, _ => exact ⟨trivial, rfl, by rw [hput]; simp only [upd, show ¬ (11 : Nat) = 9 by omega, show ¬ (11 : Nat) = 7 by omega, show ¬ (11 : Nat) = 8 by omega, if_false, id]; exact e11⟩
    | 12, _ => exact ⟨trivial, rfl, by rw [hput]; simp only [upd, show ¬ (12 : Nat) = 9 by omega, show ¬ (12 : Nat) = 7 by omega, show ¬ (12 : Nat) = 8 by omega, if_false, id]; exact e12⟩
    | _ + 13, hn => exact absurd hn (by omega)) (fun q hq => by
    rw [hput]
    have hq' : ∀ n, n < 13 → n ≠ q := fun n hn => hq n hn
    simp only [upd, if_neg (hq' 7 (by omega)).symm, if_neg (hq' 8 (by omega)).symm, if_neg (hq' 9 (by omega)).symm]) (fun n hn => by
    have hn : n < 13 := hn
    match n, hn with
    | 0, _ => rfl
    | 1, _ => rfl
    | 2, _ => rfl
    | 3, _ => rfl
    | 4, _ => rfl
    | 5, _ => rfl
    | 6, _ => rfl
    | 7, _ => rfl
    | 8, _ => rfl
    | 9, _ => rfl
    | 10, _ => rfl
    | 11, _ => rfl
    | 12, _ => rfl
    | _ + 13, hn => exact absurd hn (by omega)) rfl rfl
  exact this

theorem follow_v2 (hfind : SpOk Try.prog (findR2 l t [D0, D1] Y k).1 (findR2 l t [D0, D1] Y k).2) (cf : Cfg l t [D0, D1] Y) {y S d : Int} {O : Nat} {a : Nat → Int} {M : Mde} {es : Lst} (hy : y = (Y : Int) - (k + 1 : Nat)) (hp : PreW l t [D0, D1] Y k O a es) :
    ∃ b s, PostW l t [D0, D1] Y k O d a M b s ∧ CallsV Try.prog 40 [.agg (I y :: I S :: nL a), I O, I d, .ptr (.own 3 0), .ptr (.own 11 0), .ptr (.own 1 0), .ptr (.own 6 0)] ⟨13, nsB2.zip (BP2 l t [D0, D1] Y M es)⟩ (.ret (.bool b)) ⟨13, nsB2.zip (BP2 l t [D0, D1] Y s.M s.es)⟩ := by
  have hall : LoopsOk Try.prog 74 [(0, lFo2 l t [D0, D1] Y k y S d O a)] := fun x hx => by
    simp only [List.mem_singleton] at hx
    subst hx
    exact ⟨by kernel_rfl, lFo2_ok hfind⟩
  obtain ⟨r, h', ⟨b, s, hw, rfl, hf⟩, hc⟩ := of_callN (callL_good hmix noSp hall (un := 10) 20) (f := 40) (args := [.agg (I y :: I S :: nL a), I O, I d, .ptr (.own 3 0), .ptr (.own 11 0), .ptr (.own 1 0), .ptr (.own 6 0)]) (h := ⟨13, nsB2.zip (BP2 l t [D0, D1] Y M es)⟩) (K := fun r h' => ∃ b s, PostW l t [D0, D1] Y k O d a M b s ∧ r = .ret (.bool b) ∧ fitB (nsB2.zip (BP2 l t [D0, D1] Y s.M s.es)) h') (by
    refine cast (fob2_ev l t D0 D1 Y k M es y S d O a _).symm ⟨M, es, ⟨⟨rfl, rfl, VB.fit_refl _, VB.fit_refl _, VB.fit_refl _, VB.fit_refl _, VB.fit_refl _, VB.fit_refl _, VB.fit_refl _, VB.fit_refl _, VB.fit_refl _, VB.fit_refl _, VB.fit_refl _, VB.fit_refl _, VB.fit_refl _, VB.fit_refl _, VB.fit_refl _, VB.fit_refl _, VB.fit_refl _, VB.fit_refl _, VB.fit_refl _, VB.fit_refl _, VB.fit_refl _, trivial⟩, rfl, rfl, rfl, rfl, trivial⟩, ⟨hy, cf, hp⟩, fun s n' hw => ⟨false, s, hw, rfl, VB.fit_refl _, VB.fit_refl _, VB.fit_refl _, VB.fit_refl _, VB.fit_refl _, VB.fit_refl _, VB.fit_refl _, VB.fit_refl _, VB.fit_refl _, VB.fit_refl _, VB.fit_refl _, VB.fit_refl _, VB.fit_refl _, trivial⟩, fun s n' hw => ⟨true, s, hw, rfl, VB.fit_refl _, VB.fit_refl _, VB.fit_refl _, VB.fit_refl _, VB.fit_refl _, VB.fit_refl _, VB.fit_refl _, VB.fit_refl _, VB.fit_refl _, VB.fit_refl _, VB.fit_refl _, VB.fit_refl _, VB.fit_refl _, trivial⟩⟩)
  exact ⟨b, s, hw, calls_weak hc (Nat.le_refl _) hf rfl rfl⟩
theorem folR2_ok (hfind : SpOk Try.prog (findR2 l t [D0, D1] Y k).1 (findR2 l t [D0, D1] Y k).2) (cf : Cfg l t [D0, D1] Y) : SpOk Try.prog (folR2 l t [D0, D1] Y k).1 (folR2 l t [D0, D1] Y k).2 := by
  intro lock args h K hK
  simp only [folR2] at hK
  split at hK
  · rename_i nx bs
    obtain ⟨S', O, a, M, es, ⟨rfl, rfl, rfl, rfl⟩, ⟨rfl, hnx⟩, hat, ⟨hy, rfl, rfl, rfl⟩, hp, hK⟩ := hK
    obtain ⟨b, s, hw, hc⟩ := follow_v2 hfind cf hy hp
    exact ⟨_, _, hK b s hw, lock0 _ _, liftW2 hnx hat hc⟩
  · exact hK.elim

/-! 'find'. -/
structure FS2 where
  M0 : Mde
  r : Nat
  acc : Rsl
  s : St
def OF2 (l : List Stk) (t : Tst) (P : List (List Int)) (Y k : Nat) (y : Int) (S : Nat) (a : Nat → Int) (f : FS2) (e : VEx) (vs : List VV) (bs : List VB) : Prop :=
  (e = .exit 0 ∧ vs = VF2 y S a 0 ∧ ∃ st, PostF l t P Y (k + 1) S a f.M0 true st ∧ bs = BF2 l t P Y y S a st.M st.es) ∨ (e = .ret ∧ ∃ (r : Int) (st : St), PostF l t P Y (k + 1) S a f.M0 false st ∧ vs = VF2 y S a r ∧ bs = BF2 l t P Y y S a st.M st.es)
theorem lFi2_ok (hfol : SpOk Try.prog (folR2 l t [D0, D1] Y k).1 (folR2 l t [D0, D1] Y k).2) {y : Int} {S : Nat} {a : Nat → Int} : LSound Try.prog true (.block 0 (.loop (loopB 0 (bodyOf Try.prog 44)))) (ntOf Try.prog 44) (lFi2 l t [D0, D1] Y k y S a) := by
  by_cases hh : y = (Y : Int) - (k + 1 : Nat) ∧ Cfg l t [D0, D1] Y ∧ k + 1 ≤ Y ∧ leftB l a
  · obtain ⟨hy, cf, hk, ha⟩ := hh
    refine loop_rowD hmix (noL_good (tab1 hfol)) (un := 10) (ds := dsF2) (ns := nsF2) (nx := 14) (lsp := fun f : FS2 => tabB [(2, lG2 l t [D0, D1] Y k y S a f.r)]) (fun f : FS2 => VF2 y S a f.r) (fun f => BF2 l t [D0, D1] Y y S a f.s.M f.s.es) (fun f => DoneF l t [D0, D1] Y k S a f.M0 f.r f.acc f.s) (fun f => f.r) (OF2 l t [D0, D1] Y k y S a) (fun _ _ => lsp_one (by kernel_rfl) lG2_ok) ?_ ?_
    · rintro ⟨M0, r, acc, s⟩ hd
      dsimp only at hd ⊢
      refine cast (gm2_ev l t D0 D1 Y k s.M s.es y S r a _).symm ?_
      have hr16 : r < 16 := Nat.lt_of_lt_of_le hd.lt (Nat.pow_le_pow_right (n := 2) (by omega) (show 2 ≤ 4 by omega))
      by_cases hr : r = 0
      · subst hr
        refine cond_d (fun h => by omega) (fun _ => .inl ⟨rfl, rfl, s, done_end hd, rfl⟩)
      · refine cond_dk (by omega) ⟨s.M, s.es, ⟨⟨rfl, rfl, VB.fit_refl _, VB.fit_refl _, VB.fit_refl _, VB.fit_refl _, VB.fit_refl _, VB.fit_refl _, VB.fit_refl _, VB.fit_refl _, VB.fit_refl _, VB.fit_refl _, VB.fit_refl _, VB.fit_refl _, VB.fit_refl _, VB.fit_refl _, trivial⟩, rfl, rfl, rfl, rfl, rfl, rfl, rfl, rfl, rfl, rfl, rfl, rfl, rfl, trivial⟩, ⟨by omega, hk, cf, hr16⟩, ?_⟩
        intro o d hg
        have ho : o < 2 ^ [D0, D1].length := by
          have := grpF_le cf.nd (Y - (k + 1)) r [D0, D1].length
          rw [hg] at this; exact this
        have ho16 : o < 16 := Nat.lt_of_lt_of_le ho (Nat.pow_le_pow_right (n := 2) (by omega) (show 2 ≤ 4 by omega))
        refine ⟨S, o, a, s.M, s.es, ⟨rfl, rfl, rfl, rfl⟩, ⟨rfl, by omega⟩, ⟨rfl, rfl, rfl, rfl, rfl, rfl, rfl, rfl, rfl, rfl, rfl, rfl, rfl, trivial⟩, ⟨hy, rfl, rfl, rfl⟩, ⟨hk, ho, ha, hd.lost⟩, ?_⟩
        intro b s' hw
        obtain ⟨d1, d2⟩ := done_step cf.nd hd hr hg (s' := s')
        refine cond_i (fun g => ?_) (fun g => ?_)
        · have g : b = false := by simpa using g
          subst g
          obtain ⟨z1, z2, z3⟩ := d2 hw
          refine ⟨key82, .inr ⟨rfl, r, ⟨s'.M, setE s'.es (kyF y S a) 1⟩, ⟨by rw [z1]; rfl, ?_, z3, fun x hx => by rw [z1] at hx; cases hx⟩, rfl, rfl⟩⟩
          have := lost_set z2 hk z1
          rw [← hy] at this
          exact this
        · have g : b = true := by simpa using g
          subst g
          obtain ⟨acc', hd', hlt⟩ := d1 hw
          rw [andnot_v r hr16 o ho16]
          exact ⟨⟨M0, _, acc', s'⟩, hd', hlt, rfl, fitBs_refl _, fun _ _ _ h => h⟩
    · rintro lock tt h K ⟨M, es, hf, ⟨_, _, hp⟩, k1, k2⟩
      refine ⟨⟨M, S, fun _ _ _ => 0, ⟨M, es⟩⟩, hf, done_start hp, ?_⟩
      rintro e vs bs (⟨rfl, rfl, st, hp, rfl⟩ | ⟨rfl, r, st, hp, rfl, rfl⟩)
      · exact k1 st hp
      · exact k2 st r hp
  · rintro lock tt h K ⟨M, es, hf, ⟨h1, h2, h3⟩, _⟩
    exact (hh ⟨h1, h2, h3.1, h3.2.2.1⟩).elim

theorem find_z2 (cf : Cfg l t [D0, D1] Y) {y : Int} {S : Nat} {a : Nat → Int} {M : Mde} {es : Lst} (hy : y = (Y : Int)) (hp : PreF l t [D0, D1] Y 0 S a es) :
    ∃ b s, PostF l t [D0, D1] Y 0 S a M b s ∧ CallsV Try.prog 44 [.agg (I y :: I S :: nL a), .ptr (.own 4 0), .ptr (.own 10 0), .ptr (.own 1 0), .ptr (.own 12 0)] ⟨13, nsB2.zip (BP2 l t [D0, D1] Y M es)⟩ (.ret (.bool b)) ⟨13, nsB2.zip (BP2 l t [D0, D1] Y s.M s.es)⟩ := by
  have hall : LoopsOk Try.prog 44 [(0, lZ)] := fun x hx => by
    simp only [List.mem_singleton] at hx
    subst hx
    exact ⟨by kernel_rfl, lZ_ok⟩
  obtain ⟨r, h', ⟨rfl, hf⟩, hc⟩ := of_callN (callL_good hmix noSp hall (un := 10) 20) (f := 44) (args := [.agg (I y :: I S :: nL a), .ptr (.own 4 0), .ptr (.own 10 0), .ptr (.own 1 0), .ptr (.own 12 0)]) (h := ⟨13, nsB2.zip (BP2 l t [D0, D1] Y M es)⟩) (K := fun r h' => r = .ret (.bool true) ∧ fitB (nsB2.zip (BP2 l t [D0, D1] Y M es)) h') (by
    refine cast (fiz2_ev l t D0 D1 Y M es y S a _).symm (cond_dk hy ⟨rfl, VB.fit_refl _, VB.fit_refl _, VB.fit_refl _, VB.fit_refl _, VB.fit_refl _, VB.fit_refl _, VB.fit_refl _, VB.fit_refl _, VB.fit_refl _, VB.fit_refl _, VB.fit_refl _, VB.fit_refl _, VB.fit_refl _, trivial⟩))
  exact ⟨true, ⟨M, es⟩, ⟨rfl, hp.2.2.2, Same.refl _ _ _ _, fun x _ i y j _ _ h1 h2 => by omega⟩, calls_weak hc (Nat.le_refl _) hf rfl rfl⟩
theorem find_s2 (hfol : SpOk Try.prog (folR2 l t [D0, D1] Y k).1 (folR2 l t [D0, D1] Y k).2) (cf : Cfg l t [D0, D1] Y) {y : Int} {S : Nat} {a : Nat → Int} {M : Mde} {es : Lst} (hy : y = (Y : Int) - (k + 1 : Nat)) (hp : PreF l t [D0, D1] Y (k + 1) S a es) :
    ∃ b s, PostF l t [D0, D1] Y (k + 1) S a M b s ∧ CallsV Try.prog 44 [.agg (I y :: I S :: nL a), .ptr (.own 4 0), .ptr (.own 10 0), .ptr (.own 1 0), .ptr (.own 12 0)] ⟨13, nsB2.zip (BP2 l t [D0, D1] Y M es)⟩ (.ret (.bool b)) ⟨13, nsB2.zip (BP2 l t [D0, D1] Y s.M s.es)⟩ := by
  have hall : LoopsOk Try.prog 44 [(0, lFi2 l t [D0, D1] Y k y S a)] := fun x hx => by
    simp only [List.mem_singleton] at hx
    subst hx
    exact ⟨by kernel_rfl, lFi2_ok hfol⟩
  obtain ⟨r, h', ⟨b, s, hw, rfl, hf⟩, hc⟩ := of_callN (callL_good hmix noSp hall (un := 10) 20) (f := 44) (args := [.agg (I y :: I S :: nL a), .ptr (.own 4 0), .ptr (.own 10 0), .ptr (.own 1 0), .ptr (.own 12 0)]) (h := ⟨13, nsB2.zip (BP2 l t [D0, D1] Y M es)⟩) (K := fun r h' => ∃ b s, PostF l t [D0, D1] Y (k + 1) S a M b s ∧ r = .ret (.bool b) ∧ fitB (nsB2.zip (BP2 l t [D0, D1] Y s.M s.es)) h') (by
    refine cast (fib2_ev l t D0 D1 Y k M es y S a _).symm ?_
    have hk := hp.1
    refine cond_d (fun h => by omega) (fun _ => ⟨key82, cond_d (fun h => ⟨false, ⟨M, es⟩, ?_, rfl, VB.fit_refl _, VB.fit_refl _, VB.fit_refl _, VB.fit_refl _, VB.fit_refl _, VB.fit_refl _, VB.fit_refl _, VB.fit_refl _, VB.fit_refl _, VB.fit_refl _, VB.fit_refl _, VB.fit_refl _, VB.fit_refl _, trivial⟩) (fun _ => ⟨M, es, ⟨⟨rfl, rfl, VB.fit_refl _, VB.fit_refl _, VB.fit_refl _, VB.fit_refl _, VB.fit_refl _, VB.fit_refl _, VB.fit_refl _, VB.fit_refl _, VB.fit_refl _, VB.fit_refl _, VB.fit_refl _, VB.fit_refl _, VB.fit_refl _, VB.fit_refl _, trivial⟩, rfl, rfl, rfl, rfl, rfl, rfl, rfl, rfl, trivial⟩, ⟨hy, cf, hp⟩, fun s hw => ⟨true, s, hw, rfl, VB.fit_refl _, VB.fit_refl _, VB.fit_refl _, VB.fit_refl _, VB.fit_refl _, VB.fit_refl _, VB.fit_refl _, VB.fit_refl _, VB.fit_refl _, VB.fit_refl _, VB.fit_refl _, VB.fit_refl _, VB.fit_refl _, trivial⟩, fun s r hw => ⟨false, s, hw, rfl, VB.fit_refl _, VB.fit_refl _, VB.fit_refl _, VB.fit_refl _, VB.fit_refl _, VB.fit_refl _, VB.fit_refl _, VB.fit_refl _, VB.fit_refl _, VB.fit_refl _, VB.fit_refl _, VB.fit_refl _, VB.fit_refl _, trivial⟩⟩)⟩)
    have h : valOf es (kyF y S a) = 1 := h
    have hn := lost_get cf.hl.1 hp.2.2.2 (S := S) (a := a) hk (by rw [← hy, h]; omega)
    exact ⟨by rw [hn]; rfl, hp.2.2.2, Same.refl _ _ _ _, fun x hx => by rw [hn] at hx; cases hx⟩)
  exact ⟨b, s, hw, calls_weak hc (Nat.le_refl _) hf rfl rfl⟩

theorem findR2_ok (cf : Cfg l t [D0, D1] Y) : ∀ k : Nat, SpOk Try.prog (findR2 l t [D0, D1] Y k).1 (findR2 l t [D0, D1] Y k).2 := by
  have key : ∀ k : Nat, (∀ (y : Int) (S : Nat) (a : Nat → Int) (M : Mde) (es : Lst), y = (Y : Int) - k → PreF l t [D0, D1] Y k S a es → ∃ b s, PostF l t [D0, D1] Y k S a M b s ∧ CallsV Try.prog 44 [.agg (I y :: I S :: nL a), .ptr (.own 4 0), .ptr (.own 10 0), .ptr (.own 1 0), .ptr (.own 12 0)] ⟨13, nsB2.zip (BP2 l t [D0, D1] Y M es)⟩ (.ret (.bool b)) ⟨13, nsB2.zip (BP2 l t [D0, D1] Y s.M s.es)⟩) → SpOk Try.prog (findR2 l t [D0, D1] Y k).1 (findR2 l t [D0, D1] Y k).2 := by
    intro k hv lock args h K hK
    simp only [findR2] at hK
    split at hK
    · rename_i nx bs
      obtain ⟨S', a, M, es, ⟨rfl, rfl, rfl, rfl⟩, ⟨rfl, hnx⟩, hat, ⟨hy, rfl, rfl⟩, hp, hK⟩ := hK
      obtain ⟨b, s, hw, hc⟩ := hv _ S' a M es hy hp
      exact ⟨_, _, hK b s hw, lock0 _ _, liftF2 (o := 0) (d := 0) hnx hat hc⟩
    · exact hK.elim
  intro k
  induction k with
  | zero => exact key 0 (fun y S a M es hy hp => find_z2 cf (by omega) hp)
  | succ k ih => exact key (k + 1) (fun y S a M es hy hp => find_s2 (folR2_ok ih cf) cf hy hp)
end
end Go.Sx.Bln

/- blend: Plan with 2 paths of 2 years, evaluated. -/

namespace Go.Sx.Bln
open Go Go.Sx Go.Proofs
set_option maxRecDepth 1000000

theorem pl22_ev (l : List Stk) (t : Tst) (d00 d01 d10 d11 : Int) (Q : VRes → VH → Prop) : callN Try.prog (tabS [asR l t, casksR l t, apR [[d00, d01], [d10, d11]], findR2 l t [[d00, d01], [d10, d11]] 2 2, listT]) noL 10 20 0 (.fn 17) [stD l, .agg (tsL t), pthD [[d00, d01], [d10, d11]]] ⟨0, []⟩ (fun r h => Q r h) =
  (isD (VH.mk (2) [(1, VB.cells [VV.tl [[d00, d01], [d10, d11]].length 1 (pthG [[d00, d01], [d10, d11]])] 26), (0, VB.cells [VV.tl t.T.length 1 (dG t.T), I t.far, I t.least] 25)]) 2 (VV.tl l.length 5 (stG l)) (stD l) ∧ isD (VH.mk (2) [(1, VB.cells [VV.tl [[d00, d01], [d10, d11]].length 1 (pthG [[d00, d01], [d10, d11]])] 26), (0, VB.cells [VV.tl t.T.length 1 (dG t.T), I t.far, I t.least] 25)]) 2 (VV.agg [VV.tl t.T.length 1 (dG t.T), I t.far, I t.least]) (VV.agg (tsL t)) ∧ bif !okAll l t then
 Q (VRes.ret (VV.tup [VV.nils, I 1])) (VH.mk (2) [(1, VB.cells [VV.tl [[d00, d01], [d10, d11]].length 1 (pthG [[d00, d01], [d10, d11]])] 26), (0, VB.cells [VV.tl t.T.length 1 (dG t.T), I t.far, I t.least] 25)])
 else isD (VH.mk (2) [(1, VB.cells [VV.tl [[d00, d01], [d10, d11]].length 1 (pthG [[d00, d01], [d10, d11]])] 26), (0, VB.cells [VV.tl t.T.length 1 (dG t.T), I t.far, I t.least] 25)]) 4 (VV.tl [[d00, d01], [d10, d11]].length 1 (pthG [[d00, d01], [d10, d11]])) (pthD [[d00, d01], [d10, d11]]) ∧ pthB [[d00, d01], [d10, d11]] ∧ bif !okPaths [[d00, d01], [d10, d11]] then
 Q (VRes.ret (VV.tup [VV.nils, I 2])) (VH.mk (2) [(1, VB.cells [VV.tl [[d00, d01], [d10, d11]].length 1 (pthG [[d00, d01], [d10, d11]])] 26), (0, VB.cells [VV.tl t.T.length 1 (dG t.T), I t.far, I t.least] 25)])
 else isD (maskH [0, 1, 2, 3, 4, 5, 6, 7, 8, 9, 10, 11, 12] (VH.mk (13) ((11, VB.cells [VV.func 44 [] [VV.ptr (VA.own (4) 0), VV.ptr (VA.own (10) 0), VV.ptr (VA.own (1) 0), VV.ptr (VA.own (12) 0)]] 78) :: (12, VB.cells [VV.func 40 [] [VV.ptr (VA.own (3) 0), VV.ptr (VA.own (11) 0), VV.ptr (VA.own (1) 0), VV.ptr (VA.own (6) 0)]] 88) :: (12, VB.cells [VV.nilf] 88) :: (11, VB.cells [VV.nilf] 78) :: (10, VB.cells [VV.mp (9)] 77) :: (10, VB.cells [VV.opq (Value.map none)] 77) :: (9, VB.map ([PK.int IntKind.i64] ++ ([PK.int IntKind.i64] ++ ((List.replicate 6 [PK.int IntKind.i64]).flatten ++ []))) PK.bool []) :: (5, VB.cells [VV.slice (VA.fa (7) 0 0) (↑([[d00, d01], [d10, d11]].getD (Int.toNat (0 : Int)) []).length : Int).toNat (↑([[d00, d01], [d10, d11]].getD (Int.toNat (0 : Int)) []).length : Int).toNat, VV.slice (VA.fa (8) 0 0) (↑([[d00, d01], [d10, d11]].getD (Int.toNat (0 : Int)) []).length : Int).toNat (↑([[d00, d01], [d10, d11]].getD (Int.toNat (0 : Int)) []).length : Int).toNat] 76) :: ([(8, VB.fam [] ((↑([[d00, d01], [d10, d11]].getD (Int.toNat (0 : Int)) []).length : Int).toNat * (6)) (fun (_ : Nat) => (0 : Int)) 80)] ++ (5, VB.cells [VV.slice (VA.fa (7) 0 0) (↑([[d00, d01], [d10, d11]].getD (Int.toNat (0 : Int)) []).length : Int).toNat (↑([[d00, d01], [d10, d11]].getD (Int.toNat (0 : Int)) []).length : Int).toNat, VV.nils] 76) :: ([(7, VB.fam [] ((↑([[d00, d01], [d10, d11]].getD (Int.toNat (0 : Int)) []).length : Int).toNat * (6)) (fun (_ : Nat) => (0 : Int)) 80)] ++ [(6, VB.cells [VV.slice (VA.own (5) 0) (2) (2)] 75), (6, VB.cells [VV.nils] 75), (5, VB.cells [VV.nils, VV.nils] 76), (4, VB.cells [I (↑([[d00, d01], [d10, d11]].getD (Int.toNat (0 : Int)) []).length : Int)] 3), (4, VB.cells [I 0] 3), (3, VB.cells [VV.ptr (VA.own (2) 0)] 72), (3, VB.cells [VV.nilp] 72), (2, VB.cells [VV.tl l.length 5 (stG l), VV.tl t.T.length 1 (dG t.T), I t.far, I t.least] 74), (1, VB.cells [VV.tl [[d00, d01], [d10, d11]].length 1 (pthG [[d00, d01], [d10, d11]])] 26), (0, VB.cells [VV.tl t.T.length 1 (dG t.T), I t.far, I t.least] 25)]))))) 4 (VV.ptr (VA.own (2) 0)) (VV.tp (stD l :: tsL t)) ∧ l.length ≤ 6 ∧ ∃ (S' : Nat), ∃ (a : Nat → Int), ∃ (M : Mde), ∃ (es : Lst), (VV.ptr (VA.own 4 0) = VV.ptr (VA.own 4 0) ∧ VV.ptr (VA.own 10 0) = VV.ptr (VA.own 10 0) ∧ VV.ptr (VA.own 1 0) = VV.ptr (VA.own 1 0) ∧ VV.ptr (VA.own 12 0) = VV.ptr (VA.own 12 0)) ∧ (0 = 0 ∧ 13 ≤ 13) ∧ atL nsB2 (BP2 l t [[d00, d01], [d10, d11]] 2 M es) (VH.mk (13) ((11, VB.cells [VV.func 44 [] [VV.ptr (VA.own (4) 0), VV.ptr (VA.own (10) 0), VV.ptr (VA.own (1) 0), VV.ptr (VA.own (12) 0)]] 78) :: (12, VB.cells [VV.func 40 [] [VV.ptr (VA.own (3) 0), VV.ptr (VA.own (11) 0), VV.ptr (VA.own (1) 0), VV.ptr (VA.own (6) 0)]] 88) :: (12, VB.cells [VV.nilf] 88) :: (11, VB.cells [VV.nilf] 78) :: (10, VB.cells [VV.mp (9)] 77) :: (10, VB.cells [VV.opq (Value.map none)] 77) :: (9, VB.map ([PK.int IntKind.i64] ++ ([PK.int IntKind.i64] ++ ((List.replicate 6 [PK.int IntKind.i64]).flatten ++ []))) PK.bool []) :: (5, VB.cells [VV.slice (VA.fa (7) 0 0) (↑([[d00, d01], [d10, d11]].getD (Int.toNat (0 : Int)) []).length : Int).toNat (↑([[d00, d01], [d10, d11]].getD (Int.toNat (0 : Int)) []).length : Int).toNat, VV.slice (VA.fa (8) 0 0) (↑([[d00, d01], [d10, d11]].getD (Int.toNat (0 : Int)) []).length : Int).toNat (↑([[d00, d01], [d10, d11]].getD (Int.toNat (0 : Int)) []).length : Int).toNat] 76) :: ([(8, VB.fam [] ((↑([[d00, d01], [d10, d11]].getD (Int.toNat (0 : Int)) []).length : Int).toNat * (6)) (fun (_ : Nat) => (0 : Int)) 80)] ++ (5, VB.cells [VV.slice (VA.fa (7) 0 0) (↑([[d00, d01], [d10, d11]].getD (Int.toNat (0 : Int)) []).length : Int).toNat (↑([[d00, d01], [d10, d11]].getD (Int.toNat (0 : Int)) []).length : Int).toNat, VV.nils] 76) :: ([(7, VB.fam [] ((↑([[d00, d01], [d10, d11]].getD (Int.toNat (0 : Int)) []).length : Int).toNat * (6)) (fun (_ : Nat) => (0 : Int)) 80)] ++ [(6, VB.cells [VV.slice (VA.own (5) 0) (2) (2)] 75), (6, VB.cells [VV.nils] 75), (5, VB.cells [VV.nils, VV.nils] 76), (4, VB.cells [I (↑([[d00, d01], [d10, d11]].getD (Int.toNat (0 : Int)) []).length : Int)] 3), (4, VB.cells [I 0] 3), (3, VB.cells [VV.ptr (VA.own (2) 0)] 72), (3, VB.cells [VV.nilp] 72), (2, VB.cells [VV.tl l.length 5 (stG l), VV.tl t.T.length 1 (dG t.T), I t.far, I t.least] 74), (1, VB.cells [VV.tl [[d00, d01], [d10, d11]].length 1 (pthG [[d00, d01], [d10, d11]])] 26), (0, VB.cells [VV.tl t.T.length 1 (dG t.T), I t.far, I t.least] 25)])))) ∧ ((↑2 : Int) - (↑2 : Int) = (↑2 : Int) - (↑2 : Int) ∧ (1 : Int) * (2 : Int) ^ min (↑[[d00, d01], [d10, d11]].length : Int).toNat IntKind.i64.bits - (1 : Int) = (↑S' : Int) ∧ [I (mostF l 0), I (mostF l 1), I (mostF l 2), I (mostF l 3), I (mostF l 4), I (mostF l 5)] = nL a) ∧ PreF l t [[d00, d01], [d10, d11]] 2 2 S' a es ∧ ∀ (b : Bool) (s : St), PostF l t [[d00, d01], [d10, d11]] 2 2 S' a M b s → bif !b then
 Q (VRes.ret (VV.tup [VV.nils, I 4])) (VH.mk (13) [(7, VB.fam [] (2 * 6) (s.M 0) (80 : TypeId)), (8, VB.fam [] (2 * 6) (s.M 1) (80 : TypeId)), (9, VB.map [PK.int IntKind.i64, PK.int IntKind.i64, PK.int IntKind.i64, PK.int IntKind.i64, PK.int IntKind.i64, PK.int IntKind.i64, PK.int IntKind.i64, PK.int IntKind.i64] PK.bool s.es), (11, VB.cells [VV.func 44 [] [VV.ptr (VA.own (4) 0), VV.ptr (VA.own (10) 0), VV.ptr (VA.own (1) 0), VV.ptr (VA.own (12) 0)]] 78), (12, VB.cells [VV.func 40 [] [VV.ptr (VA.own (3) 0), VV.ptr (VA.own (11) 0), VV.ptr (VA.own (1) 0), VV.ptr (VA.own (6) 0)]] 88), (12, VB.cells [VV.nilf] 88), (11, VB.cells [VV.nilf] 78), (10, VB.cells [VV.mp (9)] 77), (10, VB.cells [VV.opq (Value.map none)] 77), (9, VB.map [PK.int IntKind.i64, PK.int IntKind.i64, PK.int IntKind.i64, PK.int IntKind.i64, PK.int IntKind.i64, PK.int IntKind.i64, PK.int IntKind.i64, PK.int IntKind.i64] PK.bool []), (5, VB.cells [VV.slice (VA.fa (7) 0 0) (↑([[d00, d01], [d10, d11]].getD (Int.toNat (0 : Int)) []).length : Int).toNat (↑([[d00, d01], [d10, d11]].getD (Int.toNat (0 : Int)) []).length : Int).toNat, VV.slice (VA.fa (8) 0 0) (↑([[d00, d01], [d10, d11]].getD (Int.toNat (0 : Int)) []).length : Int).toNat (↑([[d00, d01], [d10, d11]].getD (Int.toNat (0 : Int)) []).length : Int).toNat] 76), (8, VB.fam [] ((↑([[d00, d01], [d10, d11]].getD (Int.toNat (0 : Int)) []).length : Int).toNat * (6)) (fun (_ : Nat) => (0 : Int)) 80), (5, VB.cells [VV.slice (VA.fa (7) 0 0) (↑([[d00, d01], [d10, d11]].getD (Int.toNat (0 : Int)) []).length : Int).toNat (↑([[d00, d01], [d10, d11]].getD (Int.toNat (0 : Int)) []).length : Int).toNat, VV.nils] 76), (7, VB.fam [] ((↑([[d00, d01], [d10, d11]].getD (Int.toNat (0 : Int)) []).length : Int).toNat * (6)) (fun (_ : Nat) => (0 : Int)) 80), (6, VB.cells [VV.slice (VA.own (5) 0) (2) (2)] 75), (6, VB.cells [VV.nils] 75), (5, VB.cells [VV.nils, VV.nils] 76), (4, VB.cells [I (↑([[d00, d01], [d10, d11]].getD (Int.toNat (0 : Int)) []).length : Int)] 3), (4, VB.cells [I 0] 3), (3, VB.cells [VV.ptr (VA.own (2) 0)] 72), (3, VB.cells [VV.nilp] 72), (2, VB.cells [VV.tl l.length 5 (stG l), VV.tl t.T.length 1 (dG t.T), I t.far, I t.least] 74), (1, VB.cells [VV.tl [[d00, d01], [d10, d11]].length 1 (pthG [[d00, d01], [d10, d11]])] 26), (0, VB.cells [VV.tl t.T.length 1 (dG t.T), I t.far, I t.least] 25)])
 else ∃ (n : Nat → Int), ∃ (m : Nat), [I (setF (fun (_ : Nat) => (0 : Int)) 0 [s.M 0 (0 + Int.toNat (0 : Int) * (6) + 0), s.M 0 (0 + Int.toNat (0 : Int) * (6) + 1), s.M 0 (0 + Int.toNat (0 : Int) * (6) + 2), s.M 0 (0 + Int.toNat (0 : Int) * (6) + 3), s.M 0 (0 + Int.toNat (0 : Int) * (6) + 4), s.M 0 (0 + Int.toNat (0 : Int) * (6) + 5)] (0 + 0)), I (setF (fun (_ : Nat) => (0 : Int)) 0 [s.M 0 (0 + Int.toNat (0 : Int) * (6) + 0), s.M 0 (0 + Int.toNat (0 : Int) * (6) + 1), s.M 0 (0 + Int.toNat (0 : Int) * (6) + 2), s.M 0 (0 + Int.toNat (0 : Int) * (6) + 3), s.M 0 (0 + Int.toNat (0 : Int) * (6) + 4), s.M 0 (0 + Int.toNat (0 : Int) * (6) + 5)] (0 + 1)), I (setF (fun (_ : Nat) => (0 : Int)) 0 [s.M 0 (0 + Int.toNat (0 : Int) * (6) + 0), s.M 0 (0 + Int.toNat (0 : Int) * (6) + 1), s.M 0 (0 + Int.toNat (0 : Int) * (6) + 2), s.M 0 (0 + Int.toNat (0 : Int) * (6) + 3), s.M 0 (0 + Int.toNat (0 : Int) * (6) + 4), s.M 0 (0 + Int.toNat (0 : Int) * (6) + 5)] (0 + 2)), I (setF (fun (_ : Nat) => (0 : Int)) 0 [s.M 0 (0 + Int.toNat (0 : Int) * (6) + 0), s.M 0 (0 + Int.toNat (0 : Int) * (6) + 1), s.M 0 (0 + Int.toNat (0 : Int) * (6) + 2), s.M 0 (0 + Int.toNat (0 : Int) * (6) + 3), s.M 0 (0 + Int.toNat (0 : Int) * (6) + 4), s.M 0 (0 + Int.toNat (0 : Int) * (6) + 5)] (0 + 3)), I (setF (fun (_ : Nat) => (0 : Int)) 0 [s.M 0 (0 + Int.toNat (0 : Int) * (6) + 0), s.M 0 (0 + Int.toNat (0 : Int) * (6) + 1), s.M 0 (0 + Int.toNat (0 : Int) * (6) + 2), s.M 0 (0 + Int.toNat (0 : Int) * (6) + 3), s.M 0 (0 + Int.toNat (0 : Int) * (6) + 4), s.M 0 (0 + Int.toNat (0 : Int) * (6) + 5)] (0 + 4)), I (setF (fun (_ : Nat) => (0 : Int)) 0 [s.M 0 (0 + Int.toNat (0 : Int) * (6) + 0), s.M 0 (0 + Int.toNat (0 : Int) * (6) + 1), s.M 0 (0 + Int.toNat (0 : Int) * (6) + 2), s.M 0 (0 + Int.toNat (0 : Int) * (6) + 3), s.M 0 (0 + Int.toNat (0 : Int) * (6) + 4), s.M 0 (0 + Int.toNat (0 : Int) * (6) + 5)] (0 + 5))] = nL n ∧ (↑l.length : Int) = (↑m : Int) ∧ m ≤ 6 ∧ ∃ (n_1 : Nat → Int), ∃ (m_1 : Nat), [I (setF (fun (_ : Nat) => (0 : Int)) 0 [s.M 0 (0 + ((0 : Int) + (1 : Int)).toNat * (6) + 0), s.M 0 (0 + ((0 : Int) + (1 : Int)).toNat * (6) + 1), s.M 0 (0 + ((0 : Int) + (1 : Int)).toNat * (6) + 2), s.M 0 (0 + ((0 : Int) + (1 : Int)).toNat * (6) + 3), s.M 0 (0 + ((0 : Int) + (1 : Int)).toNat * (6) + 4), s.M 0 (0 + ((0 : Int) + (1 : Int)).toNat * (6) + 5)] (0 + 0)), I (setF (fun (_ : Nat) => (0 : Int)) 0 [s.M 0 (0 + ((0 : Int) + (1 : Int)).toNat * (6) + 0), s.M 0 (0 + ((0 : Int) + (1 : Int)).toNat * (6) + 1), s.M 0 (0 + ((0 : Int) + (1 : Int)).toNat * (6) + 2), s.M 0 (0 + ((0 : Int) + (1 : Int)).toNat * (6) + 3), s.M 0 (0 + ((0 : Int) + (1 : Int)).toNat * (6) + 4), s.M 0 (0 + ((0 : Int) + (1 : Int)).toNat * (6) + 5)] (0 + 1)), I (setF (fun (_ : Nat) => (0 : Int)) 0 [s.M 0 (0 + ((0 : Int) + (1 : Int)).toNat * (6) + 0), s.M 0 (0 + ((0 : Int) + (1 : Int)).toNat * (6) + 1), s.M 0 (0 + ((0 : Int) + (1 : Int)).toNat * (6) + 2), s.M 0 (0 + ((0 : Int) + (1 : Int)).toNat * (6) + 3), s.M 0 (0 + ((0 : Int) + (1 : Int)).toNat * (6) + 4), s.M 0 (0 + ((0 : Int) + (1 : Int)).toNat * (6) + 5)] (0 + 2)), I (setF (fun (_ : Nat) => (0 : Int)) 0 [s.M 0 (0 + ((0 : Int) + (1 : Int)).toNat * (6) + 0), s.M 0 (0 + ((0 : Int) + (1 : Int)).toNat * (6) + 1), s.M 0 (0 + ((0 : Int) + (1 : Int)).toNat * (6) + 2), s.M 0 (0 + ((0 : Int) + (1 : Int)).toNat * (6) + 3), s.M 0 (0 + ((0 : Int) + (1 : Int)).toNat * (6) + 4), s.M 0 (0 + ((0 : Int) + (1 : Int)).toNat * (6) + 5)] (0 + 3)), I (setF (fun (_ : Nat) => (0 : Int)) 0 [s.M 0 (0 + ((0 : Int) + (1 : Int)).toNat * (6) + 0), s.M 0 (0 + ((0 : Int) + (1 : Int)).toNat * (6) + 1), s.M 0 (0 + ((0 : Int) + (1 : Int)).toNat * (6) + 2), s.M 0 (0 + ((0 : Int) + (1 : Int)).toNat * (6) + 3), s.M 0 (0 + ((0 : Int) + (1 : Int)).toNat * (6) + 4), s.M 0 (0 + ((0 : Int) + (1 : Int)).toNat * (6) + 5)] (0 + 4)), I (setF (fun (_ : Nat) => (0 : Int)) 0 [s.M 0 (0 + ((0 : Int) + (1 : Int)).toNat * (6) + 0), s.M 0 (0 + ((0 : Int) + (1 : Int)).toNat * (6) + 1), s.M 0 (0 + ((0 : Int) + (1 : Int)).toNat * (6) + 2), s.M 0 (0 + ((0 : Int) + (1 : Int)).toNat * (6) + 3), s.M 0 (0 + ((0 : Int) + (1 : Int)).toNat * (6) + 4), s.M 0 (0 + ((0 : Int) + (1 : Int)).toNat * (6) + 5)] (0 + 5))] = nL n_1 ∧ (↑l.length : Int) = (↑m_1 : Int) ∧ m_1 ≤ 6 ∧ ∃ (n_2 : Nat → Int), ∃ (m_2 : Nat), [I (setF (fun (_ : Nat) => (0 : Int)) 0 [s.M 1 (0 + Int.toNat (0 : Int) * (6) + 0), s.M 1 (0 + Int.toNat (0 : Int) * (6) + 1), s.M 1 (0 + Int.toNat (0 : Int) * (6) + 2), s.M 1 (0 + Int.toNat (0 : Int) * (6) + 3), s.M 1 (0 + Int.toNat (0 : Int) * (6) + 4), s.M 1 (0 + Int.toNat (0 : Int) * (6) + 5)] (0 + 0)), I (setF (fun (_ : Nat) => (0 : Int)) 0 [s.M 1 (0 + Int.toNat (0 : Int) * (6) + 0), s.M 1 (0 + Int.toNat (0 : Int) * (6) + 1), s.M 1 (0 + Int.toNat (0 : Int) * (6) + 2), s.M 1 (0 + Int.toNat (0 : Int) * (6) + 3), s.M 1 (0 + Int.toNat (0 : Int) * (6) + 4), s.M 1 (0 + Int.toNat (0 : Int) * (6) + 5)] (0 + 1)), I (setF (fun (_ : Nat) => (0 : Int)) 0 [s.M 1 (0 + Int.toNat (0 : Int) * (6) + 0), s.M 1 (0 + Int.toNat (0 : Int) * (6) + 1), s.M 1 (0 + Int.toNat (0 : Int) * (6) + 2), s.M 1 (0 + Int.toNat (0 : Int) * (6) + 3), s.M 1 (0 + Int.toNat (0 : Int) * (6) + 4), s.M 1 (0 + Int.toNat (0 : Int) * (6) + 5)] (0 + 2)), I (setF (fun (_ : Nat) => (0 : Int)) 0 [s.M 1 (0 + Int.toNat (0 : Int) * (6) + 0), s.M 1 (0 + Int.toNat (0 : Int) * (6) + 1), s.M 1 (0 + Int.toNat (0 : Int) * (6) + 2), s.M 1 (0 + Int.toNat (0 : Int) * (6) + 3), s.M 1 (0 + Int.toNat (0 : Int) * (6) + 4), s.M 1 (0 + Int.toNat (0 : Int) * (6) + 5)] (0 + 3)), I (setF (fun (_ : Nat) => (0 : Int)) 0 [s.M 1 (0 + Int.toNat (0 : Int) * (6) + 0), s.M 1 (0 + Int.toNat (0 : Int) * (6) + 1), s.M 1 (0 + Int.toNat (0 : Int) * (6) + 2), s.M 1 (0 + Int.toNat (0 : Int) * (6) + 3), s.M 1 (0 + Int.toNat (0 : Int) * (6) + 4), s.M 1 (0 + Int.toNat (0 : Int) * (6) + 5)] (0 + 4)), I (setF (fun (_ : Nat) => (0 : Int)) 0 [s.M 1 (0 + Int.toNat (0 : Int) * (6) + 0), s.M 1 (0 + Int.toNat (0 : Int) * (6) + 1), s.M 1 (0 + Int.toNat (0 : Int) * (6) + 2), s.M 1 (0 + Int.toNat (0 : Int) * (6) + 3), s.M 1 (0 + Int.toNat (0 : Int) * (6) + 4), s.M 1 (0 + Int.toNat (0 : Int) * (6) + 5)] (0 + 5))] = nL n_2 ∧ (↑l.length : Int) = (↑m_2 : Int) ∧ m_2 ≤ 6 ∧ ∃ (n_3 : Nat → Int), ∃ (m_3 : Nat), [I (setF (fun (_ : Nat) => (0 : Int)) 0 [s.M 1 (0 + ((0 : Int) + (1 : Int)).toNat * (6) + 0), s.M 1 (0 + ((0 : Int) + (1 : Int)).toNat * (6) + 1), s.M 1 (0 + ((0 : Int) + (1 : Int)).toNat * (6) + 2), s.M 1 (0 + ((0 : Int) + (1 : Int)).toNat * (6) + 3), s.M 1 (0 + ((0 : Int) + (1 : Int)).toNat * (6) + 4), s.M 1 (0 + ((0 : Int) + (1 : Int)).toNat * (6) + 5)] (0 + 0)), I (setF (fun (_ : Nat) => (0 : Int)) 0 [s.M 1 (0 + ((0 : Int) + (1 : Int)).toNat * (6) + 0), s.M 1 (0 + ((0 : Int) + (1 : Int)).toNat * (6) + 1), s.M 1 (0 + ((0 : Int) + (1 : Int)).toNat * (6) + 2), s.M 1 (0 + ((0 : Int) + (1 : Int)).toNat * (6) + 3), s.M 1 (0 + ((0 : Int) + (1 : Int)).toNat * (6) + 4), s.M 1 (0 + ((0 : Int) + (1 : Int)).toNat * (6) + 5)] (0 + 1)), I (setF (fun (_ : Nat) => (0 : Int)) 0 [s.M 1 (0 + ((0 : Int) + (1 : Int)).toNat * (6) + 0), s.M 1 (0 + ((0 : Int) + (1 : Int)).toNat * (6) + 1), s.M 1 (0 + ((0 : Int) + (1 : Int)).toNat * (6) + 2), s.M 1 (0 + ((0 : Int) + (1 : Int)).toNat * (6) + 3), s.M 1 (0 + ((0 : Int) + (1 : Int)).toNat * (6) + 4), s.M 1 (0 + ((0 : Int) + (1 : Int)).toNat * (6) + 5)] (0 + 2)), I (setF (fun (_ : Nat) => (0 : Int)) 0 [s.M 1 (0 + ((0 : Int) + (1 : Int)).toNat * (6) + 0), s.M 1 (0 + ((0 : Int) + (1 : Int)).toNat * (6) + 1), s.M 1 (0 + ((0 : Int) + (1 : Int)).toNat * (6) + 2), s.M 1 (0 + ((0 : Int) + (1 : Int)).toNat * (6) + 3), s.M 1 (0 + ((0 : Int) + (1 : Int)).toNat * (6) + 4), s.M 1 (0 + ((0 : Int) + (1 : Int)).toNat * (6) + 5)] (0 + 3)), I (setF (fun (_ : Nat) => (0 : Int)) 0 [s.M 1 (0 + ((0 : Int) + (1 : Int)).toNat * (6) + 0), s.M 1 (0 + ((0 : Int) + (1 : Int)).toNat * (6) + 1), s.M 1 (0 + ((0 : Int) + (1 : Int)).toNat * (6) + 2), s.M 1 (0 + ((0 : Int) + (1 : Int)).toNat * (6) + 3), s.M 1 (0 + ((0 : Int) + (1 : Int)).toNat * (6) + 4), s.M 1 (0 + ((0 : Int) + (1 : Int)).toNat * (6) + 5)] (0 + 4)), I (setF (fun (_ : Nat) => (0 : Int)) 0 [s.M 1 (0 + ((0 : Int) + (1 : Int)).toNat * (6) + 0), s.M 1 (0 + ((0 : Int) + (1 : Int)).toNat * (6) + 1), s.M 1 (0 + ((0 : Int) + (1 : Int)).toNat * (6) + 2), s.M 1 (0 + ((0 : Int) + (1 : Int)).toNat * (6) + 3), s.M 1 (0 + ((0 : Int) + (1 : Int)).toNat * (6) + 4), s.M 1 (0 + ((0 : Int) + (1 : Int)).toNat * (6) + 5)] (0 + 5))] = nL n_3 ∧ (↑l.length : Int) = (↑m_3 : Int) ∧ m_3 ≤ 6 ∧ Q (VRes.ret (VV.tup [VV.sl (19) (1 + 1), I 0])) (VH.mk (26) [(19, VB.vec (1 + 1) (catG 1 (fun (j : Nat) => List.take (1) (List.drop (j * (1)) (List.take (1 * (1)) (List.drop 0 [VV.tl (1 + 1) (1) (catG 1 (fun (j : Nat) => List.take (1) (List.drop (j * (1)) [VV.tl m 1 (chG n)])) fun (j : Nat) => List.take (1) (List.drop (j * (1)) [VV.tl m_1 1 (chG n_1)]))])))) fun (j : Nat) => List.take (1) (List.drop (j * (1)) (List.take (1 * (1)) (List.drop 0 [VV.tl (1 + 1) (1) (catG 1 (fun (j : Nat) => List.take (1) (List.drop (j * (1)) [VV.tl m_2 1 (chG n_2)])) fun (j : Nat) => List.take (1) (List.drop (j * (1)) [VV.tl m_3 1 (chG n_3)]))])))) (1) 26), (25, VB.cells [VV.tl (1 + 1) (1) (catG 1 (fun (j : Nat) => List.take (1) (List.drop (j * (1)) [VV.tl m_2 1 (chG n_2)])) fun (j : Nat) => List.take (1) (List.drop (j * (1)) [VV.tl m_3 1 (chG n_3)]))] 26), (22, VB.gone), (25, VB.cells [VV.sl (22) (1 + 1)] 26), (22, VB.vec (1 + 1) (catG 1 (fun (j : Nat) => List.take (1) (List.drop (j * (1)) [VV.tl m_2 1 (chG n_2)])) fun (j : Nat) => List.take (1) (List.drop (j * (1)) [VV.tl m_3 1 (chG n_3)])) (1) 23), (24, VB.vec 1 (fun (j : Nat) => List.take (1) (List.drop (j * (1)) [VV.tl m_3 1 (chG n_3)])) (1) 23), (23, VB.fam [] (6) (setF (fun (_ : Nat) => (0 : Int)) 0 [s.M 1 (0 + ((0 : Int) + (1 : Int)).toNat * (6) + 0), s.M 1 (0 + ((0 : Int) + (1 : Int)).toNat * (6) + 1), s.M 1 (0 + ((0 : Int) + (1 : Int)).toNat * (6) + 2), s.M 1 (0 + ((0 : Int) + (1 : Int)).toNat * (6) + 3), s.M 1 (0 + ((0 : Int) + (1 : Int)).toNat * (6) + 4), s.M 1 (0 + ((0 : Int) + (1 : Int)).toNat * (6) + 5)]) 80), (23, VB.fam [] (6) (fun (_ : Nat) => (0 : Int)) 80), (22, VB.vec 1 (fun (j : Nat) => List.take (1) (List.drop (j * (1)) [VV.tl m_2 1 (chG n_2)])) (1) 23), (21, VB.vec 1 (fun (j : Nat) => List.take (1) (List.drop (j * (1)) [VV.tl m_2 1 (chG n_2)])) (1) 23), (20, VB.fam [] (6) (setF (fun (_ : Nat) => (0 : Int)) 0 [s.M 1 (0 + Int.toNat (0 : Int) * (6) + 0), s.M 1 (0 + Int.toNat (0 : Int) * (6) + 1), s.M 1 (0 + Int.toNat (0 : Int) * (6) + 2), s.M 1 (0 + Int.toNat (0 : Int) * (6) + 3), s.M 1 (0 + Int.toNat (0 : Int) * (6) + 4), s.M 1 (0 + Int.toNat (0 : Int) * (6) + 5)]) 80), (20, VB.fam [] (6) (fun (_ : Nat) => (0 : Int)) 80), (19, VB.vec 1 (fun (j : Nat) => List.take (1) (List.drop (j * (1)) (List.take (1 * (1)) (List.drop 0 [VV.tl (1 + 1) (1) (catG 1 (fun (j : Nat) => List.take (1) (List.drop (j * (1)) [VV.tl m 1 (chG n)])) fun (j : Nat) => List.take (1) (List.drop (j * (1)) [VV.tl m_1 1 (chG n_1)]))])))) (1) 26), (18, VB.cells [VV.tl (1 + 1) (1) (catG 1 (fun (j : Nat) => List.take (1) (List.drop (j * (1)) [VV.tl m 1 (chG n)])) fun (j : Nat) => List.take (1) (List.drop (j * (1)) [VV.tl m_1 1 (chG n_1)]))] 26), (15, VB.gone), (18, VB.cells [VV.sl (15) (1 + 1)] 26), (15, VB.vec (1 + 1) (catG 1 (fun (j : Nat) => List.take (1) (List.drop (j * (1)) [VV.tl m 1 (chG n)])) fun (j : Nat) => List.take (1) (List.drop (j * (1)) [VV.tl m_1 1 (chG n_1)])) (1) 23), (17, VB.vec 1 (fun (j : Nat) => List.take (1) (List.drop (j * (1)) [VV.tl m_1 1 (chG n_1)])) (1) 23), (16, VB.fam [] (6) (setF (fun (_ : Nat) => (0 : Int)) 0 [s.M 0 (0 + ((0 : Int) + (1 : Int)).toNat * (6) + 0), s.M 0 (0 + ((0 : Int) + (1 : Int)).toNat * (6) + 1), s.M 0 (0 + ((0 : Int) + (1 : Int)).toNat * (6) + 2), s.M 0 (0 + ((0 : Int) + (1 : Int)).toNat * (6) + 3), s.M 0 (0 + ((0 : Int) + (1 : Int)).toNat * (6) + 4), s.M 0 (0 + ((0 : Int) + (1 : Int)).toNat * (6) + 5)]) 80), (16, VB.fam [] (6) (fun (_ : Nat) => (0 : Int)) 80), (15, VB.vec 1 (fun (j : Nat) => List.take (1) (List.drop (j * (1)) [VV.tl m 1 (chG n)])) (1) 23), (14, VB.vec 1 (fun (j : Nat) => List.take (1) (List.drop (j * (1)) [VV.tl m 1 (chG n)])) (1) 23), (13, VB.fam [] (6) (setF (fun (_ : Nat) => (0 : Int)) 0 [s.M 0 (0 + Int.toNat (0 : Int) * (6) + 0), s.M 0 (0 + Int.toNat (0 : Int) * (6) + 1), s.M 0 (0 + Int.toNat (0 : Int) * (6) + 2), s.M 0 (0 + Int.toNat (0 : Int) * (6) + 3), s.M 0 (0 + Int.toNat (0 : Int) * (6) + 4), s.M 0 (0 + Int.toNat (0 : Int) * (6) + 5)]) 80), (13, VB.fam [] (6) (fun (_ : Nat) => (0 : Int)) 80), (7, VB.fam [] (2 * 6) (s.M 0) (80 : TypeId)), (8, VB.fam [] (2 * 6) (s.M 1) (80 : TypeId)), (9, VB.map [PK.int IntKind.i64, PK.int IntKind.i64, PK.int IntKind.i64, PK.int IntKind.i64, PK.int IntKind.i64, PK.int IntKind.i64, PK.int IntKind.i64, PK.int IntKind.i64] PK.bool s.es), (11, VB.cells [VV.func 44 [] [VV.ptr (VA.own (4) 0), VV.ptr (VA.own (10) 0), VV.ptr (VA.own (1) 0), VV.ptr (VA.own (12) 0)]] 78), (12, VB.cells [VV.func 40 [] [VV.ptr (VA.own (3) 0), VV.ptr (VA.own (11) 0), VV.ptr (VA.own (1) 0), VV.ptr (VA.own (6) 0)]] 88), (12, VB.cells [VV.nilf] 88), (11, VB.cells [VV.nilf] 78), (10, VB.cells [VV.mp (9)] 77), (10, VB.cells [VV.opq (Value.map none)] 77), (9, VB.map [PK.int IntKind.i64, PK.int IntKind.i64, PK.int IntKind.i64, PK.int IntKind.i64, PK.int IntKind.i64, PK.int IntKind.i64, PK.int IntKind.i64, PK.int IntKind.i64] PK.bool []), (5, VB.cells [VV.slice (VA.fa (7) 0 0) (↑([[d00, d01], [d10, d11]].getD (Int.toNat (0 : Int)) []).length : Int).toNat (↑([[d00, d01], [d10, d11]].getD (Int.toNat (0 : Int)) []).length : Int).toNat, VV.slice (VA.fa (8) 0 0) (↑([[d00, d01], [d10, d11]].getD (Int.toNat (0 : Int)) []).length : Int).toNat (↑([[d00, d01], [d10, d11]].getD (Int.toNat (0 : Int)) []).length : Int).toNat] 76), (8, VB.fam [] ((↑([[d00, d01], [d10, d11]].getD (Int.toNat (0 : Int)) []).length : Int).toNat * (6)) (fun (_ : Nat) => (0 : Int)) 80), (5, VB.cells [VV.slice (VA.fa (7) 0 0) (↑([[d00, d01], [d10, d11]].getD (Int.toNat (0 : Int)) []).length : Int).toNat (↑([[d00, d01], [d10, d11]].getD (Int.toNat (0 : Int)) []).length : Int).toNat, VV.nils] 76), (7, VB.fam [] ((↑([[d00, d01], [d10, d11]].getD (Int.toNat (0 : Int)) []).length : Int).toNat * (6)) (fun (_ : Nat) => (0 : Int)) 80), (6, VB.cells [VV.slice (VA.own (5) 0) (2) (2)] 75), (6, VB.cells [VV.nils] 75), (5, VB.cells [VV.nils, VV.nils] 76), (4, VB.cells [I (↑([[d00, d01], [d10, d11]].getD (Int.toNat (0 : Int)) []).length : Int)] 3), (4, VB.cells [I 0] 3), (3, VB.cells [VV.ptr (VA.own (2) 0)] 72), (3, VB.cells [VV.nilp] 72), (2, VB.cells [VV.tl l.length 5 (stG l), VV.tl t.T.length 1 (dG t.T), I t.far, I t.least] 74), (1, VB.cells [VV.tl [[d00, d01], [d10, d11]].length 1 (pthG [[d00, d01], [d10, d11]])] 26), (0, VB.cells [VV.tl t.T.length 1 (dG t.T), I t.far, I t.least] 25)])) := by kernel_rfl

end Go.Sx.Bln

/- blend: plans as data. -/

namespace Go.Sx.Bln
open Go Go.Sx Go.Proofs
set_option maxRecDepth 1000000

theorem lost_nil {l : List Stk} {t : Tst} {P : List (List Int)} {Y : Nat} : LostOk l t P Y [] := ⟨fun _ he => absurd he List.not_mem_nil, fun _ he => absurd he List.not_mem_nil⟩
theorem most_left {l : List Stk} (hl : lB l) : leftB l (mostF l) := ⟨fun i _ => mostF_bd hl i, fun _ hi => mostF_ge hi⟩
/-- Cells that may be told otherwise. -/
def wkL (a b : List VV) : Prop := (∀ R xs, VRelL R a xs → VRelL R b xs) ∧ (a.all VV.one = true → b.all VV.one = true) ∧ a.length = b.length
theorem wkL_refl (a : List VV) : wkL a a := ⟨fun _ _ h => h, fun h => h, rfl⟩
theorem tl_weak {L L' s : Nat} {g g' : Nat → List VV} (hL : L' = L) (h : ∀ i, i < L → wkL (g i) (g' i)) : wkL [.tl L s g] [.tl L' s g'] := by
  subst hL
  refine ⟨fun R xs hx => ?_, fun _ => rfl, rfl⟩
  obtain ⟨y, ys, ⟨p, cap, h1, h2, h3⟩, h4, rfl⟩ := hx
  refine ⟨y, ys, ⟨p, cap, h1, h2, fun i hi => ?_⟩, h4, rfl⟩
  obtain ⟨b, o, xs, g1, g2, g3, g4, g5⟩ := h3 i hi
  obtain ⟨w1, w2, _⟩ := h i hi
  exact ⟨b, o, xs, g1, g2, g3, w2 g4, w1 _ _ g5⟩
/-- A choice as data. -/
theorem wk_ch {L : Nat} {n n' : Nat → Int} (h : ∀ j, j < L → n j = n' j) : wkL [.tl L 1 (chG n)] [.tl L 1 (chG n')] := tl_weak rfl (fun i hi => by
  unfold chG
  rw [h i hi]
  exact wkL_refl _)
/-- A plan as data. -/
def plnY (L : Nat) (r : Nat → Nat → Int) (y : Nat) : List VV := [.tl L 1 (chG (r y))]
def plnG (L Y : Nat) (x : Rsl) (i : Nat) : List VV := [.tl Y 1 (plnY L (x i))]
def plnD (L p Y : Nat) (x : Rsl) : VV := .tl p 1 (plnG L Y x)

/-- What a plan leaves, as the walk finds it. -/
def PlnK (l : List Stk) (t : Tst) (P : List (List Int)) (Y : Nat) (r : VRes) (h' : VH) : Prop :=
  (planF l t P Y Y (2 ^ P.length - 1) (mostF l) = none ∧ r = .ret (.tup [.nils, I 4])) ∨
    ∃ x m g ty, planF l t P Y Y (2 ^ P.length - 1) (mostF l) = some x ∧ r = .ret (.tup [.sl m P.length, I 0]) ∧ h'.at m = .vec P.length g 1 ty ∧ ∀ i, i < P.length → wkL (g i) (plnG l.length Y x i)
theorem pln_tell {l : List Stk} {t : Tst} {P : List (List Int)} {Y : Nat} {args : List VV} {r : VRes} {h' : VH} (hc : CallsV Try.prog 17 args ⟨0, []⟩ r h') (hk : PlnK l t P Y r h') :
    (planF l t P Y Y (2 ^ P.length - 1) (mostF l) = none ∧ ∃ h2, CallsV Try.prog 17 args ⟨0, []⟩ (.ret (.tup [.nils, I 4])) h2) ∨ ∃ x h2, planF l t P Y Y (2 ^ P.length - 1) (mostF l) = some x ∧ CallsV Try.prog 17 args ⟨0, []⟩ (.ret (.tup [plnD l.length P.length Y x, I 0])) h2 := by
  rcases hk with ⟨h1, rfl⟩ | ⟨x, m, g, ty, h1, rfl, h2, h3⟩
  · exact .inl ⟨h1, h', hc⟩
  · refine .inr ⟨x, _, h1, calls_res (calls_tell (v2 := .tup [.tl P.length 1 g, I 0]) hc h2 (fun R R' y hle hv hx => ?_)) (fun R y hx => ?_)⟩
    · obtain ⟨xs, ⟨y0, ys, k1, k2, rfl⟩, rfl⟩ := hx
      exact ⟨_, ⟨y0, ys, hv y0 k1, VRelL.mono hle _ _ k2, rfl⟩, rfl⟩
    · obtain ⟨xs, ⟨y0, ys, k1, k2, rfl⟩, rfl⟩ := hx
      have := (tl_weak (s := 1) (g := g) (g' := plnG l.length Y x) rfl h3).1 R [y0] ⟨y0, [], k1, rfl, rfl⟩
      obtain ⟨y1, ys1, k3, _, e⟩ := this
      injection e with e1 e2
      subst e1
      exact ⟨_, ⟨y0, ys, k3, k2, rfl⟩, rfl⟩
end Go.Sx.Bln

/- blend: Plan with 2 paths of 2 years. -/

namespace Go.Sx.Bln
open Go Go.Sx Go.Proofs
set_option maxRecDepth 1000000

theorem pln22_v {l : List Stk} {t : Tst} {d00 d01 d10 d11 : Int} (h1 : okAll l t = true) (h2 : okPaths [[d00, d01], [d10, d11]] = true) (cf : Cfg l t [[d00, d01], [d10, d11]] 2) (hpb : pthB [[d00, d01], [d10, d11]]) : ∃ r h', CallsV Try.prog 17 [stD l, .agg (tsL t), pthD [[d00, d01], [d10, d11]]] ⟨0, []⟩ r h' ∧ PlnK l t [[d00, d01], [d10, d11]] 2 r h' := by
  have hl6 := cf.hl.1
  have htab : ∀ f T, tabS [asR l t, casksR l t, apR [[d00, d01], [d10, d11]], findR2 l t [[d00, d01], [d10, d11]] 2 2, listT] f = some T → SpOk Try.prog f T := tab_ok _ (fun x hx => by
    simp only [List.mem_cons, List.not_mem_nil, or_false] at hx
    rcases hx with rfl | rfl | rfl | rfl | rfl
    · exact asR_ok l t
    · exact casksR_ok l t
    · exact apR_ok _
    · exact findR2_ok cf 2
    · exact listT_ok)
  obtain ⟨r, h', hk, hc⟩ := of_callN (noL_good htab) (f := 17) (args := [stD l, .agg (tsL t), pthD [[d00, d01], [d10, d11]]]) (h := ⟨0, []⟩) (K := PlnK l t [[d00, d01], [d10, d11]] 2) (by
    refine cast (pl22_ev l t d00 d01 d10 d11 _).symm ⟨isD_l, ⟨⟨rfl, rfl, fun _ _ => rfl⟩, ⟨rfl, rfl⟩, ⟨rfl, rfl⟩, trivial⟩, cond_i (fun h => by rw [h1] at h; cases h) (fun _ => ⟨⟨rfl, rfl, fun _ _ => rfl⟩, hpb, cond_i (fun h => by rw [h2] at h; cases h) (fun _ => ?_)⟩)⟩
    refine ⟨hc62 rfl, hl6, 3, mostF l, fun _ _ => 0, [], ⟨rfl, rfl, rfl, rfl⟩, ⟨rfl, Nat.le_refl _⟩, ⟨rfl, rfl, rfl, rfl, rfl, rfl, rfl, rfl, rfl, rfl, rfl, rfl, rfl, trivial⟩, ⟨rfl, rfl, rfl⟩, ⟨Nat.le_refl _, (by show 3 < 2 ^ 2; decide), most_left cf.hl, lost_nil⟩, ?_⟩
    rintro b s ⟨p1, p2, p3, p4⟩
    refine cond_i (fun g => ?_) (fun g => ?_)
    · have g : b = false := by simpa using g
      subst g
      refine .inl ⟨?_, rfl⟩
      cases hx : planF l t [[d00, d01], [d10, d11]] 2 2 3 (mostF l) with
      | none => exact hx
      | some x => rw [hx] at p1; cases p1
    · have g : b = true := by simpa using g
      subst g
      obtain ⟨x, hx⟩ : ∃ x, planF l t [[d00, d01], [d10, d11]] 2 2 3 (mostF l) = some x := by
        cases hx : planF l t [[d00, d01], [d10, d11]] 2 2 3 (mostF l) with
        | none => rw [hx] at p1; cases p1
        | some x => exact ⟨x, rfl⟩
      refine ⟨fun j => s.M 0 (0 * 6 + j), l.length, rfl, rfl, hl6, fun j => s.M 0 (1 * 6 + j), l.length, rfl, rfl, hl6, fun j => s.M 1 (0 * 6 + j), l.length, rfl, rfl, hl6, fun j => s.M 1 (1 * 6 + j), l.length, rfl, rfl, hl6, .inr ⟨x, _, _, _, hx, rfl, rfl, fun i hi => ?_⟩⟩
      have hi : i < 2 := hi
      match i, hi with
      | 0, _ =>
            refine tl_weak rfl (fun y hy => ?_)
            match y, hy with
            | 0, _ => exact wk_ch (fun j hj => p4 x hx 0 0 j (by omega) rfl (by omega) (by omega))
            | 1, _ => exact wk_ch (fun j hj => p4 x hx 0 1 j (by omega) rfl (by omega) (by omega))
            | _ + 2, hy => exact absurd hy (by omega)
      | 1, _ =>
            refine tl_weak rfl (fun y hy => ?_)
            match y, hy with
            | 0, _ => exact wk_ch (fun j hj => p4 x hx 1 0 j (by omega) rfl (by omega) (by omega))
            | 1, _ => exact wk_ch (fun j hj => p4 x hx 1 1 j (by omega) rfl (by omega) (by omega))
            | _ + 2, hy => exact absurd hy (by omega)
      | _ + 2, hi => exact absurd hi (by omega))
  exact ⟨r, h', hc, hk⟩
end Go.Sx.Bln

/- blend: the sample, evaluated. -/

namespace Go.Sx.Bln
open Go Go.Sx Go.Proofs
set_option maxRecDepth 1000000

theorem sm_ev (Q : VRes → VH → Prop) : callN Try.prog noSpec noL 10 20 0 (.fn 37) [] ⟨0, []⟩ (fun r h => frzR 0 6 15 0 h (fun h => Q r h)) =
  (Q (VRes.ret (VV.tup [VV.slice (VA.own (6) 0) 3 3, VV.agg [VV.sl (7) 2, I 20, I 10]])) (VH.mk (8) [(6, VB.cells [I 2, I 100, I 12, I 50, VV.tl 2 (2) fun (j : Nat) => List.take (2) (List.drop (j * (2)) [I 480, I 490, I 60, I 70]), I 2, I 100, I 10, I 30, VV.tl 2 (2) fun (j : Nat) => List.take (2) (List.drop (j * (2)) [I 530, I 540, I 130, I 140]), I 3, I 200, I 8, I 90, VV.tl 2 (2) fun (j : Nat) => List.take (2) (List.drop (j * (2)) [I 500, I 500, I 100, I 100])] 32), (5, VB.gone), (6, VB.cells [I 2, I 100, I 12, I 50, VV.tl 2 (2) fun (j : Nat) => List.take (2) (List.drop (j * (2)) [I 480, I 490, I 60, I 70]), I 2, I 100, I 10, I 30, VV.tl 2 (2) fun (j : Nat) => List.take (2) (List.drop (j * (2)) [I 530, I 540, I 130, I 140]), I 3, I 200, I 8, I 90, VV.sl (5) 2] 32), (2, VB.gone), (6, VB.cells [I 2, I 100, I 12, I 50, VV.tl 2 (2) fun (j : Nat) => List.take (2) (List.drop (j * (2)) [I 480, I 490, I 60, I 70]), I 2, I 100, I 10, I 30, VV.sl (2) 2, I 3, I 200, I 8, I 90, VV.sl (5) 2] 32), (1, VB.gone), (0, VB.cells [VV.sl (7) 2, I 20, I 10] 25), (7, VB.vec 2 (fun (j : Nat) => List.take (1) (List.drop (j * (1)) [I 500, I 100])) (1) 3), (6, VB.cells [I 2, I 100, I 12, I 50, VV.sl (1) 2, I 2, I 100, I 10, I 30, VV.sl (2) 2, I 3, I 200, I 8, I 90, VV.sl (5) 2] 32), (5, VB.vec 2 (fun (j : Nat) => List.take (2) (List.drop (j * (2)) [I 500, I 500, I 100, I 100])) (2) 34), (4, VB.cells [I 100, I 100] 34), (4, VB.cells [I 0, I 0] 34), (3, VB.cells [I 500, I 500] 34), (3, VB.cells [I 0, I 0] 34), (2, VB.vec 2 (fun (j : Nat) => List.take (2) (List.drop (j * (2)) [I 530, I 540, I 130, I 140])) (2) 34), (1, VB.vec 2 (fun (j : Nat) => List.take (2) (List.drop (j * (2)) [I 480, I 490, I 60, I 70])) (2) 34), (0, VB.cells [VV.nils, I 0, I 0] 25)])) := by kernel_rfl

end Go.Sx.Bln

/- blend: the sample. -/

namespace Go.Sx.Bln
open Go Go.Sx Go.Proofs
set_option maxRecDepth 1000000

section
variable {P : Program}
/-- A heap that is told otherwise behind a call. -/
theorem calls_toldR {f : FuncId} {args : List VV} {h h1 h2 : VH} {v : VV} (hs : CallsV P f args h (.ret v) h1) (ht : Told h1 h2) : CallsV P f args h (.ret v) h2 := by
  intro B R w xs em hx
  refine (hs B R w xs em hx).mono ?_
  rintro e w' ⟨R', n1, e1, x, hx1, he⟩
  obtain ⟨R2, n2, e2⟩ := ht B R' w' e1
  exact ⟨R2, n1.trans n2, e2, x, VRel.mono (n2.le e1) _ _ hx1, he⟩

/-- A block of cells that a function returns, told as data. -/
theorem calls_tellC {f : FuncId} {args : List VV} {h h' : VH} {v v2 : VV} {m s : Nat} {cs : List VV} {t : TypeId} (hs : CallsV P f args h (.ret v) h') (hm : h'.at m = .cells cs t) (hb : belL 0 cs = true) (ho : cs.all VV.one = true) (_ : 1 ≤ s)
    (hv : ∀ (R R' : Rn) (x : Value), R.le R' → (∀ k c y, k * s ≤ cs.length → VRel R (.slice (.own m 0) k c) y → VRel R' (.tl k s (fun j => (cs.drop (j * s)).take s)) y) → VRel R v x → VRel R' v2 x) : CallsV P f args h (.ret v2) ⟨h'.nx, (m, .gone) :: h'.bs⟩ := by
  intro B R w xs em hx
  refine (hs B R w xs em hx).mono ?_
  rintro e w' ⟨R', n1, e1, x, hx1, he⟩
  obtain ⟨b, ys, h1, h2, h3, h4⟩ := e1.own m cs t hm
  have how : R'.ow m (h'.at m) = some b := by rw [hm]; exact h1
  obtain ⟨f1, f2, f3⟩ := emb_frz e1 how (xs := ys) (fun k x hk => by simp [World.cell?, h4, hk])
  have hat : (VH.mk h'.nx ((m, .gone) :: h'.bs)).at = upd h'.at m .gone := VH.at_put h' m .gone (by rw [hm]; simp)
  refine ⟨R'.addF b ys, by rw [hat]; exact n1.trans f3, by rw [hat]; exact f2, x, hv R' _ x f1 (fun k c y hk hy => ?_) hx1, he⟩
  obtain ⟨hkc, p, hp, rfl⟩ := hy
  have hlen : ys.length = cs.length := h3.length.symm
  refine ⟨p, c, rfl, ⟨hkc, fun hn => ?_⟩, fun i hi => ?_⟩
  · rcases hp with hp | ⟨q, hp, _⟩
    · exact hp
    · rw [hn] at hp; cases hp
  · obtain ⟨q, rfl, b', hb', rfl⟩ := hp.resolve_left (by omega)
    rw [h1] at hb'
    cases hb'
    have h5 : i * s + s ≤ k * s := by
      rw [← Nat.succ_mul]
      exact Nat.mul_le_mul_right s hi
    refine ⟨b, 0, ys, rfl, by simp [Rn.addF], by omega, chunk_all ho, ?_⟩
    have h6 : VRelL (R'.addF b ys).no cs ys := VRelL.mono f1.no _ _ (bel0_noL cs ys hb h3)
    rw [Nat.zero_add]
    exact (h6.drop (i * s)).take s
end

/-- The sample's stocks, and its taste. -/
def L0 : List Stk := [⟨2, 100, 12, 50, [⟨480, 490⟩, ⟨60, 70⟩]⟩, ⟨2, 100, 10, 30, [⟨530, 540⟩, ⟨130, 140⟩]⟩, ⟨3, 200, 8, 90, [⟨500, 500⟩, ⟨100, 100⟩]⟩]
def T0 : Tst := ⟨[500, 100], 20, 10⟩

theorem sample_v : ∃ h', CallsV Try.prog 37 [] ⟨0, []⟩ (.ret (.tup [stD L0, .agg (tsL T0)])) h' := by
  obtain ⟨r, h1, hk, hc⟩ := of_callN good0 (f := 37) (args := []) (h := ⟨0, []⟩) (K := fun r h => frzR 0 6 15 0 h (fun h2 => r = .ret (.tup [.slice (.own 6 0) 3 3, .agg [.sl 7 2, I 20, I 10]]) ∧ h2.at 6 = .cells [I 2, I 100, I 12, I 50, .tl 2 2 (fun j => List.take 2 (List.drop (j * 2) [I 480, I 490, I 60, I 70])), I 2, I 100, I 10, I 30, .tl 2 2 (fun j => List.take 2 (List.drop (j * 2) [I 530, I 540, I 130, I 140])), I 3, I 200, I 8, I 90, .tl 2 2 (fun j => List.take 2 (List.drop (j * 2) [I 500, I 500, I 100, I 100]))] 32 ∧ h2.at 7 = .vec 2 (fun j => List.take 1 (List.drop (j * 1) [I 500, I 100])) 1 3)) (cast (sm_ev _).symm ⟨rfl, rfl, rfl⟩)
  obtain ⟨h2, ⟨rfl, a1, a2⟩, _, ht⟩ := frzR_sound 15 0 _ _ hk
  have hc2 := calls_toldR hc ht
  have hc3 := calls_tell (v2 := .tup [.slice (.own 6 0) 3 3, .agg [.tl 2 1 (fun j => List.take 1 (List.drop (j * 1) [I 500, I 100])), I 20, I 10]]) hc2 a2 (fun R R' x hle hv hx => by
    obtain ⟨xs, ⟨y0, ys, k1, ⟨y1, _, ⟨zs, ⟨z0, _, k2, k3, rfl⟩, rfl⟩, k4, rfl⟩, rfl⟩, rfl⟩ := hx
    exact ⟨_, ⟨y0, _, VRel.mono hle _ _ k1, ⟨_, _, ⟨_, ⟨z0, _, hv z0 k2, VRelL.mono hle _ _ k3, rfl⟩, rfl⟩, k4, rfl⟩, rfl⟩, rfl⟩)
  have a3 : (VH.mk h2.nx ((7, VB.gone) :: h2.bs)).at 6 = h2.at 6 := by
    rw [show (VH.mk h2.nx ((7, VB.gone) :: h2.bs)).at = upd h2.at 7 .gone from VH.at_put h2 7 .gone (by rw [a2]; simp)]
    rfl
  rw [a1] at a3
  have hc4 := calls_tellC (s := 5) (v2 := .tup [.tl 3 5 (fun j => List.take 5 (List.drop (j * 5) [I 2, I 100, I 12, I 50, .tl 2 2 (fun j => List.take 2 (List.drop (j * 2) [I 480, I 490, I 60, I 70])), I 2, I 100, I 10, I 30, .tl 2 2 (fun j => List.take 2 (List.drop (j * 2) [I 530, I 540, I 130, I 140])), I 3, I 200, I 8, I 90, .tl 2 2 (fun j => List.take 2 (List.drop (j * 2) [I 500, I 500, I 100, I 100]))])), .agg [.tl 2 1 (fun j => List.take 1 (List.drop (j * 1) [I 500, I 100])), I 20, I 10]]) hc3 a3 rfl rfl (by omega) (fun R R' x hle hv hx => by
    obtain ⟨xs, ⟨y0, ys, k1, k2, rfl⟩, rfl⟩ := hx
    exact ⟨_, ⟨y0, _, hv 3 3 y0 (by decide) k1, VRelL.mono hle _ _ k2, rfl⟩, rfl⟩)
  refine ⟨_, calls_res hc4 (fun R x hx => ?_)⟩
  obtain ⟨xs, ⟨y0, _, k1, ⟨y1, _, ⟨zs, ⟨z0, _, k2, k3, rfl⟩, rfl⟩, k4, rfl⟩, rfl⟩, rfl⟩ := hx
  have w1 : wkL [.tl 3 5 (fun j => List.take 5 (List.drop (j * 5) [I 2, I 100, I 12, I 50, .tl 2 2 (fun j => List.take 2 (List.drop (j * 2) [I 480, I 490, I 60, I 70])), I 2, I 100, I 10, I 30, .tl 2 2 (fun j => List.take 2 (List.drop (j * 2) [I 530, I 540, I 130, I 140])), I 3, I 200, I 8, I 90, .tl 2 2 (fun j => List.take 2 (List.drop (j * 2) [I 500, I 500, I 100, I 100]))]))] [stD L0] := tl_weak rfl (fun i hi => by
    have key : ∀ (a b c d : Int) (g g' : Nat → List VV), (∀ j, j < 2 → g j = g' j) → wkL [I a, I b, I c, I d, .tl 2 2 g] [I a, I b, I c, I d, .tl 2 2 g'] := fun a b c d g g' hg => by
      refine ⟨fun R xs hx => ?_, fun _ => rfl, rfl⟩
      obtain ⟨_, _, q1, ⟨_, _, q2, ⟨_, _, q3, ⟨_, _, q4, q5, rfl⟩, rfl⟩, rfl⟩, rfl⟩ := hx
      exact ⟨_, _, q1, ⟨_, _, q2, ⟨_, _, q3, ⟨_, _, q4, (tl_weak (g := g) (g' := g') rfl (fun j hj => by rw [hg j hj]; exact wkL_refl _)).1 R _ q5, rfl⟩, rfl⟩, rfl⟩, rfl⟩
    match i, hi with
    | 0, _ => exact key _ _ _ _ _ _ (fun j hj => by match j, hj with | 0, _ => rfl | 1, _ => rfl | _ + 2, hj => omega)
    | 1, _ => exact key _ _ _ _ _ _ (fun j hj => by match j, hj with | 0, _ => rfl | 1, _ => rfl | _ + 2, hj => omega)
    | 2, _ => exact key _ _ _ _ _ _ (fun j hj => by match j, hj with | 0, _ => rfl | 1, _ => rfl | _ + 2, hj => omega)
    | _ + 3, hi => omega)
  have w2 : wkL [.tl 2 1 (fun j => List.take 1 (List.drop (j * 1) [I 500, I 100]))] [inD T0.T] := tl_weak rfl (fun i hi => by
    match i, hi with
    | 0, _ => exact wkL_refl _
    | 1, _ => exact wkL_refl _
    | _ + 2, hi => omega)
  obtain ⟨_, _, u1, u2, e1⟩ := w1.1 R [y0] ⟨y0, [], k1, rfl, rfl⟩
  obtain ⟨_, _, u3, u4, e2⟩ := w2.1 R [z0] ⟨z0, [], k2, rfl, rfl⟩
  cases e1
  cases e2
  exact ⟨_, ⟨y0, _, u1, ⟨_, _, ⟨_, ⟨z0, _, u3, k3, rfl⟩, rfl⟩, k4, rfl⟩, rfl⟩, rfl⟩
end Go.Sx.Bln

/- blend: the same lists, evaluated. -/

namespace Go.Sx.Bln
open Go Go.Sx Go.Proofs
set_option maxRecDepth 1000000

def d1 (L : Nat) (n : Nat → Int) : VV := .tl L 1 (chG n)
def d2G (q : Nat → Nat) (v : Nat → Nat → Int) (y : Nat) : List VV := [d1 (q y) (v y)]
def d3G (q : Nat → Nat) (r : Nat → Nat → Nat) (v : Nat → Nat → Nat → Int) (i : Nat) : List VV := [.tl (q i) 1 (d2G (r i) (v i))]
def d3 (p : Nat) (q : Nat → Nat) (r : Nat → Nat → Nat) (v : Nat → Nat → Nat → Int) : VV := .tl p 1 (d3G q r v)
def dsE1 : List Nat := [5, 4, 0, 1]
def VE1 (a : VV) (i : Int) : List VV := [I i, .bool false, a, a]
theorem i1_ev (L : Nat) (n : Nat → Int) (i : Int) (X : VEx → List VV → List VB → Prop) : codeE Try.prog (callN Try.prog noSpec noL 10 20) (fun _ => none) true 10 (ntOf Try.prog 19) 0 (loopB 0 (bodyOf Try.prog 19)) (dsE1.zip (VE1 (d1 L n) i)) ⟨0, ([] : List Nat).zip []⟩ (obs 0 dsE1 [] X) =
  (bif decide (i < (↑L : Int)) then
 bif decide ((0 : Int) ≤ i ∧ i < (↑L : Int)) then
 bif decide ((0 : Int) ≤ i ∧ i < (↑L : Int)) then
 bif !decide (n i.toNat = n i.toNat) then
 X VEx.ret [I i, VV.bool false, VV.tl L 1 (chG n), VV.tl L 1 (chG n)] []
 else bif inK IntKind.i64 (i + (1 : Int)) then
 X VEx.normal [I (i + (1 : Int)), VV.bool false, VV.tl L 1 (chG n), VV.tl L 1 (chG n)] []
 else False
 else False
 else False
 else X (VEx.exit 0) [I i, VV.bool false, VV.tl L 1 (chG n), VV.tl L 1 (chG n)] []) := by kernel_rfl

def lE1 (L : Nat) (n : Nat → Int) : LT := fun lock tt h K =>
  FitP lock h tt ⟨0, ([] : List Nat).zip []⟩ (dsE1.zip (VE1 (d1 L n) 0)) ∧ L ≤ 100000 ∧ K .normal (dsE1.zip (VE1 (d1 L n) L)) ⟨0, ([] : List Nat).zip []⟩
theorem i1f_ev (L : Nat) (n : Nat → Int) (Q : VRes → Prop) : callN Try.prog noSpec (atF 19 [(0, lE1 L n)]) 10 20 0 (.fn 19) [d1 L n, d1 L n] ⟨0, []⟩ (fun r h => Q r) =
  (bif !decide ((↑L : Int) = (↑L : Int)) then
 Q (VRes.ret (VV.bool false))
 else FitP 0 (VH.mk 0 ([].zip [])) (dsE1.zip (VE1 (d1 L n) (0 : Int))) (VH.mk 0 ([].zip [])) (dsE1.zip (VE1 (d1 L n) (0 : Int))) ∧ L ≤ 100000 ∧ Q (VRes.ret (VV.bool true))) := by kernel_rfl

/-- Are two lists the same, as a row: one list. -/
def inR : FuncId × Spec1 := (19, fun _ args h K => match args with
  | [x, y] => ∃ (L : Nat) (n : Nat → Int), isD h 2 x (d1 L n) ∧ isD h 2 y (d1 L n) ∧ L ≤ 100000 ∧ K (.ret (.bool true)) h
  | _ => False)
def dsE2 : List Nat := 6 :: dsE1
def VE2 (a : VV) (i k : Int) : List VV := I k :: VE1 a i
theorem s2_ev (p : Nat) (q : Nat → Nat) (r : Nat → Nat → Nat) (v : Nat → Nat → Nat → Int) (i k : Int) (X : VEx → List VV → List VB → Prop) : codeE Try.prog (callN Try.prog (tabS [inR]) noL 10 20) (fun _ => none) true 10 (ntOf Try.prog 20) 0 (loopB 2 (bodyOf Try.prog 20)) (dsE2.zip (VE2 (d3 p q r v) i k)) ⟨0, ([] : List Nat).zip []⟩ (obs 0 dsE2 [] X) =
  (bif decide ((0 : Int) ≤ i ∧ i < (↑p : Int)) then
 bif decide (k < (↑(q i.toNat) : Int)) then
 bif decide ((0 : Int) ≤ i ∧ i < (↑p : Int)) then
 bif decide ((0 : Int) ≤ k ∧ k < (↑(q i.toNat) : Int)) then
 bif decide ((0 : Int) ≤ i ∧ i < (↑p : Int)) then
 bif decide ((0 : Int) ≤ k ∧ k < (↑(q i.toNat) : Int)) then
 ∃ (L : Nat), ∃ (n : Nat → Int), isD (VH.mk 0 ([].zip [])) 2 (VV.tl (r i.toNat k.toNat) 1 (chG (v i.toNat k.toNat))) (d1 L n) ∧ isD (VH.mk 0 ([].zip [])) 2 (VV.tl (r i.toNat k.toNat) 1 (chG (v i.toNat k.toNat))) (d1 L n) ∧ L ≤ 100000 ∧ bif inK IntKind.i64 (k + (1 : Int)) then
 X VEx.normal [I (k + (1 : Int)), I i, VV.bool false, VV.tl p 1 (d3G q r v), VV.tl p 1 (d3G q r v)] []
 else False
 else False
 else False
 else False
 else False
 else X (VEx.exit 2) [I k, I i, VV.bool false, VV.tl p 1 (d3G q r v), VV.tl p 1 (d3G q r v)] []
 else False) := by kernel_rfl

def okD (p : Nat) (q : Nat → Nat) (r : Nat → Nat → Nat) : Prop := p ≤ 100000 ∧ (∀ i, q i ≤ 100000) ∧ ∀ i j, r i j ≤ 100000
def lE2 (p : Nat) (q : Nat → Nat) (r : Nat → Nat → Nat) (v : Nat → Nat → Nat → Int) (i : Nat) : LT := fun lock tt h K =>
  FitP lock h tt ⟨0, ([] : List Nat).zip []⟩ (dsE2.zip (VE2 (d3 p q r v) i 0)) ∧ (okD p q r ∧ i < p) ∧ K .normal (dsE2.zip (VE2 (d3 p q r v) i (q i))) ⟨0, ([] : List Nat).zip []⟩
theorem s3_ev (p : Nat) (q : Nat → Nat) (r : Nat → Nat → Nat) (v : Nat → Nat → Nat → Int) (i : Nat) (X : VEx → List VV → List VB → Prop) : codeE Try.prog (callN Try.prog noSpec noL 10 20) (tabB [(2, lE2 p q r v i)]) true 10 (ntOf Try.prog 20) 0 (loopB 0 (bodyOf Try.prog 20)) (dsE1.zip (VE1 (d3 p q r v) i)) ⟨0, ([] : List Nat).zip []⟩ (obs 0 dsE1 [] X) =
  (bif decide ((↑i : Int) < (↑p : Int)) then
 bif decide ((0 : Int) ≤ (↑i : Int) ∧ (↑i : Int) < (↑p : Int)) then
 bif decide ((0 : Int) ≤ (↑i : Int) ∧ (↑i : Int) < (↑p : Int)) then
 bif !decide ((↑(q (↑i : Int).toNat) : Int) = (↑(q (↑i : Int).toNat) : Int)) then
 X VEx.ret [I (↑i : Int), VV.bool false, VV.tl p 1 (d3G q r v), VV.tl p 1 (d3G q r v)] []
 else FitP 0 (VH.mk 0 ([].zip [])) (dsE2.zip (VE2 (d3 p q r v) (↑i : Int) (0 : Int))) (VH.mk 0 ([].zip [])) (dsE2.zip (VE2 (d3 p q r v) (↑i : Int) (0 : Int))) ∧ (okD p q r ∧ i < p) ∧ bif inK IntKind.i64 ((↑i : Int) + (1 : Int)) then
 X VEx.normal [I ((↑i : Int) + (1 : Int)), VV.bool false, VV.tl p 1 (d3G q r v), VV.tl p 1 (d3G q r v)] []
 else False
 else False
 else False
 else X (VEx.exit 0) [I (↑i : Int), VV.bool false, VV.tl p 1 (d3G q r v), VV.tl p 1 (d3G q r v)] []) := by kernel_rfl

def lE3 (p : Nat) (q : Nat → Nat) (r : Nat → Nat → Nat) (v : Nat → Nat → Nat → Int) : LT := fun lock tt h K =>
  FitP lock h tt ⟨0, ([] : List Nat).zip []⟩ (dsE1.zip (VE1 (d3 p q r v) 0)) ∧ okD p q r ∧ K .normal (dsE1.zip (VE1 (d3 p q r v) p)) ⟨0, ([] : List Nat).zip []⟩
theorem s3f_ev (p : Nat) (q : Nat → Nat) (r : Nat → Nat → Nat) (v : Nat → Nat → Nat → Int) (Q : VRes → Prop) : callN Try.prog noSpec (atF 20 [(0, lE3 p q r v)]) 10 20 0 (.fn 20) [d3 p q r v, d3 p q r v] ⟨0, []⟩ (fun r h => Q r) =
  (bif !decide ((↑p : Int) = (↑p : Int)) then
 Q (VRes.ret (VV.bool false))
 else FitP 0 (VH.mk 0 ([].zip [])) (dsE1.zip (VE1 (d3 p q r v) (0 : Int))) (VH.mk 0 ([].zip [])) (dsE1.zip (VE1 (d3 p q r v) (0 : Int))) ∧ okD p q r ∧ Q (VRes.ret (VV.bool true))) := by kernel_rfl

end Go.Sx.Bln

/- blend: the same lists. -/

namespace Go.Sx.Bln
open Go Go.Sx Go.Proofs
set_option maxRecDepth 1000000

theorem lE1_ok {L : Nat} {n : Nat → Int} : LSound Try.prog true (.block 0 (.loop (loopB 0 (bodyOf Try.prog 19)))) (ntOf Try.prog 19) (lE1 L n) := by
  by_cases hn : L ≤ 100000
  · refine loop_row hmix good0 (un := 10) (ds := dsE1) (ns := []) (nx := 0) (fun i : Nat => VE1 (d1 L n) i) (fun _ => []) (fun i => i ≤ L) (fun i => L - i) (fun _ e vs bs => e = .exit 0 ∧ bs = [] ∧ vs = VE1 (d1 L n) L) noL_ok ?_ ?_
    · rintro i h0
      refine cast (i1_ev L n i _).symm ?_
      by_cases hlt : i < L
      · exact cond_dk (by omega) (cond_dk ⟨by omega, by omega⟩ (cond_dk ⟨by omega, by omega⟩ (cond_nd (fun h => (h rfl).elim) (fun _ => cond_r (by omega) ⟨i + 1, by omega, by dsimp only; omega, rfl, fitBs_refl _, fun _ _ _ h => h⟩))))
      · obtain rfl : i = L := by omega
        exact cond_d (fun h => by omega) (fun _ => ⟨rfl, rfl, rfl⟩)
    · rintro lock tt h K ⟨hf, _, k1⟩
      refine ⟨0, hf, Nat.zero_le _, ?_⟩
      rintro e vs bs ⟨rfl, rfl, rfl⟩
      exact k1
  · rintro lock tt h K ⟨hf, hc, _⟩
    exact (hn hc).elim
theorem ints_v {L : Nat} {n : Nat → Int} (hL : L ≤ 100000) : ∃ h', CallsV Try.prog 19 [d1 L n, d1 L n] ⟨0, []⟩ (.ret (.bool true)) h' := by
  have hall : LoopsOk Try.prog 19 [(0, lE1 L n)] := fun x hx => by
    simp only [List.mem_singleton] at hx
    subst hx
    exact ⟨by kernel_rfl, lE1_ok⟩
  obtain ⟨r, h', rfl, hc⟩ := of_callN (callL_good hmix noSp hall (un := 10) 20) (f := 19) (args := [d1 L n, d1 L n]) (h := ⟨0, []⟩) (K := fun r _ => r = .ret (.bool true)) (cast (i1f_ev L n _).symm (cond_nd (fun h => (h rfl).elim) (fun _ => ⟨fitP_self rfl, hL, rfl⟩)))
  exact ⟨h', hc⟩
theorem inR_ok : SpOk Try.prog inR.1 inR.2 := by
  intro lock args h K hK
  simp only [inR] at hK
  split at hK
  · obtain ⟨L, n, hx, hy, hL, hK⟩ := hK
    obtain ⟨h', hv⟩ := ints_v (n := n) hL
    exact ⟨_, h, hK, lockP_refl _ _, calls_lendDP 2 hv rfl ⟨hx, hy, trivial⟩⟩
  · exact hK.elim

section
variable {p : Nat} {q : Nat → Nat} {r : Nat → Nat → Nat} {v : Nat → Nat → Nat → Int}
theorem lE2_ok {i : Nat} : LSound Try.prog true (.block 2 (.loop (loopB 2 (bodyOf Try.prog 20)))) (ntOf Try.prog 20) (lE2 p q r v i) := by
  by_cases hn : okD p q r ∧ i < p
  · obtain ⟨⟨h1, h2, h3⟩, hi⟩ := hn
    have hq := h2 i
    refine loop_row hmix (noL_good (tab1 inR_ok)) (un := 10) (ds := dsE2) (ns := []) (nx := 0) (fun k : Nat => VE2 (d3 p q r v) i k) (fun _ => []) (fun k => k ≤ q i) (fun k => q i - k) (fun _ e vs bs => e = .exit 2 ∧ bs = [] ∧ vs = VE2 (d3 p q r v) i (q i)) noL_ok ?_ ?_
    · rintro k h0
      refine cast (s2_ev p q r v i k _).symm ?_
      have e1 : (i : Int).toNat = i := by omega
      have e2 : (k : Int).toNat = k := by omega
      rw [e1]
      by_cases hlt : k < q i
      · refine cond_dk ⟨by omega, by omega⟩ (cond_dk (by omega) ?_)
        rw [e2]
        exact cond_dk ⟨by omega, by omega⟩ (cond_dk ⟨by omega, by omega⟩ (cond_dk ⟨by omega, by omega⟩ (cond_dk ⟨by omega, by omega⟩ ⟨r i k, v i k, ⟨rfl, rfl, fun _ _ => rfl⟩, ⟨rfl, rfl, fun _ _ => rfl⟩, h3 i k, cond_r (by omega) ⟨k + 1, by omega, by dsimp only; omega, rfl, fitBs_refl _, fun _ _ _ h => h⟩⟩)))
      · obtain rfl : k = q i := by omega
        exact cond_dk ⟨by omega, by omega⟩ (cond_d (fun h => by omega) (fun _ => ⟨rfl, rfl, rfl⟩))
    · rintro lock tt h K ⟨hf, _, k1⟩
      refine ⟨0, hf, Nat.zero_le _, ?_⟩
      rintro e vs bs ⟨rfl, rfl, rfl⟩
      exact k1
  · rintro lock tt h K ⟨hf, hc, _⟩
    exact (hn hc).elim
theorem lE3_ok : LSound Try.prog true (.block 0 (.loop (loopB 0 (bodyOf Try.prog 20)))) (ntOf Try.prog 20) (lE3 p q r v) := by
  by_cases hn : okD p q r
  · have hp := hn.1
    refine loop_rowD hmix good0 (un := 10) (ds := dsE1) (ns := []) (nx := 0) (lsp := fun i : Nat => tabB [(2, lE2 p q r v i)]) (fun i : Nat => VE1 (d3 p q r v) i) (fun _ => []) (fun i => i ≤ p) (fun i => p - i) (fun _ e vs bs => e = .exit 0 ∧ bs = [] ∧ vs = VE1 (d3 p q r v) p) (fun _ _ => lsp_one (by kernel_rfl) lE2_ok) ?_ ?_
    · rintro i h0
      refine cast (s3_ev p q r v i _).symm ?_
      by_cases hlt : i < p
      · refine cond_dk (by omega) (cond_dk ⟨by omega, by omega⟩ (cond_dk ⟨by omega, by omega⟩ (cond_nd (fun h => (h rfl).elim) (fun _ => ⟨⟨⟨rfl, rfl, trivial⟩, rfl, rfl, rfl, rfl, rfl, trivial⟩, ⟨hn, hlt⟩, cond_r (by omega) ⟨i + 1, by omega, by dsimp only; omega, rfl, fitBs_refl _, fun _ _ _ h => h⟩⟩))))
      · obtain rfl : i = p := by omega
        exact cond_d (fun h => by omega) (fun _ => ⟨rfl, rfl, rfl⟩)
    · rintro lock tt h K ⟨hf, _, k1⟩
      refine ⟨0, hf, Nat.zero_le _, ?_⟩
      rintro e vs bs ⟨rfl, rfl, rfl⟩
      exact k1
  · rintro lock tt h K ⟨hf, hc, _⟩
    exact (hn hc).elim
theorem plans_v (hn : okD p q r) : ∃ h', CallsV Try.prog 20 [d3 p q r v, d3 p q r v] ⟨0, []⟩ (.ret (.bool true)) h' := by
  have hall : LoopsOk Try.prog 20 [(0, lE3 p q r v)] := fun x hx => by
    simp only [List.mem_singleton] at hx
    subst hx
    exact ⟨by kernel_rfl, lE3_ok⟩
  obtain ⟨r, h', rfl, hc⟩ := of_callN (callL_good hmix noSp hall (un := 10) 20) (f := 20) (args := [d3 p q r v, d3 p q r v]) (h := ⟨0, []⟩) (K := fun r _ => r = .ret (.bool true)) (cast (s3f_ev p q r v _).symm (cond_nd (fun h => (h rfl).elim) (fun _ => ⟨fitP_self rfl, hn, rfl⟩)))
  exact ⟨h', hc⟩
end
theorem calls_args {P : Program} {f : FuncId} {args args2 : List VV} {h h' : VH} {r : VRes} (hs : CallsV P f args2 h r h') (hv : ∀ (R : Rn) (xs : List Value), VRelL R args xs → VRelL R args2 xs) : CallsV P f args h r h' := fun B R w xs em hx => hs B R w xs em (hv R xs hx)
/-- Two values that may be told otherwise. -/
theorem wk_two {x y x' y' : VV} (h1 : wkL [x] [x']) (h2 : wkL [y] [y']) (R : Rn) (xs : List Value) (h : VRelL R [x, y] xs) : VRelL R [x', y'] xs := by
  obtain ⟨a, _, k1, ⟨b, _, k2, k3, rfl⟩, rfl⟩ := h
  obtain ⟨_, _, u1, _, e1⟩ := h1.1 R [a] ⟨a, [], k1, rfl, rfl⟩
  obtain ⟨_, _, u2, _, e2⟩ := h2.1 R [b] ⟨b, [], k2, rfl, rfl⟩
  cases e1
  cases e2
  exact ⟨_, _, u1, ⟨_, _, u2, k3, rfl⟩, rfl⟩
/-- Are two plans the same, as a row: one plan. -/
def spR : FuncId × Spec1 := (20, fun _ args h K => match args with
  | [x, y] => ∃ (x' y' : VV) (p : Nat) (q : Nat → Nat) (r : Nat → Nat → Nat) (v : Nat → Nat → Nat → Int), isD h 2 x x' ∧ isD h 2 y y' ∧ (wkL [x'] [d3 p q r v] ∧ wkL [y'] [d3 p q r v]) ∧ okD p q r ∧ K (.ret (.bool true)) h
  | _ => False)
theorem spR_ok : SpOk Try.prog spR.1 spR.2 := by
  intro lock args h K hK
  simp only [spR] at hK
  split at hK
  · obtain ⟨x', y', p, q, r, v, hx, hy, ⟨w1, w2⟩, hL, hK⟩ := hK
    obtain ⟨h', hv⟩ := plans_v (v := v) hL
    exact ⟨_, h, hK, lockP_refl _ _, calls_lendDP 2 (calls_args hv (wk_two w1 w2)) rfl ⟨hx, hy, trivial⟩⟩
  · exact hK.elim
end Go.Sx.Bln

/- blend: alive, evaluated. -/

namespace Go.Sx.Bln
open Go Go.Sx Go.Proofs
set_option maxRecDepth 1000000

/-- The sample, as a row. -/
def smR : FuncId × Spec1 := (37, fun _ args h K => match args with
  | [] => K (.ret (.tup [stD L0, .agg (tsL T0)])) h
  | _ => False)
def P0 : List (List Int) := [[150, 150], [150, 0]]
def plOk (P : List (List Int)) (g : Nat → List VV) : Prop := ∀ i, i < P.length → wkL (g i) (pthG P i)
/-- The sample's plan, as a row. -/
def plA : FuncId × Spec1 := (17, fun lock args h K => match args, h with
  | [a, b, .sl m L], ⟨nx, bs⟩ => a = stD L0 ∧ b = .agg (tsL T0) ∧ (lock = 0 ∧ L = 2 ∧ ∃ g ty, (VH.mk nx bs).at m = .vec 2 g 1 ty ∧ plOk P0 g) ∧ ∀ x, planF L0 T0 P0 2 2 3 (mostF L0) = some x → K (.ret (.tup [plnD 3 2 2 x, I 0])) ⟨nx, (m, .gone) :: bs⟩
  | _, _ => False)
theorem al_ev (Q : VRes → Prop) : callN Try.prog (tabS [smR, cheapR L0 T0, plA, inR, spR]) noL 10 20 0 (.fn 16) [] ⟨0, []⟩ (fun r h => Q r) =
  (stD L0 = stD L0 ∧ VV.agg (tsL T0) = VV.agg (tsL T0) ∧ (chpE L0 T0 (0 : Int) (300 : Int) ≠ (0 : Int) → stD L0 = stD L0 ∧ VV.agg (tsL T0) = VV.agg (tsL T0) ∧ (0 = 0 ∧ 2 = 2 ∧ ∃ (g : Nat → List VV), ∃ (ty : TypeId), (VH.mk (4) [(3, VB.vec 2 (fun (j : Nat) => List.take (1) (List.drop (j * (1)) [VV.tl 2 (1) fun (j : Nat) => List.take (1) (List.drop (j * (1)) [I 150, I 150]), VV.tl 2 (1) fun (j : Nat) => List.take (1) (List.drop (j * (1)) [I 150, I 0])])) (1) 23), (2, VB.gone), (1, VB.gone), (2, VB.vec 2 (fun (j : Nat) => List.take (1) (List.drop (j * (1)) [I 150, I 0])) (1) 3), (1, VB.vec 2 (fun (j : Nat) => List.take (1) (List.drop (j * (1)) [I 150, I 150])) (1) 3), (0, VB.cells [VV.tl T0.T.length 1 (dG T0.T), I T0.far, I T0.least] 25), (0, VB.cells [VV.nils, I 0, I 0] 25)]).at (3) = VB.vec 2 g 1 ty ∧ plOk P0 g) ∧ ∀ (x : Rsl), planF L0 T0 P0 2 2 3 (mostF L0) = some x → ∃ (L : Nat), ∃ (n : Nat → Int), isD (VH.mk (5) [(4, VB.vec 3 (fun (j : Nat) => List.take (1) (List.drop (j * (1)) [I 2, I 1, I 0])) (1) 3), (3, VB.gone), (3, VB.vec 2 (fun (j : Nat) => List.take (1) (List.drop (j * (1)) [VV.tl 2 (1) fun (j : Nat) => List.take (1) (List.drop (j * (1)) [I 150, I 150]), VV.tl 2 (1) fun (j : Nat) => List.take (1) (List.drop (j * (1)) [I 150, I 0])])) (1) 23), (2, VB.gone), (1, VB.gone), (2, VB.vec 2 (fun (j : Nat) => List.take (1) (List.drop (j * (1)) [I 150, I 0])) (1) 3), (1, VB.vec 2 (fun (j : Nat) => List.take (1) (List.drop (j * (1)) [I 150, I 150])) (1) 3), (0, VB.cells [VV.tl T0.T.length 1 (dG T0.T), I T0.far, I T0.least] 25), (0, VB.cells [VV.nils, I 0, I 0] 25)]) 2 VV.nils (d1 L n) ∧ isD (VH.mk (5) [(4, VB.vec 3 (fun (j : Nat) => List.take (1) (List.drop (j * (1)) [I 2, I 1, I 0])) (1) 3), (3, VB.gone), (3, VB.vec 2 (fun (j : Nat) => List.take (1) (List.drop (j * (1)) [VV.tl 2 (1) fun (j : Nat) => List.take (1) (List.drop (j * (1)) [I 150, I 150]), VV.tl 2 (1) fun (j : Nat) => List.take (1) (List.drop (j * (1)) [I 150, I 0])])) (1) 23), (2, VB.gone), (1, VB.gone), (2, VB.vec 2 (fun (j : Nat) => List.take (1) (List.drop (j * (1)) [I 150, I 0])) (1) 3), (1, VB.vec 2 (fun (j : Nat) => List.take (1) (List.drop (j * (1)) [I 150, I 150])) (1) 3), (0, VB.cells [VV.tl T0.T.length 1 (dG T0.T), I T0.far, I T0.least] 25), (0, VB.cells [VV.nils, I 0, I 0] 25)]) 2 (VV.sl (4) 3) (d1 L n) ∧ L ≤ 100000 ∧ Q (VRes.ret (VV.bool false))) ∧ (chpE L0 T0 (0 : Int) (300 : Int) = (0 : Int) → ∀ (c : Nat → Int), chpF L0 T0 (0 : Int) (300 : Int) = some c → stD L0 = stD L0 ∧ VV.agg (tsL T0) = VV.agg (tsL T0) ∧ (0 = 0 ∧ 2 = 2 ∧ ∃ (g : Nat → List VV), ∃ (ty : TypeId), (VH.mk (4) [(3, VB.vec 2 (fun (j : Nat) => List.take (1) (List.drop (j * (1)) [VV.tl 2 (1) fun (j : Nat) => List.take (1) (List.drop (j * (1)) [I 150, I 150]), VV.tl 2 (1) fun (j : Nat) => List.take (1) (List.drop (j * (1)) [I 150, I 0])])) (1) 23), (2, VB.gone), (1, VB.gone), (2, VB.vec 2 (fun (j : Nat) => List.take (1) (List.drop (j * (1)) [I 150, I 0])) (1) 3), (1, VB.vec 2 (fun (j : Nat) => List.take (1) (List.drop (j * (1)) [I 150, I 150])) (1) 3), (0, VB.cells [VV.tl T0.T.length 1 (dG T0.T), I T0.far, I T0.least] 25), (0, VB.cells [VV.nils, I 0, I 0] 25)]).at (3) = VB.vec 2 g 1 ty ∧ plOk P0 g) ∧ ∀ (x : Rsl), planF L0 T0 P0 2 2 3 (mostF L0) = some x → ∃ (L : Nat), ∃ (n : Nat → Int), isD (VH.mk (5) [(4, VB.vec 3 (fun (j : Nat) => List.take (1) (List.drop (j * (1)) [I 2, I 1, I 0])) (1) 3), (3, VB.gone), (3, VB.vec 2 (fun (j : Nat) => List.take (1) (List.drop (j * (1)) [VV.tl 2 (1) fun (j : Nat) => List.take (1) (List.drop (j * (1)) [I 150, I 150]), VV.tl 2 (1) fun (j : Nat) => List.take (1) (List.drop (j * (1)) [I 150, I 0])])) (1) 23), (2, VB.gone), (1, VB.gone), (2, VB.vec 2 (fun (j : Nat) => List.take (1) (List.drop (j * (1)) [I 150, I 0])) (1) 3), (1, VB.vec 2 (fun (j : Nat) => List.take (1) (List.drop (j * (1)) [I 150, I 150])) (1) 3), (0, VB.cells [VV.tl T0.T.length 1 (dG T0.T), I T0.far, I T0.least] 25), (0, VB.cells [VV.nils, I 0, I 0] 25)]) 2 (VV.tl L0.length 1 (chG c)) (d1 L n) ∧ isD (VH.mk (5) [(4, VB.vec 3 (fun (j : Nat) => List.take (1) (List.drop (j * (1)) [I 2, I 1, I 0])) (1) 3), (3, VB.gone), (3, VB.vec 2 (fun (j : Nat) => List.take (1) (List.drop (j * (1)) [VV.tl 2 (1) fun (j : Nat) => List.take (1) (List.drop (j * (1)) [I 150, I 150]), VV.tl 2 (1) fun (j : Nat) => List.take (1) (List.drop (j * (1)) [I 150, I 0])])) (1) 23), (2, VB.gone), (1, VB.gone), (2, VB.vec 2 (fun (j : Nat) => List.take (1) (List.drop (j * (1)) [I 150, I 0])) (1) 3), (1, VB.vec 2 (fun (j : Nat) => List.take (1) (List.drop (j * (1)) [I 150, I 150])) (1) 3), (0, VB.cells [VV.tl T0.T.length 1 (dG T0.T), I T0.far, I T0.least] 25), (0, VB.cells [VV.nils, I 0, I 0] 25)]) 2 (VV.sl (4) 3) (d1 L n) ∧ L ≤ 100000 ∧ bif decide (costF L0 c = (130 : Int)) then
 ∃ (x' : VV), ∃ (y' : VV), ∃ (p : Nat), ∃ (q : Nat → Nat), ∃ (r : Nat → Nat → Nat), ∃ (v : Nat → Nat → Nat → Int), isD (VH.mk (12) [(11, VB.vec 2 (fun (j : Nat) => List.take (1) (List.drop (j * (1)) [VV.tl 2 (1) fun (j : Nat) => List.take (1) (List.drop (j * (1)) [VV.tl 3 (1) fun (j : Nat) => List.take (1) (List.drop (j * (1)) [I 1, I 1, I 0]), VV.tl 3 (1) fun (j : Nat) => List.take (1) (List.drop (j * (1)) [I 1, I 1, I 0])]), VV.tl 2 (1) fun (j : Nat) => List.take (1) (List.drop (j * (1)) [VV.tl 3 (1) fun (j : Nat) => List.take (1) (List.drop (j * (1)) [I 1, I 1, I 0]), VV.tl 3 (1) fun (j : Nat) => List.take (1) (List.drop (j * (1)) [I 0, I 0, I 0])])])) (1) 26), (10, VB.gone), (7, VB.gone), (10, VB.vec 2 (fun (j : Nat) => List.take (1) (List.drop (j * (1)) [VV.tl 3 (1) fun (j : Nat) => List.take (1) (List.drop (j * (1)) [I 1, I 1, I 0]), VV.tl 3 (1) fun (j : Nat) => List.take (1) (List.drop (j * (1)) [I 0, I 0, I 0])])) (1) 23), (9, VB.gone), (8, VB.gone), (9, VB.vec 3 (fun (j : Nat) => List.take (1) (List.drop (j * (1)) [I 0, I 0, I 0])) (1) 3), (8, VB.vec 3 (fun (j : Nat) => List.take (1) (List.drop (j * (1)) [I 1, I 1, I 0])) (1) 3), (7, VB.vec 2 (fun (j : Nat) => List.take (1) (List.drop (j * (1)) [VV.tl 3 (1) fun (j : Nat) => List.take (1) (List.drop (j * (1)) [I 1, I 1, I 0]), VV.tl 3 (1) fun (j : Nat) => List.take (1) (List.drop (j * (1)) [I 1, I 1, I 0])])) (1) 23), (6, VB.gone), (5, VB.gone), (6, VB.vec 3 (fun (j : Nat) => List.take (1) (List.drop (j * (1)) [I 1, I 1, I 0])) (1) 3), (5, VB.vec 3 (fun (j : Nat) => List.take (1) (List.drop (j * (1)) [I 1, I 1, I 0])) (1) 3), (4, VB.vec 3 (fun (j : Nat) => List.take (1) (List.drop (j * (1)) [I 2, I 1, I 0])) (1) 3), (3, VB.gone), (3, VB.vec 2 (fun (j : Nat) => List.take (1) (List.drop (j * (1)) [VV.tl 2 (1) fun (j : Nat) => List.take (1) (List.drop (j * (1)) [I 150, I 150]), VV.tl 2 (1) fun (j : Nat) => List.take (1) (List.drop (j * (1)) [I 150, I 0])])) (1) 23), (2, VB.gone), (1, VB.gone), (2, VB.vec 2 (fun (j : Nat) => List.take (1) (List.drop (j * (1)) [I 150, I 0])) (1) 3), (1, VB.vec 2 (fun (j : Nat) => List.take (1) (List.drop (j * (1)) [I 150, I 150])) (1) 3), (0, VB.cells [VV.tl T0.T.length 1 (dG T0.T), I T0.far, I T0.least] 25), (0, VB.cells [VV.nils, I 0, I 0] 25)]) 2 (VV.tl 2 1 (plnG 3 2 x)) x' ∧ isD (VH.mk (12) [(11, VB.vec 2 (fun (j : Nat) => List.take (1) (List.drop (j * (1)) [VV.tl 2 (1) fun (j : Nat) => List.take (1) (List.drop (j * (1)) [VV.tl 3 (1) fun (j : Nat) => List.take (1) (List.drop (j * (1)) [I 1, I 1, I 0]), VV.tl 3 (1) fun (j : Nat) => List.take (1) (List.drop (j * (1)) [I 1, I 1, I 0])]), VV.tl 2 (1) fun (j : Nat) => List.take (1) (List.drop (j * (1)) [VV.tl 3 (1) fun (j : Nat) => List.take (1) (List.drop (j * (1)) [I 1, I 1, I 0]), VV.tl 3 (1) fun (j : Nat) => List.take (1) (List.drop (j * (1)) [I 0, I 0, I 0])])])) (1) 26), (10, VB.gone), (7, VB.gone), (10, VB.vec 2 (fun (j : Nat) => List.take (1) (List.drop (j * (1)) [VV.tl 3 (1) fun (j : Nat) => List.take (1) (List.drop (j * (1)) [I 1, I 1, I 0]), VV.tl 3 (1) fun (j : Nat) => List.take (1) (List.drop (j * (1)) [I 0, I 0, I 0])])) (1) 23), (9, VB.gone), (8, VB.gone), (9, VB.vec 3 (fun (j : Nat) => List.take (1) (List.drop (j * (1)) [I 0, I 0, I 0])) (1) 3), (8, VB.vec 3 (fun (j : Nat) => List.take (1) (List.drop (j * (1)) [I 1, I 1, I 0])) (1) 3), (7, VB.vec 2 (fun (j : Nat) => List.take (1) (List.drop (j * (1)) [VV.tl 3 (1) fun (j : Nat) => List.take (1) (List.drop (j * (1)) [I 1, I 1, I 0]), VV.tl 3 (1) fun (j : Nat) => List.take (1) (List.drop (j * (1)) [I 1, I 1, I 0])])) (1) 23), (6, VB.gone), (5, VB.gone), (6, VB.vec 3 (fun (j : Nat) => List.take (1) (List.drop (j * (1)) [I 1, I 1, I 0])) (1) 3), (5, VB.vec 3 (fun (j : Nat) => List.take (1) (List.drop (j * (1)) [I 1, I 1, I 0])) (1) 3), (4, VB.vec 3 (fun (j : Nat) => List.take (1) (List.drop (j * (1)) [I 2, I 1, I 0])) (1) 3), (3, VB.gone), (3, VB.vec 2 (fun (j : Nat) => List.take (1) (List.drop (j * (1)) [VV.tl 2 (1) fun (j : Nat) => List.take (1) (List.drop (j * (1)) [I 150, I 150]), VV.tl 2 (1) fun (j : Nat) => List.take (1) (List.drop (j * (1)) [I 150, I 0])])) (1) 23), (2, VB.gone), (1, VB.gone), (2, VB.vec 2 (fun (j : Nat) => List.take (1) (List.drop (j * (1)) [I 150, I 0])) (1) 3), (1, VB.vec 2 (fun (j : Nat) => List.take (1) (List.drop (j * (1)) [I 150, I 150])) (1) 3), (0, VB.cells [VV.tl T0.T.length 1 (dG T0.T), I T0.far, I T0.least] 25), (0, VB.cells [VV.nils, I 0, I 0] 25)]) 2 (VV.sl (11) 2) y' ∧ (wkL [x'] [d3 p q r v] ∧ wkL [y'] [d3 p q r v]) ∧ okD p q r ∧ Q (VRes.ret (VV.bool (decide ((0 : Int) = (0 : Int)))))
 else Q (VRes.ret (VV.bool false)))) := by kernel_rfl

end Go.Sx.Bln

/- blend: the law BlendMade, evaluated. -/

namespace Go.Sx.Bln
open Go Go.Sx Go.Proofs
set_option maxRecDepth 1000000

end Go.Sx.Bln
