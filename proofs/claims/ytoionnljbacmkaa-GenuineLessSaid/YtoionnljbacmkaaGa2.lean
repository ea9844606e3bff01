/- genuine: data, and plain functions. -/
import Derived.Test.YtoionnljbacmkaaSxV

namespace Go.Sx.Gen
open Go Go.Sx

abbrev I (n : Int) : VV := .int .i64 n
abbrev Bo (b : Bool) : VV := .bool b

def inB (n a b : Int) : Bool := decide (a ≤ n) && decide (n ≤ b)
def spanB (lo hi most : Int) : Bool := decide (0 ≤ lo) && decide (lo ≤ hi) && decide (hi ≤ most)

/-- All of k numbers from i on. -/
def allB (p : Int → Bool) : Nat → Int → Bool
  | 0, _ => true
  | k + 1, i => p i && allB p k (i + 1)

def spansB (len : Nat) (lo hi : Int → Int) : Bool := decide ((len : Int) ≤ 12) && allB (fun j => spanB (lo j) (hi j) 1048576) len 0

theorem allB_iff {p : Int → Bool} : ∀ {k : Nat} {i : Int}, allB p k i = true ↔ ∀ j, i ≤ j → j < i + k → p j = true
  | 0, i => by simp [allB]; intro j h1 h2; omega
  | k + 1, i => by
    simp only [allB, Bool.and_eq_true, allB_iff (k := k) (i := i + 1)]
    constructor
    · rintro ⟨h1, h2⟩ j h3 h4
      by_cases h : j = i
      · subst h; exact h1
      · exact h2 j (by omega) (by omega)
    · intro h
      exact ⟨h i (by omega) (by omega), fun j h1 h2 => h j (by omega) (by omega)⟩

theorem allB_congr {p q : Int → Bool} : ∀ {k : Nat} {i : Int}, (∀ j, i ≤ j → j < i + k → p j = q j) → allB p k i = allB q k i
  | 0, _, _ => rfl
  | k + 1, i, h => by
    simp only [allB]
    rw [h i (by omega) (by omega), allB_congr (k := k) (i := i + 1) (fun j h1 h2 => h j (by omega) (by omega))]

/-- A source. -/
structure Src where
  cask : Int
  drawn : Int
  slo : Int
  shi : Int
  vl : Nat
  vc : Nat
  lo : Int → Int
  hi : Int → Int

/-- A suspect. -/
structure Sus where
  glass : Int
  paper : Int
  slo : Int
  shi : Int
  sl : Nat
  sc : Nat
  lo : Int → Int
  hi : Int → Int

/-- An array of spans. -/
def spanA (ok : List Int → Int → Prop) (lo hi : List Int → Int → Int) : VB := .arr 2 ok (fun ix j => [I (lo ix j), I (hi ix j)])

def at1 (f : Int → Int → Int) : List Int → Int → Int
  | [i], j => f i j
  | _, _ => 0

def srcA (n : Nat) (l : Int → Src) : VB := .arr 5 (fun ix i => ix = [] ∧ 0 ≤ i ∧ i < n) (fun _ i => [I (l i).cask, I (l i).drawn, I (l i).slo, I (l i).shi, .slice (.el 1 [i] 0 0) (l i).vl (l i).vc])
def valA (n : Nat) (l : Int → Src) : VB := spanA (fun ix j => ∃ i, ix = [i] ∧ 0 ≤ i ∧ i < n ∧ 0 ≤ j ∧ j < (l i).vl) (at1 fun i => (l i).lo) (at1 fun i => (l i).hi)
def seenA (b : Sus) : VB := spanA (fun ix j => ix = [] ∧ 0 ≤ j ∧ j < b.sl) (fun _ => b.lo) (fun _ => b.hi)

def srcV (l : Int → Src) (i : Int) : VV := .agg [I (l i).cask, I (l i).drawn, I (l i).slo, I (l i).shi, .slice (.el 1 [i] 0 0) (l i).vl (l i).vc]
def susV (b : Sus) : VV := .agg [I b.glass, I b.paper, I b.slo, I b.shi, .slice (.el 2 [] 0 0) b.sl b.sc]

/-- A source that is valid where the first has f values. -/
def srcB (f : Nat) (s : Src) : Bool := inB s.cask 0 1073741824 && inB s.drawn 0 65536 && spanB s.slo s.shi 10000 && spansB s.vl s.lo s.hi && decide ((s.vl : Int) = f)
def srcsB (n : Nat) (l : Int → Src) : Bool := decide ((n : Int) ≤ 64) && allB (fun i => srcB (l 0).vl (l i)) n 0
def susB (b : Sus) : Bool := inB b.glass 0 65536 && inB b.paper 0 65536 && spanB b.slo b.shi 10000 && spansB b.sl b.lo b.hi
def bothB (b : Sus) (n : Nat) (l : Int → Src) : Bool := susB b && (decide (n = 0) || decide ((b.sl : Int) = (l 0).vl))
end Go.Sx.Gen
