/- malt: dust, minute by minute. -/
namespace Go.Sx.Malt

def latF (made drawn c : Int) : Int := ((10000 - drawn) * c + 10000 - 1) / 10000 + made

theorem latF_b {made drawn c : Int} (hd : 0 ≤ drawn ∧ drawn ≤ 10000) (hc : 0 ≤ c) : made ≤ latF made drawn c ∧ latF made drawn c ≤ c + made := by
  have h1 : (10000 - drawn) * c ≤ 10000 * c := Int.mul_le_mul_of_nonneg_right (by omega) hc
  have h2 : 0 ≤ (10000 - drawn) * c := Int.mul_nonneg (by omega) hc
  unfold latF
  generalize (10000 - drawn) * c = p at *
  omega

/-- The dust so many minutes later; what is more than can be told stays so. -/
def dustL (made drawn : Int) : Nat → Int → Int
  | 0, c => c
  | n + 1, c => bif decide (latF made drawn c > 1073741824) then 1073741824 else dustL made drawn n (latF made drawn c)

theorem dustL_big {made drawn c : Int} {n : Nat} (h : latF made drawn c > 1073741824) : dustL made drawn (n + 1) c = 1073741824 := by
  show (bif decide _ then _ else _) = _
  rw [decide_eq_true h]; rfl

theorem dustL_go {made drawn c : Int} {n : Nat} (h : ¬ latF made drawn c > 1073741824) : dustL made drawn (n + 1) c = dustL made drawn n (latF made drawn c) := by
  show (bif decide _ then _ else _) = _
  rw [decide_eq_false h]; rfl

theorem dustL_fix {made drawn c : Int} (h : latF made drawn c = c) (hc : ¬ c > 1073741824) : ∀ n : Nat, dustL made drawn n c = c
  | 0 => rfl
  | n + 1 => by rw [dustL_go (by rw [h]; exact hc), h]; exact dustL_fix h hc n

/-- The first minute at which it harms, from a minute on; -1: it never does. -/
def harmL (made drawn limit : Int) : Nat → Int → Int → Int × Int
  | 0, _, _ => (0, 4)
  | n + 1, i, c => bif decide (c > limit) then (i, 0) else (bif decide (latF made drawn c ≤ c) then (0, 4) else harmL made drawn limit n (i + 1) (latF made drawn c))

end Go.Sx.Malt
