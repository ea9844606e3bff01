/- malt: the laws MaltDust, MaltAir, MaltEver, evaluated. -/
import Derived.Test.YtdfbhoejljidfaaMdC
import Derived.Test.YtdfbhoejljidfaaMxh

namespace Go.Sx.Malt
open Go Go.Sx Go.Proofs
set_option maxRecDepth 100000

/-- Dust as a row. -/
def duT (f : FuncId) (D : Int → Int → Int → Int → Int → Int × Int) : FuncId × Spec1 := (f, fun _ args h K => match args with
  | [.agg [.int .i64 a, .int .i64 b, .int .i64 c, .int .i64 d], .int .i64 m] => K (res2 (D a b c d m)) h
  | _ => False)

/-- Harm as a row. -/
def haT (f : FuncId) (H : Int → Int → Int → Int → Int × Int) : FuncId × Spec1 := (f, fun _ args h K => match args with
  | [.agg [.int .i64 a, .int .i64 b, .int .i64 c, .int .i64 d]] => K (res2 (H a b c d)) h
  | _ => False)

def dT1 (D : Int → Int → Int → Int → Int → Int × Int) (H : Int → Int → Int → Int → Int × Int) (B : Int → Int → Int → Int → Bool) : List (FuncId × Spec1) :=
  [awT, duT 23 D, duT 24 D, haT 25 H, haT 26 H, millT 27 B]

theorem law4_ev (D : Int → Int → Int → Int → Int → Int × Int) (H : Int → Int → Int → Int → Int × Int) (B : Int → Int → Int → Int → Bool) (a b c d m : Int) (Q : Bool → Prop) : callN Try.prog (tabS (dT1 D H B)) noL 10 20 0 (.fn 6) [.agg [I a, I b, I c, I d], I m] ⟨0, []⟩ (boQ Q) =
  (bif !decide ((D a b c d m).fst = (D a b c d m).fst) then
 Q false
 else bif !decide ((D a b c d m).snd = (D a b c d m).snd) then
 Q false
 else bif decide (c = (0 : Int)) then
 bif decide (d > (100000 : Int)) then
 bif decide (d ≤ (1073741824 : Int)) then
 Q true
 else bif decide ((H a b c d).fst = (H a b c d).fst) then
 bif decide ((H a b c d).snd = (H a b c d).snd) then
 Q true
 else Q false
 else Q false
 else bif decide ((H a b c d).fst = (H a b c d).fst) then
 bif decide ((H a b c d).snd = (H a b c d).snd) then
 Q true
 else Q false
 else Q false
 else bif decide ((H a b c d).fst = (H a b c d).fst) then
 bif decide ((H a b c d).snd = (H a b c d).snd) then
 Q true
 else Q false
 else Q false) := by kernel_rfl

theorem law5_ev (D : Int → Int → Int → Int → Int → Int × Int) (H : Int → Int → Int → Int → Int × Int) (B : Int → Int → Int → Int → Bool) (a b c d m u v : Int) (Q : Bool → Prop) : callN Try.prog (tabS (dT1 D H B)) noL 10 20 0 (.fn 7) [.agg [I a, I b, I c, I d], I m, .int .u16 u, .int .u16 v] ⟨0, []⟩ (boQ Q) =
  (bif !decide ((D a b c d m).snd = (0 : Int)) then
 bif decide ((D a b c d m).fst = (0 : Int)) then
 Q true
 else Q false
 else bif !B a b c d then
 Q false
 else bif decide (m < (0 : Int)) then
 Q false
 else bif decide (m > (65536 : Int)) then
 Q false
 else bif decide ((D a b c d m).fst < (0 : Int)) then
 Q false
 else bif decide ((D a b c d m).fst > (1073741824 : Int)) then
 Q false
 else bif inK IntKind.i64 u then
 bif inK IntKind.i64 (b - u) then
 bif inK IntKind.i64 v then
 bif inK IntKind.i64 (c + v) then
 bif !decide ((D a (max (0 : Int) (b - u)) (min (10000 : Int) (c + v)) d m).snd = (0 : Int)) then
 Q false
 else bif decide ((D a (max (0 : Int) (b - u)) (min (10000 : Int) (c + v)) d m).fst > (D a b c d m).fst) then
 Q false
 else bif decide (c > (0 : Int)) then
 bif decide ((H a b c d).snd = (4 : Int)) then
 bif !decide ((H a (max (0 : Int) (b - u)) (min (10000 : Int) (c + v)) d).snd = (4 : Int)) then
 Q false
 else bif decide ((H a b c d).snd = (0 : Int)) then
 bif decide ((H a (max (0 : Int) (b - u)) (min (10000 : Int) (c + v)) d).snd = (0 : Int)) then
 bif decide ((H a (max (0 : Int) (b - u)) (min (10000 : Int) (c + v)) d).fst < (H a b c d).fst) then
 Q false
 else bif decide (m > (65534 : Int)) then
 Q true
 else bif inK IntKind.i64 (m + (1 : Int)) then
 bif inK IntKind.i64 (m + (2 : Int)) then
 bif decide ((D a b c d (m + (1 : Int))).snd = (0 : Int)) then
 bif decide ((D a b c d (m + (2 : Int))).snd = (0 : Int)) then
 bif decide ((D a b c d (m + (1 : Int))).fst > (D a b c d m).fst) then
 Q true
 else bif decide ((D a b c d (m + (2 : Int))).fst ≤ (D a b c d (m + (1 : Int))).fst) then
 Q true
 else Q false
 else Q false
 else Q false
 else False
 else False
 else bif decide (m > (65534 : Int)) then
 Q true
 else bif inK IntKind.i64 (m + (1 : Int)) then
 bif inK IntKind.i64 (m + (2 : Int)) then
 bif decide ((D a b c d (m + (1 : Int))).snd = (0 : Int)) then
 bif decide ((D a b c d (m + (2 : Int))).snd = (0 : Int)) then
 bif decide ((D a b c d (m + (1 : Int))).fst > (D a b c d m).fst) then
 Q true
 else bif decide ((D a b c d (m + (2 : Int))).fst ≤ (D a b c d (m + (1 : Int))).fst) then
 Q true
 else Q false
 else Q false
 else Q false
 else False
 else False
 else bif decide (m > (65534 : Int)) then
 Q true
 else bif inK IntKind.i64 (m + (1 : Int)) then
 bif inK IntKind.i64 (m + (2 : Int)) then
 bif decide ((D a b c d (m + (1 : Int))).snd = (0 : Int)) then
 bif decide ((D a b c d (m + (2 : Int))).snd = (0 : Int)) then
 bif decide ((D a b c d (m + (1 : Int))).fst > (D a b c d m).fst) then
 Q true
 else bif decide ((D a b c d (m + (2 : Int))).fst ≤ (D a b c d (m + (1 : Int))).fst) then
 Q true
 else Q false
 else Q false
 else Q false
 else False
 else False
 else bif decide ((H a b c d).snd = (0 : Int)) then
 bif decide ((H a (max (0 : Int) (b - u)) (min (10000 : Int) (c + v)) d).snd = (0 : Int)) then
 bif decide ((H a (max (0 : Int) (b - u)) (min (10000 : Int) (c + v)) d).fst < (H a b c d).fst) then
 Q false
 else bif decide (m > (65534 : Int)) then
 Q true
 else bif inK IntKind.i64 (m + (1 : Int)) then
 bif inK IntKind.i64 (m + (2 : Int)) then
 bif decide ((D a b c d (m + (1 : Int))).snd = (0 : Int)) then
 bif decide ((D a b c d (m + (2 : Int))).snd = (0 : Int)) then
 bif decide ((D a b c d (m + (1 : Int))).fst > (D a b c d m).fst) then
 Q true
 else bif decide ((D a b c d (m + (2 : Int))).fst ≤ (D a b c d (m + (1 : Int))).fst) then
 Q true
 else Q false
 else Q false
 else Q false
 else False
 else False
 else bif decide (m > (65534 : Int)) then
 Q true
 else bif inK IntKind.i64 (m + (1 : Int)) then
 bif inK IntKind.i64 (m + (2 : Int)) then
 bif decide ((D a b c d (m + (1 : Int))).snd = (0 : Int)) then
 bif decide ((D a b c d (m + (2 : Int))).snd = (0 : Int)) then
 bif decide ((D a b c d (m + (1 : Int))).fst > (D a b c d m).fst) then
 Q true
 else bif decide ((D a b c d (m + (2 : Int))).fst ≤ (D a b c d (m + (1 : Int))).fst) then
 Q true
 else Q false
 else Q false
 else Q false
 else False
 else False
 else bif decide (m > (65534 : Int)) then
 Q true
 else bif inK IntKind.i64 (m + (1 : Int)) then
 bif inK IntKind.i64 (m + (2 : Int)) then
 bif decide ((D a b c d (m + (1 : Int))).snd = (0 : Int)) then
 bif decide ((D a b c d (m + (2 : Int))).snd = (0 : Int)) then
 bif decide ((D a b c d (m + (1 : Int))).fst > (D a b c d m).fst) then
 Q true
 else bif decide ((D a b c d (m + (2 : Int))).fst ≤ (D a b c d (m + (1 : Int))).fst) then
 Q true
 else Q false
 else Q false
 else Q false
 else False
 else False
 else bif decide (d ≤ (100000 : Int)) then
 bif decide ((H a b c d).snd = (4 : Int)) then
 bif !decide ((H a (max (0 : Int) (b - u)) (min (10000 : Int) (c + v)) d).snd = (4 : Int)) then
 Q false
 else bif decide ((H a b c d).snd = (0 : Int)) then
 bif decide ((H a (max (0 : Int) (b - u)) (min (10000 : Int) (c + v)) d).snd = (0 : Int)) then
 bif decide ((H a (max (0 : Int) (b - u)) (min (10000 : Int) (c + v)) d).fst < (H a b c d).fst) then
 Q false
 else bif decide (m > (65534 : Int)) then
 Q true
 else bif inK IntKind.i64 (m + (1 : Int)) then
 bif inK IntKind.i64 (m + (2 : Int)) then
 bif decide ((D a b c d (m + (1 : Int))).snd = (0 : Int)) then
 bif decide ((D a b c d (m + (2 : Int))).snd = (0 : Int)) then
 bif decide ((D a b c d (m + (1 : Int))).fst > (D a b c d m).fst) then
 Q true
 else bif decide ((D a b c d (m + (2 : Int))).fst ≤ (D a b c d (m + (1 : Int))).fst) then
 Q true
 else Q false
 else Q false
 else Q false
 else False
 else False
 else bif decide (m > (65534 : Int)) then
 Q true
 else bif inK IntKind.i64 (m + (1 : Int)) then
 bif inK IntKind.i64 (m + (2 : Int)) then
 bif decide ((D a b c d (m + (1 : Int))).snd = (0 : Int)) then
 bif decide ((D a b c d (m + (2 : Int))).snd = (0 : Int)) then
 bif decide ((D a b c d (m + (1 : Int))).fst > (D a b c d m).fst) then
 Q true
 else bif decide ((D a b c d (m + (2 : Int))).fst ≤ (D a b c d (m + (1 : Int))).fst) then
 Q true
 else Q false
 else Q false
 else Q false
 else False
 else False
 else bif decide (m > (65534 : Int)) then
 Q true
 else bif inK IntKind.i64 (m + (1 : Int)) then
 bif inK IntKind.i64 (m + (2 : Int)) then
 bif decide ((D a b c d (m + (1 : Int))).snd = (0 : Int)) then
 bif decide ((D a b c d (m + (2 : Int))).snd = (0 : Int)) then
 bif decide ((D a b c d (m + (1 : Int))).fst > (D a b c d m).fst) then
 Q true
 else bif decide ((D a b c d (m + (2 : Int))).fst ≤ (D a b c d (m + (1 : Int))).fst) then
 Q true
 else Q false
 else Q false
 else Q false
 else False
 else False
 else bif decide ((H a b c d).snd = (0 : Int)) then
 bif decide ((H a (max (0 : Int) (b - u)) (min (10000 : Int) (c + v)) d).snd = (0 : Int)) then
 bif decide ((H a (max (0 : Int) (b - u)) (min (10000 : Int) (c + v)) d).fst < (H a b c d).fst) then
 Q false
 else bif decide (m > (65534 : Int)) then
 Q true
 else bif inK IntKind.i64 (m + (1 : Int)) then
 bif inK IntKind.i64 (m + (2 : Int)) then
 bif decide ((D a b c d (m + (1 : Int))).snd = (0 : Int)) then
 bif decide ((D a b c d (m + (2 : Int))).snd = (0 : Int)) then
 bif decide ((D a b c d (m + (1 : Int))).fst > (D a b c d m).fst) then
 Q true
 else bif decide ((D a b c d (m + (2 : Int))).fst ≤ (D a b c d (m + (1 : Int))).fst) then
 Q true
 else Q false
 else Q false
 else Q false
 else False
 else False
 else bif decide (m > (65534 : Int)) then
 Q true
 else bif inK IntKind.i64 (m + (1 : Int)) then
 bif inK IntKind.i64 (m + (2 : Int)) then
 bif decide ((D a b c d (m + (1 : Int))).snd = (0 : Int)) then
 bif decide ((D a b c d (m + (2 : Int))).snd = (0 : Int)) then
 bif decide ((D a b c d (m + (1 : Int))).fst > (D a b c d m).fst) then
 Q true
 else bif decide ((D a b c d (m + (2 : Int))).fst ≤ (D a b c d (m + (1 : Int))).fst) then
 Q true
 else Q false
 else Q false
 else Q false
 else False
 else False
 else bif decide (m > (65534 : Int)) then
 Q true
 else bif inK IntKind.i64 (m + (1 : Int)) then
 bif inK IntKind.i64 (m + (2 : Int)) then
 bif decide ((D a b c d (m + (1 : Int))).snd = (0 : Int)) then
 bif decide ((D a b c d (m + (2 : Int))).snd = (0 : Int)) then
 bif decide ((D a b c d (m + (1 : Int))).fst > (D a b c d m).fst) then
 Q true
 else bif decide ((D a b c d (m + (2 : Int))).fst ≤ (D a b c d (m + (1 : Int))).fst) then
 Q true
 else Q false
 else Q false
 else Q false
 else False
 else False
 else bif decide (m > (65534 : Int)) then
 Q true
 else bif inK IntKind.i64 (m + (1 : Int)) then
 bif inK IntKind.i64 (m + (2 : Int)) then
 bif decide ((D a b c d (m + (1 : Int))).snd = (0 : Int)) then
 bif decide ((D a b c d (m + (2 : Int))).snd = (0 : Int)) then
 bif decide ((D a b c d (m + (1 : Int))).fst > (D a b c d m).fst) then
 Q true
 else bif decide ((D a b c d (m + (2 : Int))).fst ≤ (D a b c d (m + (1 : Int))).fst) then
 Q true
 else Q false
 else Q false
 else Q false
 else False
 else False
 else False
 else False
 else False
 else False) := by kernel_rfl

theorem law6_ev (D : Int → Int → Int → Int → Int → Int × Int) (H : Int → Int → Int → Int → Int × Int) (B : Int → Int → Int → Int → Bool) (a b c d u : Int) (Q : Bool → Prop) : callN Try.prog (tabS (dT1 D H B)) noL 10 20 0 (.fn 8) [.agg [I a, I b, I c, I d], .int .u16 u] ⟨0, []⟩ (boQ Q) =
  (bif decide (c = (0 : Int)) then
 bif decide (d > (100000 : Int)) then
 bif decide (d ≤ (1073741824 : Int)) then
 Q true
 else bif decide ((H a b c d).snd = (1 : Int)) then
 bif decide ((H a b c d).fst = (0 : Int)) then
 Q true
 else Q false
 else bif decide ((H a b c d).snd = (4 : Int)) then
 bif inK IntKind.i64 u then
 bif decide ((H a b c d).fst = (0 : Int)) then
 bif decide ((D a b c d u).snd = (0 : Int)) then
 bif decide ((D a b c d u).fst ≤ d) then
 Q true
 else Q false
 else Q false
 else Q false
 else False
 else bif !decide ((H a b c d).snd = (0 : Int)) then
 Q false
 else bif decide ((H a b c d).fst < (0 : Int)) then
 Q false
 else bif decide ((H a b c d).fst ≤ (65536 : Int)) then
 bif !decide ((D a b c d (H a b c d).fst).snd = (0 : Int)) then
 Q false
 else bif inK IntKind.i64 (d + (1 : Int)) then
 bif decide ((D a b c d (H a b c d).fst).fst < min (d + (1 : Int)) (1073741824 : Int)) then
 Q false
 else bif decide ((H a b c d).fst = (0 : Int)) then
 Q true
 else bif inK IntKind.i64 u then
 bif decide ((H a b c d).fst = (0 : Int)) then
 False
 else bif decide ((D a b c d (min (remZ u (H a b c d).fst) (65536 : Int))).snd = (0 : Int)) then
 bif decide ((D a b c d (min (remZ u (H a b c d).fst) (65536 : Int))).fst ≤ d) then
 Q true
 else Q false
 else Q false
 else False
 else False
 else bif decide ((H a b c d).fst = (0 : Int)) then
 Q true
 else bif inK IntKind.i64 u then
 bif decide ((H a b c d).fst = (0 : Int)) then
 False
 else bif decide ((D a b c d (min (remZ u (H a b c d).fst) (65536 : Int))).snd = (0 : Int)) then
 bif decide ((D a b c d (min (remZ u (H a b c d).fst) (65536 : Int))).fst ≤ d) then
 Q true
 else Q false
 else Q false
 else False
 else bif decide ((H a b c d).snd = (1 : Int)) then
 bif decide ((H a b c d).fst = (0 : Int)) then
 Q true
 else Q false
 else bif decide ((H a b c d).snd = (4 : Int)) then
 bif inK IntKind.i64 u then
 bif decide ((H a b c d).fst = (0 : Int)) then
 bif decide ((D a b c d u).snd = (0 : Int)) then
 bif decide ((D a b c d u).fst ≤ d) then
 Q true
 else Q false
 else Q false
 else Q false
 else False
 else bif !decide ((H a b c d).snd = (0 : Int)) then
 Q false
 else bif decide ((H a b c d).fst < (0 : Int)) then
 Q false
 else bif decide ((H a b c d).fst ≤ (65536 : Int)) then
 bif !decide ((D a b c d (H a b c d).fst).snd = (0 : Int)) then
 Q false
 else bif inK IntKind.i64 (d + (1 : Int)) then
 bif decide ((D a b c d (H a b c d).fst).fst < min (d + (1 : Int)) (1073741824 : Int)) then
 Q false
 else bif decide ((H a b c d).fst = (0 : Int)) then
 Q true
 else bif inK IntKind.i64 u then
 bif decide ((H a b c d).fst = (0 : Int)) then
 False
 else bif decide ((D a b c d (min (remZ u (H a b c d).fst) (65536 : Int))).snd = (0 : Int)) then
 bif decide ((D a b c d (min (remZ u (H a b c d).fst) (65536 : Int))).fst ≤ d) then
 Q true
 else Q false
 else Q false
 else False
 else False
 else bif decide ((H a b c d).fst = (0 : Int)) then
 Q true
 else bif inK IntKind.i64 u then
 bif decide ((H a b c d).fst = (0 : Int)) then
 False
 else bif decide ((D a b c d (min (remZ u (H a b c d).fst) (65536 : Int))).snd = (0 : Int)) then
 bif decide ((D a b c d (min (remZ u (H a b c d).fst) (65536 : Int))).fst ≤ d) then
 Q true
 else Q false
 else Q false
 else False
 else bif decide ((H a b c d).snd = (1 : Int)) then
 bif decide ((H a b c d).fst = (0 : Int)) then
 Q true
 else Q false
 else bif decide ((H a b c d).snd = (4 : Int)) then
 bif inK IntKind.i64 u then
 bif decide ((H a b c d).fst = (0 : Int)) then
 bif decide ((D a b c d u).snd = (0 : Int)) then
 bif decide ((D a b c d u).fst ≤ d) then
 Q true
 else Q false
 else Q false
 else Q false
 else False
 else bif !decide ((H a b c d).snd = (0 : Int)) then
 Q false
 else bif decide ((H a b c d).fst < (0 : Int)) then
 Q false
 else bif decide ((H a b c d).fst ≤ (65536 : Int)) then
 bif !decide ((D a b c d (H a b c d).fst).snd = (0 : Int)) then
 Q false
 else bif inK IntKind.i64 (d + (1 : Int)) then
 bif decide ((D a b c d (H a b c d).fst).fst < min (d + (1 : Int)) (1073741824 : Int)) then
 Q false
 else bif decide ((H a b c d).fst = (0 : Int)) then
 Q true
 else bif inK IntKind.i64 u then
 bif decide ((H a b c d).fst = (0 : Int)) then
 False
 else bif decide ((D a b c d (min (remZ u (H a b c d).fst) (65536 : Int))).snd = (0 : Int)) then
 bif decide ((D a b c d (min (remZ u (H a b c d).fst) (65536 : Int))).fst ≤ d) then
 Q true
 else Q false
 else Q false
 else False
 else False
 else bif decide ((H a b c d).fst = (0 : Int)) then
 Q true
 else bif inK IntKind.i64 u then
 bif decide ((H a b c d).fst = (0 : Int)) then
 False
 else bif decide ((D a b c d (min (remZ u (H a b c d).fst) (65536 : Int))).snd = (0 : Int)) then
 bif decide ((D a b c d (min (remZ u (H a b c d).fst) (65536 : Int))).fst ≤ d) then
 Q true
 else Q false
 else Q false
 else False) := by kernel_rfl


end Go.Sx.Malt
