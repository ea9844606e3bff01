/- genuine: spans, evaluated. -/
import Derived.Test.YtoionnljbacmkaaGa1
import Derived.Test.YtoionnljbacmkaaGa2

namespace Go.Sx.Gen
open Go Go.Sx Go.Proofs
set_option maxRecDepth 100000

theorem span_ev (lo hi most : Int) (Q : VRes → VH → Prop) : callN Try.prog noSpec noL 10 20 0 (.fn 41) [.agg [I lo, I hi], I most] ⟨0, []⟩ Q =
  (bif decide (lo ≥ (0 : Int)) then
 bif decide (lo ≤ hi) then
 Q (VRes.ret (VV.bool (decide (hi ≤ most)))) { nx := 0 + 1, bs := [(0, VB.cells [I lo, I hi] 23)] }
 else Q (VRes.ret (VV.bool false)) { nx := 0 + 1, bs := [(0, VB.cells [I lo, I hi] 23)] }
 else Q (VRes.ret (VV.bool false)) { nx := 0 + 1, bs := [(0, VB.cells [I lo, I hi] 23)] }) := by kernel_rfl

theorem isSpan_ev (lo hi most : Int) (Q : VRes → VH → Prop) : callN Try.prog noSpec noL 10 20 0 (.fn 44) [.agg [I lo, I hi], I most] ⟨0, []⟩ Q =
  (bif decide (lo ≥ (0 : Int)) then
 bif decide (lo ≤ hi) then
 Q (VRes.ret (VV.bool (decide (hi ≤ most)))) { nx := 0 + 1, bs := [(0, VB.cells [I lo, I hi] 23)] }
 else Q (VRes.ret (VV.bool false)) { nx := 0 + 1, bs := [(0, VB.cells [I lo, I hi] 23)] }
 else Q (VRes.ret (VV.bool false)) { nx := 0 + 1, bs := [(0, VB.cells [I lo, I hi] 23)] }) := by kernel_rfl

theorem in_ev (n a b : Int) (Q : VRes → VH → Prop) : callN Try.prog noSpec noL 10 20 0 (.fn 33) [I n, I a, I b] ⟨0, []⟩ Q =
  (bif decide (n ≥ a) then
 Q (VRes.ret (VV.bool (decide (n ≤ b)))) { nx := 0, bs := [] }
 else Q (VRes.ret (VV.bool false)) { nx := 0, bs := [] }) := by kernel_rfl

theorem within_ev (n a b : Int) (Q : VRes → VH → Prop) : callN Try.prog noSpec noL 10 20 0 (.fn 30) [I n, I a, I b] ⟨0, []⟩ Q =
  (bif decide (n ≥ a) then
 Q (VRes.ret (VV.bool (decide (n ≤ b)))) { nx := 0, bs := [] }
 else Q (VRes.ret (VV.bool false)) { nx := 0, bs := [] }) := by kernel_rfl


end Go.Sx.Gen
