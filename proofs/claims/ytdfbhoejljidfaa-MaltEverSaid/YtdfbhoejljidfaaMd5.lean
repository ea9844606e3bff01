/- malt: Dust, evaluated. -/
import Derived.Test.YtdfbhoejljidfaaMd4

namespace Go.Sx.Malt
open Go Go.Sx Go.Proofs
set_option maxRecDepth 100000

/-- A mill that is valid. -/
def mill1 (f : FuncId) : FuncId × Spec1 := (f, fun _ args h K => match args with
  | [.agg [.int .i64 a, .int .i64 b, .int .i64 c, .int .i64 d]] => millB a b c d = true ∧ K (.ret (.bool true)) h
  | _ => False)

def WOk (x lo hi : Int) : Prop := lo ≤ x ∧ x ≤ hi

/-- A number that is between two others. -/
def with1 (f : FuncId) : FuncId × Spec1 := (f, fun _ args h K => match args with
  | [.int .i64 x, .int .i64 lo, .int .i64 hi] => WOk x lo hi ∧ K (.ret (.bool true)) h
  | _ => False)

def duQ (Q : VV → VV → Prop) : VRes → VH → Prop := fun r _ => match r with
  | .ret (.tup [x, e]) => Q x e
  | _ => False

theorem within_ev (x lo hi : Int) (Q : VRes → Prop) : callN Try.prog noSpec noL 10 20 0 (.fn 46) [I x, I lo, I hi] ⟨0, []⟩ (fun r _ => Q r) =
  (bif decide (x ≥ lo) then
 Q (VRes.ret (VV.bool (decide (x ≤ hi))))
 else Q (VRes.ret (VV.bool false))) := by kernel_rfl

theorem rin_ev (x lo hi : Int) (Q : VRes → Prop) : callN Try.prog noSpec noL 10 20 0 (.fn 44) [I x, I lo, I hi] ⟨0, []⟩ (fun r _ => Q r) =
  (bif decide (x ≥ lo) then
 Q (VRes.ret (VV.bool (decide (x ≤ hi))))
 else Q (VRes.ret (VV.bool false))) := by kernel_rfl

theorem dust_ev (a b c d m r : Int) (Q : VV → VV → Prop) : callN Try.prog (tabS [mill1 45, with1 46, (59, spBL Try.prog 59 noSpec [(0, aLB a b c d m r)] 10 20)]) noL 10 20 0 (.fn 23) [.agg [I a, I b, I c, I d], I m] ⟨0, []⟩ (duQ Q) =
  (millB a b c d = true ∧ WOk m (0 : Int) (65536 : Int) ∧ FitP 0 (dH a b c d m (0 : Int)) (aT (0 : Int) a) (dH a b c d m (0 : Int)) (aT (0 : Int) a) ∧ (Q (I r) (I 0) ∧ Q (I r) (I 0)) ∧ (Q (I r) (I 0) ∧ Q (I r) (I 0)) ∧ ∀ (_y : Int), r = (1073741824 : Int) → Q (I 1073741824) (I 0) ∧ Q (I 1073741824) (I 0)) := by kernel_rfl

theorem dustx_ev (B : Int → Int → Int → Int → Bool) (a b c d m : Int) (Q : VV → VV → Prop) : callN Try.prog (tabS [millT 45 B, (59, fun _ _ _ _ => False)]) noL 10 20 0 (.fn 23) [.agg [I a, I b, I c, I d], I m] ⟨0, []⟩ (duQ Q) =
  (bif !B a b c d then
 Q (I 0) (I 1)
 else bif decide (m ≥ (0 : Int)) then
 bif !decide (m ≤ (65536 : Int)) then
 Q (I 0) (I 2)
 else False
 else Q (I 0) (I 2)) := by kernel_rfl

theorem rdust_ev (a b c d m : Int) (Q : VV → VV → Prop) : spBL Try.prog 24 (tabS [mill1 27, with1 44]) [(0, rdB a b c d m a)] 10 20 0 [.agg [I a, I b, I c, I d], I m] ⟨0, []⟩ (duQ Q) =
  (millB a b c d = true ∧ WOk m (0 : Int) (65536 : Int) ∧ FitP 0 (rdH a b c d) (rdT m a (0 : Int)) (rdH a b c d) (rdT m a (0 : Int)) ∧ (∀ (y : Int), y = dustL b c m.toNat a → Q (I y) (I 0)) ∧ (dustL b c m.toNat a = (1073741824 : Int) → Q (I 1073741824) (I 0))) := by kernel_rfl

theorem rdustx_ev (B : Int → Int → Int → Int → Bool) (a b c d m : Int) (Q : VV → VV → Prop) : spBL Try.prog 24 (tabS [millT 27 B]) [(0, fun _ _ _ _ => False)] 10 20 0 [.agg [I a, I b, I c, I d], I m] ⟨0, []⟩ (duQ Q) =
  (bif !B a b c d then
 Q (I 0) (I 1)
 else bif decide (m ≥ (0 : Int)) then
 bif !decide (m ≤ (65536 : Int)) then
 Q (I 0) (I 2)
 else False
 else Q (I 0) (I 2)) := by kernel_rfl


end Go.Sx.Malt
