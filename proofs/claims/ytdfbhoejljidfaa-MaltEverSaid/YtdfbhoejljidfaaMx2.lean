/- malt: the small functions, evaluated. -/
import Derived.Test.YtdfbhoejljidfaaSxG
import Derived.Test.YtdfbhoejljidfaaProg

namespace Go.Sx.Malt
open Go Go.Sx Go.Proofs
set_option maxRecDepth 100000

abbrev I (n : Int) : VV := .int .i64 n

theorem step_ev (k a b : Int) (Q : VRes → Prop) : callN Try.prog noSpec noL 10 20 0 (.fn 57) [.agg [I k, I a, I b]] ⟨0, []⟩ (fun r _ => Q r) =
  (bif decide (k = 1) then
    bif decide (k ≥ 0) then
      bif decide (k ≤ 5) then
        bif decide (a ≥ 0) then
          bif decide (a ≤ b) then Q (VRes.ret (VV.bool (decide (b ≤ 10000)))) else Q (VRes.ret (VV.bool false))
        else Q (VRes.ret (VV.bool false))
      else Q (VRes.ret (VV.bool false))
    else Q (VRes.ret (VV.bool false))
  else
    bif decide (k = 2) then
      bif decide (k ≥ 0) then
        bif decide (k ≤ 5) then
          bif decide (a ≥ 0) then
            bif decide (a ≤ b) then Q (VRes.ret (VV.bool (decide (b ≤ 10000)))) else Q (VRes.ret (VV.bool false))
          else Q (VRes.ret (VV.bool false))
        else Q (VRes.ret (VV.bool false))
      else Q (VRes.ret (VV.bool false))
    else
      bif decide (k = 3) then
        bif decide (k ≥ 0) then
          bif decide (k ≤ 5) then
            bif decide (a ≥ 0) then
              bif decide (a ≤ b) then Q (VRes.ret (VV.bool (decide (b ≤ 1048576)))) else Q (VRes.ret (VV.bool false))
            else Q (VRes.ret (VV.bool false))
          else Q (VRes.ret (VV.bool false))
        else Q (VRes.ret (VV.bool false))
      else
        bif decide (k ≥ 0) then
          bif decide (k ≤ 5) then
            bif decide (a ≥ 0) then
              bif decide (a ≤ b) then Q (VRes.ret (VV.bool (decide (b ≤ 1099511627776))))
              else Q (VRes.ret (VV.bool false))
            else Q (VRes.ret (VV.bool false))
          else Q (VRes.ret (VV.bool false))
        else Q (VRes.ret (VV.bool false))) := by kernel_rfl

theorem rstep_ev (k a b : Int) (Q : VRes → Prop) : callN Try.prog noSpec noL 10 20 0 (.fn 20) [.agg [I k, I a, I b]] ⟨0, []⟩ (fun r _ => Q r) =
  (bif decide (k = 1) then
    bif decide (k = 3) then
      bif decide (k ≥ 0) then
        bif decide (k ≤ 5) then
          bif decide (a ≥ 0) then
            bif decide (a ≤ b) then Q (VRes.ret (VV.bool (decide (b ≤ 1048576)))) else Q (VRes.ret (VV.bool false))
          else Q (VRes.ret (VV.bool false))
        else Q (VRes.ret (VV.bool false))
      else Q (VRes.ret (VV.bool false))
    else
      bif decide (k ≥ 0) then
        bif decide (k ≤ 5) then
          bif decide (a ≥ 0) then
            bif decide (a ≤ b) then Q (VRes.ret (VV.bool (decide (b ≤ 10000)))) else Q (VRes.ret (VV.bool false))
          else Q (VRes.ret (VV.bool false))
        else Q (VRes.ret (VV.bool false))
      else Q (VRes.ret (VV.bool false))
  else
    bif decide (k = 2) then
      bif decide (k = 3) then
        bif decide (k ≥ 0) then
          bif decide (k ≤ 5) then
            bif decide (a ≥ 0) then
              bif decide (a ≤ b) then Q (VRes.ret (VV.bool (decide (b ≤ 1048576)))) else Q (VRes.ret (VV.bool false))
            else Q (VRes.ret (VV.bool false))
          else Q (VRes.ret (VV.bool false))
        else Q (VRes.ret (VV.bool false))
      else
        bif decide (k ≥ 0) then
          bif decide (k ≤ 5) then
            bif decide (a ≥ 0) then
              bif decide (a ≤ b) then Q (VRes.ret (VV.bool (decide (b ≤ 10000)))) else Q (VRes.ret (VV.bool false))
            else Q (VRes.ret (VV.bool false))
          else Q (VRes.ret (VV.bool false))
        else Q (VRes.ret (VV.bool false))
    else
      bif decide (k = 3) then
        bif decide (k ≥ 0) then
          bif decide (k ≤ 5) then
            bif decide (a ≥ 0) then
              bif decide (a ≤ b) then Q (VRes.ret (VV.bool (decide (b ≤ 1048576)))) else Q (VRes.ret (VV.bool false))
            else Q (VRes.ret (VV.bool false))
          else Q (VRes.ret (VV.bool false))
        else Q (VRes.ret (VV.bool false))
      else
        bif decide (k ≥ 0) then
          bif decide (k ≤ 5) then
            bif decide (a ≥ 0) then
              bif decide (a ≤ b) then Q (VRes.ret (VV.bool (decide (b ≤ 1099511627776))))
              else Q (VRes.ret (VV.bool false))
            else Q (VRes.ret (VV.bool false))
          else Q (VRes.ret (VV.bool false))
        else Q (VRes.ret (VV.bool false))) := by kernel_rfl

theorem malt_ev (a b c d e f : Int) (Q : VRes → Prop) : callN Try.prog noSpec noL 10 20 0 (.fn 34) [.agg [I a, I b, I c, I d, I e, I f]] ⟨0, []⟩ (fun r _ => Q r) =
  (bif decide (a ≥ 0) then
    bif decide (a ≤ b) then
      bif decide (b ≤ 1099511627776) then
        bif decide (c ≥ 0) then
          bif decide (c ≤ d) then
            bif decide (d ≤ 1099511627776) then
              bif decide (e ≥ 0) then
                bif decide (e ≤ f) then Q (VRes.ret (VV.bool (decide (f ≤ 1099511627776))))
                else Q (VRes.ret (VV.bool false))
              else Q (VRes.ret (VV.bool false))
            else Q (VRes.ret (VV.bool false))
          else Q (VRes.ret (VV.bool false))
        else Q (VRes.ret (VV.bool false))
      else Q (VRes.ret (VV.bool false))
    else Q (VRes.ret (VV.bool false))
  else Q (VRes.ret (VV.bool false))) := by kernel_rfl

theorem rmalt_ev (a b c d e f : Int) (Q : VRes → Prop) : callN Try.prog noSpec noL 10 20 0 (.fn 18) [.agg [I a, I b, I c, I d, I e, I f]] ⟨0, []⟩ (fun r _ => Q r) =
  (bif decide (a ≥ 0) then
    bif decide (a ≤ b) then
      bif decide (b ≤ 1099511627776) then
        bif decide (c ≥ 0) then
          bif decide (c ≤ d) then
            bif decide (d ≤ 1099511627776) then
              bif decide (e ≥ 0) then
                bif decide (e ≤ f) then Q (VRes.ret (VV.bool (decide (f ≤ 1099511627776))))
                else Q (VRes.ret (VV.bool false))
              else Q (VRes.ret (VV.bool false))
            else Q (VRes.ret (VV.bool false))
          else Q (VRes.ret (VV.bool false))
        else Q (VRes.ret (VV.bool false))
      else Q (VRes.ret (VV.bool false))
    else Q (VRes.ret (VV.bool false))
  else Q (VRes.ret (VV.bool false))) := by kernel_rfl

theorem mill_ev (a b c d : Int) (Q : VRes → Prop) : callN Try.prog noSpec noL 10 20 0 (.fn 45) [.agg [I a, I b, I c, I d]] ⟨0, []⟩ (fun r _ => Q r) =
  (bif decide (a ≥ 0) then
    bif decide (a ≤ 1073741824) then
      bif decide (b ≥ 0) then
        bif decide (b ≤ 1073741824) then
          bif decide (d ≥ 0) then
            bif decide (d ≤ 1073741824) then
              bif decide (c ≥ 0) then Q (VRes.ret (VV.bool (decide (c ≤ 10000)))) else Q (VRes.ret (VV.bool false))
            else Q (VRes.ret (VV.bool false))
          else Q (VRes.ret (VV.bool false))
        else Q (VRes.ret (VV.bool false))
      else Q (VRes.ret (VV.bool false))
    else Q (VRes.ret (VV.bool false))
  else Q (VRes.ret (VV.bool false))) := by kernel_rfl

theorem rmill_ev (a b c d : Int) (Q : VRes → Prop) : callN Try.prog noSpec noL 10 20 0 (.fn 27) [.agg [I a, I b, I c, I d]] ⟨0, []⟩ (fun r _ => Q r) =
  (bif decide (a ≥ 0) then
    bif decide (a ≤ 1073741824) then
      bif decide (b ≥ 0) then
        bif decide (b ≤ 1073741824) then
          bif decide (d ≥ 0) then
            bif decide (d ≤ 1073741824) then
              bif decide (c ≥ 0) then Q (VRes.ret (VV.bool (decide (c ≤ 10000)))) else Q (VRes.ret (VV.bool false))
            else Q (VRes.ret (VV.bool false))
          else Q (VRes.ret (VV.bool false))
        else Q (VRes.ret (VV.bool false))
      else Q (VRes.ret (VV.bool false))
    else Q (VRes.ret (VV.bool false))
  else Q (VRes.ret (VV.bool false))) := by kernel_rfl


end Go.Sx.Malt
