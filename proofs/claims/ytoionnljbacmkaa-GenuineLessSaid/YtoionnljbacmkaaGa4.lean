/- genuine: contracts of numbers and spans. -/
import Derived.Test.YtoionnljbacmkaaGa3

namespace Go.Sx.Gen
open Go Go.Sx Go.Proofs
set_option maxRecDepth 100000

/-- The result is a truth value. -/
def boQ (Q : Bool → Prop) : VRes → VH → Prop := fun r _ => match r with
  | .ret (.bool b) => Q b
  | _ => False

theorem boQ_of {Q : Bool → Prop} {r : VRes} {h : VH} (hq : boQ Q r h) : ∃ b, r = .ret (.bool b) ∧ Q b := by
  unfold boQ at hq
  split at hq
  · exact ⟨_, rfl, hq⟩
  · exact hq.elim

theorem by_bo {call : CallT} (hg : Good Try.prog call) {f : FuncId} {args : List VV} {b : Bool} (hK : call 0 (.fn f) args ⟨0, []⟩ (boQ (· = b))) (ha : belL 0 args = true) (h : VH) : CallsV Try.prog f args h (.ret (.bool b)) h := by
  obtain ⟨r, h', h1, _, h2⟩ := hg _ _ _ _ _ hK
  obtain ⟨b', rfl, rfl⟩ := boQ_of h1
  exact calls_lift0 h2 ha rfl

theorem good0 : Good Try.prog (callN Try.prog noSpec noL 10 20) := none_good 20

theorem cond_b {b : Bool} {p q : Prop} (h1 : b = true → p) (h2 : b = false → q) : (bif b then p else q) := by
  cases b
  · exact h2 rfl
  · exact h1 rfl

theorem span_v (lo hi most : Int) (h : VH) : CallsV Try.prog 41 [.agg [I lo, I hi], I most] h (.ret (.bool (spanB lo hi most))) h := by
  refine by_bo good0 ?_ rfl h
  rw [span_ev]
  unfold spanB boQ
  repeat' first
    | (refine cond_d (fun _ => ?_) (fun _ => ?_))
  all_goals (simp; try omega)

theorem isSpan_v (lo hi most : Int) (h : VH) : CallsV Try.prog 44 [.agg [I lo, I hi], I most] h (.ret (.bool (spanB lo hi most))) h := by
  refine by_bo good0 ?_ rfl h
  rw [isSpan_ev]
  unfold spanB boQ
  repeat' first
    | (refine cond_d (fun _ => ?_) (fun _ => ?_))
  all_goals (simp; try omega)

theorem in_v (n a b : Int) (h : VH) : CallsV Try.prog 33 [I n, I a, I b] h (.ret (.bool (inB n a b))) h := by
  refine by_bo good0 ?_ rfl h
  rw [in_ev]
  unfold inB boQ
  refine cond_d (fun _ => ?_) (fun _ => ?_) <;> (simp; try omega)

theorem within_v (n a b : Int) (h : VH) : CallsV Try.prog 30 [I n, I a, I b] h (.ret (.bool (inB n a b))) h := by
  refine by_bo good0 ?_ rfl h
  rw [within_ev]
  unfold inB boQ
  refine cond_d (fun _ => ?_) (fun _ => ?_) <;> (simp; try omega)

def spanT (f : FuncId) : FuncId × Spec1 := (f, fun _ args h K => match args with
  | [.agg [.int .i64 a, .int .i64 b], .int .i64 m] => K (.ret (.bool (spanB a b m))) h
  | _ => False)

def inT (f : FuncId) : FuncId × Spec1 := (f, fun _ args h K => match args with
  | [.int .i64 n, .int .i64 a, .int .i64 b] => K (.ret (.bool (inB n a b))) h
  | _ => False)

theorem spanT_ok {f : FuncId} (hf : ∀ lo hi most h, CallsV Try.prog f [.agg [I lo, I hi], I most] h (.ret (.bool (spanB lo hi most))) h) : SpOk Try.prog (spanT f).1 (spanT f).2 := by
  intro lock args h K hK
  simp only [spanT] at hK
  split at hK
  · exact ⟨_, h, hK, lockP_refl _ _, hf _ _ _ h⟩
  · exact hK.elim

theorem inT_ok {f : FuncId} (hf : ∀ n a b h, CallsV Try.prog f [I n, I a, I b] h (.ret (.bool (inB n a b))) h) : SpOk Try.prog (inT f).1 (inT f).2 := by
  intro lock args h K hK
  simp only [inT] at hK
  split at hK
  · exact ⟨_, h, hK, lockP_refl _ _, hf _ _ _ h⟩
  · exact hK.elim

def numT : List (FuncId × Spec1) := [spanT 41, spanT 44, inT 33, inT 30]

theorem numT_ok : ∀ x ∈ numT, SpOk Try.prog x.1 x.2 := by
  intro x hx
  simp only [numT, List.mem_cons, List.not_mem_nil, or_false] at hx
  rcases hx with rfl | rfl | rfl | rfl
  · exact spanT_ok span_v
  · exact spanT_ok isSpan_v
  · exact inT_ok in_v
  · exact inT_ok within_v

theorem goodN : Good Try.prog (callN Try.prog (tabS numT) noL 10 20) := tab_good hmix numT_ok 20

theorem noL_ok {b : Code} {n : Nat} : ∀ id T, (fun _ : Nat => (none : Option LT)) id = some T → ∀ b' ∈ blocksOf id b, LSound Try.prog true (.block id b') n T := fun _ _ h => by cases h
end Go.Sx.Gen
