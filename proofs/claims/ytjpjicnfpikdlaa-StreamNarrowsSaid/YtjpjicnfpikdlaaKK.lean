/- stream: Kj1 Kj2 Kj3 Kj4 Kj5 Kj6 Kj7, in one text. -/
import Derived.Test.YtjpjicnfpikdlaaKI
import Derived.Test.YtjpjicnfpikdlaaSxU
import Derived.Test.YtjpjicnfpikdlaaKH
import Derived.Test.YtjpjicnfpikdlaaKG
import Derived.Test.YtjpjicnfpikdlaaKJ
/- stream: spans that are drawn, evaluated. -/

namespace Go.Sx.Str
open Go Go.Sx Go.Proofs
set_option maxRecDepth 100000

abbrev U (n : Int) : VV := .int .u32 n
abbrev O (n : Int) : VV := .opq (.int .i64 n)
def uA (b : List Int) : VB := arrOf 1 b.length (fun j => [U (b.getD j 0)])
/-- A part of a span. -/
def paT : FuncId × Spec1 := (27, fun _ args h K => match args with
  | [.agg [.opq (.int .i64 lo), .opq (.int .i64 hi)], .int .u32 x, .int .u32 y] => (((0 ≤ x ∧ x ≤ 4294967295) ∧ (0 ≤ y ∧ y ≤ 4294967295)) ∧ (0 ≤ lo ∧ lo ≤ hi ∧ hi - lo ≤ 1099511627776 ∧ hi ≤ 9223372036854775807)) ∧
      ∀ a b, (lo ≤ a ∧ a ≤ b ∧ b ≤ hi) → K (.ret (.agg [I a, I b])) h
  | _ => False)
def pkT2 : FuncId × Spec1 := (25, fun _ args h K => match args with
  | [.agg [.int .i64 lo, .int .i64 hi], .int .u32 by'] => ((0 ≤ by' ∧ by' ≤ 4294967295) ∧ (0 ≤ lo ∧ lo ≤ hi ∧ hi - lo ≤ 1099511627776 ∧ hi ≤ 9223372036854775807)) ∧ ∀ x, (lo ≤ x ∧ x ≤ hi) → K (.ret (I x)) h
  | _ => False)
def hD (N : Nat) (b : List Int) (c : Nat) (v : Int) : VH := ⟨N, [(5, .cells [I v] 3), (3, .cells [.slice (.el 1 [] 0 0) b.length c] 54), (1, uA b)]⟩
def drR (Q : VRes → List VB → Prop) : VRes → VH → Prop := fun r h => Q r [h.at 5, h.at 3, h.at 1]
theorem pa_ev (lo hi x y : Int) (Q : VRes → Prop) : callN Try.prog (tabS [pkT2]) noL 10 20 0 (.fn 27) [.agg [I lo, I hi], U x, U y] ⟨0, []⟩ (fun r _ => Q r) =
  ((((0 : Int) ≤ x ∧ x ≤ (4294967295 : Int)) ∧ (0 : Int) ≤ lo ∧ lo ≤ hi ∧ hi - lo ≤ (1099511627776 : Int) ∧ hi ≤ (9223372036854775807 : Int)) ∧ ∀ (x : Int), lo ≤ x ∧ x ≤ hi → bif inK IntKind.i64 y then
 bif inK IntKind.i64 (hi - x) then
 bif inK IntKind.i64 (hi - x + (1 : Int)) then
 bif decide (hi - x + (1 : Int) = (0 : Int)) then
 False
 else bif inK IntKind.i64 (x + remZ y (hi - x + (1 : Int))) then
 Q (VRes.ret (VV.agg [I x, I (x + remZ y (hi - x + (1 : Int)))]))
 else False
 else False
 else False
 else False) := by kernel_rfl

theorem dr6_ev (b : List Int) (c : Nat) (v lo hi : Int) (Q : VRes → List VB → Prop) : callN Try.prog (tabS [paT]) noL 10 20 0 (.fn 26) [.agg [O lo, O hi], .ptr (.own 5 0), .ptr (.own 3 0)] (hD 6 b c v) (drR Q) =
  (bif inK IntKind.i64 (v + (2 : Int)) then
 bif decide (lo > hi) then
 Q (VRes.ret (VV.agg [VV.opq (Value.int IntKind.i64 lo), VV.opq (Value.int IntKind.i64 hi)])) [VB.cells [I (v + (2 : Int))] (3 : TypeId), VB.cells [VV.slice (VA.el 1 [] (0 : Int) 0) b.length c] (54 : TypeId), VB.arr 1 (fun ix i => ix = [] ∧ (0 : Int) ≤ i ∧ i < (↑b.length : Int)) fun x i => (fun j => [U (b.getD j (0 : Int))]) i.toNat]
 else bif decide (IntKind.i64.wrap (hi - lo) > (1099511627776 : Int)) then
 Q (VRes.ret (VV.agg [VV.opq (Value.int IntKind.i64 lo), VV.opq (Value.int IntKind.i64 hi)])) [VB.cells [I (v + (2 : Int))] (3 : TypeId), VB.cells [VV.slice (VA.el 1 [] (0 : Int) 0) b.length c] (54 : TypeId), VB.arr 1 (fun ix i => ix = [] ∧ (0 : Int) ≤ i ∧ i < (↑b.length : Int)) fun x i => (fun j => [U (b.getD j (0 : Int))]) i.toNat]
 else bif decide (lo < (0 : Int)) then
 Q (VRes.ret (VV.agg [VV.opq (Value.int IntKind.i64 lo), VV.opq (Value.int IntKind.i64 hi)])) [VB.cells [I (v + (2 : Int))] (3 : TypeId), VB.cells [VV.slice (VA.el 1 [] (0 : Int) 0) b.length c] (54 : TypeId), VB.arr 1 (fun ix i => ix = [] ∧ (0 : Int) ≤ i ∧ i < (↑b.length : Int)) fun x i => (fun j => [U (b.getD j (0 : Int))]) i.toNat]
 else bif decide ((↑b.length : Int) = (0 : Int)) then
 False
 else bif decide ((0 : Int) ≤ remZ (v + (2 : Int)) (↑b.length : Int) ∧ remZ (v + (2 : Int)) (↑b.length : Int) < (↑b.length : Int)) then
 (([] : List Int) = [] ∧ (0 : Int) ≤ (0 : Int) + remZ (v + (2 : Int)) (↑b.length : Int) ∧ (0 : Int) + remZ (v + (2 : Int)) (↑b.length : Int) < (↑b.length : Int)) ∧ bif inK IntKind.i64 (v + (2 : Int) + (1 : Int)) then
 bif decide ((↑b.length : Int) = (0 : Int)) then
 False
 else bif decide ((0 : Int) ≤ remZ (v + (2 : Int) + (1 : Int)) (↑b.length : Int) ∧ remZ (v + (2 : Int) + (1 : Int)) (↑b.length : Int) < (↑b.length : Int)) then
 (([] : List Int) = [] ∧ (0 : Int) ≤ (0 : Int) + remZ (v + (2 : Int) + (1 : Int)) (↑b.length : Int) ∧ (0 : Int) + remZ (v + (2 : Int) + (1 : Int)) (↑b.length : Int) < (↑b.length : Int)) ∧ ((((0 : Int) ≤ b.getD ((0 : Int) + remZ (v + (2 : Int)) (↑b.length : Int)).toNat (0 : Int) ∧ b.getD ((0 : Int) + remZ (v + (2 : Int)) (↑b.length : Int)).toNat (0 : Int) ≤ (4294967295 : Int)) ∧ (0 : Int) ≤ b.getD ((0 : Int) + remZ (v + (2 : Int) + (1 : Int)) (↑b.length : Int)).toNat (0 : Int) ∧ b.getD ((0 : Int) + remZ (v + (2 : Int) + (1 : Int)) (↑b.length : Int)).toNat (0 : Int) ≤ (4294967295 : Int)) ∧ (0 : Int) ≤ lo ∧ lo ≤ hi ∧ hi - lo ≤ (1099511627776 : Int) ∧ hi ≤ (9223372036854775807 : Int)) ∧ ∀ (a b_1 : Int), lo ≤ a ∧ a ≤ b_1 ∧ b_1 ≤ hi → Q (VRes.ret (VV.agg [I a, I b_1])) [VB.cells [I (v + (2 : Int))] (3 : TypeId), VB.cells [VV.slice (VA.el 1 [] (0 : Int) 0) b.length c] (54 : TypeId), VB.arr 1 (fun ix i => ix = [] ∧ (0 : Int) ≤ i ∧ i < (↑b.length : Int)) fun x i => (fun j => [U (b.getD j (0 : Int))]) i.toNat]
 else False
 else False
 else False
 else False) := by kernel_rfl

theorem dr9_ev (b : List Int) (c : Nat) (v lo hi : Int) (Q : VRes → List VB → Prop) : callN Try.prog (tabS [paT]) noL 10 20 0 (.fn 26) [.agg [O lo, O hi], .ptr (.own 5 0), .ptr (.own 3 0)] (hD 9 b c v) (drR Q) =
  (bif inK IntKind.i64 (v + (2 : Int)) then
 bif decide (lo > hi) then
 Q (VRes.ret (VV.agg [VV.opq (Value.int IntKind.i64 lo), VV.opq (Value.int IntKind.i64 hi)])) [VB.cells [I (v + (2 : Int))] (3 : TypeId), VB.cells [VV.slice (VA.el 1 [] (0 : Int) 0) b.length c] (54 : TypeId), VB.arr 1 (fun ix i => ix = [] ∧ (0 : Int) ≤ i ∧ i < (↑b.length : Int)) fun x i => (fun j => [U (b.getD j (0 : Int))]) i.toNat]
 else bif decide (IntKind.i64.wrap (hi - lo) > (1099511627776 : Int)) then
 Q (VRes.ret (VV.agg [VV.opq (Value.int IntKind.i64 lo), VV.opq (Value.int IntKind.i64 hi)])) [VB.cells [I (v + (2 : Int))] (3 : TypeId), VB.cells [VV.slice (VA.el 1 [] (0 : Int) 0) b.length c] (54 : TypeId), VB.arr 1 (fun ix i => ix = [] ∧ (0 : Int) ≤ i ∧ i < (↑b.length : Int)) fun x i => (fun j => [U (b.getD j (0 : Int))]) i.toNat]
 else bif decide (lo < (0 : Int)) then
 Q (VRes.ret (VV.agg [VV.opq (Value.int IntKind.i64 lo), VV.opq (Value.int IntKind.i64 hi)])) [VB.cells [I (v + (2 : Int))] (3 : TypeId), VB.cells [VV.slice (VA.el 1 [] (0 : Int) 0) b.length c] (54 : TypeId), VB.arr 1 (fun ix i => ix = [] ∧ (0 : Int) ≤ i ∧ i < (↑b.length : Int)) fun x i => (fun j => [U (b.getD j (0 : Int))]) i.toNat]
 else bif decide ((↑b.length : Int) = (0 : Int)) then
 False
 else bif decide ((0 : Int) ≤ remZ (v + (2 : Int)) (↑b.length : Int) ∧ remZ (v + (2 : Int)) (↑b.length : Int) < (↑b.length : Int)) then
 (([] : List Int) = [] ∧ (0 : Int) ≤ (0 : Int) + remZ (v + (2 : Int)) (↑b.length : Int) ∧ (0 : Int) + remZ (v + (2 : Int)) (↑b.length : Int) < (↑b.length : Int)) ∧ bif inK IntKind.i64 (v + (2 : Int) + (1 : Int)) then
 bif decide ((↑b.length : Int) = (0 : Int)) then
 False
 else bif decide ((0 : Int) ≤ remZ (v + (2 : Int) + (1 : Int)) (↑b.length : Int) ∧ remZ (v + (2 : Int) + (1 : Int)) (↑b.length : Int) < (↑b.length : Int)) then
 (([] : List Int) = [] ∧ (0 : Int) ≤ (0 : Int) + remZ (v + (2 : Int) + (1 : Int)) (↑b.length : Int) ∧ (0 : Int) + remZ (v + (2 : Int) + (1 : Int)) (↑b.length : Int) < (↑b.length : Int)) ∧ ((((0 : Int) ≤ b.getD ((0 : Int) + remZ (v + (2 : Int)) (↑b.length : Int)).toNat (0 : Int) ∧ b.getD ((0 : Int) + remZ (v + (2 : Int)) (↑b.length : Int)).toNat (0 : Int) ≤ (4294967295 : Int)) ∧ (0 : Int) ≤ b.getD ((0 : Int) + remZ (v + (2 : Int) + (1 : Int)) (↑b.length : Int)).toNat (0 : Int) ∧ b.getD ((0 : Int) + remZ (v + (2 : Int) + (1 : Int)) (↑b.length : Int)).toNat (0 : Int) ≤ (4294967295 : Int)) ∧ (0 : Int) ≤ lo ∧ lo ≤ hi ∧ hi - lo ≤ (1099511627776 : Int) ∧ hi ≤ (9223372036854775807 : Int)) ∧ ∀ (a b_1 : Int), lo ≤ a ∧ a ≤ b_1 ∧ b_1 ≤ hi → Q (VRes.ret (VV.agg [I a, I b_1])) [VB.cells [I (v + (2 : Int))] (3 : TypeId), VB.cells [VV.slice (VA.el 1 [] (0 : Int) 0) b.length c] (54 : TypeId), VB.arr 1 (fun ix i => ix = [] ∧ (0 : Int) ≤ i ∧ i < (↑b.length : Int)) fun x i => (fun j => [U (b.getD j (0 : Int))]) i.toNat]
 else False
 else False
 else False
 else False) := by kernel_rfl


end Go.Sx.Str

/- stream: spans that are drawn, as rows. -/

namespace Go.Sx.Str
open Go Go.Sx Go.Proofs
set_option maxRecDepth 100000

theorem calls_args {f : FuncId} {args args2 : List VV} {h h' : VH} {r : VRes} (hs : CallsV Try.prog f args2 h r h') (ha : ∀ (R : Rn) (xs : List Value), VRelL R args xs → VRelL R args2 xs) : CallsV Try.prog f args h r h' :=
  fun B R w xs em hx => hs B R w xs em (ha R xs hx)
theorem calls_res {f : FuncId} {args : List VV} {h h' : VH} {v v2 : VV} (hs : CallsV Try.prog f args h (.ret v) h') (hr : ∀ (R : Rn) (x : Value), VRel R v x → VRel R v2 x) : CallsV Try.prog f args h (.ret v2) h' := by
  intro B R w xs em hx
  refine (hs B R w xs em hx).mono ?_
  rintro e w' ⟨R1, n1, e1, x, hv, he⟩
  exact ⟨R1, n1, e1, x, hr R1 x hv, he⟩

theorem pkT2_ok : SpOk Try.prog pkT2.1 pkT2.2 := by
  intro lock args h K hK
  simp only [pkT2] at hK
  split at hK
  · rename_i lo hi u
    obtain ⟨⟨hu, hl⟩, hK⟩ := hK
    have hr : 0 ≤ remZ u (hi - lo + 1) ∧ remZ u (hi - lo + 1) < hi - lo + 1 := by
      rw [remZ_nn hu.1]
      exact ⟨Int.emod_nonneg _ (by omega), Int.emod_lt_of_pos _ (by omega)⟩
    obtain ⟨r, h', hQ, hc⟩ := of_callN good0 (f := 25) (args := [.agg [I lo, I hi], .int .u32 u]) (h := ⟨0, []⟩) (K := fun r _ => r = .ret (I (lo + remZ u (hi - lo + 1))))
      (by
        refine cast (pk_ev lo hi u _).symm ?_
        exact cond_r (by omega) (cond_r (by omega) (cond_r (by omega) (cond_d (fun h => by omega) (fun _ => cond_r (by omega) rfl)))))
    subst hQ
    exact ⟨_, h, hK _ ⟨by omega, by omega⟩, lockP_refl _ _, lift0 hc rfl rfl⟩
  · exact hK.elim

theorem paT_ok : SpOk Try.prog paT.1 paT.2 := by
  intro lock args h K hK
  simp only [paT] at hK
  split at hK
  · rename_i lo hi x y
    obtain ⟨⟨⟨hx, hy⟩, hl⟩, hK⟩ := hK
    obtain ⟨r, h', hQ, hc⟩ := of_callN (tab_good hmix (l := [pkT2]) (fun x hx => by
        simp only [List.mem_singleton] at hx
        subst hx
        exact pkT2_ok) 20) (un := 10) (f := 27) (args := [.agg [I lo, I hi], U x, U y]) (h := ⟨0, []⟩) (K := fun r _ => ∃ a b, (lo ≤ a ∧ a ≤ b ∧ b ≤ hi) ∧ r = .ret (.agg [I a, I b]))
      (by
        refine cast (pa_ev lo hi x y _).symm ?_
        refine ⟨⟨hx, hl⟩, fun u hu => ?_⟩
        have hr : 0 ≤ remZ y (hi - u + 1) ∧ remZ y (hi - u + 1) < hi - u + 1 := by
          rw [remZ_nn hy.1]
          exact ⟨Int.emod_nonneg _ (by omega), Int.emod_lt_of_pos _ (by omega)⟩
        exact cond_r (by omega) (cond_r (by omega) (cond_r (by omega) (cond_d (fun h => by omega) (fun _ => cond_r (by omega) ⟨u, _, ⟨hu.1, by omega, by omega⟩, rfl⟩)))))
    obtain ⟨a, b, hab, rfl⟩ := hQ
    refine ⟨_, h, hK a b hab, lockP_refl _ _, calls_args (lift0 hc rfl rfl) fun R xs hxs => ?_⟩
    obtain ⟨_, _, ⟨_, ⟨z1, _, h1, ⟨z2, _, h2, h3, rfl⟩, rfl⟩, rfl⟩, hr, rfl⟩ := hxs
    exact ⟨_, _, ⟨_, ⟨z1, _, h1, ⟨z2, _, h2, h3, rfl⟩, rfl⟩, rfl⟩, hr, rfl⟩
  · exact hK.elim

/-- A span that is drawn: as it was, or a part of a valid one. -/
def DrP (lo hi a b : Int) : Prop := (a = lo ∧ b = hi) ∨ (0 ≤ lo ∧ lo ≤ a ∧ a ≤ b ∧ b ≤ hi)

theorem wrap_id {n : Int} (h : -9223372036854775808 ≤ n ∧ n ≤ 9223372036854775807) : IntKind.i64.wrap n = n := inK_wrap (inK_64.2 h)

section
variable {b : List Int} {c : Nat}

theorem draw_core {v lo hi : Int} {N : Nat} (hN : N = 6 ∨ N = 9) (hb : ∀ x ∈ b, 0 ≤ x ∧ x ≤ 4294967295) (hl : 0 < b.length ∧ b.length ≤ 9223372036854775807) (hv : 0 ≤ v ∧ v ≤ 1000000) (h1 : i64B lo) (h2 : i64B hi) :
    ∃ a e, DrP lo hi a e ∧ CallsV Try.prog 26 [.agg [I lo, I hi], .ptr (.own 5 0), .ptr (.own 3 0)] (hD N b c v) (.ret (.agg [I a, I e])) (hD N b c (v + 2)) := by
  have key : ∃ r h', CallsV Try.prog 26 [.agg [O lo, O hi], .ptr (.own 5 0), .ptr (.own 3 0)] (hD N b c v) r h' ∧ drR (fun r bs => (∃ a e, DrP lo hi a e ∧ (r = .ret (.agg [I a, I e]) ∨ r = .ret (.agg [O a, O e]))) ∧ bs = [.cells [I (v + 2)] 3, .cells [.slice (.el 1 [] 0 0) b.length c] 54, uA b]) r h' := by
    have hg := tab_good (unroll := 10) hmix (l := [paT]) (fun x hx => by
        simp only [List.mem_singleton] at hx
        subst hx
        exact paT_ok) 20
    have hin : ∀ j : Int, 0 ≤ j → j < b.length → 0 ≤ b.getD j.toNat 0 ∧ b.getD j.toNat 0 ≤ 4294967295 := fun j j0 j1 => by
      have hj : j.toNat < b.length := by omega
      rw [List.getD_eq_getElem?_getD, List.getElem?_eq_getElem hj]
      exact hb _ (List.getElem_mem hj)
    have r1 : 0 ≤ remZ (v + 2) (b.length : Int) ∧ remZ (v + 2) (b.length : Int) < b.length := by
      rw [remZ_nn (by omega)]
      exact ⟨Int.emod_nonneg _ (by omega), Int.emod_lt_of_pos _ (by omega)⟩
    have r2 : 0 ≤ remZ (v + 2 + 1) (b.length : Int) ∧ remZ (v + 2 + 1) (b.length : Int) < b.length := by
      rw [remZ_nn (by omega)]
      exact ⟨Int.emod_nonneg _ (by omega), Int.emod_lt_of_pos _ (by omega)⟩
    have same : (∃ a e, DrP lo hi a e ∧ (VRes.ret (.agg [O lo, O hi]) = .ret (.agg [I a, I e]) ∨ VRes.ret (.agg [O lo, O hi]) = .ret (.agg [O a, O e]))) := ⟨lo, hi, .inl ⟨rfl, rfl⟩, .inr rfl⟩
    unfold i64B at h1 h2
    rcases hN with rfl | rfl
    · obtain ⟨r, h', hQ, hc⟩ := of_callN hg (f := 26) (args := [.agg [O lo, O hi], .ptr (.own 5 0), .ptr (.own 3 0)]) (h := hD 6 b c v)
        (K := drR (fun r bs => (∃ a e, DrP lo hi a e ∧ (r = .ret (.agg [I a, I e]) ∨ r = .ret (.agg [O a, O e]))) ∧ bs = [.cells [I (v + 2)] 3, .cells [.slice (.el 1 [] 0 0) b.length c] 54, uA b]))
        (by
          rw [dr6_ev]
          refine cond_r (by omega) (cond_d (fun _ => ⟨same, rfl⟩) (fun g1 => cond_d (fun _ => ⟨same, rfl⟩) (fun g2 => cond_d (fun _ => ⟨same, rfl⟩) (fun g3 => cond_d (fun h => by omega) (fun _ => ?_)))))
          have e1 : IntKind.i64.wrap (hi - lo) = hi - lo := wrap_id (by omega)
          rw [e1] at g2
          refine cond_dk r1 ⟨⟨rfl, by omega, by omega⟩, cond_r (by omega) (cond_d (fun h => by omega) (fun _ => cond_dk r2 ⟨⟨rfl, by omega, by omega⟩, ?_⟩))⟩
          rw [Int.zero_add, Int.zero_add]
          exact ⟨⟨⟨hin _ r1.1 r1.2, hin _ r2.1 r2.2⟩, by omega, by omega, by omega, by omega⟩, fun a e hae => ⟨⟨a, e, .inr ⟨by omega, hae.1, hae.2.1, hae.2.2⟩, .inl rfl⟩, rfl⟩⟩)
      exact ⟨r, h', hc, hQ⟩
    · obtain ⟨r, h', hQ, hc⟩ := of_callN hg (f := 26) (args := [.agg [O lo, O hi], .ptr (.own 5 0), .ptr (.own 3 0)]) (h := hD 9 b c v)
        (K := drR (fun r bs => (∃ a e, DrP lo hi a e ∧ (r = .ret (.agg [I a, I e]) ∨ r = .ret (.agg [O a, O e]))) ∧ bs = [.cells [I (v + 2)] 3, .cells [.slice (.el 1 [] 0 0) b.length c] 54, uA b]))
        (by
          rw [dr9_ev]
          refine cond_r (by omega) (cond_d (fun _ => ⟨same, rfl⟩) (fun g1 => cond_d (fun _ => ⟨same, rfl⟩) (fun g2 => cond_d (fun _ => ⟨same, rfl⟩) (fun g3 => cond_d (fun h => by omega) (fun _ => ?_)))))
          have e1 : IntKind.i64.wrap (hi - lo) = hi - lo := wrap_id (by omega)
          rw [e1] at g2
          refine cond_dk r1 ⟨⟨rfl, by omega, by omega⟩, cond_r (by omega) (cond_d (fun h => by omega) (fun _ => cond_dk r2 ⟨⟨rfl, by omega, by omega⟩, ?_⟩))⟩
          rw [Int.zero_add, Int.zero_add]
          exact ⟨⟨⟨hin _ r1.1 r1.2, hin _ r2.1 r2.2⟩, by omega, by omega, by omega, by omega⟩, fun a e hae => ⟨⟨a, e, .inr ⟨by omega, hae.1, hae.2.1, hae.2.2⟩, .inl rfl⟩, rfl⟩⟩)
      exact ⟨r, h', hc, hQ⟩
  obtain ⟨r, h', hc, ⟨a, e, hd, hr⟩, hb⟩ := key
  injection hb with g0 hb
  injection hb with g1 hb
  injection hb with g2 hb
  have hargs : ∀ (R : Rn) (xs : List Value), VRelL R [.agg [I lo, I hi], .ptr (.own 5 0), .ptr (.own 3 0)] xs → VRelL R [.agg [O lo, O hi], .ptr (.own 5 0), .ptr (.own 3 0)] xs := fun R xs hxs => by
    obtain ⟨_, _, ⟨_, ⟨z1, _, k1, ⟨z2, _, k2, k3, rfl⟩, rfl⟩, rfl⟩, hr, rfl⟩ := hxs
    exact ⟨_, _, ⟨_, ⟨z1, _, k1, ⟨z2, _, k2, k3, rfl⟩, rfl⟩, rfl⟩, hr, rfl⟩
  refine ⟨a, e, hd, calls_args ?_ hargs⟩
  have fin : ∀ r2 : VRes, CallsV Try.prog 26 [.agg [O lo, O hi], .ptr (.own 5 0), .ptr (.own 3 0)] (hD N b c v) r2 h' → r2.bel N = true → CallsV Try.prog 26 [.agg [O lo, O hi], .ptr (.own 5 0), .ptr (.own 3 0)] (hD N b c v) r2 (hD N b c (v + 2)) := fun r2 hc2 hb2 =>
    calls_weak hc2 (k := N) (bs := [(5, .cells [I (v + 2)] 3), (3, .cells [.slice (.el 1 [] 0 0) b.length c] 54), (1, uA b)]) (Nat.le_refl _) ⟨by rw [g0]; exact VB.fit_refl _, by rw [g1]; exact VB.fit_refl _, by rw [g2]; exact VB.fit_refl _, trivial⟩ (by rcases hN with rfl | rfl <;> rfl) hb2
  rcases hr with rfl | rfl
  · exact fin _ hc (by rcases hN with rfl | rfl <;> rfl)
  · refine fin _ (calls_res hc fun R x hx => ?_) (by rcases hN with rfl | rfl <;> rfl)
    obtain ⟨_, ⟨z1, _, k1, ⟨z2, _, k2, k3, rfl⟩, rfl⟩, rfl⟩ := hx
    exact ⟨_, ⟨z1, _, k1, ⟨z2, _, k2, k3, rfl⟩, rfl⟩, rfl⟩

/-- draw as a row. -/
def drT (b : List Int) (c : Nat) : FuncId × Spec1 := (26, fun lock args h K => match args with
  | [.agg [.int .i64 lo, .int .i64 hi], .ptr (.own 5 0), .ptr (.own 3 0)] => match h.at 5 with
    | .cells [.int .i64 v] ty =>
      ((ty = 3 ∧ lock ≤ 5 ∧ (h.nx = 6 ∨ h.nx = 9) ∧ h.at 3 = .cells [.slice (.el 1 [] 0 0) b.length c] 54 ∧ h.at 1 = uA b) ∧ ((∀ x ∈ b, 0 ≤ x ∧ x ≤ 4294967295) ∧ (0 < b.length ∧ b.length ≤ 9223372036854775807) ∧ (0 ≤ v ∧ v ≤ 1000000) ∧ i64B lo ∧ i64B hi)) ∧
        ∀ a e, DrP lo hi a e → match h with
          | ⟨nx, bs⟩ => K (.ret (.agg [I a, I e])) ⟨nx, (5, .cells [I (v + 2)] 3) :: bs⟩
    | _ => False
  | _ => False)

theorem hD_at {N : Nat} {v : Int} (hN : N = 6 ∨ N = 9) (n : Nat) : (n = 5 ∧ (hD N b c v).at n = .cells [I v] 3) ∨ (n = 3 ∧ (hD N b c v).at n = .cells [.slice (.el 1 [] 0 0) b.length c] 54) ∨ (n = 1 ∧ (hD N b c v).at n = uA b) ∨ (n ≠ 5 ∧ n < N ∧ (hD N b c v).at n = .gone) ∨ (n ≠ 5 ∧ ¬ n < N ∧ (hD N b c v).at n = .free) := by
  by_cases h5 : n = 5
  · subst h5
    left
    rcases hN with rfl | rfl <;> exact ⟨rfl, rfl⟩
  · by_cases h3 : n = 3
    · subst h3
      right; left
      rcases hN with rfl | rfl <;> exact ⟨rfl, rfl⟩
    · by_cases h1 : n = 1
      · subst h1
        right; right; left
        rcases hN with rfl | rfl <;> exact ⟨rfl, rfl⟩
      · by_cases hn : n < N
        · refine .inr (.inr (.inr (.inl ⟨h5, hn, ?_⟩)))
          rw [at_lt (show n < (hD N b c v).nx from hn)]
          show lookB [(5, _), (3, _), (1, _)] n = .gone
          simp only [lookB, beq_f (fun e : 5 = n => h5 e.symm), beq_f (fun e : 3 = n => h3 e.symm), beq_f (fun e : 1 = n => h1 e.symm), cond_false]
        · exact .inr (.inr (.inr (.inr ⟨h5, hn, at_ge hn⟩)))

theorem drT_ok : SpOk Try.prog (drT b c).1 (drT b c).2 := by
  intro lock args h K hK
  simp only [drT] at hK
  split at hK
  · rename_i lo hi
    split at hK
    · rename_i v ty h5
      obtain ⟨⟨⟨rfl, hlk, hN, h3, h1⟩, hb, hl, hv, k1, k2⟩, hK⟩ := hK
      obtain ⟨a, e, hd, hc⟩ := draw_core (c := c) hN hb hl hv k1 k2
      have hfree : ∀ n, ¬ n < h.nx → h.at n = .free := fun n hn => at_ge hn
      obtain ⟨nx, bs⟩ := h
      refine ⟨_, _, hK a e hd, ?_, calls_frame hc (fun n => ?_) (fun n => ?_)⟩
      · intro n hn _
        by_cases hnx : n < nx
        · rw [at_lt hnx, at_lt hnx]
          simp only [lookB, beq_f (show ¬ 5 = n by omega), cond_false]
        · rw [at_ge hnx, at_ge hnx]
      · rcases hD_at (b := b) (c := c) (v := v) hN n with ⟨rfl, g⟩ | ⟨rfl, g⟩ | ⟨rfl, g⟩ | ⟨_, _, g⟩ | ⟨_, hn, g⟩
        · left; rw [g, h5]
        · left; rw [g, h3]
        · left; rw [g, h1]
        · right; exact g
        · left; rw [g, hfree n hn]
      · have hput : ∀ n, n ≠ 5 → (VH.mk nx ((5, .cells [I (v + 2)] 3) :: bs)).at n = (VH.mk nx bs).at n := fun n hn => by
          by_cases hnx : n < nx
          · rw [at_lt hnx, at_lt hnx]
            simp only [lookB, beq_f (fun e : 5 = n => hn e.symm), cond_false]
          · rw [at_ge hnx, at_ge hnx]
        have hN' : nx = 6 ∨ nx = 9 := hN
        rcases hD_at (b := b) (c := c) (v := v) hN n with ⟨rfl, g⟩ | ⟨rfl, g⟩ | ⟨rfl, g⟩ | ⟨hn5, _, g⟩ | ⟨hn5, hn, g⟩
        · right
          refine ⟨by rw [g]; simp, ?_⟩
          rw [at_lt (show 5 < nx by omega)]
          rcases hN' with rfl | rfl <;> rfl
        · right
          refine ⟨by rw [g]; simp, ?_⟩
          rw [hput 3 (by decide), h3]
          rcases hN' with rfl | rfl <;> rfl
        · right
          refine ⟨by rw [g]; simp [uA, arrOf], ?_⟩
          rw [hput 1 (by decide), h1]
          rcases hN' with rfl | rfl <;> rfl
        · left
          exact ⟨g, hput n hn5⟩
        · right
          refine ⟨by rw [g]; simp, ?_⟩
          rw [hput n hn5, hfree n hn]
          exact (at_ge hn).symm
    · exact hK.elim
  · exact hK.elim
end
end Go.Sx.Str

/- stream: the law StreamNarrows, evaluated. -/

namespace Go.Sx.Str
open Go Go.Sx Go.Proofs
set_option maxRecDepth 100000

def vecP (ys : List Pt) : VB := .vec ys.length (pG ys) 9 47
abbrev fDr : VV := .func 26 [] [.ptr (.own 5 0), .ptr (.own 3 0)]
def dsN : List Nat := [15, 16, 13, 1, 9, 14, 3, 4]
def VN (n cap L M : Nat) (cut i : Int) : List VV := [.sl 7 M, I i, fDr, .slice (.el 0 [] 0 0) n cap, .sl 4 L, .ptr (.own 6 0), .int .u8 cut, .ptr (.own 2 0)]
def nsN : List Nat := [0, 1, 2, 3, 4, 5, 6, 7]
def BNp (P : List Pt) (b : List Int) (c : Nat) (w : Wt) (xs : List Wt) (v : Int) (ow : Wt) : List VB := [ptsA P.length (pF P), uA b, .cells (wtL w) 25, .cells [.slice (.el 1 [] 0 0) b.length c] 54, vecW xs, .cells [I v] 3, .cells (wtL ow) 25]
def BN (P : List Pt) (b : List Int) (c : Nat) (w : Wt) (xs : List Wt) (v : Int) (ow : Wt) (ys : List Pt) : List VB := BNp P b c w xs v ow ++ [vecP ys]
def dsQ : List Nat := [21, 9, 18, 1, 3, 4]
def VQ (n cap L M : Nat) (cut i : Int) : List VV := [I i, .sl 4 L, .sl 8 M, .slice (.el 0 [] 0 0) n cap, .int .u8 cut, .ptr (.own 2 0)]
def nsQ : List Nat := [0, 2, 4, 8]
def BQ (P : List Pt) (w : Wt) (xs ys : List Wt) : List VB := [ptsA P.length (pF P), .cells (wtL w) 25, vecW xs, vecW ys]
theorem n0_ev (P : List Pt) (cap : Nat) (b : List Int) (c : Nat) (w : Wt) (xs : List Wt) (v : Int) (ow : Wt) (ys : List Pt) (cut i : Int) (X : VEx → List VV → List VB → Prop) : codeE Try.prog (callN Try.prog (tabS [drT b c]) noL 10 20) (fun _ => none) true 10 183 0 (loopB 0 (bodyOf Try.prog 7)) (dsN.zip (VN P.length cap xs.length ys.length cut i)) ⟨8, nsN.zip (BN P b c w xs v ow ys)⟩ (obs 8 dsN nsN X) =
  (bif decide (i < (↑P.length : Int)) then
 bif decide ((0 : Int) ≤ i ∧ i < (↑P.length : Int)) then
 (([] : List Int) = [] ∧ (0 : Int) ≤ (0 : Int) + i ∧ (0 : Int) + i < (↑P.length : Int)) ∧ (((3 : TypeId) = (3 : TypeId) ∧ lockOf (VH.mk (9) ((8, VB.cells [I (pF P ((0 : Int) + i)).k, I (pF P ((0 : Int) + i)).flo, I (pF P ((0 : Int) + i)).fhi, I (pF P ((0 : Int) + i)).wlo, I (pF P ((0 : Int) + i)).whi, I (pF P ((0 : Int) + i)).hlo, I (pF P ((0 : Int) + i)).hhi, I (pF P ((0 : Int) + i)).slo, I (pF P ((0 : Int) + i)).shi] 47) :: (8, VB.cells [I 0, I 0, I 0, I 0, I 0, I 0, I 0, I 0, I 0] 47) :: nsN.zip (BN P b c w xs v ow ys))) (Cls.wrc 5) ≤ 5 ∧ ((maskH [5, 0, 1, 2, 3, 4] (VH.mk (9) ((8, VB.cells [I (pF P ((0 : Int) + i)).k, I (pF P ((0 : Int) + i)).flo, I (pF P ((0 : Int) + i)).fhi, I (pF P ((0 : Int) + i)).wlo, I (pF P ((0 : Int) + i)).whi, I (pF P ((0 : Int) + i)).hlo, I (pF P ((0 : Int) + i)).hhi, I (pF P ((0 : Int) + i)).slo, I (pF P ((0 : Int) + i)).shi] 47) :: (8, VB.cells [I 0, I 0, I 0, I 0, I 0, I 0, I 0, I 0, I 0] 47) :: nsN.zip (BN P b c w xs v ow ys)))).nx = 6 ∨ (maskH [5, 0, 1, 2, 3, 4] (VH.mk (9) ((8, VB.cells [I (pF P ((0 : Int) + i)).k, I (pF P ((0 : Int) + i)).flo, I (pF P ((0 : Int) + i)).fhi, I (pF P ((0 : Int) + i)).wlo, I (pF P ((0 : Int) + i)).whi, I (pF P ((0 : Int) + i)).hlo, I (pF P ((0 : Int) + i)).hhi, I (pF P ((0 : Int) + i)).slo, I (pF P ((0 : Int) + i)).shi] 47) :: (8, VB.cells [I 0, I 0, I 0, I 0, I 0, I 0, I 0, I 0, I 0] 47) :: nsN.zip (BN P b c w xs v ow ys)))).nx = 9) ∧ VB.cells [VV.slice (VA.el 1 [] (0 : Int) 0) b.length c] (54 : TypeId) = VB.cells [VV.slice (VA.el 1 [] (0 : Int) 0) b.length c] (54 : TypeId) ∧ uA b = uA b) ∧ (∀ (x : Int), x ∈ b → (0 : Int) ≤ x ∧ ((4294967295 : Int) - x).NonNeg) ∧ (0 < b.length ∧ b.length ≤ 9223372036854775807) ∧ ((0 : Int) ≤ v ∧ v ≤ (1000000 : Int)) ∧ i64B (pF P ((0 : Int) + i)).flo ∧ i64B (pF P ((0 : Int) + i)).fhi) ∧ ∀ (a e : Int), DrP (pF P ((0 : Int) + i)).flo (pF P ((0 : Int) + i)).fhi a e → (((3 : TypeId) = (3 : TypeId) ∧ lockOf (VH.mk (9) ((5, VB.cells [I (v + (2 : Int))] (3 : TypeId)) :: (8, VB.cells [I (pF P ((0 : Int) + i)).k, I (pF P ((0 : Int) + i)).flo, I (pF P ((0 : Int) + i)).fhi, I (pF P ((0 : Int) + i)).wlo, I (pF P ((0 : Int) + i)).whi, I (pF P ((0 : Int) + i)).hlo, I (pF P ((0 : Int) + i)).hhi, I (pF P ((0 : Int) + i)).slo, I (pF P ((0 : Int) + i)).shi] 47) :: (8, VB.cells [I 0, I 0, I 0, I 0, I 0, I 0, I 0, I 0, I 0] 47) :: nsN.zip (BN P b c w xs v ow ys))) (Cls.wrc 5) ≤ 5 ∧ ((maskH [5, 0, 1, 2, 3, 4] (VH.mk (9) ((5, VB.cells [I (v + (2 : Int))] (3 : TypeId)) :: (8, VB.cells [I (pF P ((0 : Int) + i)).k, I (pF P ((0 : Int) + i)).flo, I (pF P ((0 : Int) + i)).fhi, I (pF P ((0 : Int) + i)).wlo, I (pF P ((0 : Int) + i)).whi, I (pF P ((0 : Int) + i)).hlo, I (pF P ((0 : Int) + i)).hhi, I (pF P ((0 : Int) + i)).slo, I (pF P ((0 : Int) + i)).shi] 47) :: (8, VB.cells [I 0, I 0, I 0, I 0, I 0, I 0, I 0, I 0, I 0] 47) :: nsN.zip (BN P b c w xs v ow ys)))).nx = 6 ∨ (maskH [5, 0, 1, 2, 3, 4] (VH.mk (9) ((5, VB.cells [I (v + (2 : Int))] (3 : TypeId)) :: (8, VB.cells [I (pF P ((0 : Int) + i)).k, I (pF P ((0 : Int) + i)).flo, I (pF P ((0 : Int) + i)).fhi, I (pF P ((0 : Int) + i)).wlo, I (pF P ((0 : Int) + i)).whi, I (pF P ((0 : Int) + i)).hlo, I (pF P ((0 : Int) + i)).hhi, I (pF P ((0 : Int) + i)).slo, I (pF P ((0 : Int) + i)).shi] 47) :: (8, VB.cells [I 0, I 0, I 0, I 0, I 0, I 0, I 0, I 0, I 0] 47) :: nsN.zip (BN P b c w xs v ow ys)))).nx = 9) ∧ VB.cells [VV.slice (VA.el 1 [] (0 : Int) 0) b.length c] (54 : TypeId) = VB.cells [VV.slice (VA.el 1 [] (0 : Int) 0) b.length c] (54 : TypeId) ∧ uA b = uA b) ∧ (∀ (x : Int), x ∈ b → (0 : Int) ≤ x ∧ ((4294967295 : Int) - x).NonNeg) ∧ (0 < b.length ∧ b.length ≤ 9223372036854775807) ∧ ((0 : Int) ≤ v + (2 : Int) ∧ v + (2 : Int) ≤ (1000000 : Int)) ∧ i64B (pF P ((0 : Int) + i)).wlo ∧ i64B (pF P ((0 : Int) + i)).whi) ∧ ∀ (a_2 e_1 : Int), DrP (pF P ((0 : Int) + i)).wlo (pF P ((0 : Int) + i)).whi a_2 e_1 → (((3 : TypeId) = (3 : TypeId) ∧ lockOf (VH.mk (9) ((5, VB.cells [I (v + (2 : Int) + (2 : Int))] (3 : TypeId)) :: (5, VB.cells [I (v + (2 : Int))] (3 : TypeId)) :: (8, VB.cells [I (pF P ((0 : Int) + i)).k, I (pF P ((0 : Int) + i)).flo, I (pF P ((0 : Int) + i)).fhi, I (pF P ((0 : Int) + i)).wlo, I (pF P ((0 : Int) + i)).whi, I (pF P ((0 : Int) + i)).hlo, I (pF P ((0 : Int) + i)).hhi, I (pF P ((0 : Int) + i)).slo, I (pF P ((0 : Int) + i)).shi] 47) :: (8, VB.cells [I 0, I 0, I 0, I 0, I 0, I 0, I 0, I 0, I 0] 47) :: nsN.zip (BN P b c w xs v ow ys))) (Cls.wrc 5) ≤ 5 ∧ ((maskH [5, 0, 1, 2, 3, 4] (VH.mk (9) ((5, VB.cells [I (v + (2 : Int) + (2 : Int))] (3 : TypeId)) :: (5, VB.cells [I (v + (2 : Int))] (3 : TypeId)) :: (8, VB.cells [I (pF P ((0 : Int) + i)).k, I (pF P ((0 : Int) + i)).flo, I (pF P ((0 : Int) + i)).fhi, I (pF P ((0 : Int) + i)).wlo, I (pF P ((0 : Int) + i)).whi, I (pF P ((0 : Int) + i)).hlo, I (pF P ((0 : Int) + i)).hhi, I (pF P ((0 : Int) + i)).slo, I (pF P ((0 : Int) + i)).shi] 47) :: (8, VB.cells [I 0, I 0, I 0, I 0, I 0, I 0, I 0, I 0, I 0] 47) :: nsN.zip (BN P b c w xs v ow ys)))).nx = 6 ∨ (maskH [5, 0, 1, 2, 3, 4] (VH.mk (9) ((5, VB.cells [I (v + (2 : Int) + (2 : Int))] (3 : TypeId)) :: (5, VB.cells [I (v + (2 : Int))] (3 : TypeId)) :: (8, VB.cells [I (pF P ((0 : Int) + i)).k, I (pF P ((0 : Int) + i)).flo, I (pF P ((0 : Int) + i)).fhi, I (pF P ((0 : Int) + i)).wlo, I (pF P ((0 : Int) + i)).whi, I (pF P ((0 : Int) + i)).hlo, I (pF P ((0 : Int) + i)).hhi, I (pF P ((0 : Int) + i)).slo, I (pF P ((0 : Int) + i)).shi] 47) :: (8, VB.cells [I 0, I 0, I 0, I 0, I 0, I 0, I 0, I 0, I 0] 47) :: nsN.zip (BN P b c w xs v ow ys)))).nx = 9) ∧ VB.cells [VV.slice (VA.el 1 [] (0 : Int) 0) b.length c] (54 : TypeId) = VB.cells [VV.slice (VA.el 1 [] (0 : Int) 0) b.length c] (54 : TypeId) ∧ uA b = uA b) ∧ (∀ (x : Int), x ∈ b → (0 : Int) ≤ x ∧ ((4294967295 : Int) - x).NonNeg) ∧ (0 < b.length ∧ b.length ≤ 9223372036854775807) ∧ ((0 : Int) ≤ v + (2 : Int) + (2 : Int) ∧ v + (2 : Int) + (2 : Int) ≤ (1000000 : Int)) ∧ i64B (pF P ((0 : Int) + i)).hlo ∧ i64B (pF P ((0 : Int) + i)).hhi) ∧ ∀ (a_4 e_2 : Int), DrP (pF P ((0 : Int) + i)).hlo (pF P ((0 : Int) + i)).hhi a_4 e_2 → (((3 : TypeId) = (3 : TypeId) ∧ lockOf (VH.mk (9) ((5, VB.cells [I (v + (2 : Int) + (2 : Int) + (2 : Int))] (3 : TypeId)) :: (5, VB.cells [I (v + (2 : Int) + (2 : Int))] (3 : TypeId)) :: (5, VB.cells [I (v + (2 : Int))] (3 : TypeId)) :: (8, VB.cells [I (pF P ((0 : Int) + i)).k, I (pF P ((0 : Int) + i)).flo, I (pF P ((0 : Int) + i)).fhi, I (pF P ((0 : Int) + i)).wlo, I (pF P ((0 : Int) + i)).whi, I (pF P ((0 : Int) + i)).hlo, I (pF P ((0 : Int) + i)).hhi, I (pF P ((0 : Int) + i)).slo, I (pF P ((0 : Int) + i)).shi] 47) :: (8, VB.cells [I 0, I 0, I 0, I 0, I 0, I 0, I 0, I 0, I 0] 47) :: nsN.zip (BN P b c w xs v ow ys))) (Cls.wrc 5) ≤ 5 ∧ ((maskH [5, 0, 1, 2, 3, 4] (VH.mk (9) ((5, VB.cells [I (v + (2 : Int) + (2 : Int) + (2 : Int))] (3 : TypeId)) :: (5, VB.cells [I (v + (2 : Int) + (2 : Int))] (3 : TypeId)) :: (5, VB.cells [I (v + (2 : Int))] (3 : TypeId)) :: (8, VB.cells [I (pF P ((0 : Int) + i)).k, I (pF P ((0 : Int) + i)).flo, I (pF P ((0 : Int) + i)).fhi, I (pF P ((0 : Int) + i)).wlo, I (pF P ((0 : Int) + i)).whi, I (pF P ((0 : Int) + i)).hlo, I (pF P ((0 : Int) + i)).hhi, I (pF P ((0 : Int) + i)).slo, I (pF P ((0 : Int) + i)).shi] 47) :: (8, VB.cells [I 0, I 0, I 0, I 0, I 0, I 0, I 0, I 0, I 0] 47) :: nsN.zip (BN P b c w xs v ow ys)))).nx = 6 ∨ (maskH [5, 0, 1, 2, 3, 4] (VH.mk (9) ((5, VB.cells [I (v + (2 : Int) + (2 : Int) + (2 : Int))] (3 : TypeId)) :: (5, VB.cells [I (v + (2 : Int) + (2 : Int))] (3 : TypeId)) :: (5, VB.cells [I (v + (2 : Int))] (3 : TypeId)) :: (8, VB.cells [I (pF P ((0 : Int) + i)).k, I (pF P ((0 : Int) + i)).flo, I (pF P ((0 : Int) + i)).fhi, I (pF P ((0 : Int) + i)).wlo, I (pF P ((0 : Int) + i)).whi, I (pF P ((0 : Int) + i)).hlo, I (pF P ((0 : Int) + i)).hhi, I (pF P ((0 : Int) + i)).slo, I (pF P ((0 : Int) + i)).shi] 47) :: (8, VB.cells [I 0, I 0, I 0, I 0, I 0, I 0, I 0, I 0, I 0] 47) :: nsN.zip (BN P b c w xs v ow ys)))).nx = 9) ∧ VB.cells [VV.slice (VA.el 1 [] (0 : Int) 0) b.length c] (54 : TypeId) = VB.cells [VV.slice (VA.el 1 [] (0 : Int) 0) b.length c] (54 : TypeId) ∧ uA b = uA b) ∧ (∀ (x : Int), x ∈ b → (0 : Int) ≤ x ∧ ((4294967295 : Int) - x).NonNeg) ∧ (0 < b.length ∧ b.length ≤ 9223372036854775807) ∧ ((0 : Int) ≤ v + (2 : Int) + (2 : Int) + (2 : Int) ∧ v + (2 : Int) + (2 : Int) + (2 : Int) ≤ (1000000 : Int)) ∧ i64B (pF P ((0 : Int) + i)).slo ∧ i64B (pF P ((0 : Int) + i)).shi) ∧ ∀ (a_6 e_3 : Int), DrP (pF P ((0 : Int) + i)).slo (pF P ((0 : Int) + i)).shi a_6 e_3 → bif ys.length.beq ys.length then
 bif roomB (ys.length + 1) (72) then
 bif inK IntKind.i64 (i + (1 : Int)) then
 X VEx.normal [VV.sl 7 (ys.length + 1), I (i + (1 : Int)), VV.func (26 : FuncId) [] [VV.ptr (VA.own 5 0), VV.ptr (VA.own 3 0)], VV.slice (VA.el 0 [] (0 : Int) 0) P.length cap, VV.sl 4 xs.length, VV.ptr (VA.own 6 0), VV.int IntKind.u8 cut, VV.ptr (VA.own 2 0)] [ptsA P.length (pF P), uA b, VB.cells (wtL w) (25 : TypeId), VB.cells [VV.slice (VA.el 1 [] (0 : Int) 0) b.length c] (54 : TypeId), vecW xs, VB.cells [I (v + (2 : Int) + (2 : Int) + (2 : Int) + (2 : Int))] (3 : TypeId), VB.cells (wtL ow) (25 : TypeId), VB.vec (ys.length + 1) (catG ys.length (pG ys) fun j => List.take (9) (List.drop (j * (9)) [I (pF P ((0 : Int) + i)).k, I a, I e, I a_2, I e_1, I a_4, I e_2, I a_6, I e_3])) (9) 47]
 else False
 else False
 else False
 else False
 else X (VEx.exit 0) [VV.sl 7 ys.length, I i, VV.func (26 : FuncId) [] [VV.ptr (VA.own 5 0), VV.ptr (VA.own 3 0)], VV.slice (VA.el 0 [] (0 : Int) 0) P.length cap, VV.sl 4 xs.length, VV.ptr (VA.own 6 0), VV.int IntKind.u8 cut, VV.ptr (VA.own 2 0)] [ptsA P.length (pF P), uA b, VB.cells (wtL w) (25 : TypeId), VB.cells [VV.slice (VA.el 1 [] (0 : Int) 0) b.length c] (54 : TypeId), vecW xs, VB.cells [I v] (3 : TypeId), VB.cells (wtL ow) (25 : TypeId), VB.vec ys.length (pG ys) 9 (47 : TypeId)]) := by kernel_rfl

theorem q0_ev (P : List Pt) (cap : Nat) (w : Wt) (xs ys : List Wt) (cut i : Int) (X : VEx → List VV → List VB → Prop) : codeE Try.prog (callN Try.prog noSpec noL 10 20) (fun _ => none) true 10 183 0 (loopB 2 (bodyOf Try.prog 7)) (dsQ.zip (VQ P.length cap xs.length ys.length cut i)) ⟨9, nsQ.zip (BQ P w xs ys)⟩ (obs 9 dsQ nsQ X) =
  (bif decide (i < (↑xs.length : Int)) then
 bif decide ((0 : Int) ≤ i ∧ i < (↑ys.length : Int)) then
 bif ys.length.beq ys.length && true then
 bif ys.length.beq ys.length then
 bif decide ((0 : Int) ≤ i ∧ i < (↑xs.length : Int)) then
 bif xs.length.beq xs.length && true then
 bif xs.length.beq xs.length then
 bif decide ((ys.getD i.toNat w0).flo ≥ (xs.getD i.toNat w0).flo) then
 bif !decide ((ys.getD i.toNat w0).fhi ≤ (xs.getD i.toNat w0).fhi) then
 X VEx.ret [I i, VV.sl 4 xs.length, VV.sl 8 ys.length, VV.slice (VA.el 0 [] (0 : Int) 0) P.length cap, VV.int IntKind.u8 cut, VV.ptr (VA.own 2 0)] [ptsA P.length (pF P), VB.cells (wtL w) (25 : TypeId), vecW xs, vecW ys]
 else bif decide ((0 : Int) ≤ i ∧ i < (↑ys.length : Int)) then
 bif ys.length.beq ys.length && true then
 bif ys.length.beq ys.length then
 bif decide ((0 : Int) ≤ i ∧ i < (↑xs.length : Int)) then
 bif xs.length.beq xs.length && true then
 bif xs.length.beq xs.length then
 bif decide ((ys.getD i.toNat w0).wlo ≥ (xs.getD i.toNat w0).wlo) then
 bif !decide ((ys.getD i.toNat w0).whi ≤ (xs.getD i.toNat w0).whi) then
 X VEx.ret [I i, VV.sl 4 xs.length, VV.sl 8 ys.length, VV.slice (VA.el 0 [] (0 : Int) 0) P.length cap, VV.int IntKind.u8 cut, VV.ptr (VA.own 2 0)] [ptsA P.length (pF P), VB.cells (wtL w) (25 : TypeId), vecW xs, vecW ys]
 else bif inK IntKind.i64 (i + (1 : Int)) then
 X VEx.normal [I (i + (1 : Int)), VV.sl 4 xs.length, VV.sl 8 ys.length, VV.slice (VA.el 0 [] (0 : Int) 0) P.length cap, VV.int IntKind.u8 cut, VV.ptr (VA.own 2 0)] [ptsA P.length (pF P), VB.cells (wtL w) (25 : TypeId), vecW xs, vecW ys]
 else False
 else X VEx.ret [I i, VV.sl 4 xs.length, VV.sl 8 ys.length, VV.slice (VA.el 0 [] (0 : Int) 0) P.length cap, VV.int IntKind.u8 cut, VV.ptr (VA.own 2 0)] [ptsA P.length (pF P), VB.cells (wtL w) (25 : TypeId), vecW xs, vecW ys]
 else False
 else False
 else False
 else False
 else False
 else False
 else X VEx.ret [I i, VV.sl 4 xs.length, VV.sl 8 ys.length, VV.slice (VA.el 0 [] (0 : Int) 0) P.length cap, VV.int IntKind.u8 cut, VV.ptr (VA.own 2 0)] [ptsA P.length (pF P), VB.cells (wtL w) (25 : TypeId), vecW xs, vecW ys]
 else False
 else False
 else False
 else False
 else False
 else False
 else X (VEx.exit 2) [I i, VV.sl 4 xs.length, VV.sl 8 ys.length, VV.slice (VA.el 0 [] (0 : Int) 0) P.length cap, VV.int IntKind.u8 cut, VV.ptr (VA.own 2 0)] [ptsA P.length (pF P), VB.cells (wtL w) (25 : TypeId), vecW xs, vecW ys]) := by kernel_rfl


end Go.Sx.Str

/- stream: the loops of the law StreamNarrows. -/

namespace Go.Sx.Str
open Go Go.Sx Go.Proofs
set_option maxRecDepth 100000

/-- A point that is drawn. -/
structure DrPt (q p : Pt) : Prop where
  k : q.k = p.k
  f : DrP p.flo p.fhi q.flo q.fhi
  w : DrP p.wlo p.whi q.wlo q.whi
  h : DrP p.hlo p.hhi q.hlo q.hhi
  s : DrP p.slo p.shi q.slo q.shi

theorem all2_snoc {α β : Type} {R : α → β → Prop} {a : α} {b : β} (h : R a b) : ∀ {l : List α} {m : List β}, All2 R l m → All2 R (l ++ [a]) (m ++ [b])
  | _, _, .nil => .cons h .nil
  | _, _, .cons k t => .cons k (all2_snoc h t)

theorem take_snoc {P : List Pt} {i : Int} (h0 : 0 ≤ i) (h : i < P.length) : P.take (i + 1).toNat = P.take i.toNat ++ [pF P i] := by
  have hi : i.toNat < P.length := by omega
  rw [show (i + 1).toNat = i.toNat + 1 by omega, List.take_succ_eq_append_getElem hi]
  simp [pF, List.getD_eq_getElem?_getD, hi]

theorem pF_mem {P : List Pt} {i : Int} (h0 : 0 ≤ i) (h : i < P.length) : pF P i ∈ P := by
  have hi : i.toNat < P.length := by omega
  have : pF P i = P[i.toNat] := by simp [pF, List.getD_eq_getElem?_getD, hi]
  rw [this]
  exact List.getElem_mem hi

theorem fit_snocP (ys : List Pt) (q : Pt) : (vecP (ys ++ [q])).fit (.vec (ys.length + 1) (catG ys.length (pG ys) fun j => List.take 9 (List.drop (j * 9) (ptL q))) 9 47) := by
  refine ⟨by simp, rfl, rfl, fun j hj => ?_⟩
  simp only [List.length_append, List.length_singleton] at hj
  simp only [catG]
  by_cases h : j < ys.length
  · rw [blt_t h]
    simp [pG, List.getD_eq_getElem?_getD, List.getElem?_append_left h]
  · rw [blt_f (by omega)]
    have : j = ys.length := by omega
    subst this
    simp [ptL, pG]

structure SN where
  i : Int
  v : Int
  ys : List Pt

structure IN (P : List Pt) (b : List Int) (s : SN) : Prop where
  i : 0 ≤ s.i ∧ s.i ≤ P.length
  v : s.v = 4 + 8 * s.i
  y : (s.ys.length : Int) = s.i
  a : All2 DrPt s.ys (P.take s.i.toNat)
  n : P.length ≤ 64
  p : ∀ p ∈ P, PtB p
  ub : ∀ x ∈ b, 0 ≤ x ∧ x ≤ 4294967295
  ul : 0 < b.length ∧ b.length ≤ 9223372036854775807

section
variable {P : List Pt} {cap : Nat} {b : List Int} {c : Nat} {w ow : Wt} {xs ys : List Wt} {cut : Int}

def ON (P : List Pt) (cap : Nat) (b : List Int) (c : Nat) (w : Wt) (xs : List Wt) (ow : Wt) (cut : Int) (_ : SN) (e : VEx) (vs : List VV) (bs : List VB) : Prop :=
  e = .exit 0 ∧ ∃ Q v', All2 DrPt Q P ∧ vs = VN P.length cap xs.length Q.length cut P.length ∧ bs = BN P b c w xs v' ow Q

theorem n0_round (i v : Int) (zs : List Pt) (h : IN P b ⟨i, v, zs⟩) : codeE Try.prog (callN Try.prog (tabS [drT b c]) noL 10 20) (fun _ => none) true 10 183 0 (loopB 0 (bodyOf Try.prog 7)) (dsN.zip (VN P.length cap xs.length zs.length cut i)) ⟨8, nsN.zip (BN P b c w xs v ow zs)⟩
    (obs 8 dsN nsN (RoundQ (fun s : SN => VN P.length cap xs.length s.ys.length cut s.i) (fun s => BN P b c w xs s.v ow s.ys) (IN P b) (fun s => (P.length - s.i).toNat) (ON P cap b c w xs ow cut) ⟨i, v, zs⟩)) := by
  obtain ⟨hi, hv, hy, ha, hn, hp, hb, hl⟩ := h
  dsimp only at hi hv hy ha
  rw [n0_ev]
  by_cases hlt : i < (P.length : Int)
  · have hpt := hp _ (pF_mem hi.1 hlt)
    refine cond_dk hlt (cond_dk ⟨hi.1, hlt⟩ ⟨⟨rfl, by omega, by omega⟩, ?_⟩)
    rw [Int.zero_add]
    refine ⟨⟨⟨rfl, Nat.le_refl 5, .inr rfl, rfl, rfl⟩, hb, hl, by omega, hpt.f1, hpt.f2⟩, fun f1 f2 d1 => ⟨⟨⟨rfl, Nat.le_refl 5, .inr rfl, rfl, rfl⟩, hb, hl, by omega, hpt.w1, hpt.w2⟩, fun w1 w2 d2 =>
      ⟨⟨⟨rfl, Nat.le_refl 5, .inr rfl, rfl, rfl⟩, hb, hl, by omega, hpt.h1, hpt.h2⟩, fun h1 h2 d3 => ⟨⟨⟨rfl, Nat.le_refl 5, .inr rfl, rfl, rfl⟩, hb, hl, by omega, hpt.s1, hpt.s2⟩, fun s1 s2 d4 => ?_⟩⟩⟩⟩
    refine cond_k (Nat.beq_refl _) (cond_k (room72 (by omega)) (cond_r (by omega) ?_))
    refine ⟨⟨i + 1, v + 2 + 2 + 2 + 2, zs ++ [⟨(pF P i).k, f1, f2, w1, w2, h1, h2, s1, s2⟩]⟩, ⟨by dsimp only; omega, by dsimp only; omega, by simp; omega, ?_, hn, hp, hb, hl⟩, by dsimp only; omega, ?_, ?_, fun _ _ _ h => h⟩
    · dsimp only
      rw [take_snoc hi.1 hlt]
      exact all2_snoc ⟨rfl, d1, d2, d3, d4⟩ ha
    · dsimp only
      rw [List.length_append]; rfl
    · exact ⟨VB.fit_refl _, VB.fit_refl _, VB.fit_refl _, VB.fit_refl _, VB.fit_refl _, VB.fit_refl _, VB.fit_refl _, fit_snocP zs _, trivial⟩
  · refine cond_d (fun h => absurd h hlt) (fun _ => ?_)
    have hk : i = (P.length : Int) := by omega
    subst hk
    rw [Int.toNat_natCast, List.take_length] at ha
    exact ⟨rfl, zs, v, ha, rfl, rfl⟩

def LNs (P : List Pt) (cap : Nat) (b : List Int) (c : Nat) (w : Wt) (xs : List Wt) (ow : Wt) (cut : Int) : LT := fun lock t h K =>
  FitP lock h t ⟨8, nsN.zip (BN P b c w xs 4 ow [])⟩ (dsN.zip (VN P.length cap xs.length 0 cut 0)) ∧ (P.length ≤ 64 ∧ (∀ p ∈ P, PtB p) ∧ (∀ x ∈ b, 0 ≤ x ∧ x ≤ 4294967295) ∧ (0 < b.length ∧ b.length ≤ 9223372036854775807)) ∧
    ∀ Q v', All2 DrPt Q P → K .normal (dsN.zip (VN P.length cap xs.length (List.length Q) cut P.length)) ⟨8, nsN.zip (BN P b c w xs v' ow Q)⟩

theorem LNs_ok : LSound Try.prog true (.block 0 (.loop (loopB 0 (bodyOf Try.prog 7)))) 183 (LNs P cap b c w xs ow cut) := by
  refine loop_row hmix (tab_good hmix (l := [drT b c]) (fun x hx => by
      simp only [List.mem_singleton] at hx
      subst hx
      exact drT_ok) 20) (un := 10) (ds := dsN) (ns := nsN) (nx := 8) (fun s : SN => VN P.length cap xs.length s.ys.length cut s.i) (fun s => BN P b c w xs s.v ow s.ys) (IN P b) (fun s => (P.length - s.i).toNat) (ON P cap b c w xs ow cut) noL_ok (fun s h => n0_round s.i s.v s.ys h) ?_
  rintro lock t h K ⟨hf, ⟨h1, h2, h3, h4⟩, hK⟩
  refine ⟨⟨0, 4, []⟩, hf, ⟨⟨Int.le_refl 0, Int.natCast_nonneg _⟩, rfl, rfl, .nil, h1, h2, h3, h4⟩, ?_⟩
  rintro e vs bs ⟨rfl, Q, v', hq, rfl, rfl⟩
  exact hK Q v' hq

def tN (n cap L : Nat) (cut : Int) : Slots := [(16, I 0), (13, fDr), (1, .slice (.el 0 [] 0 0) n cap), (9, .sl 4 L), (14, .ptr (.own 6 0)), (3, .int .u8 cut), (4, .ptr (.own 2 0))]

def LN1 (P : List Pt) (cap : Nat) (b : List Int) (c : Nat) (w : Wt) (xs : List Wt) (ow : Wt) (cut : Int) : LT := fun lock t h K =>
  FitP lock h t ⟨7, [0, 1, 2, 3, 4, 5, 6].zip (BNp P b c w xs 4 ow)⟩ ((15, .nils) :: tN P.length cap xs.length cut) ∧ (P.length ≤ 64 ∧ (∀ p ∈ P, PtB p) ∧ (∀ x ∈ b, 0 ≤ x ∧ x ≤ 4294967295) ∧ (0 < b.length ∧ b.length ≤ 9223372036854775807)) ∧
    ∀ Q v', All2 DrPt Q P → K .normal (dsN.zip (VN P.length cap xs.length (List.length Q) cut P.length)) ⟨8, nsN.zip (BN P b c w xs v' ow Q)⟩

theorem LN1_ok : LSound Try.prog true (.block 0 (.loop (loopB 0 (bodyOf Try.prog 7)))) 183 (LN1 P cap b c w xs ow cut) :=
  ghost_row (d := 15) (nx := 7) (bs := [0, 1, 2, 3, 4, 5, 6].zip (BNp P b c w xs 4 ow)) (t0 := tN P.length cap xs.length cut) (pG []) 9 47 LNs_ok (by
      rintro lock t h K ⟨hf, hc, hK⟩
      exact ⟨hf, ⟨⟨rfl, rfl, VB.fit_refl _, VB.fit_refl _, VB.fit_refl _, VB.fit_refl _, VB.fit_refl _, VB.fit_refl _, VB.fit_refl _, VB.fit_refl _, trivial⟩, rfl, rfl, rfl, rfl, rfl, rfl, rfl, rfl, trivial⟩, hc, hK⟩)

/-- Whatever water is drawn. -/
def LN (P : List Pt) (cap : Nat) (b : List Int) (c : Nat) (w : Wt) (xs : List Wt) (cut : Int) : LT := fun lock t h K => ∃ ow, LN1 P cap b c w xs ow cut lock t h K
theorem LN_ok : LSound Try.prog true (.block 0 (.loop (loopB 0 (bodyOf Try.prog 7)))) 183 (LN P cap b c w xs cut) := by
  rintro lock t h K ⟨ow, hK⟩
  exact LN1_ok _ _ _ _ hK

def CmpI (xs ys : List Wt) : Prop := ∀ i : Int, 0 ≤ i → i < xs.length → InW (ys.getD i.toNat w0) (xs.getD i.toNat w0)

def OQ (P : List Pt) (cap : Nat) (w : Wt) (xs ys : List Wt) (cut : Int) (_ : Int) (e : VEx) (vs : List VV) (bs : List VB) : Prop := e = .exit 2 ∧ vs = VQ P.length cap xs.length ys.length cut xs.length ∧ bs = BQ P w xs ys

def LQ1 (P : List Pt) (cap : Nat) (w : Wt) (xs ys : List Wt) (cut : Int) : LT := fun lock t h K =>
  FitP lock h t ⟨9, nsQ.zip (BQ P w xs ys)⟩ (dsQ.zip (VQ P.length cap xs.length ys.length cut 0)) ∧ (CmpI xs ys ∧ ys.length = xs.length ∧ xs.length ≤ 100000) ∧
    K .normal (dsQ.zip (VQ P.length cap xs.length ys.length cut xs.length)) ⟨9, nsQ.zip (BQ P w xs ys)⟩

theorem LQ1_ok : LSound Try.prog true (.block 2 (.loop (loopB 2 (bodyOf Try.prog 7)))) 183 (LQ1 P cap w xs ys cut) := by
  by_cases ok : CmpI xs ys ∧ ys.length = xs.length ∧ xs.length ≤ 100000
  · obtain ⟨hc, hl, hn⟩ := ok
    refine loop_row hmix good0 (un := 10) (ds := dsQ) (ns := nsQ) (nx := 9) (fun i : Int => VQ P.length cap xs.length ys.length cut i) (fun _ => BQ P w xs ys) (fun i => 0 ≤ i ∧ i ≤ xs.length) (fun i => (xs.length - i).toNat) (OQ P cap w xs ys cut) noL_ok ?_ ?_
    · rintro i ⟨h0, h1⟩
      rw [q0_ev]
      by_cases hlt : i < (xs.length : Int)
      · obtain ⟨⟨f1, f2⟩, c1, c2⟩ := hc i h0 hlt
        have e1 : xs.length.beq xs.length = true := Nat.beq_refl _
        have e2 : ys.length.beq ys.length = true := Nat.beq_refl _
        have e3 : (xs.length.beq xs.length && true) = true := by rw [e1]; rfl
        have e4 : (ys.length.beq ys.length && true) = true := by rw [e2]; rfl
        refine cond_dk hlt ?_
        refine cond_dk ⟨by omega, by omega⟩ (cond_k e4 (cond_k e2 (cond_dk ⟨by omega, by omega⟩ (cond_k e3 (cond_k e1 (cond_dk f1 (cond_nd (fun h => absurd f2 h) (fun _ => ?_))))))))
        refine cond_dk ⟨by omega, by omega⟩ (cond_k e4 (cond_k e2 (cond_dk ⟨by omega, by omega⟩ (cond_k e3 (cond_k e1 (cond_dk c1 (cond_nd (fun h => absurd c2 h) (fun _ => cond_r (by omega) ?_))))))))
        exact ⟨i + 1, ⟨by omega, by omega⟩, by dsimp only; omega, rfl, fitBs_refl _, fun _ _ _ h => h⟩
      · refine cond_d (fun h => absurd h hlt) (fun _ => ?_)
        have : i = (xs.length : Int) := by omega
        subst this
        exact ⟨rfl, rfl, rfl⟩
    · rintro lock t h K ⟨hf, _, hK⟩
      refine ⟨0, hf, ⟨Int.le_refl 0, Int.natCast_nonneg _⟩, ?_⟩
      rintro e vs bs ⟨rfl, rfl, rfl⟩
      exact hK
  · rintro lock t h K ⟨hf, hc, hK⟩
    exact (ok hc).elim

def LQ (P : List Pt) (cap : Nat) (w : Wt) (xs : List Wt) (cut : Int) : LT := fun lock t h K => ∃ ys, LQ1 P cap w xs ys cut lock t h K
theorem LQ_ok : LSound Try.prog true (.block 2 (.loop (loopB 2 (bodyOf Try.prog 7)))) 183 (LQ P cap w xs cut) := by
  rintro lock t h K ⟨ys, hK⟩
  exact LQ1_ok _ _ _ _ hK
end
end Go.Sx.Str

/- stream: the law StreamNarrows, evaluated. -/

namespace Go.Sx.Str
open Go Go.Sx Go.Proofs
set_option maxRecDepth 100000

def tL7 (b : List Int) (c : Nat) : List (FuncId × Spec1) := [awT, flT 13, waT 23, saT, drT b c]
def ls7 (P : List Pt) (cap : Nat) (b : List Int) (c : Nat) (w : Wt) (cut : Int) : List (Nat × LT) := [(0, LN P cap b c w (flL w P) cut), (2, LQ P cap w (flL w P) cut)]
theorem law7_ev (P : List Pt) (cap : Nat) (b : List Int) (c : Nat) (w : Wt) (cut : Int) (Q : VRes → Prop) : spBL Try.prog 7 (tabS (tL7 b c)) (ls7 P cap b c w cut) 10 20 0 [.agg (wtL w), .slice (.el 0 [] 0 0) P.length cap, .slice (.el 1 [] 0 0) b.length c, .int .u8 cut] ⟨2, [(0, ptsA P.length (pF P)), (1, uA b)]⟩ (fun r _ => Q r) =
  (bif decide ((↑P.length : Int) > (20 : Int)) then
 Q (VRes.ret (VV.bool true))
 else bif decide ((↑b.length : Int) = (0 : Int)) then
 Q (VRes.ret (VV.bool true))
 else ∃ P_1, isList (VH.mk (4) [(3, VB.cells [VV.slice (VA.el 1 [] (0 : Int) 0) b.length c] 54), (2, VB.cells (wtL w) 25), (0, ptsA P.length (pF P)), (1, uA b)]) (VV.slice (VA.el 0 [] (0 : Int) 0) P.length cap) P_1.length 9 (pG P_1) ∧ bif !decide (flE w P_1 = (0 : Int)) then
 Q (VRes.ret (VV.bool true))
 else bif !watB w then
 Q (VRes.ret (VV.bool false))
 else bif !decide ((↑(flL w P_1).length : Int) = (↑P.length : Int)) then
 Q (VRes.ret (VV.bool false))
 else (((3 : TypeId) = (3 : TypeId) ∧ lockOf (VH.mk (6) [(5, VB.cells [I 0] 3), (5, VB.cells [I 0] 3), (4, vecW (flL w P_1)), (3, VB.cells [VV.slice (VA.el 1 [] (0 : Int) 0) b.length c] 54), (2, VB.cells (wtL w) 25), (0, ptsA P.length (pF P)), (1, uA b)]) (Cls.wrc (5)) ≤ 5 ∧ ((maskH [5, 0, 1, 2, 3, 4] (VH.mk (6) [(5, VB.cells [I 0] 3), (5, VB.cells [I 0] 3), (4, vecW (flL w P_1)), (3, VB.cells [VV.slice (VA.el 1 [] (0 : Int) 0) b.length c] 54), (2, VB.cells (wtL w) 25), (0, ptsA P.length (pF P)), (1, uA b)])).nx = 6 ∨ (maskH [5, 0, 1, 2, 3, 4] (VH.mk (6) [(5, VB.cells [I 0] 3), (5, VB.cells [I 0] 3), (4, vecW (flL w P_1)), (3, VB.cells [VV.slice (VA.el 1 [] (0 : Int) 0) b.length c] 54), (2, VB.cells (wtL w) 25), (0, ptsA P.length (pF P)), (1, uA b)])).nx = 9) ∧ VB.cells [VV.slice (VA.el 1 [] (0 : Int) 0) b.length c] (54 : TypeId) = VB.cells [VV.slice (VA.el 1 [] (0 : Int) 0) b.length c] (54 : TypeId) ∧ uA b = uA b) ∧ (∀ (x : Int), x ∈ b → (0 : Int) ≤ x ∧ ((4294967295 : Int) - x).NonNeg) ∧ (0 < b.length ∧ b.length ≤ 9223372036854775807) ∧ ((0 : Int) ≤ (0 : Int) ∧ (0 : Int) ≤ (1000000 : Int)) ∧ i64B w.flo ∧ i64B w.fhi) ∧ ∀ (a e : Int), DrP w.flo w.fhi a e → (((3 : TypeId) = (3 : TypeId) ∧ lockOf (VH.mk (6) [(5, VB.cells [I ((0 : Int) + (2 : Int))] (3 : TypeId)), (5, VB.cells [I 0] 3), (5, VB.cells [I 0] 3), (4, vecW (flL w P_1)), (3, VB.cells [VV.slice (VA.el 1 [] (0 : Int) 0) b.length c] 54), (2, VB.cells (wtL w) 25), (0, ptsA P.length (pF P)), (1, uA b)]) (Cls.wrc (5)) ≤ 5 ∧ ((maskH [5, 0, 1, 2, 3, 4] (VH.mk (6) [(5, VB.cells [I ((0 : Int) + (2 : Int))] (3 : TypeId)), (5, VB.cells [I 0] 3), (5, VB.cells [I 0] 3), (4, vecW (flL w P_1)), (3, VB.cells [VV.slice (VA.el 1 [] (0 : Int) 0) b.length c] 54), (2, VB.cells (wtL w) 25), (0, ptsA P.length (pF P)), (1, uA b)])).nx = 6 ∨ (maskH [5, 0, 1, 2, 3, 4] (VH.mk (6) [(5, VB.cells [I ((0 : Int) + (2 : Int))] (3 : TypeId)), (5, VB.cells [I 0] 3), (5, VB.cells [I 0] 3), (4, vecW (flL w P_1)), (3, VB.cells [VV.slice (VA.el 1 [] (0 : Int) 0) b.length c] 54), (2, VB.cells (wtL w) 25), (0, ptsA P.length (pF P)), (1, uA b)])).nx = 9) ∧ VB.cells [VV.slice (VA.el 1 [] (0 : Int) 0) b.length c] (54 : TypeId) = VB.cells [VV.slice (VA.el 1 [] (0 : Int) 0) b.length c] (54 : TypeId) ∧ uA b = uA b) ∧ (∀ (x : Int), x ∈ b → (0 : Int) ≤ x ∧ ((4294967295 : Int) - x).NonNeg) ∧ (0 < b.length ∧ b.length ≤ 9223372036854775807) ∧ ((0 : Int) ≤ (0 : Int) + (2 : Int) ∧ (0 : Int) + (2 : Int) ≤ (1000000 : Int)) ∧ i64B w.wlo ∧ i64B w.whi) ∧ ∀ (a_2 e_1 : Int), DrP w.wlo w.whi a_2 e_1 → ∃ ow, FitP 0 (VH.mk (7) [(6, VB.cells [I a, I e, I a_2, I e_1] 25), (6, VB.cells [I 0, I 0, I 0, I 0] 25), (5, VB.cells [I ((0 : Int) + (2 : Int) + (2 : Int))] (3 : TypeId)), (5, VB.cells [I ((0 : Int) + (2 : Int))] (3 : TypeId)), (5, VB.cells [I 0] 3), (5, VB.cells [I 0] 3), (4, vecW (flL w P_1)), (3, VB.cells [VV.slice (VA.el 1 [] (0 : Int) 0) b.length c] 54), (2, VB.cells (wtL w) 25), (0, ptsA P.length (pF P)), (1, uA b)]) [(16, I 0), (15, VV.nils), (14, VV.ptr (VA.own (6) 0)), (65, VV.agg [I a, I e, I a_2, I e_1]), (64, VV.agg [I a_2, I e_1]), (63, VV.agg [I w.wlo, I w.whi]), (62, VV.ptr (VA.own (2) (2))), (61, VV.func 26 [] [VV.ptr (VA.own (5) 0), VV.ptr (VA.own (3) 0)]), (60, VV.agg [I a, I e]), (59, VV.agg [I w.flo, I w.fhi]), (58, VV.ptr (VA.own (2) 0)), (57, VV.func 26 [] [VV.ptr (VA.own (5) 0), VV.ptr (VA.own (3) 0)]), (13, VV.func 26 [] [VV.ptr (VA.own (5) 0), VV.ptr (VA.own (3) 0)]), (56, VV.func 26 [] [VV.ptr (VA.own (5) 0), VV.ptr (VA.own (3) 0)]), (12, VV.ptr (VA.own (5) 0)), (55, VV.bool false), (55, VV.bool !decide ((↑(flL w P_1).length : Int) = (↑P.length : Int))), (54, VV.bool !decide ((↑(flL w P_1).length : Int) = (↑P.length : Int))), (49, VV.bool false), (53, I (↑P.length : Int)), (49, VV.bool false), (52, VV.slice (VA.el 0 [] (0 : Int) 0) P.length cap), (49, VV.bool false), (51, I (↑(flL w P_1).length : Int)), (49, VV.bool false), (50, VV.sl (4) (flL w P_1).length), (49, VV.bool false), (49, VV.bool !watB w), (48, VV.bool !watB w), (47, VV.bool (watB w)), (46, VV.agg (wtL w)), (44, VV.bool false), (44, VV.bool !decide (flE w P_1 = (0 : Int))), (43, I (flE w P_1)), (11, I (flE w P_1)), (10, I (flI w P_1)), (9, VV.sl (4) (flL w P_1).length), (42, I (flE w P_1)), (41, I (flI w P_1)), (40, VV.sl (4) (flL w P_1).length), (36, VV.tup [VV.sl (4) (flL w P_1).length, I (flI w P_1), I (flE w P_1)]), (39, flV (4) w P_1), (38, VV.slice (VA.el 0 [] (0 : Int) 0) P.length cap), (37, VV.agg (wtL w)), (34, VV.bool false), (34, VV.bool (decide ((↑b.length : Int) = (0 : Int)))), (33, VV.bool (decide ((↑b.length : Int) = (0 : Int)))), (30, VV.bool false), (32, I (↑b.length : Int)), (30, VV.bool false), (31, VV.slice (VA.el 1 [] (0 : Int) 0) b.length c), (30, VV.bool false), (30, VV.bool (decide ((↑P.length : Int) > (20 : Int)))), (29, VV.bool (decide ((↑P.length : Int) > (20 : Int)))), (28, I (↑P.length : Int)), (27, VV.slice (VA.el 0 [] (0 : Int) 0) P.length cap), (8, VV.bool false), (6, VV.ptr (VA.own (3) 0)), (4, VV.ptr (VA.own (2) 0)), (0, VV.agg (wtL w)), (1, VV.slice (VA.el 0 [] (0 : Int) 0) P.length cap), (2, VV.slice (VA.el 1 [] (0 : Int) 0) b.length c), (3, VV.int IntKind.u8 cut)] (VH.mk 7 ([0, 1, 2, 3, 4, 5, 6].zip (BNp P b c w (flL w P) (4 : Int) ow))) ((15, VV.nils) :: tN P.length cap (flL w P).length cut) ∧ (P.length ≤ 64 ∧ (∀ (p : Pt), p ∈ P → PtB p) ∧ (∀ (x : Int), x ∈ b → (0 : Int) ≤ x ∧ ((4294967295 : Int) - x).NonNeg) ∧ 0 < b.length ∧ b.length ≤ 9223372036854775807) ∧ ∀ (Q_1 : List Pt) (v' : Int), All2 DrPt Q_1 P → ∃ P_2, isList (VH.mk 8 (nsN.zip (BN P b c w (flL w P) v' ow Q_1))) (VV.sl 7 Q_1.length) P_2.length 9 (pG P_2) ∧ bif !decide (flE (Wt.mk ow.flo ow.fhi ow.wlo ow.whi) P_2 = (0 : Int)) then
 Q (VRes.ret (VV.bool false))
 else bif !decide ((↑(flL (Wt.mk ow.flo ow.fhi ow.wlo ow.whi) P_2).length : Int) = (↑(flL w P).length : Int)) then
 Q (VRes.ret (VV.bool false))
 else ∃ ys, FitP 0 (VH.mk (8 + 1) ((8, vecW (flL (Wt.mk ow.flo ow.fhi ow.wlo ow.whi) P_2)) :: nsN.zip (BN P b c w (flL w P) v' ow Q_1))) ((21, I 0) :: (115, VV.bool false) :: (115, VV.bool !decide ((↑(flL (Wt.mk ow.flo ow.fhi ow.wlo ow.whi) P_2).length : Int) = (↑(flL w P).length : Int))) :: (114, VV.bool !decide ((↑(flL (Wt.mk ow.flo ow.fhi ow.wlo ow.whi) P_2).length : Int) = (↑(flL w P).length : Int))) :: (109, VV.bool false) :: (113, I (↑(flL w P).length : Int)) :: (109, VV.bool false) :: (112, VV.sl 4 (flL w P).length) :: (109, VV.bool false) :: (111, I (↑(flL (Wt.mk ow.flo ow.fhi ow.wlo ow.whi) P_2).length : Int)) :: (109, VV.bool false) :: (110, VV.sl 8 (flL (Wt.mk ow.flo ow.fhi ow.wlo ow.whi) P_2).length) :: (109, VV.bool false) :: (109, VV.bool !decide (flE (Wt.mk ow.flo ow.fhi ow.wlo ow.whi) P_2 = (0 : Int))) :: (108, VV.bool !decide (flE (Wt.mk ow.flo ow.fhi ow.wlo ow.whi) P_2 = (0 : Int))) :: (107, I (flE (Wt.mk ow.flo ow.fhi ow.wlo ow.whi) P_2)) :: (20, I (flE (Wt.mk ow.flo ow.fhi ow.wlo ow.whi) P_2)) :: (19, I (flI (Wt.mk ow.flo ow.fhi ow.wlo ow.whi) P_2)) :: (18, VV.sl 8 (flL (Wt.mk ow.flo ow.fhi ow.wlo ow.whi) P_2).length) :: (106, I (flE (Wt.mk ow.flo ow.fhi ow.wlo ow.whi) P_2)) :: (105, I (flI (Wt.mk ow.flo ow.fhi ow.wlo ow.whi) P_2)) :: (104, VV.sl 8 (flL (Wt.mk ow.flo ow.fhi ow.wlo ow.whi) P_2).length) :: (100, VV.tup [VV.sl 8 (flL (Wt.mk ow.flo ow.fhi ow.wlo ow.whi) P_2).length, I (flI (Wt.mk ow.flo ow.fhi ow.wlo ow.whi) P_2), I (flE (Wt.mk ow.flo ow.fhi ow.wlo ow.whi) P_2)]) :: (103, flV 8 (Wt.mk ow.flo ow.fhi ow.wlo ow.whi) P_2) :: (102, VV.sl 7 Q_1.length) :: (101, VV.agg [I ow.flo, I ow.fhi, I ow.wlo, I ow.whi]) :: dsN.zip (VN P.length cap (flL w P).length Q_1.length cut (↑P.length : Int))) (VH.mk 9 (nsQ.zip (BQ P w (flL w P) ys))) (dsQ.zip (VQ P.length cap (flL w P).length ys.length cut (0 : Int))) ∧ (CmpI (flL w P) ys ∧ ys.length = (flL w P).length ∧ (flL w P).length ≤ 100000) ∧ bif inK IntKind.i64 cut then
 bif inK IntKind.i64 ((↑P.length : Int) + (1 : Int)) then
 bif decide (remZ cut ((↑P.length : Int) + (1 : Int)) > (0 : Int)) then
 bif inK IntKind.i64 (remZ cut ((↑P.length : Int) + (1 : Int)) - (1 : Int)) then
 bif decide ((0 : Int) ≤ remZ cut ((↑P.length : Int) + (1 : Int)) - (1 : Int) ∧ remZ cut ((↑P.length : Int) + (1 : Int)) - (1 : Int) < (↑(flL w P).length : Int)) then
 bif (flL w P).length.beq (flL w P).length && true then
 bif (flL w P).length.beq (flL w P).length then
 bif decide ((0 : Int) ≤ remZ cut ((↑P.length : Int) + (1 : Int)) ∧ remZ cut ((↑P.length : Int) + (1 : Int)) ≤ (↑P.length : Int) ∧ (↑P.length : Int) ≤ (↑cap : Int)) then
 ∃ P_3, isList (VH.mk (10) ((9, VB.cells [I ((flL w P).getD (remZ cut ((↑P.length : Int) + (1 : Int)) - (1 : Int)).toNat w0).flo, I ((flL w P).getD (remZ cut ((↑P.length : Int) + (1 : Int)) - (1 : Int)).toNat w0).fhi, I ((flL w P).getD (remZ cut ((↑P.length : Int) + (1 : Int)) - (1 : Int)).toNat w0).wlo, I ((flL w P).getD (remZ cut ((↑P.length : Int) + (1 : Int)) - (1 : Int)).toNat w0).whi] 25) :: (9, VB.cells (wtL w) 25) :: (9, VB.cells [I 0, I 0, I 0, I 0] 25) :: nsQ.zip (BQ P w (flL w P) ys))) (VV.slice (VA.el 0 [] ((0 : Int) + remZ cut ((↑P.length : Int) + (1 : Int))) 0) ((↑P.length : Int) - remZ cut ((↑P.length : Int) + (1 : Int))).toNat (cap - (remZ cut ((↑P.length : Int) + (1 : Int))).toNat)) P_3.length 9 (pG P_3) ∧ bif decide (flE (Wt.mk ((flL w P).getD (remZ cut ((↑P.length : Int) + (1 : Int)) - (1 : Int)).toNat w0).flo ((flL w P).getD (remZ cut ((↑P.length : Int) + (1 : Int)) - (1 : Int)).toNat w0).fhi ((flL w P).getD (remZ cut ((↑P.length : Int) + (1 : Int)) - (1 : Int)).toNat w0).wlo ((flL w P).getD (remZ cut ((↑P.length : Int) + (1 : Int)) - (1 : Int)).toNat w0).whi) P_3 = (0 : Int)) then
 bif decide ((0 : Int) ≤ remZ cut ((↑P.length : Int) + (1 : Int)) ∧ remZ cut ((↑P.length : Int) + (1 : Int)) ≤ (↑(flL w P).length : Int) ∧ (↑(flL w P).length : Int) ≤ (↑(flL w P).length : Int)) then
 bif (flL w P).length.beq (flL w P).length then
 ∃ xs, (isList (VH.mk (10 + 1) ((10, vecW (flL (Wt.mk ((flL w P).getD (remZ cut ((↑P.length : Int) + (1 : Int)) - (1 : Int)).toNat w0).flo ((flL w P).getD (remZ cut ((↑P.length : Int) + (1 : Int)) - (1 : Int)).toNat w0).fhi ((flL w P).getD (remZ cut ((↑P.length : Int) + (1 : Int)) - (1 : Int)).toNat w0).wlo ((flL w P).getD (remZ cut ((↑P.length : Int) + (1 : Int)) - (1 : Int)).toNat w0).whi) P_3)) :: (9, VB.cells [I ((flL w P).getD (remZ cut ((↑P.length : Int) + (1 : Int)) - (1 : Int)).toNat w0).flo, I ((flL w P).getD (remZ cut ((↑P.length : Int) + (1 : Int)) - (1 : Int)).toNat w0).fhi, I ((flL w P).getD (remZ cut ((↑P.length : Int) + (1 : Int)) - (1 : Int)).toNat w0).wlo, I ((flL w P).getD (remZ cut ((↑P.length : Int) + (1 : Int)) - (1 : Int)).toNat w0).whi] 25) :: (9, VB.cells (wtL w) 25) :: (9, VB.cells [I 0, I 0, I 0, I 0] 25) :: nsQ.zip (BQ P w (flL w P) ys))) (VV.sl (10) (flL (Wt.mk ((flL w P).getD (remZ cut ((↑P.length : Int) + (1 : Int)) - (1 : Int)).toNat w0).flo ((flL w P).getD (remZ cut ((↑P.length : Int) + (1 : Int)) - (1 : Int)).toNat w0).fhi ((flL w P).getD (remZ cut ((↑P.length : Int) + (1 : Int)) - (1 : Int)).toNat w0).wlo ((flL w P).getD (remZ cut ((↑P.length : Int) + (1 : Int)) - (1 : Int)).toNat w0).whi) P_3).length) xs.length 4 (wG xs) ∧ isList (VH.mk (10 + 1) ((10, vecW (flL (Wt.mk ((flL w P).getD (remZ cut ((↑P.length : Int) + (1 : Int)) - (1 : Int)).toNat w0).flo ((flL w P).getD (remZ cut ((↑P.length : Int) + (1 : Int)) - (1 : Int)).toNat w0).fhi ((flL w P).getD (remZ cut ((↑P.length : Int) + (1 : Int)) - (1 : Int)).toNat w0).wlo ((flL w P).getD (remZ cut ((↑P.length : Int) + (1 : Int)) - (1 : Int)).toNat w0).whi) P_3)) :: (9, VB.cells [I ((flL w P).getD (remZ cut ((↑P.length : Int) + (1 : Int)) - (1 : Int)).toNat w0).flo, I ((flL w P).getD (remZ cut ((↑P.length : Int) + (1 : Int)) - (1 : Int)).toNat w0).fhi, I ((flL w P).getD (remZ cut ((↑P.length : Int) + (1 : Int)) - (1 : Int)).toNat w0).wlo, I ((flL w P).getD (remZ cut ((↑P.length : Int) + (1 : Int)) - (1 : Int)).toNat w0).whi] 25) :: (9, VB.cells (wtL w) 25) :: (9, VB.cells [I 0, I 0, I 0, I 0] 25) :: nsQ.zip (BQ P w (flL w P) ys))) (VV.sub 4 (flL w P).length (4) (remZ cut ((↑P.length : Int) + (1 : Int))).toNat ((↑(flL w P).length : Int) - remZ cut ((↑P.length : Int) + (1 : Int))).toNat) xs.length 4 (wG xs) ∧ xs.length ≤ 100000) ∧ Q (VRes.ret (VV.bool true))
 else False
 else False
 else Q (VRes.ret (VV.bool false))
 else False
 else False
 else False
 else False
 else False
 else bif decide ((0 : Int) ≤ remZ cut ((↑P.length : Int) + (1 : Int)) ∧ remZ cut ((↑P.length : Int) + (1 : Int)) ≤ (↑P.length : Int) ∧ (↑P.length : Int) ≤ (↑cap : Int)) then
 ∃ P_3, isList (VH.mk (10) ((9, VB.cells (wtL w) 25) :: (9, VB.cells [I 0, I 0, I 0, I 0] 25) :: nsQ.zip (BQ P w (flL w P) ys))) (VV.slice (VA.el 0 [] ((0 : Int) + remZ cut ((↑P.length : Int) + (1 : Int))) 0) ((↑P.length : Int) - remZ cut ((↑P.length : Int) + (1 : Int))).toNat (cap - (remZ cut ((↑P.length : Int) + (1 : Int))).toNat)) P_3.length 9 (pG P_3) ∧ bif decide (flE w P_3 = (0 : Int)) then
 bif decide ((0 : Int) ≤ remZ cut ((↑P.length : Int) + (1 : Int)) ∧ remZ cut ((↑P.length : Int) + (1 : Int)) ≤ (↑(flL w P).length : Int) ∧ (↑(flL w P).length : Int) ≤ (↑(flL w P).length : Int)) then
 bif (flL w P).length.beq (flL w P).length then
 ∃ xs, (isList (VH.mk (10 + 1) ((10, vecW (flL w P_3)) :: (9, VB.cells (wtL w) 25) :: (9, VB.cells [I 0, I 0, I 0, I 0] 25) :: nsQ.zip (BQ P w (flL w P) ys))) (VV.sl (10) (flL w P_3).length) xs.length 4 (wG xs) ∧ isList (VH.mk (10 + 1) ((10, vecW (flL w P_3)) :: (9, VB.cells (wtL w) 25) :: (9, VB.cells [I 0, I 0, I 0, I 0] 25) :: nsQ.zip (BQ P w (flL w P) ys))) (VV.sub 4 (flL w P).length (4) (remZ cut ((↑P.length : Int) + (1 : Int))).toNat ((↑(flL w P).length : Int) - remZ cut ((↑P.length : Int) + (1 : Int))).toNat) xs.length 4 (wG xs) ∧ xs.length ≤ 100000) ∧ Q (VRes.ret (VV.bool true))
 else False
 else False
 else Q (VRes.ret (VV.bool false))
 else False
 else False
 else False) := by kernel_rfl


end Go.Sx.Str

/- stream: the law StreamNarrows. -/

namespace Go.Sx.Str
open Go Go.Sx Go.Proofs
set_option maxRecDepth 100000

theorem dr_in {lo hi a b : Int} (h : DrP lo hi a b) : lo ≤ a ∧ b ≤ hi := by
  rcases h with ⟨rfl, rfl⟩ | h <;> omega
theorem dr_ok {lo hi a b : Int} (h : DrP lo hi a b) (hl : lo ≤ hi) : a ≤ b := by
  rcases h with ⟨rfl, rfl⟩ | h <;> omega

theorem dr_wt {w ow : Wt} (hw : WOk w) (hf : DrP w.flo w.fhi ow.flo ow.fhi) (hv : DrP w.wlo w.whi ow.wlo ow.whi) : WOk ow ∧ InW ow w := by
  obtain ⟨f1, f2, f3⟩ := hw.f
  obtain ⟨v1, v2, v3⟩ := hw.w
  have a1 := dr_in hf
  have a2 := dr_in hv
  have a3 := dr_ok hf f2
  have a4 := dr_ok hv v2
  exact ⟨⟨⟨by omega, a3, by omega⟩, by omega, a4, by omega⟩, ⟨a1.1, a1.2⟩, a2.1, a2.2⟩

theorem dr_pt {q p : Pt} (h : DrPt q p) : InP q p ∧ (PtOk p → PtOk q) := by
  have a1 := dr_in h.f
  have a2 := dr_in h.w
  have a3 := dr_in h.h
  have a4 := dr_in h.s
  refine ⟨⟨h.k, a1, a2, a3, a4⟩, fun hp => ?_⟩
  have hk := h.k
  rcases hp with ⟨k, f, v⟩ | ⟨k, f⟩ | ⟨k, f⟩ | ⟨k, v, s⟩
  · have b1 := dr_ok h.f f.2.1
    have b2 := dr_ok h.w v.2.1
    exact .join (by omega) (by omega) (by omega)
  · have b1 := dr_ok h.f f.2.1
    exact .draw (by omega) (by omega)
  · have b1 := dr_ok h.h f.2.1
    exact .add (by omega) (by omega)
  · have b1 := dr_ok h.w v.2.1
    have b2 := dr_ok h.s s.2.1
    exact .air (by omega) (by omega) (by omega)

theorem all2_map {α β : Type} {R S : α → β → Prop} (h : ∀ a b, R a b → S a b) : ∀ {l : List α} {m : List β}, All2 R l m → All2 S l m
  | _, _, .nil => .nil
  | _, _, .cons k t => .cons (h _ _ k) (all2_map h t)

theorem rL_get : ∀ (P : List Pt) (w : Wt) (k : Nat), k < P.length → (rL w P).getD k w0 = endW w (P.take (k + 1))
  | [], _, _, h => absurd h (Nat.not_lt_zero _)
  | p :: r, w, 0, _ => rfl
  | p :: r, w, k + 1, h => by
    simp only [List.length_cons] at h
    have := rL_get r (stepW w p) k (by omega)
    simpa [rL, endW] using this

/-- Points in two parts. -/
theorem two_parts {w : Wt} {P : List Pt} {k : Nat} (hw : WOk w) (hk : k ≤ P.length) (hn : P.length ≤ 64) (h0 : rE w P = 0) : flE (endW w (P.take k)) (P.drop k) = 0 ∧ flL (endW w (P.take k)) (P.drop k) = (rL w P).drop k := by
  have e := rE_app (P.take k) (P.drop k) w
  rw [List.take_append_drop, h0] at e
  by_cases hz : rE w (P.take k) = 0
  · rw [if_pos hz] at e
    have h1 := end_ok hw hz
    have h2 := flE_mk (w := endW w (P.take k)) (P := P.drop k) h1 (by rw [List.length_drop]; omega)
    rw [← e] at h2
    refine ⟨h2, ?_⟩
    rw [flL_0 h2]
    have e2 := rL_app (P.take k) (P.drop k) w
    rw [List.take_append_drop] at e2
    have hl : (rL w (P.take k)).length = k := by rw [rL_len, List.length_take]; omega
    have hd : (rL w (P.take k)).drop k = [] := List.drop_eq_nil_of_le (by rw [hl]; exact Nat.le_refl _)
    rw [e2, List.drop_append, hl, Nat.sub_self, hd, List.nil_append, List.drop_zero]
  · rw [if_neg hz] at e
    exact absurd e.symm hz

section
variable {P : List Pt} {cap : Nat} {b : List Int} {c : Nat} {w : Wt} {cut : Int}

theorem tL7_ok : ∀ x ∈ tL7 b c, SpOk Try.prog x.1 x.2 := by
  intro x hx
  simp only [tL7, List.mem_cons, List.not_mem_nil, or_false] at hx
  rcases hx with rfl | rfl | rfl | rfl | rfl
  · exact awT_ok
  · exact fl13_ok
  · exact waT_ok wa23_v
  · exact saT_ok
  · exact drT_ok

theorem drop_isList {h : VH} {k cap' : Nat} {K : Int} (hm : h.at 0 = ptsA P.length (pF P)) (hK : K = k) (hk : k ≤ P.length) : isList h (.slice (.el 0 [] (0 + K) 0) ((P.length : Int) - K).toNat cap') (P.drop k).length 9 (pG (P.drop k)) := by
  subst hK
  refine ⟨by rw [List.length_drop]; omega, by omega, _, _, hm, fun j hj => ?_⟩
  rw [List.length_drop] at hj
  refine ⟨⟨rfl, by omega, by omega⟩, ?_⟩
  show ptL (pF P (0 + (k : Int) + (j : Int))) = pG (P.drop k) j
  unfold pF pG
  rw [show (0 + (k : Int) + (j : Int)).toNat = k + j by omega]
  simp [List.getD_eq_getElem?_getD]

theorem law7_v (hcut : 0 ≤ cut ∧ cut ≤ 255) (hb : ∀ x ∈ b, 0 ≤ x ∧ x ≤ 4294967295) (hbl : b.length ≤ 9223372036854775807) (hwb : WtB w) (hpb : ∀ p ∈ P, PtB p) :
    ∃ h', CallsV Try.prog 7 [.agg (wtL w), .slice (.el 0 [] 0 0) P.length cap, .slice (.el 1 [] 0 0) b.length c, .int .u8 cut] ⟨2, [(0, ptsA P.length (pF P)), (1, uA b)]⟩ (.ret (.bool true)) h' := by
  by_cases hcap : cap < P.length
  · exact ⟨⟨0, []⟩, vac_cap hcap⟩
  have hKr : 0 ≤ remZ cut ((P.length : Int) + 1) ∧ remZ cut ((P.length : Int) + 1) < P.length + 1 := by
    rw [remZ_nn hcut.1]
    exact ⟨Int.emod_nonneg _ (by omega), Int.emod_lt_of_pos _ (by omega)⟩
  have hsp := spBL_ok hmix (tabs_ok (tL7_ok (b := b) (c := c))) (f := 7) (l := ls7 P cap b c w cut) (fun x hx => by
    simp only [ls7, List.mem_cons, List.not_mem_nil, or_false] at hx
    rcases hx with rfl | rfl
    · exact ⟨by kernel_rfl, LN_ok⟩
    · exact ⟨by kernel_rfl, LQ_ok⟩) (un := 10) (fu := 20)
  obtain ⟨r, h', hQ, hcc⟩ := of_sp hsp (args := [.agg (wtL w), .slice (.el 0 [] 0 0) P.length cap, .slice (.el 1 [] 0 0) b.length c, .int .u8 cut]) (h := ⟨2, [(0, ptsA P.length (pF P)), (1, uA b)]⟩) (K := fun r _ => r = .ret (.bool true))
    (by
      refine cast (law7_ev P cap b c w cut _).symm ?_
      generalize remZ cut ((P.length : Int) + 1) = K at hKr
      obtain ⟨k, rfl⟩ : ∃ k : Nat, K = (k : Int) := ⟨K.toNat, by omega⟩
      have hk : k ≤ P.length := by omega
      refine cond_d (fun _ => rfl) (fun hn => cond_d (fun _ => rfl) (fun hbn => ⟨P, isList_arr rfl, cond_nd (fun _ => rfl) (fun he => ?_)⟩))
      obtain ⟨l1, l2, l3⟩ := flE_len he
      have hw := watB_iff.1 l2
      have hL := flL_0 he
      have hLn : (flL w P).length = P.length := by rw [hL, rL_len]
      have hl : 0 < b.length ∧ b.length ≤ 9223372036854775807 := ⟨by omega, hbl⟩
      refine cond_f (by rw [l2]; rfl) (cond_nd (fun h => absurd (show (((flL w P).length : Nat) : Int) = (P.length : Int) by rw [hLn]) h) (fun _ => ?_))
      refine ⟨⟨⟨rfl, Nat.le_refl 5, .inl rfl, rfl, rfl⟩, hb, hl, by omega, hwb.a, hwb.b⟩, fun f1 f2 d1 => ⟨⟨⟨rfl, Nat.le_refl 5, .inl rfl, rfl, rfl⟩, hb, hl, by omega, hwb.c, hwb.d⟩, fun v1 v2 d2 => ?_⟩⟩
      obtain ⟨how, hin⟩ := dr_wt (ow := ⟨f1, f2, v1, v2⟩) hw d1 d2
      refine ⟨⟨f1, f2, v1, v2⟩, ⟨⟨rfl, rfl, VB.fit_refl _, VB.fit_refl _, VB.fit_refl _, VB.fit_refl _, VB.fit_refl _, VB.fit_refl _, VB.fit_refl _, trivial⟩, rfl, rfl, rfl, rfl, rfl, rfl, rfl, rfl, trivial⟩, ⟨l1, hpb, hb, hl⟩, fun Q v' hQ => ?_⟩
      obtain ⟨q1, q2⟩ := runs_inn how hw hin (all2_map (fun a b h => dr_pt h) hQ) l3
      have hQn := (all2_get hQ).1
      have hEQ := flE_mk (w := ⟨f1, f2, v1, v2⟩) (P := Q) how (by omega)
      rw [q1] at hEQ
      have hLQ := flL_0 hEQ
      have hLQn : (flL ⟨f1, f2, v1, v2⟩ Q).length = P.length := by rw [hLQ, rL_len, hQn]
      refine ⟨Q, ⟨rfl, _, _, rfl, fun _ _ => rfl⟩, cond_nd (fun h => absurd hEQ h) (fun _ => cond_nd (fun h => absurd (show (((flL ⟨f1, f2, v1, v2⟩ Q).length : Nat) : Int) = ((flL w P).length : Int) by rw [hLQn, hLn]) h) (fun _ => ?_))⟩
      refine ⟨flL ⟨f1, f2, v1, v2⟩ Q, ⟨⟨rfl, rfl, VB.fit_refl _, VB.fit_refl _, VB.fit_refl _, VB.fit_refl _, trivial⟩, rfl, rfl, rfl, rfl, rfl, rfl, trivial⟩, ⟨?_, by rw [hLQn, hLn], by omega⟩, cond_r (by omega) (cond_r (by omega) ?_)⟩
      · intro i i0 i1
        rw [hLQ, hL]
        exact (all2_get q2).2 i.toNat w0 w0 (by rw [rL_len, hQn]; rw [hLn] at i1; omega)
      obtain ⟨t1, t2⟩ := two_parts hw hk l1 l3
      have fin : ∀ (z : Wt) (h : VH), z = endW w (P.take k) → h.at 10 = vecW (flL z (P.drop k)) → h.at 4 = vecW (flL w P) →
          ∃ xs : List Wt, (isList h (.sl 10 (flL z (P.drop k)).length) xs.length 4 (wG xs) ∧ isList h (.sub 4 (flL w P).length 4 (k : Int).toNat (((flL w P).length : Int) - k).toNat) xs.length 4 (wG xs) ∧ xs.length ≤ 100000) ∧ VRes.ret (.bool true) = .ret (.bool true) := fun z h hz n1 n2 => by
        subst hz
        refine ⟨(rL w P).drop k, ⟨⟨by rw [t2], _, _, n1, fun j hj => by rw [t2]⟩, ⟨?_, rfl, _, _, n2, fun j hj => ?_⟩, by rw [List.length_drop, rL_len]; omega⟩, rfl⟩
        · rw [hLn, List.length_drop, rL_len]; omega
        · rw [Int.toNat_natCast, hL]
          simp [wG, List.getD_eq_getElem?_getD]
      refine cond_d (fun hpos => ?_) (fun hz => ?_)
      · refine cond_r (by omega) (cond_dk ⟨by omega, by omega⟩ (cond_k (by rw [show (flL w P).length.beq (flL w P).length = true from Nat.beq_refl _]; rfl) (cond_k (Nat.beq_refl _) (cond_dk ⟨by omega, by omega, by omega⟩ ?_))))
        have hget : (flL w P).getD ((k : Int) - 1).toNat w0 = endW w (P.take k) := by
          rw [hL, rL_get P w _ (by omega), show ((k : Int) - 1).toNat + 1 = k by omega]
        rw [hget]
        refine ⟨P.drop k, drop_isList rfl rfl hk, cond_dk t1 (cond_dk ⟨by omega, by omega, Int.le_refl _⟩ (cond_k (Nat.beq_refl _) ?_))⟩
        exact fin _ _ rfl rfl rfl
      · have hk0 : k = 0 := by omega
        have hz : w = endW w (P.take k) := by rw [hk0]; rfl
        refine cond_dk ⟨by omega, by omega, by omega⟩ ⟨P.drop k, drop_isList rfl rfl hk, cond_dk (by rw [← hz] at t1; exact t1) (cond_dk ⟨by omega, by omega, Int.le_refl _⟩ (cond_k (Nat.beq_refl _) ?_))⟩
        exact fin _ _ hz rfl rfl)
  subst hQ
  exact ⟨h', hcc⟩
end
end Go.Sx.Str

/- stream: lists of numbers of the machine, read. -/

namespace Go.Sx.Str
open Go Go.Sx Go.Proofs Go.ChangeShapes Go.WideShapes Go.RowKit
set_option maxRecDepth 100000

theorem und54 : Try.prog.underlying 54 = some (.slice 48) := by kernel_rfl
theorem leaves48 : leavesT Try.prog 5 48 = some [48] := by kernel_rfl
theorem all48 : ∀ u ∈ [48], Try.prog.underlying u = some (.int .u32) := by
  intro u hu
  simp only [List.mem_singleton] at hu
  subst hu
  exact und48

section
variable {H : Type} {enc : TypeId × Value → H} {W : World} {base : Nat} {spare : Nat → Bool} {held : Bool} {r : Go.Reach} {b0 : Nat} {v : Value} {d : DataW H} {ps : List MemPlace}

theorem read_us (hval : Value.okWide Try.prog W r b0 54 v) (hd : DataW.Trod enc Try.prog W base spare held 54 v d ps) : ∃ (b : List Int) (c : Nat) (q : Addr), RowIn W v b.length 1 c (fun j => [U (b.getD j 0)]) q ∧ (∀ x ∈ b, 0 ≤ x ∧ x ≤ 4294967295) ∧ b.length ≤ 9223372036854775807 := by
  rcases open_rows und54 leaves48 cells48 (by decide) all48 hval hd with rfl | ⟨ad, len, cap, rfl, hlc, hcm, hbl, hcell⟩
  · exact ⟨[], 0, default, ⟨.inr ⟨rfl, rfl, rfl⟩, Nat.le_refl _, fun j hj => absurd hj (Nat.not_lt_zero j)⟩, by simp, Nat.zero_le _⟩
  · have hc : ∀ i, i < len → W.cell? (ad.add (i * 1 + 0)) = some (.int .u32 (rdI W (ad.add (i * 1 + 0)))) ∧ (Lit.int .u32 (rdI W (ad.add (i * 1 + 0)))).wf = true := fun i hi => hcell i hi 0 (by decide)
    let F : Nat → Int := fun j => rdI W (ad.add (j * 1 + 0))
    have hF : ∀ j, j < len → ((List.range len).map F).getD j 0 = F j := fun j hj => by simp [List.getD_eq_getElem?_getD, hj]
    have hl : ((List.range len).map F).length = len := by simp
    have hm : len ≤ 9223372036854775807 := Nat.le_trans hlc (Nat.le_trans hcm (by decide))
    refine ⟨(List.range len).map F, cap, ad, ⟨.inl (by rw [hl]), by rw [hl]; exact hlc, ?_⟩, ?_, by rw [hl]; exact hm⟩
    · intro j hj
      rw [hl] at hj
      obtain ⟨h1, h2⟩ := hbl (by omega)
      refine ⟨h1, h2, fun R => ⟨[.int .u32 (F j)], ?_, rfl, fun k y hk => ?_⟩⟩
      · show VRelL R [U (((List.range len).map F).getD j 0)] _
        rw [hF j hj]
        exact ⟨_, _, rfl, rfl, rfl⟩
      · match k, hk with
        | 0, hk => simp at hk; subst hk; exact (hc j hj).1
        | k + 1, hk => simp at hk
    · intro x hx
      obtain ⟨j, hj, rfl⟩ := List.mem_map.1 hx
      rw [List.mem_range] at hj
      exact wf_u32 (hc j hj).2
end
end Go.Sx.Str
