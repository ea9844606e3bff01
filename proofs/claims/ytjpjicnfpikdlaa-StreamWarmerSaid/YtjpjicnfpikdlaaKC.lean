/- stream: Kb1 Kb2 Kb3 Kb4 Kb5 Kb6 Kb7, in one text. -/
import Derived.Test.YtjpjicnfpikdlaaKB
import Derived.Test.YtjpjicnfpikdlaaSxZ
/- stream: Flow as a row. -/

namespace Go.Sx.Str
open Go Go.Sx Go.Proofs
set_option maxRecDepth 100000

def p0 : Pt := ⟨0, 0, 0, 0, 0, 0, 0, 0, 0⟩
def pG (P : List Pt) : Nat → List VV := fun j => ptL (P.getD j p0)
def pF (P : List Pt) : Int → Pt := fun i => P.getD i.toNat p0

/-- What is known behind points; the error, and where it is. -/
def rL : Wt → List Pt → List Wt
  | _, [] => []
  | w, p :: r => stepW w p :: rL (stepW w p) r
def rE : Wt → List Pt → Int
  | _, [] => 0
  | w, p :: r => bif !ptB p then 1 else bif decide (errW (stepW w p) = 0) then rE (stepW w p) r else errW (stepW w p)
def rI : Int → Wt → List Pt → Int
  | i, _, [] => i
  | i, w, p :: r => bif ptB p && decide (errW (stepW w p) = 0) then rI (i + 1) (stepW w p) r else i

theorem pF_app (A : List Pt) (p : Pt) (r : List Pt) : pF (A ++ p :: r) (A.length : Int) = p := by
  simp [pF, List.getD_eq_getElem?_getD]

theorem runL_list : ∀ (B A : List Pt) (w : Wt), runL (pF (A ++ B)) B.length A.length w = rL w B
  | [], _, _ => rfl
  | p :: r, A, w => by
    have h := runL_list r (A ++ [p]) (stepW w p)
    simp only [List.length_cons, runL, rL, pF_app]
    rw [List.append_assoc, List.length_append] at h
    simp only [List.length_singleton, List.singleton_append, Int.natCast_add, Int.natCast_one] at h
    rw [h]

theorem runE_list : ∀ (B A : List Pt) (w : Wt), runE (pF (A ++ B)) B.length A.length w = rE w B
  | [], _, _ => rfl
  | p :: r, A, w => by
    have h := runE_list r (A ++ [p]) (stepW w p)
    simp only [List.length_cons, runE, rE, pF_app]
    rw [List.append_assoc, List.length_append] at h
    simp only [List.length_singleton, List.singleton_append, Int.natCast_add, Int.natCast_one] at h
    rw [h]

theorem runI_list : ∀ (B A : List Pt) (w : Wt), runI (pF (A ++ B)) B.length A.length w = rI A.length w B
  | [], _, _ => rfl
  | p :: r, A, w => by
    have h := runI_list r (A ++ [p]) (stepW w p)
    simp only [List.length_cons, runI, rI, pF_app]
    rw [List.append_assoc, List.length_append] at h
    simp only [List.length_singleton, List.singleton_append, Int.natCast_add, Int.natCast_one] at h
    rw [h]

/-- Flow. -/
def flE (f : Wt) (P : List Pt) : Int := bif !watB f then 1 else bif decide ((P.length : Int) > 64) then 3 else rE f P
def flI (f : Wt) (P : List Pt) : Int := bif !watB f then 0 else bif decide ((P.length : Int) > 64) then 0 else rI 0 f P
def flL (f : Wt) (P : List Pt) : List Wt := bif decide (flE f P = 0) then rL f P else []
abbrev flV (o : Nat) (f : Wt) (P : List Pt) : VV := .tup [.sl o (flL f P).length, I (flI f P), I (flE f P)]

theorem wat_no {f : Wt} (h : f.flo ≥ 1 → f.flo ≤ f.fhi → f.fhi ≤ 1073741824 → f.wlo ≥ 0 → f.wlo ≤ f.whi → f.whi ≤ 100000 → False) : watB f = false := by
  cases hw : watB f
  · rfl
  · obtain ⟨⟨a1, a2, a3⟩, b1, b2, b3⟩ := watB_iff.1 hw
    exact (h a1 a2 a3 b1 b2 b3).elim

theorem fl_ghost {f : FuncId} {args : List VV} {h : VH} {nx : Nat} {bs : List (Nat × VB)} {i e : Int} (hc : CallsV Try.prog f args h (.ret (.tup [.nils, I i, I e])) ⟨nx, bs⟩) : CallsV Try.prog f args h (.ret (.tup [.sl nx 0, I i, I e])) ((VH.mk nx bs).new (vecW [])) :=
  calls_ghost (v2 := .tup [.sl nx 0, I i, I e]) (fun j => wtL (([] : List Wt).getD j w0)) 4 25 hc (fun R x hv hx => by
    obtain ⟨xs, ⟨y, ys, g1, ⟨y2, ys2, g2, ⟨y3, ys3, g3, g4, rfl⟩, rfl⟩, rfl⟩, hx⟩ := hx
    exact ⟨_, ⟨y, _, nil_ghost hv g1, ⟨y2, _, g2, ⟨y3, _, g3, g4, rfl⟩, rfl⟩, rfl⟩, hx⟩)

theorem flE_w {f : Wt} {P : List Pt} (h : watB f = false) : flE f P = 1 ∧ flI f P = 0 ∧ flL f P = [] := by
  unfold flL flI flE
  rw [h]
  exact ⟨rfl, rfl, rfl⟩
theorem flE_l {f : Wt} {P : List Pt} (h : watB f = true) (hl : (P.length : Int) > 64) : flE f P = 3 ∧ flI f P = 0 ∧ flL f P = [] := by
  unfold flL flI flE
  rw [h, decide_eq_true hl]
  exact ⟨rfl, rfl, rfl⟩
theorem flE_o {f : Wt} {P : List Pt} (h : watB f = true) (hl : ¬ (P.length : Int) > 64) : flE f P = rE f P ∧ flI f P = rI 0 f P ∧ flL f P = bif decide (rE f P = 0) then rL f P else [] := by
  unfold flL flI flE
  rw [h, decide_eq_false hl]
  exact ⟨rfl, rfl, rfl⟩

theorem rL_len : ∀ (P : List Pt) (w : Wt), (rL w P).length = P.length
  | [], _ => rfl
  | p :: r, w => by simp only [rL, List.length_cons, rL_len r]

theorem rI_end : ∀ (P : List Pt) (i : Int) (w : Wt), rE w P = 0 → rI i w P = i + P.length
  | [], i, w, _ => by simp [rI]
  | p :: r, i, w, h => by
    simp only [rE] at h
    simp only [rI]
    cases hp : ptB p
    · rw [hp] at h; cases h
    · rw [hp] at h
      by_cases he : errW (stepW w p) = 0
      · rw [decide_eq_true he] at h ⊢
        have := rI_end r (i + 1) (stepW w p) h
        show rI (i + 1) (stepW w p) r = _
        rw [this, List.length_cons]
        omega
      · rw [decide_eq_false he] at h
        exact (he h).elim

theorem flow13 (f : Wt) (P : List Pt) (cap : Nat) : CallsV Try.prog 13 [.agg (wtL f), .slice (.el 0 [] 0 0) P.length cap] ⟨1, [(0, ptsA P.length (pF P))]⟩ (.ret (flV 15 f P)) ⟨16, [(0, ptsA P.length (pF P)), (15, vecW (flL f P))]⟩ := by
  have e1 : runE (pF P) P.length 0 f = rE f P := runE_list P [] f
  have e2 : runI (pF P) P.length 0 f = rI 0 f P := runI_list P [] f
  have e3 : runL (pF P) P.length 0 f = rL f P := runL_list P [] f
  obtain ⟨r, h', hQ, hc⟩ := of_callN (callL_good (sp := noSpec) hmix (fun _ _ h => absurd h (by simp [noSpec])) (lo_one (by kernel_rfl) (LFl_ok (n := P.length) (cap := cap) (l := pF P) (f := f))) (un := 10) 20) (f := 13) (args := [.agg (wtL f), .slice (.el 0 [] 0 0) P.length cap]) (h := ⟨1, [(0, ptsA P.length (pF P))]⟩)
    (K := flR fun r bs => (r = .ret (.tup [.nils, I (flI f P), I (flE f P)]) ∧ flL f P = [] ∧ ∃ x, bs = [ptsA P.length (pF P), x]) ∨ (r = .ret (flV 15 f P) ∧ bs = [ptsA P.length (pF P), vecW (flL f P)]))
    (by
      rw [f13_ev]
      have bad : watB f = false → (VRes.ret (.tup [.nils, I 0, I 1]) = .ret (.tup [.nils, I (flI f P), I (flE f P)])) ∧ flL f P = [] ∧ ∃ x, [ptsA P.length (pF P), VB.free] = [ptsA P.length (pF P), x] := fun h => by
        obtain ⟨h1, h2, h3⟩ := flE_w (P := P) h
        rw [h1, h2, h3]
        exact ⟨rfl, rfl, _, rfl⟩
      refine cond_d (fun a1 => cond_d (fun a2 => cond_d (fun a3 => cond_d (fun b1 => cond_d (fun b2 => cond_nd (fun b3 => ?_) (fun b3 => ?_)) (fun b2 => ?_)) (fun b1 => ?_)) (fun a3 => ?_)) (fun a2 => ?_)) (fun a1 => ?_)
      all_goals first
        | exact .inl (bad (wat_no fun _ _ _ _ _ _ => by omega))
        | skip
      have hw : watB f = true := watB_iff.2 ⟨⟨a1, a2, a3⟩, b1, b2, b3⟩
      refine cond_d (fun hn => .inl ?_) (fun hn => cond_r (by omega) ⟨fitP_self rfl, ⟨watB_iff.1 hw, by omega⟩, fun h0 w' => .inr ?_, fun h0 i w' xs' => .inl ?_⟩)
      · obtain ⟨h1, h2, h3⟩ := flE_l (P := P) hw hn
        rw [h1, h2, h3]
        exact ⟨rfl, rfl, _, rfl⟩
      · obtain ⟨h1, h2, h3⟩ := flE_o (P := P) hw hn
        rw [e3]
        rw [e1] at h0
        rw [h0] at h1 h3
        have hi := rI_end P 0 f h0
        rw [hi, Int.zero_add] at h2
        have h3 : flL f P = rL f P := h3
        unfold flV
        rw [h1, h2, h3, rL_len]
        exact ⟨rfl, by unfold vecW; rw [rL_len]⟩
      · obtain ⟨h1, h2, h3⟩ := flE_o (P := P) hw hn
        rw [e1] at h0 ⊢
        rw [e2]
        rw [decide_eq_false h0] at h3
        rw [h1, h2, h3]
        exact ⟨rfl, rfl, _, rfl⟩)
  rcases hQ with ⟨rfl, hl, x, hb⟩ | ⟨rfl, hb⟩
  · injection hb with g0 _
    have h2 := calls_weak hc (k := 15) (bs := [(0, ptsA P.length (pF P))]) (show 1 ≤ 15 by decide) ⟨by rw [g0]; exact VB.fit_refl _, trivial⟩ rfl rfl
    unfold flV
    rw [hl]
    exact calls_weak (fl_ghost h2) (show 1 ≤ 16 by decide) ⟨VB.fit_refl _, VB.fit_refl _, trivial⟩ rfl rfl
  · injection hb with g0 g1
    injection g1 with g1 _
    exact calls_weak hc (show 1 ≤ 16 by decide) ⟨by rw [g0]; exact VB.fit_refl _, by rw [g1]; exact VB.fit_refl _, trivial⟩ rfl rfl

/-- A function of water and points that returns what Flow does. -/
def flT (f : FuncId) : FuncId × Spec1 := (f, fun _ args h K => match args with
  | [.agg [.int .i64 a, .int .i64 b, .int .i64 c, .int .i64 d], v] => ∃ P : List Pt, isList h v P.length 9 (pG P) ∧ match h with
    | ⟨nx, bs⟩ => K (.ret (flV nx ⟨a, b, c, d⟩ P)) ⟨nx + 1, (nx, vecW (flL ⟨a, b, c, d⟩ P)) :: bs⟩
  | _ => False)

theorem at_one {A B : VB} {o : Nat} (ho : 0 < o) (i : Nat) : (VH.mk (o + 1) [(0, A), (o, B)]).at (o + i) = (([B] : List VB)[i]?).getD .free := by
  match i with
  | 0 =>
    rw [at_lt (by show o < o + 1; omega)]
    simp only [lookB, Nat.add_zero, beq_f (show ¬ 0 = o by omega), beq_t rfl, cond_false, cond_true]
    rfl
  | i + 1 =>
    rw [at_ge (by show ¬ o + (i + 1) < o + 1; omega)]
    rfl

theorem flT_ok {f : FuncId} {o : Nat} (ho : 0 < o) (hf : ∀ (w : Wt) (P : List Pt) (cap : Nat), CallsV Try.prog f [.agg (wtL w), .slice (.el 0 [] 0 0) P.length cap] ⟨1, [(0, ptsA P.length (pF P))]⟩ (.ret (flV o w P)) ⟨o + 1, [(0, ptsA P.length (pF P)), (o, vecW (flL w P))]⟩) : SpOk Try.prog (flT f).1 (flT f).2 := by
  intro lock args h K hK
  simp only [flT] at hK
  split at hK
  · rename_i a b c d v
    obtain ⟨P, hl, hK⟩ := hK
    have h2 := calls_lists (P := Try.prog) (f := f) (ags := [.v (.agg (wtL ⟨a, b, c, d⟩)), .l P.length 9 (pG P)]) (args' := [.agg (wtL ⟨a, b, c, d⟩), v]) (h := h) (r := .ret (flV o ⟨a, b, c, d⟩ P)) (bl := [vecW (flL ⟨a, b, c, d⟩ P)]) o
      (fun cs => by
        cases cs with
        | nil => exact ⟨_, hf _ _ _, at_one ho⟩
        | cons c cs => exact ⟨_, hf _ _ _, at_one ho⟩)
      (by simp [VRes.flat, VV.flat, flatL])
      (fun c hc => by
        simp only [List.mem_singleton] at hc
        subst hc
        exact fun _ _ => rfl)
      ⟨_, rfl, rfl, _, _, rfl, hl, fun _ _ => rfl, rfl⟩
    have e2 : (VRes.ret (flV o ⟨a, b, c, d⟩ P)).sh o h.nx = .ret (flV h.nx ⟨a, b, c, d⟩ P) := by
      simp [VRes.sh, VV.sh, shL, shN]
    rw [e2] at h2
    exact ⟨_, _, (by cases h; exact hK), lockP_push _ _, h2⟩
  · exact hK.elim

theorem fl13_ok : SpOk Try.prog (flT 13).1 (flT 13).2 := flT_ok (o := 15) (by decide) flow13
end Go.Sx.Str

/- stream: the document's points, evaluated. -/

namespace Go.Sx.Str
open Go Go.Sx Go.Proofs
set_option maxRecDepth 100000

def tPt : List (FuncId × Spec1) := [spanT 48]
def tBe : List (FuncId × Spec1) := [mixT, upT 59]
theorem pt_ev (p : Pt) (Q : VRes → VH → Prop) : callN Try.prog (tabS tPt) noL 10 20 0 (.fn 24) [.agg (ptL p)] ⟨0, []⟩ Q =
  (bif decide (p.k = (0 : Int)) then
 bif spanB p.flo p.fhi (1 : Int) (1073741824 : Int) then
 Q (VRes.ret (VV.bool (spanB p.wlo p.whi (0 : Int) (100000 : Int)))) (VH.mk (0 + 1) ([(0, VB.cells [I p.k, I p.flo, I p.fhi, I p.wlo, I p.whi, I p.hlo, I p.hhi, I p.slo, I p.shi] 47)]))
 else Q (VRes.ret (VV.bool false)) (VH.mk (0 + 1) ([(0, VB.cells [I p.k, I p.flo, I p.fhi, I p.wlo, I p.whi, I p.hlo, I p.hhi, I p.slo, I p.shi] 47)]))
 else bif decide (p.k = (1 : Int)) then
 Q (VRes.ret (VV.bool (spanB p.flo p.fhi (0 : Int) (1073741824 : Int)))) (VH.mk (0 + 1) ([(0, VB.cells [I p.k, I p.flo, I p.fhi, I p.wlo, I p.whi, I p.hlo, I p.hhi, I p.slo, I p.shi] 47)]))
 else bif decide (p.k = (2 : Int)) then
 Q (VRes.ret (VV.bool (spanB p.hlo p.hhi (0 : Int) (1099511627776 : Int)))) (VH.mk (0 + 1) ([(0, VB.cells [I p.k, I p.flo, I p.fhi, I p.wlo, I p.whi, I p.hlo, I p.hhi, I p.slo, I p.shi] 47)]))
 else bif decide (p.k = (3 : Int)) then
 bif spanB p.wlo p.whi (0 : Int) (100000 : Int) then
 Q (VRes.ret (VV.bool (spanB p.slo p.shi (0 : Int) (10000 : Int)))) (VH.mk (0 + 1) ([(0, VB.cells [I p.k, I p.flo, I p.fhi, I p.wlo, I p.whi, I p.hlo, I p.hhi, I p.slo, I p.shi] 47)]))
 else Q (VRes.ret (VV.bool false)) (VH.mk (0 + 1) ([(0, VB.cells [I p.k, I p.flo, I p.fhi, I p.wlo, I p.whi, I p.hlo, I p.hhi, I p.slo, I p.shi] 47)]))
 else Q (VRes.ret (VV.bool false)) (VH.mk (0 + 1) ([(0, VB.cells [I p.k, I p.flo, I p.fhi, I p.wlo, I p.whi, I p.hlo, I p.hhi, I p.slo, I p.shi] 47)]))) := by kernel_rfl

theorem be_ev (w : Wt) (p : Pt) (Q : VRes → Prop) : callN Try.prog (tabS tBe) noL 10 20 0 (.fn 52) [.agg (wtL w), .agg (ptL p)] ⟨0, []⟩ (fun r _ => Q r) =
  (bif decide (p.k = (0 : Int)) then
 bif inK IntKind.i64 (w.flo + p.flo) then
 bif inK IntKind.i64 (w.fhi + p.fhi) then
 bif decide (p.wlo < w.wlo) then
 meanOk w.wlo w.flo p.wlo p.fhi ∧ bif decide (w.flo + p.fhi = (0 : Int)) then
 False
 else bif inK IntKind.i64 (quoZ (w.wlo * w.flo + p.wlo * p.fhi) (w.flo + p.fhi)) then
 bif decide (p.whi < w.whi) then
 meanOk w.whi w.fhi p.whi p.flo ∧ upOk (w.whi * w.fhi + p.whi * p.flo) (w.fhi + p.flo) ∧ Q (VRes.ret (VV.agg [I (w.flo + p.flo), I (w.fhi + p.fhi), I (quoZ (w.wlo * w.flo + p.wlo * p.fhi) (w.flo + p.fhi)), I (quoZ (w.whi * w.fhi + p.whi * p.flo + (w.fhi + p.flo) - (1 : Int)) (w.fhi + p.flo))]))
 else meanOk w.whi w.flo p.whi p.fhi ∧ upOk (w.whi * w.flo + p.whi * p.fhi) (w.flo + p.fhi) ∧ Q (VRes.ret (VV.agg [I (w.flo + p.flo), I (w.fhi + p.fhi), I (quoZ (w.wlo * w.flo + p.wlo * p.fhi) (w.flo + p.fhi)), I (quoZ (w.whi * w.flo + p.whi * p.fhi + (w.flo + p.fhi) - (1 : Int)) (w.flo + p.fhi))]))
 else False
 else meanOk w.wlo w.fhi p.wlo p.flo ∧ bif decide (w.fhi + p.flo = (0 : Int)) then
 False
 else bif inK IntKind.i64 (quoZ (w.wlo * w.fhi + p.wlo * p.flo) (w.fhi + p.flo)) then
 bif decide (p.whi < w.whi) then
 meanOk w.whi w.fhi p.whi p.flo ∧ upOk (w.whi * w.fhi + p.whi * p.flo) (w.fhi + p.flo) ∧ Q (VRes.ret (VV.agg [I (w.flo + p.flo), I (w.fhi + p.fhi), I (quoZ (w.wlo * w.fhi + p.wlo * p.flo) (w.fhi + p.flo)), I (quoZ (w.whi * w.fhi + p.whi * p.flo + (w.fhi + p.flo) - (1 : Int)) (w.fhi + p.flo))]))
 else meanOk w.whi w.flo p.whi p.fhi ∧ upOk (w.whi * w.flo + p.whi * p.fhi) (w.flo + p.fhi) ∧ Q (VRes.ret (VV.agg [I (w.flo + p.flo), I (w.fhi + p.fhi), I (quoZ (w.wlo * w.fhi + p.wlo * p.flo) (w.fhi + p.flo)), I (quoZ (w.whi * w.flo + p.whi * p.fhi + (w.flo + p.fhi) - (1 : Int)) (w.flo + p.fhi))]))
 else False
 else False
 else False
 else bif decide (p.k = (1 : Int)) then
 bif inK IntKind.i64 (w.flo - p.fhi) then
 bif inK IntKind.i64 (w.fhi - p.flo) then
 Q (VRes.ret (VV.agg [I (w.flo - p.fhi), I (w.fhi - p.flo), I w.wlo, I w.whi]))
 else False
 else False
 else bif decide (p.k = (2 : Int)) then
 bif decide (w.fhi = (0 : Int)) then
 False
 else bif inK IntKind.i64 (quoZ p.hlo w.fhi) then
 bif inK IntKind.i64 (w.wlo + quoZ p.hlo w.fhi) then
 upOk p.hhi w.flo ∧ bif inK IntKind.i64 (w.whi + quoZ (p.hhi + w.flo - (1 : Int)) w.flo) then
 Q (VRes.ret (VV.agg [I w.flo, I w.fhi, I (w.wlo + quoZ p.hlo w.fhi), I (w.whi + quoZ (p.hhi + w.flo - (1 : Int)) w.flo)]))
 else False
 else False
 else False
 else bif decide (p.k = (3 : Int)) then
 bif decide (w.wlo > p.wlo) then
 bif inK IntKind.i64 ((10000 : Int) - p.shi) then
 meanOk w.wlo ((10000 : Int) - p.shi) p.wlo p.shi ∧ bif decide ((10000 : Int) - p.shi + p.shi = (0 : Int)) then
 False
 else bif inK IntKind.i64 (quoZ (w.wlo * ((10000 : Int) - p.shi) + p.wlo * p.shi) ((10000 : Int) - p.shi + p.shi)) then
 bif decide (w.whi > p.whi) then
 bif inK IntKind.i64 ((10000 : Int) - p.slo) then
 meanOk w.whi ((10000 : Int) - p.slo) p.whi p.slo ∧ upOk (w.whi * ((10000 : Int) - p.slo) + p.whi * p.slo) ((10000 : Int) - p.slo + p.slo) ∧ Q (VRes.ret (VV.agg [I w.flo, I w.fhi, I (quoZ (w.wlo * ((10000 : Int) - p.shi) + p.wlo * p.shi) ((10000 : Int) - p.shi + p.shi)), I (quoZ (w.whi * ((10000 : Int) - p.slo) + p.whi * p.slo + ((10000 : Int) - p.slo + p.slo) - (1 : Int)) ((10000 : Int) - p.slo + p.slo))]))
 else False
 else bif inK IntKind.i64 ((10000 : Int) - p.shi) then
 meanOk w.whi ((10000 : Int) - p.shi) p.whi p.shi ∧ upOk (w.whi * ((10000 : Int) - p.shi) + p.whi * p.shi) ((10000 : Int) - p.shi + p.shi) ∧ Q (VRes.ret (VV.agg [I w.flo, I w.fhi, I (quoZ (w.wlo * ((10000 : Int) - p.shi) + p.wlo * p.shi) ((10000 : Int) - p.shi + p.shi)), I (quoZ (w.whi * ((10000 : Int) - p.shi) + p.whi * p.shi + ((10000 : Int) - p.shi + p.shi) - (1 : Int)) ((10000 : Int) - p.shi + p.shi))]))
 else False
 else False
 else False
 else bif inK IntKind.i64 ((10000 : Int) - p.slo) then
 meanOk w.wlo ((10000 : Int) - p.slo) p.wlo p.slo ∧ bif decide ((10000 : Int) - p.slo + p.slo = (0 : Int)) then
 False
 else bif inK IntKind.i64 (quoZ (w.wlo * ((10000 : Int) - p.slo) + p.wlo * p.slo) ((10000 : Int) - p.slo + p.slo)) then
 bif decide (w.whi > p.whi) then
 bif inK IntKind.i64 ((10000 : Int) - p.slo) then
 meanOk w.whi ((10000 : Int) - p.slo) p.whi p.slo ∧ upOk (w.whi * ((10000 : Int) - p.slo) + p.whi * p.slo) ((10000 : Int) - p.slo + p.slo) ∧ Q (VRes.ret (VV.agg [I w.flo, I w.fhi, I (quoZ (w.wlo * ((10000 : Int) - p.slo) + p.wlo * p.slo) ((10000 : Int) - p.slo + p.slo)), I (quoZ (w.whi * ((10000 : Int) - p.slo) + p.whi * p.slo + ((10000 : Int) - p.slo + p.slo) - (1 : Int)) ((10000 : Int) - p.slo + p.slo))]))
 else False
 else bif inK IntKind.i64 ((10000 : Int) - p.shi) then
 meanOk w.whi ((10000 : Int) - p.shi) p.whi p.shi ∧ upOk (w.whi * ((10000 : Int) - p.shi) + p.whi * p.shi) ((10000 : Int) - p.shi + p.shi) ∧ Q (VRes.ret (VV.agg [I w.flo, I w.fhi, I (quoZ (w.wlo * ((10000 : Int) - p.slo) + p.wlo * p.slo) ((10000 : Int) - p.slo + p.slo)), I (quoZ (w.whi * ((10000 : Int) - p.shi) + p.whi * p.shi + ((10000 : Int) - p.shi + p.shi) - (1 : Int)) ((10000 : Int) - p.shi + p.shi))]))
 else False
 else False
 else False
 else Q (VRes.ret (VV.agg [I w.flo, I w.fhi, I w.wlo, I w.whi]))) := by kernel_rfl


end Go.Sx.Str

/- stream: the document's points as rows. -/

namespace Go.Sx.Str
open Go Go.Sx Go.Proofs
set_option maxRecDepth 100000

theorem tPt_ok : ∀ x ∈ tPt, SpOk Try.prog x.1 x.2 := by
  intro p hp
  simp only [tPt, List.mem_singleton] at hp
  subst hp
  exact spanT_ok span_v
theorem tBe_ok : ∀ x ∈ tBe, SpOk Try.prog x.1 x.2 := by
  intro p hp
  simp only [tBe, List.mem_cons, List.not_mem_nil, or_false] at hp
  rcases hp with rfl | rfl
  · exact mixT_ok
  · exact upT_ok fun a b h => up2_v h

theorem pt_v (p : Pt) : ∃ h', CallsV Try.prog 24 [.agg (ptL p)] ⟨0, []⟩ (.ret (.bool (ptB p))) h' := by
  obtain ⟨r, h', hQ, hc⟩ := of_callN (tab_good hmix tPt_ok 20) (un := 10) (f := 24) (args := [.agg (ptL p)]) (h := ⟨0, []⟩) (K := fun r _ => r = .ret (.bool (ptB p)))
    (by
      rw [pt_ev]
      unfold ptB
      refine cond_d (fun k => ?_) (fun k0 => cond_d (fun k => ?_) (fun k1 => cond_d (fun k => ?_) (fun k2 => cond_d (fun k => ?_) (fun k3 => ?_))))
      · rw [decide_eq_true k]
        refine cond_b (fun a => ?_) (fun a => ?_) <;> rw [a] <;> rfl
      · rw [decide_eq_false k0, decide_eq_true k]; rfl
      · rw [decide_eq_false k0, decide_eq_false k1, decide_eq_true k]; rfl
      · rw [decide_eq_false k0, decide_eq_false k1, decide_eq_false k2, decide_eq_true k]
        refine cond_b (fun a => ?_) (fun a => ?_) <;> rw [a] <;> rfl
      · rw [decide_eq_false k0, decide_eq_false k1, decide_eq_false k2, decide_eq_false k3]; rfl)
  subst hQ
  exact ⟨h', hc⟩

theorem mO {t f u g : Int} (h : meanOk t f u g) : (0 ≤ quoZ (t * f + u * g) (f + g) ∧ quoZ (t * f + u * g) (f + g) ≤ 214748364800000) ∧ upOk (t * f + u * g) (f + g) := by
  obtain ⟨s1, s2⟩ := sum_in h
  obtain ⟨h1, h2, h3, h4, h5⟩ := h
  have q1 := quo_in (a := t * f + u * g) (b := f + g) (by omega) h5
  exact ⟨by omega, by omega, by omega⟩

theorem be_v {w : Wt} {p : Pt} (hw : WOk w) (hp : PtOk p) : ∃ h', CallsV Try.prog 52 [.agg (wtL w), .agg (ptL p)] ⟨0, []⟩ (.ret (.agg (wtL (stepW w p)))) h' := by
  obtain ⟨r, h', hQ, hc⟩ := of_callN (tab_good hmix tBe_ok 20) (un := 10) (f := 52) (args := [.agg (wtL w), .agg (ptL p)]) (h := ⟨0, []⟩) (K := fun r _ => r = .ret (.agg (wtL (stepW w p))))
    (by
      refine cast (be_ev w p (fun r => r = .ret (.agg (wtL (stepW w p))))).symm ?_
      obtain ⟨f1, f2, f3⟩ := hw.f
      obtain ⟨v1, v2, v3⟩ := hw.w
      rcases hp with ⟨k, f, v⟩ | ⟨k, f⟩ | ⟨k, f⟩ | ⟨k, v, s⟩
      · refine cond_dk k (cond_r (by omega) (cond_r (by omega) ?_))
        rw [step0 k]
        unfold joinW
        refine cond_d (fun c => ?_) (fun c => ?_)
        · have m1 : meanOk w.wlo w.flo p.wlo p.fhi := ⟨by omega, by omega, by omega, by omega, by omega⟩
          refine ⟨m1, cond_d (fun h => by omega) (fun _ => cond_r (by have := (mO m1).1; omega) (cond_d (fun d => ?_) (fun d => ?_)))⟩
          · have m2 : meanOk w.whi w.fhi p.whi p.flo := ⟨by omega, by omega, by omega, by omega, by omega⟩
            refine ⟨m2, (mO m2).2, ?_⟩
            simp only [c, d, if_true]
            rfl
          · have m2 : meanOk w.whi w.flo p.whi p.fhi := ⟨by omega, by omega, by omega, by omega, by omega⟩
            refine ⟨m2, (mO m2).2, ?_⟩
            simp only [c, d, if_true, if_false]
            rfl
        · have m1 : meanOk w.wlo w.fhi p.wlo p.flo := ⟨by omega, by omega, by omega, by omega, by omega⟩
          refine ⟨m1, cond_d (fun h => by omega) (fun _ => cond_r (by have := (mO m1).1; omega) (cond_d (fun d => ?_) (fun d => ?_)))⟩
          · have m2 : meanOk w.whi w.fhi p.whi p.flo := ⟨by omega, by omega, by omega, by omega, by omega⟩
            refine ⟨m2, (mO m2).2, ?_⟩
            simp only [c, d, if_true, if_false]
            rfl
          · have m2 : meanOk w.whi w.flo p.whi p.fhi := ⟨by omega, by omega, by omega, by omega, by omega⟩
            refine ⟨m2, (mO m2).2, ?_⟩
            simp only [c, d, if_false]
            rfl
      · refine cond_d (fun h => by omega) (fun _ => cond_dk k (cond_r (by omega) (cond_r (by omega) ?_)))
        rw [step1 k]
        rfl
      · have q1 := quo_in (a := p.hlo) (b := w.fhi) f.1 (by omega)
        have q2 := quo_in (a := p.hhi + w.flo - 1) (b := w.flo) (by omega) (by omega)
        refine cond_d (fun h => by omega) (fun _ => cond_d (fun h => by omega) (fun _ => cond_dk k (cond_d (fun h => by omega) (fun _ => cond_r (by omega) (cond_r (by omega) ⟨⟨by omega, by omega⟩, cond_r (by omega) ?_⟩)))))
        rw [step2 k]
        rfl
      · refine cond_d (fun h => by omega) (fun _ => cond_d (fun h => by omega) (fun _ => cond_d (fun h => by omega) (fun _ => cond_dk k ?_)))
        rw [step3 k]
        unfold airW
        refine cond_d (fun c => ?_) (fun c => ?_)
        · have m1 : meanOk w.wlo (10000 - p.shi) p.wlo p.shi := ⟨by omega, by omega, by omega, by omega, by omega⟩
          refine cond_r (by omega) ⟨m1, cond_d (fun h => by omega) (fun _ => cond_r (by have := (mO m1).1; omega) (cond_d (fun d => ?_) (fun d => ?_)))⟩
          · have m2 : meanOk w.whi (10000 - p.slo) p.whi p.slo := ⟨by omega, by omega, by omega, by omega, by omega⟩
            refine cond_r (by omega) ⟨m2, (mO m2).2, ?_⟩
            simp only [c, d, if_true]
            rfl
          · have m2 : meanOk w.whi (10000 - p.shi) p.whi p.shi := ⟨by omega, by omega, by omega, by omega, by omega⟩
            refine cond_r (by omega) ⟨m2, (mO m2).2, ?_⟩
            simp only [c, d, if_true, if_false]
            rfl
        · have m1 : meanOk w.wlo (10000 - p.slo) p.wlo p.slo := ⟨by omega, by omega, by omega, by omega, by omega⟩
          refine cond_r (by omega) ⟨m1, cond_d (fun h => by omega) (fun _ => cond_r (by have := (mO m1).1; omega) (cond_d (fun d => ?_) (fun d => ?_)))⟩
          · have m2 : meanOk w.whi (10000 - p.slo) p.whi p.slo := ⟨by omega, by omega, by omega, by omega, by omega⟩
            refine cond_r (by omega) ⟨m2, (mO m2).2, ?_⟩
            simp only [c, d, if_true, if_false]
            rfl
          · have m2 : meanOk w.whi (10000 - p.shi) p.whi p.shi := ⟨by omega, by omega, by omega, by omega, by omega⟩
            refine cond_r (by omega) ⟨m2, (mO m2).2, ?_⟩
            simp only [c, d, if_false]
            rfl)
  subst hQ
  exact ⟨h', hc⟩

def ptT : FuncId × Spec1 := (24, fun _ args h K => match args with
  | [.agg [.int .i64 k, .int .i64 a, .int .i64 b, .int .i64 c, .int .i64 d, .int .i64 e, .int .i64 f, .int .i64 g, .int .i64 i]] => K (.ret (.bool (ptB ⟨k, a, b, c, d, e, f, g, i⟩))) h
  | _ => False)
def beT : FuncId × Spec1 := (52, fun _ args h K => match args with
  | [.agg [.int .i64 x, .int .i64 y, .int .i64 z, .int .i64 u], .agg [.int .i64 k, .int .i64 a, .int .i64 b, .int .i64 c, .int .i64 d, .int .i64 e, .int .i64 f, .int .i64 g, .int .i64 i]] =>
    (WOk ⟨x, y, z, u⟩ ∧ PtOk ⟨k, a, b, c, d, e, f, g, i⟩) ∧ K (.ret (.agg (wtL (stepW ⟨x, y, z, u⟩ ⟨k, a, b, c, d, e, f, g, i⟩)))) h
  | _ => False)
def waT (f : FuncId) : FuncId × Spec1 := (f, fun _ args h K => match args with
  | [.agg [.int .i64 x, .int .i64 y, .int .i64 z, .int .i64 u]] => K (.ret (.bool (watB ⟨x, y, z, u⟩))) h
  | _ => False)

theorem ptT_ok : SpOk Try.prog ptT.1 ptT.2 := by
  intro lock args h K hK
  simp only [ptT] at hK
  split at hK
  · obtain ⟨h', hc⟩ := pt_v ⟨_, _, _, _, _, _, _, _, _⟩
    exact ⟨_, h, hK, lockP_refl _ _, lift0 hc rfl rfl⟩
  · exact hK.elim
theorem beT_ok : SpOk Try.prog beT.1 beT.2 := by
  intro lock args h K hK
  simp only [beT] at hK
  split at hK
  · obtain ⟨⟨hw, hp⟩, hK⟩ := hK
    obtain ⟨h', hc⟩ := be_v hw hp
    exact ⟨_, h, hK, lockP_refl _ _, lift0 hc rfl rfl⟩
  · exact hK.elim
end Go.Sx.Str

/- stream: the document's flow, evaluated. -/

namespace Go.Sx.Str
open Go Go.Sx Go.Proofs
set_option maxRecDepth 100000

def tWa (f : FuncId) : List (FuncId × Spec1) := [spanT f]
def tRf : List (FuncId × Spec1) := [ptT, beT]
def dsR : List Nat := [4, 5, 6, 7, 8, 9, 1]
def VR (n cap : Nat) (L : Nat) (i : Int) : List VV := [.nils, I 0, I 0, .sl 3 L, .ptr (.own 2 0), I i, .slice (.el 0 [] 0 0) n cap]
def nsR : List Nat := [0, 2, 3]
def BR (n : Nat) (l : Int → Pt) (w : Wt) (xs : List Wt) : List VB := [ptsA n l, .cells (wtL w) 25, vecW xs]
theorem wa23_ev (w : Wt) (Q : VRes → VH → Prop) : callN Try.prog (tabS (tWa 48)) noL 10 20 0 (.fn 23) [.agg (wtL w)] ⟨0, []⟩ Q =
  (bif spanB w.flo w.fhi (1 : Int) (1073741824 : Int) then
 Q (VRes.ret (VV.bool (spanB w.wlo w.whi (0 : Int) (100000 : Int)))) (VH.mk (0 + 1) ([(0, VB.cells (wtL w) 25)]))
 else Q (VRes.ret (VV.bool false)) (VH.mk (0 + 1) ([(0, VB.cells (wtL w) 25)]))) := by kernel_rfl

theorem wa34_ev (w : Wt) (Q : VRes → VH → Prop) : callN Try.prog (tabS (tWa 49)) noL 10 20 0 (.fn 34) [.agg (wtL w)] ⟨0, []⟩ Q =
  (bif spanB w.flo w.fhi (1 : Int) (1073741824 : Int) then
 Q (VRes.ret (VV.bool (spanB w.wlo w.whi (0 : Int) (100000 : Int)))) (VH.mk (0 + 1) ([(0, VB.cells (wtL w) 25)]))
 else Q (VRes.ret (VV.bool false)) (VH.mk (0 + 1) ([(0, VB.cells (wtL w) 25)]))) := by kernel_rfl

theorem r0_ev (n cap : Nat) (l : Int → Pt) (w : Wt) (xs : List Wt) (i : Int) (X : VEx → List VV → List VB → Prop) : codeE Try.prog (callN Try.prog (tabS tRf) noL 10 20) (fun _ => none) true 10 53 0 (loopB 0 (bodyOf Try.prog 37)) (dsR.zip (VR n cap xs.length i)) ⟨4, nsR.zip (BR n l w xs)⟩ (obs 4 dsR nsR X) =
  (bif decide (i < (↑n : Int)) then
 bif decide ((0 : Int) ≤ i ∧ i < (↑n : Int)) then
 (([] : List Int) = [] ∧ (0 : Int) ≤ (0 : Int) + i ∧ (0 : Int) + i < (↑n : Int)) ∧ bif !ptB (l ((0 : Int) + i)) then
 X VEx.ret [VV.nils, I i, I 1, VV.sl 3 xs.length, VV.ptr (VA.own 2 0), I i, VV.slice (VA.el 0 [] (0 : Int) 0) n cap] [ptsA n l, VB.cells (wtL w) (25 : TypeId), VB.vec xs.length (fun j => wtL (xs.getD j w0)) 4 (25 : TypeId)]
 else bif decide ((0 : Int) ≤ i ∧ i < (↑n : Int)) then
 (([] : List Int) = [] ∧ (0 : Int) ≤ (0 : Int) + i ∧ (0 : Int) + i < (↑n : Int)) ∧ (WOk w ∧ PtOk (l ((0 : Int) + i))) ∧ bif decide ((stepW w (l ((0 : Int) + i))).flo < (1 : Int)) then
 X VEx.ret [VV.nils, I i, I 10, VV.sl 3 xs.length, VV.ptr (VA.own 2 0), I i, VV.slice (VA.el 0 [] (0 : Int) 0) n cap] [ptsA n l, VB.cells (wtL (stepW w (l ((0 : Int) + i)))) (25 : TypeId), VB.vec xs.length (fun j => wtL (xs.getD j w0)) 4 (25 : TypeId)]
 else bif decide ((stepW w (l ((0 : Int) + i))).fhi > (1073741824 : Int)) then
 X VEx.ret [VV.nils, I i, I 12, VV.sl 3 xs.length, VV.ptr (VA.own 2 0), I i, VV.slice (VA.el 0 [] (0 : Int) 0) n cap] [ptsA n l, VB.cells (wtL (stepW w (l ((0 : Int) + i)))) (25 : TypeId), VB.vec xs.length (fun j => wtL (xs.getD j w0)) 4 (25 : TypeId)]
 else bif decide ((stepW w (l ((0 : Int) + i))).whi > (100000 : Int)) then
 X VEx.ret [VV.nils, I i, I 12, VV.sl 3 xs.length, VV.ptr (VA.own 2 0), I i, VV.slice (VA.el 0 [] (0 : Int) 0) n cap] [ptsA n l, VB.cells (wtL (stepW w (l ((0 : Int) + i)))) (25 : TypeId), VB.vec xs.length (fun j => wtL (xs.getD j w0)) 4 (25 : TypeId)]
 else bif xs.length.beq xs.length then
 bif roomB (xs.length + 1) (32) then
 bif inK IntKind.i64 (i + (1 : Int)) then
 X VEx.normal [VV.nils, I 0, I 0, VV.sl 3 (xs.length + 1), VV.ptr (VA.own 2 0), I (i + (1 : Int)), VV.slice (VA.el 0 [] (0 : Int) 0) n cap] [ptsA n l, VB.cells (wtL (stepW w (l ((0 : Int) + i)))) (25 : TypeId), VB.vec (xs.length + 1) (catG xs.length (fun j => wtL (xs.getD j w0)) fun j => List.take (4) (List.drop (j * (4)) (wtL (stepW w (l ((0 : Int) + i)))))) (4) 25]
 else False
 else False
 else False
 else False
 else False
 else X (VEx.exit 0) [VV.nils, I 0, I 0, VV.sl 3 xs.length, VV.ptr (VA.own 2 0), I i, VV.slice (VA.el 0 [] (0 : Int) 0) n cap] [ptsA n l, VB.cells (wtL w) (25 : TypeId), VB.vec xs.length (fun j => wtL (xs.getD j w0)) 4 (25 : TypeId)]) := by kernel_rfl


end Go.Sx.Str

/- stream: the document's flow. -/

namespace Go.Sx.Str
open Go Go.Sx Go.Proofs
set_option maxRecDepth 100000

theorem wa23_v (w : Wt) : ∃ h', CallsV Try.prog 23 [.agg (wtL w)] ⟨0, []⟩ (.ret (.bool (watB w))) h' := by
  obtain ⟨r, h', hQ, hc⟩ := of_callN (tab_good hmix (l := tWa 48) (fun x hx => by
      simp only [tWa, List.mem_singleton] at hx
      subst hx
      exact spanT_ok span_v) 20) (un := 10) (f := 23) (args := [.agg (wtL w)]) (h := ⟨0, []⟩) (K := fun r _ => r = .ret (.bool (watB w)))
    (by
      rw [wa23_ev]
      unfold watB
      refine cond_b (fun a => ?_) (fun a => ?_) <;> rw [a] <;> rfl)
  subst hQ
  exact ⟨h', hc⟩
theorem wa34_v (w : Wt) : ∃ h', CallsV Try.prog 34 [.agg (wtL w)] ⟨0, []⟩ (.ret (.bool (watB w))) h' := by
  obtain ⟨r, h', hQ, hc⟩ := of_callN (tab_good hmix (l := tWa 49) (fun x hx => by
      simp only [tWa, List.mem_singleton] at hx
      subst hx
      exact spanT_ok isSpan_v) 20) (un := 10) (f := 34) (args := [.agg (wtL w)]) (h := ⟨0, []⟩) (K := fun r _ => r = .ret (.bool (watB w)))
    (by
      rw [wa34_ev]
      unfold watB
      refine cond_b (fun a => ?_) (fun a => ?_) <;> rw [a] <;> rfl)
  subst hQ
  exact ⟨h', hc⟩

theorem waT_ok {f : FuncId} (hf : ∀ w, ∃ h', CallsV Try.prog f [.agg (wtL w)] ⟨0, []⟩ (.ret (.bool (watB w))) h') : SpOk Try.prog (waT f).1 (waT f).2 := by
  intro lock args h K hK
  simp only [waT] at hK
  split at hK
  · obtain ⟨h', hc⟩ := hf ⟨_, _, _, _⟩
    exact ⟨_, h, hK, lockP_refl _ _, lift0 hc rfl rfl⟩
  · exact hK.elim

theorem tRf_ok : ∀ x ∈ tRf, SpOk Try.prog x.1 x.2 := by
  intro p hp
  simp only [tRf, List.mem_cons, List.not_mem_nil, or_false] at hp
  rcases hp with rfl | rfl
  · exact ptT_ok
  · exact beT_ok

structure SR where
  i : Int
  w : Wt
  xs : List Wt

structure IR (n : Nat) (s : SR) : Prop where
  i : 0 ≤ s.i ∧ s.i ≤ n
  x : (s.xs.length : Int) = s.i
  w : WOk s.w
  n : n ≤ 100000

def OR (n cap : Nat) (l : Int → Pt) (s : SR) (e : VEx) (vs : List VV) (bs : List VB) : Prop :=
  (e = .exit 0 ∧ runE l (n - s.i).toNat s.i s.w = 0 ∧ ∃ w', vs = VR n cap (s.xs ++ runL l (n - s.i).toNat s.i s.w).length n ∧ bs = BR n l w' (s.xs ++ runL l (n - s.i).toNat s.i s.w)) ∨
  (e = .ret ∧ runE l (n - s.i).toNat s.i s.w ≠ 0 ∧ ∃ i w' xs', vs = [.nils, I (runI l (n - s.i).toNat s.i s.w), I (runE l (n - s.i).toNat s.i s.w), .sl 3 (List.length xs'), .ptr (.own 2 0), I i, .slice (.el 0 [] 0 0) n cap] ∧ bs = BR n l w' xs')

section
variable {n cap : Nat} {l : Int → Pt}

theorem r0_round (i : Int) (w : Wt) (xs : List Wt) (hi : IR n ⟨i, w, xs⟩) : codeE Try.prog (callN Try.prog (tabS tRf) noL 10 20) (fun _ => none) true 10 53 0 (loopB 0 (bodyOf Try.prog 37)) (dsR.zip (VR n cap xs.length i)) ⟨4, nsR.zip (BR n l w xs)⟩ (obs 4 dsR nsR (RoundQ (fun s : SR => VR n cap s.xs.length s.i) (fun s => BR n l s.w s.xs) (IR n) (fun s => (n - s.i).toNat) (OR n cap l) ⟨i, w, xs⟩)) := by
  obtain ⟨h1, h2, h3, h4⟩ := hi
  dsimp only at h1 h2 h3
  rw [r0_ev]
  by_cases hlt : i < (n : Int)
  · have hm : ((n : Int) - i).toNat = ((n : Int) - (i + 1)).toNat + 1 := by omega
    refine cond_dk hlt (cond_dk ⟨h1.1, hlt⟩ ⟨⟨rfl, by omega, by omega⟩, ?_⟩)
    rw [Int.zero_add]
    refine cond_b (fun hb => ?_) (fun hb => cond_dk ⟨h1.1, hlt⟩ ⟨⟨rfl, by omega, by omega⟩, ?_⟩)
    · have hb : ptB (l i) = false := by simpa using hb
      refine .inr ⟨rfl, ?_, i, w, xs, ?_, rfl⟩
      · show runE l ((n : Int) - i).toNat i w ≠ 0
        rw [hm, runE_bad hb]; decide
      · show _ = [.nils, I (runI l ((n : Int) - i).toNat i w), I (runE l ((n : Int) - i).toNat i w), .sl 3 xs.length, .ptr (.own 2 0), I i, .slice (.el 0 [] 0 0) n cap]
        rw [hm, runE_bad hb, runI_bad hb]
    · have hb : ptB (l i) = true := by simpa using hb
      refine ⟨⟨h3, ptB_iff.1 hb⟩, ?_⟩
      have key := tailT_of (w := stepW w (l i))
        (R := fun e w' => RoundQ (fun s : SR => VR n cap s.xs.length s.i) (fun s => BR n l s.w s.xs) (IR n) (fun s => (n - s.i).toNat) (OR n cap l) ⟨i, w, xs⟩ .ret [.nils, I i, I e, .sl 3 xs.length, .ptr (.own 2 0), I i, .slice (.el 0 [] 0 0) n cap] (BR n l w' xs))
        (N := fun w' => bif xs.length.beq xs.length then
            bif roomB (xs.length + 1) (32) then
            bif inK IntKind.i64 (i + (1 : Int)) then
            RoundQ (fun s : SR => VR n cap s.xs.length s.i) (fun s => BR n l s.w s.xs) (IR n) (fun s => (n - s.i).toNat) (OR n cap l) ⟨i, w, xs⟩ .normal (VR n cap (xs.length + 1) (i + 1)) [ptsA n l, .cells (wtL w') 25, .vec (xs.length + 1) (catG xs.length (fun j => wtL (xs.getD j w0)) fun j => List.take 4 (List.drop (j * 4) (wtL w'))) 4 25]
            else False else False else False)
        (fun he => .inr ⟨rfl, by
            show runE l ((n : Int) - i).toNat i w ≠ 0
            rw [hm, runE_err hb he]; exact he, i, stepW w (l i), xs, by
            show _ = [.nils, I (runI l ((n : Int) - i).toNat i w), I (runE l ((n : Int) - i).toNat i w), .sl 3 xs.length, .ptr (.own 2 0), I i, .slice (.el 0 [] 0 0) n cap]
            rw [hm, runE_err hb he, runI_err hb he], rfl⟩)
        (fun he => by
            have hx : xs.length.beq xs.length = true := Nat.beq_refl _
            refine cond_t hx (cond_t (room32 (by omega)) (cond_r (by omega) ?_))
            refine ⟨⟨i + 1, stepW w (l i), xs ++ [stepW w (l i)]⟩, ⟨by dsimp only; omega, by simp; omega, step_ok h3 (ptB_iff.1 hb) he, h4⟩, by dsimp only; omega, by simp, ⟨VB.fit_refl _, VB.fit_refl _, fit_snocW xs _, trivial⟩, ?_⟩
            intro e vs bs
            simp only [OR]
            rw [hm, runE_pos hb he, runI_pos hb he, runL, List.append_assoc]
            exact id)
      exact key
  · refine cond_d (fun h => absurd h hlt) (fun _ => ?_)
    have hk : i = (n : Int) := by omega
    subst hk
    have hz : ((n : Int) - n).toNat = 0 := by omega
    refine .inl ⟨rfl, ?_, w, ?_, ?_⟩
    · show runE l ((n : Int) - n).toNat n w = 0
      rw [hz]; rfl
    · show VR n cap xs.length n = VR n cap (xs ++ runL l ((n : Int) - n).toNat n w).length n
      rw [hz]; simp [runL]
    · show BR n l w xs = BR n l w (xs ++ runL l ((n : Int) - n).toNat n w)
      rw [hz]; simp [runL]

def LRs (n cap : Nat) (l : Int → Pt) (f : Wt) : LT := fun lock t h K =>
  FitP lock h t ⟨4, nsR.zip (BR n l f [])⟩ (dsR.zip (VR n cap 0 0)) ∧ (WOk f ∧ n ≤ 100000) ∧
    (runE l n 0 f = 0 → ∀ w', K .normal (dsR.zip (VR n cap (runL l n 0 f).length n)) ⟨4, nsR.zip (BR n l w' (runL l n 0 f))⟩) ∧
    (runE l n 0 f ≠ 0 → ∀ i w' xs', K .ret (dsR.zip [.nils, I (runI l n 0 f), I (runE l n 0 f), .sl 3 (List.length xs'), .ptr (.own 2 0), I i, .slice (.el 0 [] 0 0) n cap]) ⟨4, nsR.zip (BR n l w' xs')⟩)

theorem LRs_ok {f : Wt} : LSound Try.prog true (.block 0 (.loop (loopB 0 (bodyOf Try.prog 37)))) 53 (LRs n cap l f) := by
  refine loop_row hmix (tab_good hmix tRf_ok 20) (un := 10) (ds := dsR) (ns := nsR) (nx := 4) (fun s : SR => VR n cap s.xs.length s.i) (fun s => BR n l s.w s.xs) (IR n) (fun s => (n - s.i).toNat) (OR n cap l) noL_ok (fun s hi => r0_round s.i s.w s.xs hi) ?_
  rintro lock t h K ⟨hf, ⟨hw, hn⟩, h1, h2⟩
  have hz : ((n : Int) - 0).toNat = n := by omega
  refine ⟨⟨0, f, []⟩, hf, ⟨⟨Int.le_refl 0, Int.natCast_nonneg n⟩, rfl, hw, hn⟩, ?_⟩
  rintro e vs bs (⟨rfl, he, w', rfl, rfl⟩ | ⟨rfl, he, i, w', xs', rfl, rfl⟩)
  · dsimp only at he
    rw [hz] at he
    have := h1 he w'
    dsimp only
    rw [hz]
    exact this
  · dsimp only at he
    rw [hz] at he
    have := h2 he i w' xs'
    dsimp only
    rw [hz]
    exact this

def LR (n cap : Nat) (l : Int → Pt) (f : Wt) : LT := fun lock t h K =>
  FitP lock h t ⟨3, [(0, ptsA n l), (2, .cells (wtL f) 25)]⟩ ((7, .nils) :: [(4, .nils), (5, I 0), (6, I 0), (8, .ptr (.own 2 0)), (9, I 0), (1, .slice (.el 0 [] 0 0) n cap)]) ∧ (WOk f ∧ n ≤ 100000) ∧
    (runE l n 0 f = 0 → ∀ w', K .normal (dsR.zip (VR n cap (runL l n 0 f).length n)) ⟨4, nsR.zip (BR n l w' (runL l n 0 f))⟩) ∧
    (runE l n 0 f ≠ 0 → ∀ i w' xs', K .ret (dsR.zip [.nils, I (runI l n 0 f), I (runE l n 0 f), .sl 3 (List.length xs'), .ptr (.own 2 0), I i, .slice (.el 0 [] 0 0) n cap]) ⟨4, nsR.zip (BR n l w' xs')⟩)

theorem LR_ok {f : Wt} : LSound Try.prog true (.block 0 (.loop (loopB 0 (bodyOf Try.prog 37)))) 53 (LR n cap l f) :=
  ghost_row (d := 7) (nx := 3) (bs := [(0, ptsA n l), (2, .cells (wtL f) 25)]) (t0 := [(4, .nils), (5, I 0), (6, I 0), (8, .ptr (.own 2 0)), (9, I 0), (1, .slice (.el 0 [] 0 0) n cap)])
    (fun j => wtL (([] : List Wt).getD j w0)) 4 25 LRs_ok (by
      rintro lock t h K ⟨hf, hc, h1, h2⟩
      exact ⟨hf, ⟨⟨rfl, rfl, VB.fit_refl _, VB.fit_refl _, VB.fit_refl _, trivial⟩, rfl, rfl, rfl, rfl, rfl, rfl, rfl, trivial⟩, hc, h1, h2⟩)
end
end Go.Sx.Str

/- stream: the document's flow, evaluated. -/

namespace Go.Sx.Str
open Go Go.Sx Go.Proofs
set_option maxRecDepth 100000

def frL (w : Wt) (P : List Pt) : List Wt := bif decide (rE w P = 0) then rL w P else []
abbrev frV (o : Nat) (w : Wt) (P : List Pt) : VV := .tup [.sl o (frL w P).length, I (rI 0 w P), I (rE w P)]
/-- The document's flow, of any number of points. -/
def rfT : FuncId × Spec1 := (37, fun _ args h K => match args with
  | [.agg [.int .i64 a, .int .i64 b, .int .i64 c, .int .i64 d], v] => ∃ P : List Pt, (isList h v P.length 9 (pG P) ∧ WOk ⟨a, b, c, d⟩ ∧ P.length ≤ 100000) ∧ match h with
    | ⟨nx, bs⟩ => K (.ret (frV nx ⟨a, b, c, d⟩ P)) ⟨nx + 1, (nx, vecW (frL ⟨a, b, c, d⟩ P)) :: bs⟩
  | _ => False)
def rfR (Q : VRes → List VB → Prop) : VRes → VH → Prop := fun r h => Q r [h.at 0, h.at 3]
def rfR2 (Q : VRes → List VB → Prop) : VRes → VH → Prop := fun r h => Q r [h.at 0, h.at 2]
theorem f37_ev (n cap : Nat) (l : Int → Pt) (w : Wt) (Q : VRes → List VB → Prop) : spBL Try.prog 37 (tabS tRf) [(0, LR n cap l w)] 10 20 0 [.agg (wtL w), .slice (.el 0 [] 0 0) n cap] ⟨1, [(0, ptsA n l)]⟩ (rfR Q) =
  (FitP 0 (VH.mk 3 [(0, ptsA n l), (2, VB.cells (wtL w) (25 : TypeId))]) [(7, VV.nils), (4, VV.nils), (5, I 0), (6, I 0), (8, VV.ptr (VA.own 2 0)), (9, I 0), (1, VV.slice (VA.el 0 [] (0 : Int) 0) n cap)] (VH.mk 3 [(0, ptsA n l), (2, VB.cells (wtL w) (25 : TypeId))]) [(7, VV.nils), (4, VV.nils), (5, I 0), (6, I 0), (8, VV.ptr (VA.own 2 0)), (9, I 0), (1, VV.slice (VA.el 0 [] (0 : Int) 0) n cap)] ∧ (WOk w ∧ n ≤ 100000) ∧ (runE l n (0 : Int) w = (0 : Int) → ∀ (w' : Wt), Q (VRes.ret (VV.tup [VV.sl 3 (runL l n (0 : Int) w).length, I (↑n : Int), I 0])) [ptsA n l, VB.vec (runL l n (0 : Int) w).length (fun j => wtL ((runL l n (0 : Int) w).getD j w0)) 4 (25 : TypeId)]) ∧ (runE l n (0 : Int) w ≠ (0 : Int) → ∀ (i : Int) (w' : Wt) (xs' : List Wt), Q (VRes.ret (VV.tup [VV.nils, I (runI l n (0 : Int) w), I (runE l n (0 : Int) w)])) [ptsA n l, VB.vec xs'.length (fun j => wtL (xs'.getD j w0)) 4 (25 : TypeId)])) := by kernel_rfl

theorem f14_ev (n cap : Nat) (l : Int → Pt) (w : Wt) (Q : VRes → List VB → Prop) : callN Try.prog (tabS [waT 23, rfT]) noL 10 20 0 (.fn 14) [.agg (wtL w), .slice (.el 0 [] 0 0) n cap] ⟨1, [(0, ptsA n l)]⟩ (rfR2 Q) =
  (bif !watB w then
 Q (VRes.ret (VV.tup [VV.nils, I 0, I 1])) [ptsA n l, VB.free]
 else bif decide ((↑n : Int) > (64 : Int)) then
 Q (VRes.ret (VV.tup [VV.nils, I 0, I 3])) [ptsA n l, VB.free]
 else ∃ P, (isList (VH.mk (2) [(1, VB.cells (wtL w) 25), (0, ptsA n l)]) (VV.slice (VA.el 0 [] (0 : Int) 0) n cap) P.length 9 (pG P) ∧ WOk w ∧ P.length ≤ 100000) ∧ Q (VRes.ret (VV.tup [VV.sl (2) (frL w P).length, I (rI 0 w P), I (rE w P)])) [ptsA n l, VB.vec (frL w P).length (fun j => wtL ((frL w P).getD j w0)) 4 (25 : TypeId)]) := by kernel_rfl


end Go.Sx.Str

/- stream: the document's Flow as a row. -/

namespace Go.Sx.Str
open Go Go.Sx Go.Proofs
set_option maxRecDepth 100000

theorem frL_0 {w : Wt} {P : List Pt} (h : rE w P = 0) : frL w P = rL w P := by
  unfold frL
  rw [decide_eq_true h]; rfl
theorem frL_1 {w : Wt} {P : List Pt} (h : rE w P ≠ 0) : frL w P = [] := by
  unfold frL
  rw [decide_eq_false h]; rfl

theorem flow37 {f : Wt} {P : List Pt} (hw : WOk f) (hn : P.length ≤ 100000) (cap : Nat) : CallsV Try.prog 37 [.agg (wtL f), .slice (.el 0 [] 0 0) P.length cap] ⟨1, [(0, ptsA P.length (pF P))]⟩ (.ret (frV 3 f P)) ⟨4, [(0, ptsA P.length (pF P)), (3, vecW (frL f P))]⟩ := by
  have e1 : runE (pF P) P.length 0 f = rE f P := runE_list P [] f
  have e2 : runI (pF P) P.length 0 f = rI 0 f P := runI_list P [] f
  have e3 : runL (pF P) P.length 0 f = rL f P := runL_list P [] f
  have hsp := spBL_ok hmix (tabs_ok tRf_ok) (f := 37) (lo_one (by kernel_rfl) (LR_ok (n := P.length) (cap := cap) (l := pF P) (f := f))) (un := 10) (fu := 20)
  obtain ⟨r, h', hQ, hc⟩ := of_sp hsp (args := [.agg (wtL f), .slice (.el 0 [] 0 0) P.length cap]) (h := ⟨1, [(0, ptsA P.length (pF P))]⟩)
    (K := rfR fun r bs => (r = .ret (.tup [.nils, I (rI 0 f P), I (rE f P)]) ∧ frL f P = [] ∧ ∃ x, bs = [ptsA P.length (pF P), x]) ∨ (r = .ret (frV 3 f P) ∧ bs = [ptsA P.length (pF P), vecW (frL f P)]))
    (by
      rw [f37_ev]
      refine ⟨fitP_self (ds := [7, 4, 5, 6, 8, 9, 1]) (ns := [0, 2]) (vs := [.nils, .nils, I 0, I 0, .ptr (.own 2 0), I 0, .slice (.el 0 [] 0 0) P.length cap]) (bs := [ptsA P.length (pF P), .cells (wtL f) 25]) rfl, ⟨hw, hn⟩, fun h0 w' => .inr ?_, fun h0 i w' xs' => .inl ?_⟩
      · rw [e3]
        rw [e1] at h0
        have hi := rI_end P 0 f h0
        rw [Int.zero_add] at hi
        unfold frV
        rw [frL_0 h0, h0, hi]
        exact ⟨rfl, rfl⟩
      · rw [e1] at h0 ⊢
        rw [e2, frL_1 h0]
        exact ⟨rfl, rfl, _, rfl⟩)
  rcases hQ with ⟨rfl, hl, x, hb⟩ | ⟨rfl, hb⟩
  · injection hb with g0 _
    have h2 := calls_weak hc (k := 3) (bs := [(0, ptsA P.length (pF P))]) (show 1 ≤ 3 by decide) ⟨by rw [g0]; exact VB.fit_refl _, trivial⟩ rfl rfl
    unfold frV
    rw [hl]
    exact calls_weak (fl_ghost h2) (show 1 ≤ 4 by decide) ⟨VB.fit_refl _, VB.fit_refl _, trivial⟩ rfl rfl
  · injection hb with g0 g1
    injection g1 with g1 _
    exact calls_weak hc (show 1 ≤ 4 by decide) ⟨by rw [g0]; exact VB.fit_refl _, by rw [g1]; exact VB.fit_refl _, trivial⟩ rfl rfl

theorem rfT_ok : SpOk Try.prog rfT.1 rfT.2 := by
  intro lock args h K hK
  simp only [rfT] at hK
  split at hK
  · rename_i a b c d v
    obtain ⟨P, ⟨hl, hw, hn⟩, hK⟩ := hK
    have h2 := calls_lists (P := Try.prog) (f := 37) (ags := [.v (.agg (wtL ⟨a, b, c, d⟩)), .l P.length 9 (pG P)]) (args' := [.agg (wtL ⟨a, b, c, d⟩), v]) (h := h) (r := .ret (frV 3 ⟨a, b, c, d⟩ P)) (bl := [vecW (frL ⟨a, b, c, d⟩ P)]) 3
      (fun cs => by
        cases cs with
        | nil => exact ⟨_, flow37 hw hn _, at_one (by decide)⟩
        | cons c cs => exact ⟨_, flow37 hw hn _, at_one (by decide)⟩)
      (by simp [VRes.flat, VV.flat, flatL])
      (fun c hc => by
        simp only [List.mem_singleton] at hc
        subst hc
        exact fun _ _ => rfl)
      ⟨_, rfl, rfl, _, _, rfl, hl, fun _ _ => rfl, rfl⟩
    have e2 : (VRes.ret (frV 3 ⟨a, b, c, d⟩ P)).sh 3 h.nx = .ret (frV h.nx ⟨a, b, c, d⟩ P) := by
      simp [VRes.sh, VV.sh, shL, shN]
    rw [e2] at h2
    exact ⟨_, _, (by cases h; exact hK), lockP_push _ _, h2⟩
  · exact hK.elim

/-- An array is the list of its elements. -/
theorem isList_arr {h : VH} {P : List Pt} {cap : Nat} (hm : h.at 0 = ptsA P.length (pF P)) : isList h (.slice (.el 0 [] 0 0) P.length cap) P.length 9 (pG P) :=
  ⟨rfl, Int.le_refl 0, _, _, hm, fun j hj => ⟨⟨rfl, by omega, by omega⟩, by
    show ptL (pF P (0 + (j : Int))) = pG P j
    rw [Int.zero_add]
    unfold pF pG
    rw [Int.toNat_natCast]⟩⟩

theorem flow14 (f : Wt) (P : List Pt) (cap : Nat) : CallsV Try.prog 14 [.agg (wtL f), .slice (.el 0 [] 0 0) P.length cap] ⟨1, [(0, ptsA P.length (pF P))]⟩ (.ret (flV 2 f P)) ⟨3, [(0, ptsA P.length (pF P)), (2, vecW (flL f P))]⟩ := by
  obtain ⟨r, h', hQ, hc⟩ := of_callN (tab_good hmix (l := [waT 23, rfT]) (fun x hx => by
      simp only [List.mem_cons, List.not_mem_nil, or_false] at hx
      rcases hx with rfl | rfl
      · exact waT_ok wa23_v
      · exact rfT_ok) 20) (un := 10) (f := 14) (args := [.agg (wtL f), .slice (.el 0 [] 0 0) P.length cap]) (h := ⟨1, [(0, ptsA P.length (pF P))]⟩)
    (K := rfR2 fun r bs => (r = .ret (.tup [.nils, I (flI f P), I (flE f P)]) ∧ flL f P = [] ∧ ∃ x, bs = [ptsA P.length (pF P), x]) ∨ (r = .ret (flV 2 f P) ∧ bs = [ptsA P.length (pF P), vecW (flL f P)]))
    (by
      rw [f14_ev]
      refine cond_b (fun hw => .inl ?_) (fun hw => cond_d (fun hn => .inl ?_) (fun hn => ?_))
      · have hw : watB f = false := by simpa using hw
        obtain ⟨h1, h2, h3⟩ := flE_w (P := P) hw
        rw [h1, h2, h3]
        exact ⟨rfl, rfl, _, rfl⟩
      · have hw : watB f = true := by simpa using hw
        obtain ⟨h1, h2, h3⟩ := flE_l (P := P) hw hn
        rw [h1, h2, h3]
        exact ⟨rfl, rfl, _, rfl⟩
      · have hw : watB f = true := by simpa using hw
        obtain ⟨h1, h2, h3⟩ := flE_o (P := P) hw hn
        refine ⟨P, ⟨isList_arr rfl, watB_iff.1 hw, by omega⟩, .inr ?_⟩
        unfold flV
        rw [h1, h2, h3]
        exact ⟨rfl, rfl⟩)
  rcases hQ with ⟨rfl, hl, x, hb⟩ | ⟨rfl, hb⟩
  · injection hb with g0 _
    have h2 := calls_weak hc (k := 2) (bs := [(0, ptsA P.length (pF P))]) (show 1 ≤ 2 by decide) ⟨by rw [g0]; exact VB.fit_refl _, trivial⟩ rfl rfl
    unfold flV
    rw [hl]
    exact calls_weak (fl_ghost h2) (show 1 ≤ 3 by decide) ⟨VB.fit_refl _, VB.fit_refl _, trivial⟩ rfl rfl
  · injection hb with g0 g1
    injection g1 with g1 _
    exact calls_weak hc (show 1 ≤ 3 by decide) ⟨by rw [g0]; exact VB.fit_refl _, by rw [g1]; exact VB.fit_refl _, trivial⟩ rfl rfl

theorem fl14_ok : SpOk Try.prog (flT 14).1 (flT 14).2 := flT_ok (o := 2) (by decide) flow14
end Go.Sx.Str
