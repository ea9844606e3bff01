/- genuine: the law GenuineAsks, evaluated. -/
import Derived.Test.YtoionnljbacmkaaGb4

namespace Go.Sx.Gen
open Go Go.Sx Go.Proofs
set_option maxRecDepth 100000

/-- The law's own examples. -/
def awT : FuncId × Spec1 := (10, fun _ args h K => match args with
  | [] => K (.ret (.bool true)) h
  | _ => False)

def dsG : List Nat := [5, 1, 2, 4]
def VG (n cap : Nat) (i : Int) : List VV := [I i, lV n cap, .ptr (.own 3 0), .bool false]
def cB (g p lo hi : Int) (x : VV) : VB := .cells [I g, I p, I lo, I hi, x] 26
def BG (n : Nat) (l : Int → Src) (b : Sus) (g p lo hi : Int) (x : VV) : List VB := [srcA n l, valA n l, seenA b, cB g p lo hi x]

/-- Some truth value. -/
def LG (n cap : Nat) (l : Int → Src) (b : Sus) (g p lo hi : Int) (x : VV) : LT := fun lock t h K =>
  FitP lock h t ⟨4, [0, 1, 2, 3].zip (BG n l b g p lo hi x)⟩ (dsG.zip (VG n cap 0)) ∧ (∀ j : Int, K .normal (dsG.zip (VG n cap j)) ⟨4, [0, 1, 2, 3].zip (BG n l b g p lo hi x)⟩) ∧ (∀ j : Int, K .ret (dsG.zip [I j, lV n cap, .ptr (.own 3 0), .bool true]) ⟨4, [0, 1, 2, 3].zip (BG n l b g p lo hi x)⟩)

/-- Too many: some truth value. -/
def grT (n : Nat) (l : Int → Src) (b : Sus) : FuncId × Spec1 := (9, fun _ args h K => match args with
  | [.agg [.int .i64 _, .int .i64 _, .int .i64 _, .int .i64 _, x], .slice (.el 0 [] 0 0) m _] => ((h.at 0 = srcA n l ∧ h.at 1 = valA n l ∧ h.at 2 = seenA b) ∧ m = n ∧ (x = .nils ∨ x = .slice (.el 2 [] 0 0) b.sl b.sc)) ∧ ∀ y : Bool, K (.ret (.bool y)) h
  | _ => False)

theorem rG_ev (n cap : Nat) (l : Int → Src) (b : Sus) (g p lo hi i : Int) (X : VEx → List VV → List VB → Prop) : codeE Try.prog (callN Try.prog noSpec noL 10 20) (fun _ => none) true 10 38 0 (loopB 0 (bodyOf Try.prog 9)) (dsG.zip (VG n cap i)) ⟨4, [0, 1, 2, 3].zip (BG n l b g p lo hi .nils)⟩ (obs 4 dsG [0, 1, 2, 3] X) =
  (bif decide (i < (↑n : Int)) then
 bif decide ((0 : Int) ≤ i ∧ i < (↑n : Int)) then
 (([] : List Int) = [] ∧ (0 : Int) ≤ (0 : Int) + i ∧ (0 : Int) + i < (↑n : Int)) ∧ bif decide ((↑(l ((0 : Int) + i)).vl : Int) > (20 : Int)) then
 X VEx.ret [I i, lV n cap, VV.ptr (VA.own 3 0), VV.bool true] [srcA n l, valA n l, seenA b, VB.cells [I g, I p, I lo, I hi, VV.nils] (26 : TypeId)]
 else bif inK IntKind.i64 (i + (1 : Int)) then
 X VEx.normal [I (i + (1 : Int)), lV n cap, VV.ptr (VA.own 3 0), VV.bool false] [srcA n l, valA n l, seenA b, VB.cells [I g, I p, I lo, I hi, VV.nils] (26 : TypeId)]
 else False
 else False
 else X (VEx.exit 0) [I i, lV n cap, VV.ptr (VA.own 3 0), VV.bool false] [srcA n l, valA n l, seenA b, VB.cells [I g, I p, I lo, I hi, VV.nils] (26 : TypeId)]) := by kernel_rfl

theorem rG2_ev (n cap : Nat) (l : Int → Src) (b : Sus) (g p lo hi i : Int) (X : VEx → List VV → List VB → Prop) : codeE Try.prog (callN Try.prog noSpec noL 10 20) (fun _ => none) true 10 38 0 (loopB 0 (bodyOf Try.prog 9)) (dsG.zip (VG n cap i)) ⟨4, [0, 1, 2, 3].zip (BG n l b g p lo hi (.slice (.el 2 [] 0 0) b.sl b.sc))⟩ (obs 4 dsG [0, 1, 2, 3] X) =
  (bif decide (i < (↑n : Int)) then
 bif decide ((0 : Int) ≤ i ∧ i < (↑n : Int)) then
 (([] : List Int) = [] ∧ (0 : Int) ≤ (0 : Int) + i ∧ (0 : Int) + i < (↑n : Int)) ∧ bif decide ((↑(l ((0 : Int) + i)).vl : Int) > (20 : Int)) then
 X VEx.ret [I i, lV n cap, VV.ptr (VA.own 3 0), VV.bool true] [srcA n l, valA n l, seenA b, VB.cells [I g, I p, I lo, I hi, VV.slice (VA.el 2 [] (0 : Int) 0) b.sl b.sc] (26 : TypeId)]
 else bif inK IntKind.i64 (i + (1 : Int)) then
 X VEx.normal [I (i + (1 : Int)), lV n cap, VV.ptr (VA.own 3 0), VV.bool false] [srcA n l, valA n l, seenA b, VB.cells [I g, I p, I lo, I hi, VV.slice (VA.el 2 [] (0 : Int) 0) b.sl b.sc] (26 : TypeId)]
 else False
 else False
 else X (VEx.exit 0) [I i, lV n cap, VV.ptr (VA.own 3 0), VV.bool false] [srcA n l, valA n l, seenA b, VB.cells [I g, I p, I lo, I hi, VV.slice (VA.el 2 [] (0 : Int) 0) b.sl b.sc] (26 : TypeId)]) := by kernel_rfl

theorem f9_ev (n cap : Nat) (l : Int → Src) (b : Sus) (g p lo hi : Int) (X : VRes → VH → Prop) : spBL Try.prog 9 noSpec [(0, LG n cap l b g p lo hi .nils)] 10 20 0 [.agg [I g, I p, I lo, I hi, .nils], lV n cap] (bH n l b) X =
  (bif decide ((↑n : Int) > (12 : Int)) then
 bif decide ((↑n : Int) ≤ (64 : Int)) then
 X (VRes.ret (VV.bool true)) (VH.mk (4) ([(3, VB.cells [I g, I p, I lo, I hi, VV.nils] 26), (0, srcA n l), (1, valA n l), (2, seenA b)]))
 else bif decide ((↑n : Int) > (68 : Int)) then
 X (VRes.ret (VV.bool true)) (VH.mk (4) ([(3, VB.cells [I g, I p, I lo, I hi, VV.nils] 26), (0, srcA n l), (1, valA n l), (2, seenA b)]))
 else FitP 0 (VH.mk (4) ([0, 1, 2, 3].zip (BG n l b g p lo hi VV.nils))) (dsG.zip (VG n cap (0 : Int))) (VH.mk (4) ([0, 1, 2, 3].zip (BG n l b g p lo hi VV.nils))) (dsG.zip (VG n cap (0 : Int))) ∧ (∀ (j : Int), X (VRes.ret (VV.bool false)) (VH.mk (4) ([(0, srcA n l), (1, valA n l), (2, seenA b), (3, VB.cells [I g, I p, I lo, I hi, VV.nils] (26 : TypeId))]))) ∧ ∀ (j : Int), X (VRes.ret (VV.bool true)) (VH.mk (4) ([(0, srcA n l), (1, valA n l), (2, seenA b), (3, VB.cells [I g, I p, I lo, I hi, VV.nils] (26 : TypeId))]))
 else bif decide ((↑n : Int) > (68 : Int)) then
 X (VRes.ret (VV.bool true)) (VH.mk (4) ([(3, VB.cells [I g, I p, I lo, I hi, VV.nils] 26), (0, srcA n l), (1, valA n l), (2, seenA b)]))
 else FitP 0 (VH.mk (4) ([0, 1, 2, 3].zip (BG n l b g p lo hi VV.nils))) (dsG.zip (VG n cap (0 : Int))) (VH.mk (4) ([0, 1, 2, 3].zip (BG n l b g p lo hi VV.nils))) (dsG.zip (VG n cap (0 : Int))) ∧ (∀ (j : Int), X (VRes.ret (VV.bool false)) (VH.mk (4) ([(0, srcA n l), (1, valA n l), (2, seenA b), (3, VB.cells [I g, I p, I lo, I hi, VV.nils] (26 : TypeId))]))) ∧ ∀ (j : Int), X (VRes.ret (VV.bool true)) (VH.mk (4) ([(0, srcA n l), (1, valA n l), (2, seenA b), (3, VB.cells [I g, I p, I lo, I hi, VV.nils] (26 : TypeId))]))) := by kernel_rfl

theorem f9b_ev (n cap : Nat) (l : Int → Src) (b : Sus) (g p lo hi : Int) (X : VRes → VH → Prop) : spBL Try.prog 9 noSpec [(0, LG n cap l b g p lo hi (.slice (.el 2 [] 0 0) b.sl b.sc))] 10 20 0 [.agg [I g, I p, I lo, I hi, .slice (.el 2 [] 0 0) b.sl b.sc], lV n cap] (bH n l b) X =
  (bif decide ((↑n : Int) > (12 : Int)) then
 bif decide ((↑n : Int) ≤ (64 : Int)) then
 X (VRes.ret (VV.bool true)) (VH.mk (4) ([(3, VB.cells [I g, I p, I lo, I hi, VV.slice (VA.el 2 [] (0 : Int) 0) b.sl b.sc] 26), (0, srcA n l), (1, valA n l), (2, seenA b)]))
 else bif decide ((↑n : Int) > (68 : Int)) then
 X (VRes.ret (VV.bool true)) (VH.mk (4) ([(3, VB.cells [I g, I p, I lo, I hi, VV.slice (VA.el 2 [] (0 : Int) 0) b.sl b.sc] 26), (0, srcA n l), (1, valA n l), (2, seenA b)]))
 else bif decide ((↑b.sl : Int) > (20 : Int)) then
 X (VRes.ret (VV.bool true)) (VH.mk (4) ([(3, VB.cells [I g, I p, I lo, I hi, VV.slice (VA.el 2 [] (0 : Int) 0) b.sl b.sc] 26), (0, srcA n l), (1, valA n l), (2, seenA b)]))
 else FitP 0 (VH.mk (4) ([0, 1, 2, 3].zip (BG n l b g p lo hi (VV.slice (VA.el 2 [] (0 : Int) 0) b.sl b.sc)))) (dsG.zip (VG n cap (0 : Int))) (VH.mk (4) ([0, 1, 2, 3].zip (BG n l b g p lo hi (VV.slice (VA.el 2 [] (0 : Int) 0) b.sl b.sc)))) (dsG.zip (VG n cap (0 : Int))) ∧ (∀ (j : Int), X (VRes.ret (VV.bool false)) (VH.mk (4) ([(0, srcA n l), (1, valA n l), (2, seenA b), (3, VB.cells [I g, I p, I lo, I hi, VV.slice (VA.el 2 [] (0 : Int) 0) b.sl b.sc] (26 : TypeId))]))) ∧ ∀ (j : Int), X (VRes.ret (VV.bool true)) (VH.mk (4) ([(0, srcA n l), (1, valA n l), (2, seenA b), (3, VB.cells [I g, I p, I lo, I hi, VV.slice (VA.el 2 [] (0 : Int) 0) b.sl b.sc] (26 : TypeId))]))
 else bif decide ((↑n : Int) > (68 : Int)) then
 X (VRes.ret (VV.bool true)) (VH.mk (4) ([(3, VB.cells [I g, I p, I lo, I hi, VV.slice (VA.el 2 [] (0 : Int) 0) b.sl b.sc] 26), (0, srcA n l), (1, valA n l), (2, seenA b)]))
 else bif decide ((↑b.sl : Int) > (20 : Int)) then
 X (VRes.ret (VV.bool true)) (VH.mk (4) ([(3, VB.cells [I g, I p, I lo, I hi, VV.slice (VA.el 2 [] (0 : Int) 0) b.sl b.sc] 26), (0, srcA n l), (1, valA n l), (2, seenA b)]))
 else FitP 0 (VH.mk (4) ([0, 1, 2, 3].zip (BG n l b g p lo hi (VV.slice (VA.el 2 [] (0 : Int) 0) b.sl b.sc)))) (dsG.zip (VG n cap (0 : Int))) (VH.mk (4) ([0, 1, 2, 3].zip (BG n l b g p lo hi (VV.slice (VA.el 2 [] (0 : Int) 0) b.sl b.sc)))) (dsG.zip (VG n cap (0 : Int))) ∧ (∀ (j : Int), X (VRes.ret (VV.bool false)) (VH.mk (4) ([(0, srcA n l), (1, valA n l), (2, seenA b), (3, VB.cells [I g, I p, I lo, I hi, VV.slice (VA.el 2 [] (0 : Int) 0) b.sl b.sc] (26 : TypeId))]))) ∧ ∀ (j : Int), X (VRes.ret (VV.bool true)) (VH.mk (4) ([(0, srcA n l), (1, valA n l), (2, seenA b), (3, VB.cells [I g, I p, I lo, I hi, VV.slice (VA.el 2 [] (0 : Int) 0) b.sl b.sc] (26 : TypeId))]))) := by kernel_rfl

theorem law4_ev (n cap : Nat) (l : Int → Src) (b : Sus) (wide : Int) (X : VRes → VH → Prop) : callN Try.prog (tabS [awT, grT n l b, askT 19 n l b, askT 20 n l b]) noL 10 20 0 (.fn 4) [lV n cap, I wide] (bH n l b) X =
  (((srcA n l = srcA n l ∧ valA n l = valA n l ∧ seenA b = seenA b) ∧ n = n ∧ (VV.nils = VV.nils ∨ VV.nils = VV.slice (VA.el 2 [] (0 : Int) 0) b.sl b.sc)) ∧ ∀ (y : Bool), bif y then
 X (VRes.ret (VV.bool true)) (VH.mk (3) ([(0, srcA n l), (1, valA n l), (2, seenA b)]))
 else ((srcA n l = srcA n l ∧ valA n l = valA n l ∧ seenA b = seenA b) ∧ n = n ∧ n ≤ cap) ∧ ((srcA n l = srcA n l ∧ valA n l = valA n l ∧ seenA b = seenA b) ∧ n = n ∧ n ≤ cap) ∧ bif decide ((askF n l wide).fst = (askF n l wide).fst) then
 bif decide ((askF n l wide).snd.fst = (askF n l wide).snd.fst) then
 bif decide ((askF n l wide).snd.snd = (askF n l wide).snd.snd) then
 X (VRes.ret (VV.bool true)) (VH.mk (3) ([(0, srcA n l), (1, valA n l), (2, seenA b)]))
 else X (VRes.ret (VV.bool false)) (VH.mk (3) ([(0, srcA n l), (1, valA n l), (2, seenA b)]))
 else X (VRes.ret (VV.bool false)) (VH.mk (3) ([(0, srcA n l), (1, valA n l), (2, seenA b)]))
 else X (VRes.ret (VV.bool false)) (VH.mk (3) ([(0, srcA n l), (1, valA n l), (2, seenA b)]))) := by kernel_rfl


end Go.Sx.Gen
