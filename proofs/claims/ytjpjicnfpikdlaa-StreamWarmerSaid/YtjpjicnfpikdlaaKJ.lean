/- stream: Ki1 Ki2 Ki3 Ki4 Ki5, in one text. -/
import Derived.Test.YtjpjicnfpikdlaaKI
/- stream: the law StreamWarmer, evaluated. -/

namespace Go.Sx.Str
open Go Go.Sx Go.Proofs
set_option maxRecDepth 100000

def dsJ : List Nat := [19, 20, 21, 13, 16, 17, 2, 1, 3, 4, 5, 6]
def VJ (n cap L S T : Nat) (lim a u c : Int) (x y i : Int) : List VV := [I x, I y, I i, .sl 2 L, .sl 3 S, .sl 4 T, I lim, .slice (.el 0 [] 0 0) n cap, .int .u8 a, .int .u32 u, .int .u16 c, .ptr (.own 1 0)]
def nsJ : List Nat := [0, 1, 2, 3, 4]
def BJ (P : List Pt) (w : Wt) (xs : List Wt) (S T : List Int) : List VB := [ptsA P.length (pF P), .cells (wtL w) 25, vecW xs, vecI S, vecI T]
def dsK : List Nat := [27, 22, 24, 13, 1, 5, 6]
def VK (n cap L M : Nat) (c k i : Int) : List VV := [I i, I k, .sl 7 M, .sl 2 L, .slice (.el 0 [] 0 0) n cap, .int .u16 c, .ptr (.own 1 0)]
def nsK : List Nat := [0, 1, 2, 7]
def BK (P : List Pt) (w : Wt) (xs ys : List Wt) : List VB := [ptsA P.length (pF P), .cells (wtL w) 25, vecW xs, vecW ys]
def dsM : List Nat := [33, 30, 13]
def VM (L M : Nat) (i : Int) : List VV := [I i, .sl 9 M, .sl 2 L]
def BM (xs ys : List Wt) : List VB := [vecW xs, vecW ys]
theorem j0_ev (P : List Pt) (cap : Nat) (w : Wt) (xs : List Wt) (S T : List Int) (lim a u c x y i : Int) (X : VEx → List VV → List VB → Prop) : codeE Try.prog (callN Try.prog noSpec noL 10 20) (fun _ => none) true 10 301 0 (loopB 0 (bodyOf Try.prog 8)) (dsJ.zip (VJ P.length cap xs.length S.length T.length lim a u c x y i)) ⟨5, nsJ.zip (BJ P w xs S T)⟩ (obs 5 dsJ nsJ X) =
  (bif decide (i < (↑xs.length : Int)) then
 bif decide ((0 : Int) ≤ i ∧ i < (↑xs.length : Int)) then
 bif xs.length.beq xs.length && true then
 bif xs.length.beq xs.length then
 bif decide ((xs.getD i.toNat w0).wlo > lim) then
 bif decide (x ≥ (↑S.length : Int)) then
 X VEx.ret [I x, I y, I i, VV.sl 2 xs.length, VV.sl 3 S.length, VV.sl 4 T.length, I lim, VV.slice (VA.el 0 [] (0 : Int) 0) P.length cap, VV.int IntKind.u8 a, VV.int IntKind.u32 u, VV.int IntKind.u16 c, VV.ptr (VA.own 1 0)] [ptsA P.length (pF P), VB.cells (wtL w) (25 : TypeId), vecW xs, vecI S, vecI T]
 else bif decide ((0 : Int) ≤ x ∧ x < (↑S.length : Int)) then
 bif S.length.beq S.length && true then
 bif S.length.beq S.length then
 bif !decide (S.getD x.toNat (0 : Int) = i) then
 X VEx.ret [I x, I y, I i, VV.sl 2 xs.length, VV.sl 3 S.length, VV.sl 4 T.length, I lim, VV.slice (VA.el 0 [] (0 : Int) 0) P.length cap, VV.int IntKind.u8 a, VV.int IntKind.u32 u, VV.int IntKind.u16 c, VV.ptr (VA.own 1 0)] [ptsA P.length (pF P), VB.cells (wtL w) (25 : TypeId), vecW xs, vecI S, vecI T]
 else bif inK IntKind.i64 (x + (1 : Int)) then
 bif decide ((0 : Int) ≤ i ∧ i < (↑xs.length : Int)) then
 bif xs.length.beq xs.length && true then
 bif xs.length.beq xs.length then
 bif decide ((xs.getD i.toNat w0).whi > lim) then
 bif decide (y ≥ (↑T.length : Int)) then
 X VEx.ret [I (x + (1 : Int)), I y, I i, VV.sl 2 xs.length, VV.sl 3 S.length, VV.sl 4 T.length, I lim, VV.slice (VA.el 0 [] (0 : Int) 0) P.length cap, VV.int IntKind.u8 a, VV.int IntKind.u32 u, VV.int IntKind.u16 c, VV.ptr (VA.own 1 0)] [ptsA P.length (pF P), VB.cells (wtL w) (25 : TypeId), vecW xs, vecI S, vecI T]
 else bif decide ((0 : Int) ≤ y ∧ y < (↑T.length : Int)) then
 bif T.length.beq T.length && true then
 bif T.length.beq T.length then
 bif !decide (T.getD y.toNat (0 : Int) = i) then
 X VEx.ret [I (x + (1 : Int)), I y, I i, VV.sl 2 xs.length, VV.sl 3 S.length, VV.sl 4 T.length, I lim, VV.slice (VA.el 0 [] (0 : Int) 0) P.length cap, VV.int IntKind.u8 a, VV.int IntKind.u32 u, VV.int IntKind.u16 c, VV.ptr (VA.own 1 0)] [ptsA P.length (pF P), VB.cells (wtL w) (25 : TypeId), vecW xs, vecI S, vecI T]
 else bif inK IntKind.i64 (y + (1 : Int)) then
 bif inK IntKind.i64 (i + (1 : Int)) then
 X VEx.normal [I (x + (1 : Int)), I (y + (1 : Int)), I (i + (1 : Int)), VV.sl 2 xs.length, VV.sl 3 S.length, VV.sl 4 T.length, I lim, VV.slice (VA.el 0 [] (0 : Int) 0) P.length cap, VV.int IntKind.u8 a, VV.int IntKind.u32 u, VV.int IntKind.u16 c, VV.ptr (VA.own 1 0)] [ptsA P.length (pF P), VB.cells (wtL w) (25 : TypeId), vecW xs, vecI S, vecI T]
 else False
 else False
 else False
 else False
 else False
 else bif inK IntKind.i64 (i + (1 : Int)) then
 X VEx.normal [I (x + (1 : Int)), I y, I (i + (1 : Int)), VV.sl 2 xs.length, VV.sl 3 S.length, VV.sl 4 T.length, I lim, VV.slice (VA.el 0 [] (0 : Int) 0) P.length cap, VV.int IntKind.u8 a, VV.int IntKind.u32 u, VV.int IntKind.u16 c, VV.ptr (VA.own 1 0)] [ptsA P.length (pF P), VB.cells (wtL w) (25 : TypeId), vecW xs, vecI S, vecI T]
 else False
 else False
 else False
 else False
 else False
 else False
 else False
 else False
 else bif decide ((0 : Int) ≤ i ∧ i < (↑xs.length : Int)) then
 bif xs.length.beq xs.length && true then
 bif xs.length.beq xs.length then
 bif decide ((xs.getD i.toNat w0).whi > lim) then
 bif decide (y ≥ (↑T.length : Int)) then
 X VEx.ret [I x, I y, I i, VV.sl 2 xs.length, VV.sl 3 S.length, VV.sl 4 T.length, I lim, VV.slice (VA.el 0 [] (0 : Int) 0) P.length cap, VV.int IntKind.u8 a, VV.int IntKind.u32 u, VV.int IntKind.u16 c, VV.ptr (VA.own 1 0)] [ptsA P.length (pF P), VB.cells (wtL w) (25 : TypeId), vecW xs, vecI S, vecI T]
 else bif decide ((0 : Int) ≤ y ∧ y < (↑T.length : Int)) then
 bif T.length.beq T.length && true then
 bif T.length.beq T.length then
 bif !decide (T.getD y.toNat (0 : Int) = i) then
 X VEx.ret [I x, I y, I i, VV.sl 2 xs.length, VV.sl 3 S.length, VV.sl 4 T.length, I lim, VV.slice (VA.el 0 [] (0 : Int) 0) P.length cap, VV.int IntKind.u8 a, VV.int IntKind.u32 u, VV.int IntKind.u16 c, VV.ptr (VA.own 1 0)] [ptsA P.length (pF P), VB.cells (wtL w) (25 : TypeId), vecW xs, vecI S, vecI T]
 else bif inK IntKind.i64 (y + (1 : Int)) then
 bif inK IntKind.i64 (i + (1 : Int)) then
 X VEx.normal [I x, I (y + (1 : Int)), I (i + (1 : Int)), VV.sl 2 xs.length, VV.sl 3 S.length, VV.sl 4 T.length, I lim, VV.slice (VA.el 0 [] (0 : Int) 0) P.length cap, VV.int IntKind.u8 a, VV.int IntKind.u32 u, VV.int IntKind.u16 c, VV.ptr (VA.own 1 0)] [ptsA P.length (pF P), VB.cells (wtL w) (25 : TypeId), vecW xs, vecI S, vecI T]
 else False
 else False
 else False
 else False
 else False
 else bif inK IntKind.i64 (i + (1 : Int)) then
 X VEx.normal [I x, I y, I (i + (1 : Int)), VV.sl 2 xs.length, VV.sl 3 S.length, VV.sl 4 T.length, I lim, VV.slice (VA.el 0 [] (0 : Int) 0) P.length cap, VV.int IntKind.u8 a, VV.int IntKind.u32 u, VV.int IntKind.u16 c, VV.ptr (VA.own 1 0)] [ptsA P.length (pF P), VB.cells (wtL w) (25 : TypeId), vecW xs, vecI S, vecI T]
 else False
 else False
 else False
 else False
 else False
 else False
 else False
 else X (VEx.exit 0) [I x, I y, I i, VV.sl 2 xs.length, VV.sl 3 S.length, VV.sl 4 T.length, I lim, VV.slice (VA.el 0 [] (0 : Int) 0) P.length cap, VV.int IntKind.u8 a, VV.int IntKind.u32 u, VV.int IntKind.u16 c, VV.ptr (VA.own 1 0)] [ptsA P.length (pF P), VB.cells (wtL w) (25 : TypeId), vecW xs, vecI S, vecI T]) := by kernel_rfl

theorem k0_ev (P : List Pt) (cap : Nat) (w : Wt) (xs ys : List Wt) (c k i : Int) (X : VEx → List VV → List VB → Prop) : codeE Try.prog (callN Try.prog noSpec noL 10 20) (fun _ => none) true 10 301 0 (loopB 2 (bodyOf Try.prog 8)) (dsK.zip (VK P.length cap xs.length ys.length c k i)) ⟨8, nsK.zip (BK P w xs ys)⟩ (obs 8 dsK nsK X) =
  (bif decide (i < (↑xs.length : Int)) then
 bif decide (i ≥ k) then
 bif inK IntKind.i64 (i + (1 : Int)) then
 bif decide ((0 : Int) ≤ i + (1 : Int) ∧ i + (1 : Int) < (↑ys.length : Int)) then
 bif ys.length.beq ys.length && true then
 bif ys.length.beq ys.length then
 bif decide ((0 : Int) ≤ i ∧ i < (↑xs.length : Int)) then
 bif xs.length.beq xs.length && true then
 bif xs.length.beq xs.length then
 bif decide ((ys.getD (i + (1 : Int)).toNat w0).wlo < (xs.getD i.toNat w0).wlo) then
 X VEx.ret [I i, I k, VV.sl 7 ys.length, VV.sl 2 xs.length, VV.slice (VA.el 0 [] (0 : Int) 0) P.length cap, VV.int IntKind.u16 c, VV.ptr (VA.own 1 0)] [ptsA P.length (pF P), VB.cells (wtL w) (25 : TypeId), vecW xs, vecW ys]
 else bif decide ((0 : Int) ≤ i + (1 : Int) ∧ i + (1 : Int) < (↑ys.length : Int)) then
 bif ys.length.beq ys.length && true then
 bif ys.length.beq ys.length then
 bif decide ((0 : Int) ≤ i ∧ i < (↑xs.length : Int)) then
 bif xs.length.beq xs.length && true then
 bif xs.length.beq xs.length then
 bif decide ((ys.getD (i + (1 : Int)).toNat w0).whi < (xs.getD i.toNat w0).whi) then
 X VEx.ret [I i, I k, VV.sl 7 ys.length, VV.sl 2 xs.length, VV.slice (VA.el 0 [] (0 : Int) 0) P.length cap, VV.int IntKind.u16 c, VV.ptr (VA.own 1 0)] [ptsA P.length (pF P), VB.cells (wtL w) (25 : TypeId), vecW xs, vecW ys]
 else bif decide ((0 : Int) ≤ i + (1 : Int) ∧ i + (1 : Int) < (↑ys.length : Int)) then
 bif ys.length.beq ys.length && true then
 bif ys.length.beq ys.length then
 bif decide ((0 : Int) ≤ i ∧ i < (↑xs.length : Int)) then
 bif xs.length.beq xs.length && true then
 bif xs.length.beq xs.length then
 bif !(decide ((ys.getD (i + (1 : Int)).toNat w0).flo = (xs.getD i.toNat w0).flo) && (decide ((ys.getD (i + (1 : Int)).toNat w0).fhi = (xs.getD i.toNat w0).fhi) && true)) then
 X VEx.ret [I i, I k, VV.sl 7 ys.length, VV.sl 2 xs.length, VV.slice (VA.el 0 [] (0 : Int) 0) P.length cap, VV.int IntKind.u16 c, VV.ptr (VA.own 1 0)] [ptsA P.length (pF P), VB.cells (wtL w) (25 : TypeId), vecW xs, vecW ys]
 else bif inK IntKind.i64 (i + (1 : Int)) then
 X VEx.normal [I (i + (1 : Int)), I k, VV.sl 7 ys.length, VV.sl 2 xs.length, VV.slice (VA.el 0 [] (0 : Int) 0) P.length cap, VV.int IntKind.u16 c, VV.ptr (VA.own 1 0)] [ptsA P.length (pF P), VB.cells (wtL w) (25 : TypeId), vecW xs, vecW ys]
 else False
 else False
 else False
 else False
 else False
 else False
 else False
 else False
 else False
 else False
 else False
 else False
 else False
 else False
 else False
 else False
 else False
 else False
 else False
 else False
 else bif decide ((0 : Int) ≤ i ∧ i < (↑ys.length : Int)) then
 bif ys.length.beq ys.length && true then
 bif ys.length.beq ys.length then
 bif decide ((0 : Int) ≤ i ∧ i < (↑xs.length : Int)) then
 bif xs.length.beq xs.length && true then
 bif xs.length.beq xs.length then
 bif decide ((ys.getD i.toNat w0).wlo < (xs.getD i.toNat w0).wlo) then
 X VEx.ret [I i, I k, VV.sl 7 ys.length, VV.sl 2 xs.length, VV.slice (VA.el 0 [] (0 : Int) 0) P.length cap, VV.int IntKind.u16 c, VV.ptr (VA.own 1 0)] [ptsA P.length (pF P), VB.cells (wtL w) (25 : TypeId), vecW xs, vecW ys]
 else bif decide ((0 : Int) ≤ i ∧ i < (↑ys.length : Int)) then
 bif ys.length.beq ys.length && true then
 bif ys.length.beq ys.length then
 bif decide ((0 : Int) ≤ i ∧ i < (↑xs.length : Int)) then
 bif xs.length.beq xs.length && true then
 bif xs.length.beq xs.length then
 bif decide ((ys.getD i.toNat w0).whi < (xs.getD i.toNat w0).whi) then
 X VEx.ret [I i, I k, VV.sl 7 ys.length, VV.sl 2 xs.length, VV.slice (VA.el 0 [] (0 : Int) 0) P.length cap, VV.int IntKind.u16 c, VV.ptr (VA.own 1 0)] [ptsA P.length (pF P), VB.cells (wtL w) (25 : TypeId), vecW xs, vecW ys]
 else bif decide ((0 : Int) ≤ i ∧ i < (↑ys.length : Int)) then
 bif ys.length.beq ys.length && true then
 bif ys.length.beq ys.length then
 bif decide ((0 : Int) ≤ i ∧ i < (↑xs.length : Int)) then
 bif xs.length.beq xs.length && true then
 bif xs.length.beq xs.length then
 bif !(decide ((ys.getD i.toNat w0).flo = (xs.getD i.toNat w0).flo) && (decide ((ys.getD i.toNat w0).fhi = (xs.getD i.toNat w0).fhi) && true)) then
 X VEx.ret [I i, I k, VV.sl 7 ys.length, VV.sl 2 xs.length, VV.slice (VA.el 0 [] (0 : Int) 0) P.length cap, VV.int IntKind.u16 c, VV.ptr (VA.own 1 0)] [ptsA P.length (pF P), VB.cells (wtL w) (25 : TypeId), vecW xs, vecW ys]
 else bif inK IntKind.i64 (i + (1 : Int)) then
 X VEx.normal [I (i + (1 : Int)), I k, VV.sl 7 ys.length, VV.sl 2 xs.length, VV.slice (VA.el 0 [] (0 : Int) 0) P.length cap, VV.int IntKind.u16 c, VV.ptr (VA.own 1 0)] [ptsA P.length (pF P), VB.cells (wtL w) (25 : TypeId), vecW xs, vecW ys]
 else False
 else False
 else False
 else False
 else False
 else False
 else False
 else False
 else False
 else False
 else False
 else False
 else False
 else False
 else False
 else False
 else False
 else False
 else False
 else X (VEx.exit 2) [I i, I k, VV.sl 7 ys.length, VV.sl 2 xs.length, VV.slice (VA.el 0 [] (0 : Int) 0) P.length cap, VV.int IntKind.u16 c, VV.ptr (VA.own 1 0)] [ptsA P.length (pF P), VB.cells (wtL w) (25 : TypeId), vecW xs, vecW ys]) := by kernel_rfl

theorem m0_ev (xs ys : List Wt) (i : Int) (X : VEx → List VV → List VB → Prop) : codeE Try.prog (callN Try.prog noSpec noL 10 20) (fun _ => none) true 10 301 0 (loopB 4 (bodyOf Try.prog 8)) (dsM.zip (VM xs.length ys.length i)) ⟨10, [2, 9].zip (BM xs ys)⟩ (obs 10 dsM [2, 9] X) =
  (bif decide (i < (↑xs.length : Int)) then
 bif decide ((0 : Int) ≤ i ∧ i < (↑ys.length : Int)) then
 bif ys.length.beq ys.length && true then
 bif ys.length.beq ys.length then
 bif decide ((0 : Int) ≤ i ∧ i < (↑xs.length : Int)) then
 bif xs.length.beq xs.length && true then
 bif xs.length.beq xs.length then
 bif decide ((ys.getD i.toNat w0).wlo > (xs.getD i.toNat w0).wlo) then
 X VEx.ret [I i, VV.sl 9 ys.length, VV.sl 2 xs.length] [vecW xs, vecW ys]
 else bif decide ((0 : Int) ≤ i ∧ i < (↑ys.length : Int)) then
 bif ys.length.beq ys.length && true then
 bif ys.length.beq ys.length then
 bif decide ((0 : Int) ≤ i ∧ i < (↑xs.length : Int)) then
 bif xs.length.beq xs.length && true then
 bif xs.length.beq xs.length then
 bif decide ((ys.getD i.toNat w0).whi > (xs.getD i.toNat w0).whi) then
 X VEx.ret [I i, VV.sl 9 ys.length, VV.sl 2 xs.length] [vecW xs, vecW ys]
 else bif inK IntKind.i64 (i + (1 : Int)) then
 X VEx.normal [I (i + (1 : Int)), VV.sl 9 ys.length, VV.sl 2 xs.length] [vecW xs, vecW ys]
 else False
 else False
 else False
 else False
 else False
 else False
 else False
 else False
 else False
 else False
 else False
 else False
 else False
 else X (VEx.exit 4) [I i, VV.sl 9 ys.length, VV.sl 2 xs.length] [vecW xs, vecW ys]) := by kernel_rfl


end Go.Sx.Str

/- stream: the loops of the law StreamWarmer. -/

namespace Go.Sx.Str
open Go Go.Sx Go.Proofs
set_option maxRecDepth 100000

theorem drop_consI {S : List Int} {n : Nat} {a : Int} {r : List Int} (h : S.drop n = a :: r) : n < S.length ∧ S.getD n 0 = a ∧ S.drop (n + 1) = r := by
  have hn : n < S.length := by
    by_cases hn : n < S.length
    · exact hn
    · rw [List.drop_eq_nil_of_le (by omega)] at h; cases h
  rw [List.drop_eq_getElem_cons hn] at h
  injection h with h1 h2
  refine ⟨hn, ?_, h2⟩
  rw [List.getD_eq_getElem?_getD, List.getElem?_eq_getElem hn]
  exact h1

structure SJ where
  i : Int
  x : Int
  y : Int

structure IJ (xs : List Wt) (S T : List Int) (lim : Int) (s : SJ) : Prop where
  i : 0 ≤ s.i ∧ s.i ≤ xs.length
  x : 0 ≤ s.x ∧ s.x ≤ S.length
  y : 0 ≤ s.y ∧ s.y ≤ T.length
  dS : S.drop s.x.toNat = ixs (loF lim) s.i (xs.drop s.i.toNat)
  dT : T.drop s.y.toNat = ixs (hiF lim) s.i (xs.drop s.i.toNat)
  n : xs.length ≤ 100000 ∧ S.length ≤ 100000 ∧ T.length ≤ 100000

section
variable {P : List Pt} {cap : Nat} {w : Wt} {xs ys : List Wt} {S T : List Int} {lim a u c : Int}

def OJ (P : List Pt) (cap : Nat) (w : Wt) (xs : List Wt) (S T : List Int) (lim a u c : Int) (_ : SJ) (e : VEx) (vs : List VV) (bs : List VB) : Prop :=
  e = .exit 0 ∧ vs = VJ P.length cap xs.length S.length T.length lim a u c S.length T.length xs.length ∧ bs = BJ P w xs S T

theorem j0_round (i x y : Int) (h : IJ xs S T lim ⟨i, x, y⟩) : codeE Try.prog (callN Try.prog noSpec noL 10 20) (fun _ => none) true 10 301 0 (loopB 0 (bodyOf Try.prog 8)) (dsJ.zip (VJ P.length cap xs.length S.length T.length lim a u c x y i)) ⟨5, nsJ.zip (BJ P w xs S T)⟩
    (obs 5 dsJ nsJ (RoundQ (fun s : SJ => VJ P.length cap xs.length S.length T.length lim a u c s.x s.y s.i) (fun _ => BJ P w xs S T) (IJ xs S T lim) (fun s => (xs.length - s.i).toNat) (OJ P cap w xs S T lim a u c) ⟨i, x, y⟩)) := by
  obtain ⟨hi, hx, hy, hS, hT, hn⟩ := h
  dsimp only at hi hx hy hS hT
  rw [j0_ev]
  by_cases hlt : i < (xs.length : Int)
  · have bx : (xs.length.beq xs.length && true) = true := by rw [show xs.length.beq xs.length = true from Nat.beq_refl _]; rfl
    have bS : (S.length.beq S.length && true) = true := by rw [show S.length.beq S.length = true from Nat.beq_refl _]; rfl
    have bT : (T.length.beq T.length && true) = true := by rw [show T.length.beq T.length = true from Nat.beq_refl _]; rfl
    have next : ∀ x' y' : Int, 0 ≤ x' → x' ≤ S.length → 0 ≤ y' → y' ≤ T.length → S.drop x'.toNat = ixs (loF lim) (i + 1) (xs.drop (i + 1).toNat) → T.drop y'.toNat = ixs (hiF lim) (i + 1) (xs.drop (i + 1).toNat) →
        RoundQ (fun s : SJ => VJ P.length cap xs.length S.length T.length lim a u c s.x s.y s.i) (fun _ => BJ P w xs S T) (IJ xs S T lim) (fun s => (xs.length - s.i).toNat) (OJ P cap w xs S T lim a u c) ⟨i, x, y⟩ .normal (VJ P.length cap xs.length S.length T.length lim a u c x' y' (i + 1)) (BJ P w xs S T) :=
      fun x' y' a1 a2 a3 a4 a5 a6 => ⟨⟨i + 1, x', y'⟩, ⟨by dsimp only; omega, ⟨a1, a2⟩, ⟨a3, a4⟩, a5, a6, hn⟩, by dsimp only; omega, rfl, fitBs_refl _, fun _ _ _ h => h⟩
    have part : ∀ x' : Int, 0 ≤ x' → x' ≤ S.length → S.drop x'.toNat = ixs (loF lim) (i + 1) (xs.drop (i + 1).toNat) →
        (bif decide ((0 : Int) ≤ i ∧ i < (xs.length : Int)) then
        bif xs.length.beq xs.length && true then
        bif xs.length.beq xs.length then
        bif decide ((xs.getD i.toNat w0).whi > lim) then
        bif decide (y ≥ (T.length : Int)) then
        RoundQ (fun s : SJ => VJ P.length cap xs.length S.length T.length lim a u c s.x s.y s.i) (fun _ => BJ P w xs S T) (IJ xs S T lim) (fun s => (xs.length - s.i).toNat) (OJ P cap w xs S T lim a u c) ⟨i, x, y⟩ .ret (VJ P.length cap xs.length S.length T.length lim a u c x' y i) (BJ P w xs S T)
        else bif decide ((0 : Int) ≤ y ∧ y < (T.length : Int)) then
        bif T.length.beq T.length && true then
        bif T.length.beq T.length then
        bif !decide (T.getD y.toNat (0 : Int) = i) then
        RoundQ (fun s : SJ => VJ P.length cap xs.length S.length T.length lim a u c s.x s.y s.i) (fun _ => BJ P w xs S T) (IJ xs S T lim) (fun s => (xs.length - s.i).toNat) (OJ P cap w xs S T lim a u c) ⟨i, x, y⟩ .ret (VJ P.length cap xs.length S.length T.length lim a u c x' y i) (BJ P w xs S T)
        else bif inK IntKind.i64 (y + (1 : Int)) then
        bif inK IntKind.i64 (i + (1 : Int)) then
        RoundQ (fun s : SJ => VJ P.length cap xs.length S.length T.length lim a u c s.x s.y s.i) (fun _ => BJ P w xs S T) (IJ xs S T lim) (fun s => (xs.length - s.i).toNat) (OJ P cap w xs S T lim a u c) ⟨i, x, y⟩ .normal (VJ P.length cap xs.length S.length T.length lim a u c x' (y + 1) (i + 1)) (BJ P w xs S T)
        else False
        else False
        else False
        else False
        else False
        else bif inK IntKind.i64 (i + (1 : Int)) then
        RoundQ (fun s : SJ => VJ P.length cap xs.length S.length T.length lim a u c s.x s.y s.i) (fun _ => BJ P w xs S T) (IJ xs S T lim) (fun s => (xs.length - s.i).toNat) (OJ P cap w xs S T lim a u c) ⟨i, x, y⟩ .normal (VJ P.length cap xs.length S.length T.length lim a u c x' y (i + 1)) (BJ P w xs S T)
        else False
        else False
        else False
        else False) := fun x' a1 a2 a3 => by
      refine cond_dk ⟨hi.1, hlt⟩ (cond_k bx (cond_k (Nat.beq_refl _) (cond_d (fun hp => ?_) (fun hp => cond_r (by omega) ?_))))
      · rw [ixs_yes hi.1 hlt (p := hiF lim) (decide_eq_true hp)] at hT
        obtain ⟨t1, t2, t3⟩ := drop_consI hT
        refine cond_d (fun h => by omega) (fun _ => cond_dk ⟨hy.1, by omega⟩ (cond_k bT (cond_k (Nat.beq_refl _) (cond_nd (fun h => absurd t2 h) (fun _ => cond_r (by omega) (cond_r (by omega) ?_))))))
        exact next x' (y + 1) a1 a2 (by omega) (by omega) a3 (by rw [show (y + 1).toNat = y.toNat + 1 by omega]; exact t3)
      · rw [ixs_no hi.1 hlt (p := hiF lim) (decide_eq_false hp)] at hT
        exact next x' y a1 a2 hy.1 hy.2 a3 hT
    refine cond_dk hlt (cond_dk ⟨hi.1, hlt⟩ (cond_k bx (cond_k (Nat.beq_refl _) (cond_d (fun hp => ?_) (fun hp => ?_)))))
    · rw [ixs_yes hi.1 hlt (p := loF lim) (decide_eq_true hp)] at hS
      obtain ⟨t1, t2, t3⟩ := drop_consI hS
      refine cond_d (fun h => by omega) (fun _ => cond_dk ⟨hx.1, by omega⟩ (cond_k bS (cond_k (Nat.beq_refl _) (cond_nd (fun h => absurd t2 h) (fun _ => cond_r (by omega) ?_)))))
      exact part (x + 1) (by omega) (by omega) (by rw [show (x + 1).toNat = x.toNat + 1 by omega]; exact t3)
    · rw [ixs_no hi.1 hlt (p := loF lim) (decide_eq_false hp)] at hS
      exact part x hx.1 hx.2 hS
  · refine cond_d (fun h => absurd h hlt) (fun _ => ?_)
    have hk : i = (xs.length : Int) := by omega
    subst hk
    rw [ixs_end (Int.le_refl _)] at hS hT
    have l1 := congrArg List.length hS
    have l2 := congrArg List.length hT
    rw [List.length_drop, List.length_nil] at l1 l2
    have hx' : x = (S.length : Int) := by omega
    have hy' : y = (T.length : Int) := by omega
    subst hx' hy'
    exact ⟨rfl, rfl, rfl⟩

def LJ (P : List Pt) (cap : Nat) (w : Wt) (xs : List Wt) (S T : List Int) (lim a u c : Int) : LT := fun lock t h K =>
  FitP lock h t ⟨5, nsJ.zip (BJ P w xs S T)⟩ (dsJ.zip (VJ P.length cap xs.length S.length T.length lim a u c 0 0 0)) ∧ (S = ixs (loF lim) 0 xs ∧ T = ixs (hiF lim) 0 xs ∧ xs.length ≤ 100000) ∧
    K .normal (dsJ.zip (VJ P.length cap xs.length S.length T.length lim a u c S.length T.length xs.length)) ⟨5, nsJ.zip (BJ P w xs S T)⟩

theorem LJ_ok : LSound Try.prog true (.block 0 (.loop (loopB 0 (bodyOf Try.prog 8)))) 301 (LJ P cap w xs S T lim a u c) := by
  refine loop_row hmix good0 (un := 10) (ds := dsJ) (ns := nsJ) (nx := 5) (fun s : SJ => VJ P.length cap xs.length S.length T.length lim a u c s.x s.y s.i) (fun _ => BJ P w xs S T) (IJ xs S T lim) (fun s => (xs.length - s.i).toNat) (OJ P cap w xs S T lim a u c) noL_ok (fun s h => j0_round s.i s.x s.y h) ?_
  rintro lock t h K ⟨hf, ⟨h1, h2, hn⟩, hK⟩
  refine ⟨⟨0, 0, 0⟩, hf, ⟨⟨Int.le_refl 0, Int.natCast_nonneg _⟩, ⟨Int.le_refl 0, Int.natCast_nonneg _⟩, ⟨Int.le_refl 0, Int.natCast_nonneg _⟩, h1, h2, ?_⟩, ?_⟩
  · have g1 := ixs_len (loF lim) xs 0
    have g2 := ixs_len (hiF lim) xs 0
    rw [← h1] at g1
    rw [← h2] at g2
    omega
  · rintro e vs bs ⟨rfl, rfl, rfl⟩
    exact hK

/-- What is compared with more heat. -/
def CmpK (xs ys : List Wt) (k : Int) : Prop := ∀ i : Int, 0 ≤ i → i < xs.length → LeW (xs.getD i.toNat w0) (ys.getD (if i ≥ k then i + 1 else i).toNat w0)

def OK2 (P : List Pt) (cap : Nat) (w : Wt) (xs ys : List Wt) (c k : Int) (_ : Int) (e : VEx) (vs : List VV) (bs : List VB) : Prop :=
  e = .exit 2 ∧ vs = VK P.length cap xs.length ys.length c k xs.length ∧ bs = BK P w xs ys

def LK (P : List Pt) (cap : Nat) (w : Wt) (xs ys : List Wt) (c k : Int) : LT := fun lock t h K =>
  FitP lock h t ⟨8, nsK.zip (BK P w xs ys)⟩ (dsK.zip (VK P.length cap xs.length ys.length c k 0)) ∧ (CmpK xs ys k ∧ ys.length = xs.length + 1 ∧ xs.length ≤ 100000) ∧
    K .normal (dsK.zip (VK P.length cap xs.length ys.length c k xs.length)) ⟨8, nsK.zip (BK P w xs ys)⟩

theorem LK_ok {k : Int} : LSound Try.prog true (.block 2 (.loop (loopB 2 (bodyOf Try.prog 8)))) 301 (LK P cap w xs ys c k) := by
  by_cases ok : CmpK xs ys k ∧ ys.length = xs.length + 1 ∧ xs.length ≤ 100000
  · obtain ⟨hc, hl, hn⟩ := ok
    refine loop_row hmix good0 (un := 10) (ds := dsK) (ns := nsK) (nx := 8) (fun i : Int => VK P.length cap xs.length ys.length c k i) (fun _ => BK P w xs ys) (fun i => 0 ≤ i ∧ i ≤ xs.length) (fun i => (xs.length - i).toNat) (OK2 P cap w xs ys c k) noL_ok ?_ ?_
    · rintro i ⟨h0, h1⟩
      rw [k0_ev]
      by_cases hlt : i < (xs.length : Int)
      · have hcmp := hc i h0 hlt
        have e1 : xs.length.beq xs.length = true := Nat.beq_refl _
        have e2 : ys.length.beq ys.length = true := Nat.beq_refl _
        have e3 : (xs.length.beq xs.length && true) = true := by rw [e1]; rfl
        have e4 : (ys.length.beq ys.length && true) = true := by rw [e2]; rfl
        by_cases hk : i ≥ k
        · rw [if_pos hk] at hcmp
          obtain ⟨⟨f1, f2⟩, c1, c2⟩ := hcmp
          refine cond_dk hlt (cond_dk hk (cond_r (by omega) ?_))
          refine cond_dk ⟨by omega, by omega⟩ (cond_k e4 (cond_k e2 (cond_dk ⟨by omega, by omega⟩ (cond_k e3 (cond_k e1 (cond_d (fun h => by omega) (fun _ => ?_)))))))
          refine cond_dk ⟨by omega, by omega⟩ (cond_k e4 (cond_k e2 (cond_dk ⟨by omega, by omega⟩ (cond_k e3 (cond_k e1 (cond_d (fun h => by omega) (fun _ => ?_)))))))
          refine cond_dk ⟨by omega, by omega⟩ (cond_k e4 (cond_k e2 (cond_dk ⟨by omega, by omega⟩ (cond_k e3 (cond_k e1 (cond_f ?_ (cond_r (by omega) ?_)))))))
          · rw [decide_eq_true f1.symm, decide_eq_true f2.symm]; rfl
          · exact ⟨i + 1, ⟨by omega, by omega⟩, by dsimp only; omega, rfl, fitBs_refl _, fun _ _ _ h => h⟩
        · rw [if_neg hk] at hcmp
          obtain ⟨⟨f1, f2⟩, c1, c2⟩ := hcmp
          refine cond_dk hlt (cond_d (fun h => absurd h hk) (fun _ => ?_))
          refine cond_dk ⟨by omega, by omega⟩ (cond_k e4 (cond_k e2 (cond_dk ⟨by omega, by omega⟩ (cond_k e3 (cond_k e1 (cond_d (fun h => by omega) (fun _ => ?_)))))))
          refine cond_dk ⟨by omega, by omega⟩ (cond_k e4 (cond_k e2 (cond_dk ⟨by omega, by omega⟩ (cond_k e3 (cond_k e1 (cond_d (fun h => by omega) (fun _ => ?_)))))))
          refine cond_dk ⟨by omega, by omega⟩ (cond_k e4 (cond_k e2 (cond_dk ⟨by omega, by omega⟩ (cond_k e3 (cond_k e1 (cond_f ?_ (cond_r (by omega) ?_)))))))
          · rw [decide_eq_true f1.symm, decide_eq_true f2.symm]; rfl
          · exact ⟨i + 1, ⟨by omega, by omega⟩, by dsimp only; omega, rfl, fitBs_refl _, fun _ _ _ h => h⟩
      · refine cond_d (fun h => absurd h hlt) (fun _ => ?_)
        have : i = (xs.length : Int) := by omega
        subst this
        exact ⟨rfl, rfl, rfl⟩
    · rintro lock t h K ⟨hf, _, hK⟩
      refine ⟨0, hf, ⟨Int.le_refl 0, Int.natCast_nonneg _⟩, ?_⟩
      rintro e vs bs ⟨rfl, rfl, rfl⟩
      exact hK
  · rintro lock t h K ⟨hf, hc, hK⟩
    exact (ok hc).elim

def CmpM (xs ys : List Wt) : Prop := ∀ i : Int, 0 ≤ i → i < xs.length → LeW (ys.getD i.toNat w0) (xs.getD i.toNat w0)

def OM (xs ys : List Wt) (_ : Int) (e : VEx) (vs : List VV) (bs : List VB) : Prop := e = .exit 4 ∧ vs = VM xs.length ys.length xs.length ∧ bs = BM xs ys

def LM (xs ys : List Wt) : LT := fun lock t h K =>
  FitP lock h t ⟨10, [2, 9].zip (BM xs ys)⟩ (dsM.zip (VM xs.length ys.length 0)) ∧ (CmpM xs ys ∧ ys.length = xs.length ∧ xs.length ≤ 100000) ∧
    K .normal (dsM.zip (VM xs.length ys.length xs.length)) ⟨10, [2, 9].zip (BM xs ys)⟩

theorem LM_ok : LSound Try.prog true (.block 4 (.loop (loopB 4 (bodyOf Try.prog 8)))) 301 (LM xs ys) := by
  by_cases ok : CmpM xs ys ∧ ys.length = xs.length ∧ xs.length ≤ 100000
  · obtain ⟨hc, hl, hn⟩ := ok
    refine loop_row hmix good0 (un := 10) (ds := dsM) (ns := [2, 9]) (nx := 10) (fun i : Int => VM xs.length ys.length i) (fun _ => BM xs ys) (fun i => 0 ≤ i ∧ i ≤ xs.length) (fun i => (xs.length - i).toNat) (OM xs ys) noL_ok ?_ ?_
    · rintro i ⟨h0, h1⟩
      rw [m0_ev]
      by_cases hlt : i < (xs.length : Int)
      · obtain ⟨_, c1, c2⟩ := hc i h0 hlt
        have e1 : xs.length.beq xs.length = true := Nat.beq_refl _
        have e2 : ys.length.beq ys.length = true := Nat.beq_refl _
        have e3 : (xs.length.beq xs.length && true) = true := by rw [e1]; rfl
        have e4 : (ys.length.beq ys.length && true) = true := by rw [e2]; rfl
        refine cond_dk hlt ?_
        refine cond_dk ⟨by omega, by omega⟩ (cond_k e4 (cond_k e2 (cond_dk ⟨by omega, by omega⟩ (cond_k e3 (cond_k e1 (cond_d (fun h => by omega) (fun _ => ?_)))))))
        refine cond_dk ⟨by omega, by omega⟩ (cond_k e4 (cond_k e2 (cond_dk ⟨by omega, by omega⟩ (cond_k e3 (cond_k e1 (cond_d (fun h => by omega) (fun _ => cond_r (by omega) ?_)))))))
        exact ⟨i + 1, ⟨by omega, by omega⟩, by dsimp only; omega, rfl, fitBs_refl _, fun _ _ _ h => h⟩
      · refine cond_d (fun h => absurd h hlt) (fun _ => ?_)
        have : i = (xs.length : Int) := by omega
        subst this
        exact ⟨rfl, rfl, rfl⟩
    · rintro lock t h K ⟨hf, _, hK⟩
      refine ⟨0, hf, ⟨Int.le_refl 0, Int.natCast_nonneg _⟩, ?_⟩
      rintro e vs bs ⟨rfl, rfl, rfl⟩
      exact hK
  · rintro lock t h K ⟨hf, hc, hK⟩
    exact (ok hc).elim
end
end Go.Sx.Str

/- stream: the law StreamWarmer, evaluated. -/

namespace Go.Sx.Str
open Go Go.Sx Go.Proofs
set_option maxRecDepth 100000

def tL8 : List (FuncId × Spec1) := [awT, flT 13, wmT 15]
def ls8 (P : List Pt) (cap : Nat) (w : Wt) (lim a u c k : Int) (ys zs : List Wt) : List (Nat × LT) := [(0, LJ P cap w (flL w P) (wmS w P lim) (wmP w P lim) lim a u c), (2, LK P cap w (flL w P) ys c k), (4, LM (flL w P) zs)]
theorem law8_ev (P : List Pt) (cap : Nat) (w : Wt) (lim a u c k : Int) (ys zs : List Wt) (Q : VRes → Prop) : spBL Try.prog 8 (tabS tL8) (ls8 P cap w lim a u c k ys zs) 10 20 0 [.agg (wtL w), .slice (.el 0 [] 0 0) P.length cap, I lim, .int .u8 a, .int .u32 u, .int .u16 c] ⟨1, [(0, ptsA P.length (pF P))]⟩ (fun r _ => Q r) =
  (bif decide ((↑P.length : Int) > (20 : Int)) then
 Q (VRes.ret (VV.bool true))
 else ∃ P_1, isList (VH.mk (2) [(1, VB.cells (wtL w) 25), (0, ptsA P.length (pF P))]) (VV.slice (VA.el 0 [] (0 : Int) 0) P.length cap) P_1.length 9 (pG P_1) ∧ ∃ P_2, isList (VH.mk (2 + 1) [(2, vecW (flL w P_1)), (1, VB.cells (wtL w) 25), (0, ptsA P.length (pF P))]) (VV.slice (VA.el 0 [] (0 : Int) 0) P.length cap) P_2.length 9 (pG P_2) ∧ bif !decide (flE w P_1 = (0 : Int)) then
 bif decide (flE w P_1 = (0 : Int)) then
 bif decide ((↑(wmS w P_2 lim).length : Int) = (0 : Int)) then
 bif decide ((↑(wmP w P_2 lim).length : Int) = (0 : Int)) then
 Q (VRes.ret (VV.bool true))
 else Q (VRes.ret (VV.bool false))
 else Q (VRes.ret (VV.bool false))
 else bif !decide (wmE w P_2 lim = (0 : Int)) then
 bif decide ((↑(wmS w P_2 lim).length : Int) = (0 : Int)) then
 bif decide ((↑(wmP w P_2 lim).length : Int) = (0 : Int)) then
 Q (VRes.ret (VV.bool true))
 else Q (VRes.ret (VV.bool false))
 else Q (VRes.ret (VV.bool false))
 else Q (VRes.ret (VV.bool false))
 else bif !decide (wmE w P_2 lim = (0 : Int)) then
 bif decide (flE w P_1 = (0 : Int)) then
 bif decide ((↑(wmS w P_2 lim).length : Int) = (0 : Int)) then
 bif decide ((↑(wmP w P_2 lim).length : Int) = (0 : Int)) then
 Q (VRes.ret (VV.bool true))
 else Q (VRes.ret (VV.bool false))
 else Q (VRes.ret (VV.bool false))
 else bif !decide (wmE w P_2 lim = (0 : Int)) then
 bif decide ((↑(wmS w P_2 lim).length : Int) = (0 : Int)) then
 bif decide ((↑(wmP w P_2 lim).length : Int) = (0 : Int)) then
 Q (VRes.ret (VV.bool true))
 else Q (VRes.ret (VV.bool false))
 else Q (VRes.ret (VV.bool false))
 else Q (VRes.ret (VV.bool false))
 else FitP 0 (VH.mk (2 + 1 + 2) [(2 + 1 + 1, vecI (wmP w P_2 lim)), (2 + 1, vecI (wmS w P_2 lim)), (2, vecW (flL w P_1)), (1, VB.cells (wtL w) 25), (0, ptsA P.length (pF P))]) [(21, I 0), (20, I 0), (19, I 0), (58, VV.bool false), (58, VV.bool !decide (wmE w P_2 lim = (0 : Int))), (57, VV.bool !decide (wmE w P_2 lim = (0 : Int))), (55, VV.bool false), (56, I (wmE w P_2 lim)), (55, VV.bool false), (55, VV.bool !decide (flE w P_1 = (0 : Int))), (54, VV.bool !decide (flE w P_1 = (0 : Int))), (53, I (flE w P_1)), (18, I (wmE w P_2 lim)), (17, VV.sl (2 + 1 + 1) (wmP w P_2 lim).length), (16, VV.sl (2 + 1) (wmS w P_2 lim).length), (52, I (wmE w P_2 lim)), (51, VV.sl (2 + 1 + 1) (wmP w P_2 lim).length), (50, VV.sl (2 + 1) (wmS w P_2 lim).length), (45, VV.tup [VV.sl (2 + 1) (wmS w P_2 lim).length, VV.sl (2 + 1 + 1) (wmP w P_2 lim).length, I (wmE w P_2 lim)]), (49, wmV (2 + 1) w P_2 lim), (48, I lim), (47, VV.slice (VA.el 0 [] (0 : Int) 0) P.length cap), (46, VV.agg (wtL w)), (15, I (flE w P_1)), (14, I (flI w P_1)), (13, VV.sl (2) (flL w P_1).length), (44, I (flE w P_1)), (43, I (flI w P_1)), (42, VV.sl (2) (flL w P_1).length), (38, VV.tup [VV.sl (2) (flL w P_1).length, I (flI w P_1), I (flE w P_1)]), (41, flV (2) w P_1), (40, VV.slice (VA.el 0 [] (0 : Int) 0) P.length cap), (39, VV.agg (wtL w)), (36, VV.bool false), (36, VV.bool (decide ((↑P.length : Int) > (20 : Int)))), (35, I (↑P.length : Int)), (34, VV.slice (VA.el 0 [] (0 : Int) 0) P.length cap), (12, VV.bool false), (6, VV.ptr (VA.own (1) 0)), (0, VV.agg (wtL w)), (1, VV.slice (VA.el 0 [] (0 : Int) 0) P.length cap), (2, I lim), (3, VV.int IntKind.u8 a), (4, VV.int IntKind.u32 u), (5, VV.int IntKind.u16 c)] (VH.mk 5 (nsJ.zip (BJ P w (flL w P) (wmS w P lim) (wmP w P lim)))) (dsJ.zip (VJ P.length cap (flL w P).length (wmS w P lim).length (wmP w P lim).length lim a u c (0 : Int) (0 : Int) (0 : Int))) ∧ (wmS w P lim = ixs (loF lim) (0 : Int) (flL w P) ∧ wmP w P lim = ixs (hiF lim) (0 : Int) (flL w P) ∧ (flL w P).length ≤ 100000) ∧ bif !decide ((↑(wmS w P lim).length : Int) = (↑(wmS w P lim).length : Int)) then
 Q (VRes.ret (VV.bool false))
 else bif !decide ((↑(wmP w P lim).length : Int) = (↑(wmP w P lim).length : Int)) then
 Q (VRes.ret (VV.bool false))
 else bif inK IntKind.i64 a then
 bif inK IntKind.i64 ((↑P.length : Int) + (1 : Int)) then
 bif decide ((0 : Int) ≤ (0 : Int) ∧ (0 : Int) ≤ remZ a ((↑P.length : Int) + (1 : Int)) ∧ remZ a ((↑P.length : Int) + (1 : Int)) ≤ (↑cap : Int)) then
 (∀ (j : Nat), j < (remZ a ((↑P.length : Int) + (1 : Int)) - (0 : Int)).toNat → (([] : List Int) = [] ∧ (0 : Int) ≤ (0 : Int) + (0 : Int) + (↑j : Int) ∧ (0 : Int) + (0 : Int) + (↑j : Int) < (↑P.length : Int)) ∧ ((ptI P) ((0 : Int) + (0 : Int) + (↑j : Int))).all VV.one = true) ∧ bif roomB (0 + (remZ a ((↑P.length : Int) + (1 : Int)) - (0 : Int)).toNat) (72) then
 bif inK IntKind.i64 u then
 bif inK IntKind.i64 u then
 bif (0 + (remZ a ((↑P.length : Int) + (1 : Int)) - (0 : Int)).toNat).beq (0 + (remZ a ((↑P.length : Int) + (1 : Int)) - (0 : Int)).toNat) then
 bif roomB (0 + (remZ a ((↑P.length : Int) + (1 : Int)) - (0 : Int)).toNat + 1) (72) then
 bif decide ((0 : Int) ≤ remZ a ((↑P.length : Int) + (1 : Int)) ∧ remZ a ((↑P.length : Int) + (1 : Int)) ≤ (↑P.length : Int) ∧ (↑P.length : Int) ≤ (↑cap : Int)) then
 (∀ (j : Nat), j < ((↑P.length : Int) - remZ a ((↑P.length : Int) + (1 : Int))).toNat → (([] : List Int) = [] ∧ (0 : Int) ≤ (0 : Int) + remZ a ((↑P.length : Int) + (1 : Int)) + (↑j : Int) ∧ (0 : Int) + remZ a ((↑P.length : Int) + (1 : Int)) + (↑j : Int) < (↑P.length : Int)) ∧ ((ptI P) ((0 : Int) + remZ a ((↑P.length : Int) + (1 : Int)) + (↑j : Int))).all VV.one = true) ∧ bif (0 + (remZ a ((↑P.length : Int) + (1 : Int)) - (0 : Int)).toNat + 1).beq (0 + (remZ a ((↑P.length : Int) + (1 : Int)) - (0 : Int)).toNat + 1) then
 bif roomB (0 + (remZ a ((↑P.length : Int) + (1 : Int)) - (0 : Int)).toNat + 1 + ((↑P.length : Int) - remZ a ((↑P.length : Int) + (1 : Int))).toNat) (72) then
 ∃ P_3, isList (VH.mk (7) ((5, VB.vec (0 + (remZ a ((↑P.length : Int) + (1 : Int)) - (0 : Int)).toNat + 1 + ((↑P.length : Int) - remZ a ((↑P.length : Int) + (1 : Int))).toNat) (catG (0 + (remZ a ((↑P.length : Int) + (1 : Int)) - (0 : Int)).toNat + 1) (catG (0 + (remZ a ((↑P.length : Int) + (1 : Int)) - (0 : Int)).toNat) (catG 0 nil9 fun j => (ptI P) ((0 : Int) + (0 : Int) + (↑j : Int))) fun j => List.take (9) (List.drop (j * (9)) [I 2, I 0, I 0, I 0, I 0, I u, I u, I 0, I 0])) fun j => (ptI P) ((0 : Int) + remZ a ((↑P.length : Int) + (1 : Int)) + (↑j : Int))) (9) 47) :: (5, VB.vec (0 + (remZ a ((↑P.length : Int) + (1 : Int)) - (0 : Int)).toNat + 1) (catG (0 + (remZ a ((↑P.length : Int) + (1 : Int)) - (0 : Int)).toNat) (catG 0 nil9 fun j => (ptI P) ((0 : Int) + (0 : Int) + (↑j : Int))) fun j => List.take (9) (List.drop (j * (9)) [I 2, I 0, I 0, I 0, I 0, I u, I u, I 0, I 0])) (9) 47) :: (6, VB.vec 1 (fun j => List.take (9) (List.drop (j * (9)) [I 2, I 0, I 0, I 0, I 0, I u, I u, I 0, I 0])) (9) 47) :: (5, VB.vec (0 + (remZ a ((↑P.length : Int) + (1 : Int)) - (0 : Int)).toNat) (catG 0 nil9 fun j => (ptI P) ((0 : Int) + (0 : Int) + (↑j : Int))) (9) 47) :: (5, VB.vec 0 nil9 (9) 47) :: nsJ.zip (BJ P w (flL w P) (wmS w P lim) (wmP w P lim)))) (VV.sl (5) (0 + (remZ a ((↑P.length : Int) + (1 : Int)) - (0 : Int)).toNat + 1 + ((↑P.length : Int) - remZ a ((↑P.length : Int) + (1 : Int))).toNat)) P_3.length 9 (pG P_3) ∧ bif decide (flE w P_3 = (0 : Int)) then
 bif inK IntKind.i64 ((↑(flL w P).length : Int) + (1 : Int)) then
 bif !decide ((↑(flL w P_3).length : Int) = (↑(flL w P).length : Int) + (1 : Int)) then
 Q (VRes.ret (VV.bool false))
 else FitP 0 (VH.mk (7 + 1) ((7, vecW (flL w P_3)) :: (5, VB.vec (0 + (remZ a ((↑P.length : Int) + (1 : Int)) - (0 : Int)).toNat + 1 + ((↑P.length : Int) - remZ a ((↑P.length : Int) + (1 : Int))).toNat) (catG (0 + (remZ a ((↑P.length : Int) + (1 : Int)) - (0 : Int)).toNat + 1) (catG (0 + (remZ a ((↑P.length : Int) + (1 : Int)) - (0 : Int)).toNat) (catG 0 nil9 fun j => (ptI P) ((0 : Int) + (0 : Int) + (↑j : Int))) fun j => List.take (9) (List.drop (j * (9)) [I 2, I 0, I 0, I 0, I 0, I u, I u, I 0, I 0])) fun j => (ptI P) ((0 : Int) + remZ a ((↑P.length : Int) + (1 : Int)) + (↑j : Int))) (9) 47) :: (5, VB.vec (0 + (remZ a ((↑P.length : Int) + (1 : Int)) - (0 : Int)).toNat + 1) (catG (0 + (remZ a ((↑P.length : Int) + (1 : Int)) - (0 : Int)).toNat) (catG 0 nil9 fun j => (ptI P) ((0 : Int) + (0 : Int) + (↑j : Int))) fun j => List.take (9) (List.drop (j * (9)) [I 2, I 0, I 0, I 0, I 0, I u, I u, I 0, I 0])) (9) 47) :: (6, VB.vec 1 (fun j => List.take (9) (List.drop (j * (9)) [I 2, I 0, I 0, I 0, I 0, I u, I u, I 0, I 0])) (9) 47) :: (5, VB.vec (0 + (remZ a ((↑P.length : Int) + (1 : Int)) - (0 : Int)).toNat) (catG 0 nil9 fun j => (ptI P) ((0 : Int) + (0 : Int) + (↑j : Int))) (9) 47) :: (5, VB.vec 0 nil9 (9) 47) :: nsJ.zip (BJ P w (flL w P) (wmS w P lim) (wmP w P lim)))) ((27, I 0) :: (177, VV.bool false) :: (177, VV.bool !decide ((↑(flL w P_3).length : Int) = (↑(flL w P).length : Int) + (1 : Int))) :: (176, I ((↑(flL w P).length : Int) + (1 : Int))) :: (175, I (↑(flL w P).length : Int)) :: (174, VV.sl 2 (flL w P).length) :: (173, I (↑(flL w P_3).length : Int)) :: (172, VV.sl (7) (flL w P_3).length) :: (171, VV.bool true) :: (171, VV.bool (decide (flE w P_3 = (0 : Int)))) :: (170, I (flE w P_3)) :: (26, I (flE w P_3)) :: (25, I (flI w P_3)) :: (24, VV.sl (7) (flL w P_3).length) :: (169, I (flE w P_3)) :: (168, I (flI w P_3)) :: (167, VV.sl (7) (flL w P_3).length) :: (163, VV.tup [VV.sl (7) (flL w P_3).length, I (flI w P_3), I (flE w P_3)]) :: (166, flV (7) w P_3) :: (165, VV.sl (5) (0 + (remZ a ((↑P.length : Int) + (1 : Int)) - (0 : Int)).toNat + 1 + ((↑P.length : Int) - remZ a ((↑P.length : Int) + (1 : Int))).toNat)) :: (164, VV.agg (wtL w)) :: (23, VV.sl (5) (0 + (remZ a ((↑P.length : Int) + (1 : Int)) - (0 : Int)).toNat + 1 + ((↑P.length : Int) - remZ a ((↑P.length : Int) + (1 : Int))).toNat)) :: (162, VV.sl (5) (0 + (remZ a ((↑P.length : Int) + (1 : Int)) - (0 : Int)).toNat + 1 + ((↑P.length : Int) - remZ a ((↑P.length : Int) + (1 : Int))).toNat)) :: (161, VV.slice (VA.el 0 [] ((0 : Int) + remZ a ((↑P.length : Int) + (1 : Int))) 0) ((↑P.length : Int) - remZ a ((↑P.length : Int) + (1 : Int))).toNat (cap - (remZ a ((↑P.length : Int) + (1 : Int))).toNat)) :: (160, I (remZ a ((↑P.length : Int) + (1 : Int)))) :: (159, VV.slice (VA.el 0 [] (0 : Int) 0) P.length cap) :: (158, VV.sl (5) (0 + (remZ a ((↑P.length : Int) + (1 : Int)) - (0 : Int)).toNat + 1)) :: (23, VV.sl (5) (0 + (remZ a ((↑P.length : Int) + (1 : Int)) - (0 : Int)).toNat + 1)) :: (157, VV.sl (5) (0 + (remZ a ((↑P.length : Int) + (1 : Int)) - (0 : Int)).toNat + 1)) :: (156, VV.sl (6) 1) :: (155, VV.agg [I 2, I 0, I 0, I 0, I 0, I u, I u, I 0, I 0]) :: (154, VV.agg [I u, I u]) :: (153, I u) :: (152, VV.int IntKind.u32 u) :: (151, I u) :: (150, VV.int IntKind.u32 u) :: (149, VV.sl (5) (0 + (remZ a ((↑P.length : Int) + (1 : Int)) - (0 : Int)).toNat)) :: (23, VV.sl (5) (0 + (remZ a ((↑P.length : Int) + (1 : Int)) - (0 : Int)).toNat)) :: (148, VV.sl (5) (0 + (remZ a ((↑P.length : Int) + (1 : Int)) - (0 : Int)).toNat)) :: (147, VV.slice (VA.el 0 [] ((0 : Int) + (0 : Int)) 0) (remZ a ((↑P.length : Int) + (1 : Int)) - (0 : Int)).toNat (cap - Int.toNat (0 : Int))) :: (146, I (remZ a ((↑P.length : Int) + (1 : Int)))) :: (145, VV.slice (VA.el 0 [] (0 : Int) 0) P.length cap) :: (144, VV.sl (5) 0) :: (22, I (remZ a ((↑P.length : Int) + (1 : Int)))) :: (143, I (remZ a ((↑P.length : Int) + (1 : Int)))) :: (142, I ((↑P.length : Int) + (1 : Int))) :: (141, I (↑P.length : Int)) :: (140, VV.slice (VA.el 0 [] (0 : Int) 0) P.length cap) :: (139, I a) :: (138, VV.int IntKind.u8 a) :: (137, VV.bool false) :: (137, VV.bool !decide ((↑(wmP w P lim).length : Int) = (↑(wmP w P lim).length : Int))) :: (136, VV.bool !decide ((↑(wmP w P lim).length : Int) = (↑(wmP w P lim).length : Int))) :: (132, VV.bool false) :: (135, I (↑(wmP w P lim).length : Int)) :: (132, VV.bool false) :: (134, VV.sl 4 (wmP w P lim).length) :: (132, VV.bool false) :: (133, I (↑(wmP w P lim).length : Int)) :: (132, VV.bool false) :: (132, VV.bool !decide ((↑(wmS w P lim).length : Int) = (↑(wmS w P lim).length : Int))) :: (131, VV.bool !decide ((↑(wmS w P lim).length : Int) = (↑(wmS w P lim).length : Int))) :: (130, I (↑(wmS w P lim).length : Int)) :: (129, VV.sl 3 (wmS w P lim).length) :: (128, I (↑(wmS w P lim).length : Int)) :: dsJ.zip (VJ P.length cap (flL w P).length (wmS w P lim).length (wmP w P lim).length lim a u c (↑(wmS w P lim).length : Int) (↑(wmP w P lim).length : Int) (↑(flL w P).length : Int))) (VH.mk 8 (nsK.zip (BK P w (flL w P) ys))) (dsK.zip (VK P.length cap (flL w P).length ys.length c k (0 : Int))) ∧ (CmpK (flL w P) ys k ∧ ys.length = (flL w P).length + 1 ∧ (flL w P).length ≤ 100000) ∧ bif inK IntKind.i64 c then
 bif inK IntKind.i64 (w.wlo - c) then
 bif inK IntKind.i64 c then
 bif inK IntKind.i64 (w.whi - c) then
 ∃ P_4, isList (VH.mk (9) ((8, VB.cells [I w.flo, I w.fhi, I (max (0 : Int) (w.wlo - c)), I (max (0 : Int) (w.whi - c))] 25) :: (8, VB.cells [I w.flo, I w.fhi, I (max (0 : Int) (w.wlo - c)), I w.whi] 25) :: (8, VB.cells (wtL w) 25) :: (8, VB.cells [I 0, I 0, I 0, I 0] 25) :: nsK.zip (BK P w (flL w P) ys))) (VV.slice (VA.el 0 [] (0 : Int) 0) P.length cap) P_4.length 9 (pG P_4) ∧ bif !decide (flE (Wt.mk w.flo w.fhi (max (0 : Int) (w.wlo - c)) (max (0 : Int) (w.whi - c))) P_4 = (0 : Int)) then
 Q (VRes.ret (VV.bool false))
 else bif !decide ((↑(flL (Wt.mk w.flo w.fhi (max (0 : Int) (w.wlo - c)) (max (0 : Int) (w.whi - c))) P_4).length : Int) = (↑(flL w P).length : Int)) then
 Q (VRes.ret (VV.bool false))
 else FitP 0 (VH.mk (9 + 1) ((9, vecW (flL (Wt.mk w.flo w.fhi (max (0 : Int) (w.wlo - c)) (max (0 : Int) (w.whi - c))) P_4)) :: (8, VB.cells [I w.flo, I w.fhi, I (max (0 : Int) (w.wlo - c)), I (max (0 : Int) (w.whi - c))] 25) :: (8, VB.cells [I w.flo, I w.fhi, I (max (0 : Int) (w.wlo - c)), I w.whi] 25) :: (8, VB.cells (wtL w) 25) :: (8, VB.cells [I 0, I 0, I 0, I 0] 25) :: nsK.zip (BK P w (flL w P) ys))) ((33, I 0) :: (265, VV.bool false) :: (265, VV.bool !decide ((↑(flL (Wt.mk w.flo w.fhi (max (0 : Int) (w.wlo - c)) (max (0 : Int) (w.whi - c))) P_4).length : Int) = (↑(flL w P).length : Int))) :: (264, VV.bool !decide ((↑(flL (Wt.mk w.flo w.fhi (max (0 : Int) (w.wlo - c)) (max (0 : Int) (w.whi - c))) P_4).length : Int) = (↑(flL w P).length : Int))) :: (259, VV.bool false) :: (263, I (↑(flL w P).length : Int)) :: (259, VV.bool false) :: (262, VV.sl 2 (flL w P).length) :: (259, VV.bool false) :: (261, I (↑(flL (Wt.mk w.flo w.fhi (max (0 : Int) (w.wlo - c)) (max (0 : Int) (w.whi - c))) P_4).length : Int)) :: (259, VV.bool false) :: (260, VV.sl (9) (flL (Wt.mk w.flo w.fhi (max (0 : Int) (w.wlo - c)) (max (0 : Int) (w.whi - c))) P_4).length) :: (259, VV.bool false) :: (259, VV.bool !decide (flE (Wt.mk w.flo w.fhi (max (0 : Int) (w.wlo - c)) (max (0 : Int) (w.whi - c))) P_4 = (0 : Int))) :: (258, VV.bool !decide (flE (Wt.mk w.flo w.fhi (max (0 : Int) (w.wlo - c)) (max (0 : Int) (w.whi - c))) P_4 = (0 : Int))) :: (257, I (flE (Wt.mk w.flo w.fhi (max (0 : Int) (w.wlo - c)) (max (0 : Int) (w.whi - c))) P_4)) :: (32, I (flE (Wt.mk w.flo w.fhi (max (0 : Int) (w.wlo - c)) (max (0 : Int) (w.whi - c))) P_4)) :: (31, I (flI (Wt.mk w.flo w.fhi (max (0 : Int) (w.wlo - c)) (max (0 : Int) (w.whi - c))) P_4)) :: (30, VV.sl (9) (flL (Wt.mk w.flo w.fhi (max (0 : Int) (w.wlo - c)) (max (0 : Int) (w.whi - c))) P_4).length) :: (256, I (flE (Wt.mk w.flo w.fhi (max (0 : Int) (w.wlo - c)) (max (0 : Int) (w.whi - c))) P_4)) :: (255, I (flI (Wt.mk w.flo w.fhi (max (0 : Int) (w.wlo - c)) (max (0 : Int) (w.whi - c))) P_4)) :: (254, VV.sl (9) (flL (Wt.mk w.flo w.fhi (max (0 : Int) (w.wlo - c)) (max (0 : Int) (w.whi - c))) P_4).length) :: (250, VV.tup [VV.sl (9) (flL (Wt.mk w.flo w.fhi (max (0 : Int) (w.wlo - c)) (max (0 : Int) (w.whi - c))) P_4).length, I (flI (Wt.mk w.flo w.fhi (max (0 : Int) (w.wlo - c)) (max (0 : Int) (w.whi - c))) P_4), I (flE (Wt.mk w.flo w.fhi (max (0 : Int) (w.wlo - c)) (max (0 : Int) (w.whi - c))) P_4)]) :: (253, flV (9) (Wt.mk w.flo w.fhi (max (0 : Int) (w.wlo - c)) (max (0 : Int) (w.whi - c))) P_4) :: (252, VV.slice (VA.el 0 [] (0 : Int) 0) P.length cap) :: (251, VV.agg [I w.flo, I w.fhi, I (max (0 : Int) (w.wlo - c)), I (max (0 : Int) (w.whi - c))]) :: (249, VV.ptr (VA.own (8) (3))) :: (248, VV.ptr (VA.own (8) (2))) :: (247, I (max (0 : Int) (w.whi - c))) :: (246, I (w.whi - c)) :: (245, I c) :: (244, VV.int IntKind.u16 c) :: (243, I w.whi) :: (242, VV.ptr (VA.own 1 (3))) :: (241, VV.ptr (VA.own 1 (2))) :: (240, VV.ptr (VA.own (8) (2))) :: (239, VV.ptr (VA.own (8) (2))) :: (238, I (max (0 : Int) (w.wlo - c))) :: (237, I (w.wlo - c)) :: (236, I c) :: (235, VV.int IntKind.u16 c) :: (234, I w.wlo) :: (233, VV.ptr (VA.own 1 (2))) :: (232, VV.ptr (VA.own 1 (2))) :: (29, VV.ptr (VA.own (8) 0)) :: (231, VV.agg (wtL w)) :: dsK.zip (VK P.length cap (flL w P).length ys.length c k (↑(flL w P).length : Int))) (VH.mk 10 ([2, 9].zip (BM (flL w P) zs))) (dsM.zip (VM (flL w P).length zs.length (0 : Int))) ∧ (CmpM (flL w P) zs ∧ zs.length = (flL w P).length ∧ (flL w P).length ≤ 100000) ∧ Q (VRes.ret (VV.bool true))
 else False
 else False
 else False
 else False
 else False
 else bif inK IntKind.i64 c then
 bif inK IntKind.i64 (w.wlo - c) then
 bif inK IntKind.i64 c then
 bif inK IntKind.i64 (w.whi - c) then
 ∃ P_4, isList (VH.mk (9) ((8, VB.cells [I w.flo, I w.fhi, I (max (0 : Int) (w.wlo - c)), I (max (0 : Int) (w.whi - c))] 25) :: (8, VB.cells [I w.flo, I w.fhi, I (max (0 : Int) (w.wlo - c)), I w.whi] 25) :: (8, VB.cells (wtL w) 25) :: (8, VB.cells [I 0, I 0, I 0, I 0] 25) :: (7, vecW (flL w P_3)) :: (5, VB.vec (0 + (remZ a ((↑P.length : Int) + (1 : Int)) - (0 : Int)).toNat + 1 + ((↑P.length : Int) - remZ a ((↑P.length : Int) + (1 : Int))).toNat) (catG (0 + (remZ a ((↑P.length : Int) + (1 : Int)) - (0 : Int)).toNat + 1) (catG (0 + (remZ a ((↑P.length : Int) + (1 : Int)) - (0 : Int)).toNat) (catG 0 nil9 fun j => (ptI P) ((0 : Int) + (0 : Int) + (↑j : Int))) fun j => List.take (9) (List.drop (j * (9)) [I 2, I 0, I 0, I 0, I 0, I u, I u, I 0, I 0])) fun j => (ptI P) ((0 : Int) + remZ a ((↑P.length : Int) + (1 : Int)) + (↑j : Int))) (9) 47) :: (5, VB.vec (0 + (remZ a ((↑P.length : Int) + (1 : Int)) - (0 : Int)).toNat + 1) (catG (0 + (remZ a ((↑P.length : Int) + (1 : Int)) - (0 : Int)).toNat) (catG 0 nil9 fun j => (ptI P) ((0 : Int) + (0 : Int) + (↑j : Int))) fun j => List.take (9) (List.drop (j * (9)) [I 2, I 0, I 0, I 0, I 0, I u, I u, I 0, I 0])) (9) 47) :: (6, VB.vec 1 (fun j => List.take (9) (List.drop (j * (9)) [I 2, I 0, I 0, I 0, I 0, I u, I u, I 0, I 0])) (9) 47) :: (5, VB.vec (0 + (remZ a ((↑P.length : Int) + (1 : Int)) - (0 : Int)).toNat) (catG 0 nil9 fun j => (ptI P) ((0 : Int) + (0 : Int) + (↑j : Int))) (9) 47) :: (5, VB.vec 0 nil9 (9) 47) :: nsJ.zip (BJ P w (flL w P) (wmS w P lim) (wmP w P lim)))) (VV.slice (VA.el 0 [] (0 : Int) 0) P.length cap) P_4.length 9 (pG P_4) ∧ bif !decide (flE (Wt.mk w.flo w.fhi (max (0 : Int) (w.wlo - c)) (max (0 : Int) (w.whi - c))) P_4 = (0 : Int)) then
 Q (VRes.ret (VV.bool false))
 else bif !decide ((↑(flL (Wt.mk w.flo w.fhi (max (0 : Int) (w.wlo - c)) (max (0 : Int) (w.whi - c))) P_4).length : Int) = (↑(flL w P).length : Int)) then
 Q (VRes.ret (VV.bool false))
 else FitP 0 (VH.mk (9 + 1) ((9, vecW (flL (Wt.mk w.flo w.fhi (max (0 : Int) (w.wlo - c)) (max (0 : Int) (w.whi - c))) P_4)) :: (8, VB.cells [I w.flo, I w.fhi, I (max (0 : Int) (w.wlo - c)), I (max (0 : Int) (w.whi - c))] 25) :: (8, VB.cells [I w.flo, I w.fhi, I (max (0 : Int) (w.wlo - c)), I w.whi] 25) :: (8, VB.cells (wtL w) 25) :: (8, VB.cells [I 0, I 0, I 0, I 0] 25) :: (7, vecW (flL w P_3)) :: (5, VB.vec (0 + (remZ a ((↑P.length : Int) + (1 : Int)) - (0 : Int)).toNat + 1 + ((↑P.length : Int) - remZ a ((↑P.length : Int) + (1 : Int))).toNat) (catG (0 + (remZ a ((↑P.length : Int) + (1 : Int)) - (0 : Int)).toNat + 1) (catG (0 + (remZ a ((↑P.length : Int) + (1 : Int)) - (0 : Int)).toNat) (catG 0 nil9 fun j => (ptI P) ((0 : Int) + (0 : Int) + (↑j : Int))) fun j => List.take (9) (List.drop (j * (9)) [I 2, I 0, I 0, I 0, I 0, I u, I u, I 0, I 0])) fun j => (ptI P) ((0 : Int) + remZ a ((↑P.length : Int) + (1 : Int)) + (↑j : Int))) (9) 47) :: (5, VB.vec (0 + (remZ a ((↑P.length : Int) + (1 : Int)) - (0 : Int)).toNat + 1) (catG (0 + (remZ a ((↑P.length : Int) + (1 : Int)) - (0 : Int)).toNat) (catG 0 nil9 fun j => (ptI P) ((0 : Int) + (0 : Int) + (↑j : Int))) fun j => List.take (9) (List.drop (j * (9)) [I 2, I 0, I 0, I 0, I 0, I u, I u, I 0, I 0])) (9) 47) :: (6, VB.vec 1 (fun j => List.take (9) (List.drop (j * (9)) [I 2, I 0, I 0, I 0, I 0, I u, I u, I 0, I 0])) (9) 47) :: (5, VB.vec (0 + (remZ a ((↑P.length : Int) + (1 : Int)) - (0 : Int)).toNat) (catG 0 nil9 fun j => (ptI P) ((0 : Int) + (0 : Int) + (↑j : Int))) (9) 47) :: (5, VB.vec 0 nil9 (9) 47) :: nsJ.zip (BJ P w (flL w P) (wmS w P lim) (wmP w P lim)))) ((33, I 0) :: (265, VV.bool false) :: (265, VV.bool !decide ((↑(flL (Wt.mk w.flo w.fhi (max (0 : Int) (w.wlo - c)) (max (0 : Int) (w.whi - c))) P_4).length : Int) = (↑(flL w P).length : Int))) :: (264, VV.bool !decide ((↑(flL (Wt.mk w.flo w.fhi (max (0 : Int) (w.wlo - c)) (max (0 : Int) (w.whi - c))) P_4).length : Int) = (↑(flL w P).length : Int))) :: (259, VV.bool false) :: (263, I (↑(flL w P).length : Int)) :: (259, VV.bool false) :: (262, VV.sl 2 (flL w P).length) :: (259, VV.bool false) :: (261, I (↑(flL (Wt.mk w.flo w.fhi (max (0 : Int) (w.wlo - c)) (max (0 : Int) (w.whi - c))) P_4).length : Int)) :: (259, VV.bool false) :: (260, VV.sl (9) (flL (Wt.mk w.flo w.fhi (max (0 : Int) (w.wlo - c)) (max (0 : Int) (w.whi - c))) P_4).length) :: (259, VV.bool false) :: (259, VV.bool !decide (flE (Wt.mk w.flo w.fhi (max (0 : Int) (w.wlo - c)) (max (0 : Int) (w.whi - c))) P_4 = (0 : Int))) :: (258, VV.bool !decide (flE (Wt.mk w.flo w.fhi (max (0 : Int) (w.wlo - c)) (max (0 : Int) (w.whi - c))) P_4 = (0 : Int))) :: (257, I (flE (Wt.mk w.flo w.fhi (max (0 : Int) (w.wlo - c)) (max (0 : Int) (w.whi - c))) P_4)) :: (32, I (flE (Wt.mk w.flo w.fhi (max (0 : Int) (w.wlo - c)) (max (0 : Int) (w.whi - c))) P_4)) :: (31, I (flI (Wt.mk w.flo w.fhi (max (0 : Int) (w.wlo - c)) (max (0 : Int) (w.whi - c))) P_4)) :: (30, VV.sl (9) (flL (Wt.mk w.flo w.fhi (max (0 : Int) (w.wlo - c)) (max (0 : Int) (w.whi - c))) P_4).length) :: (256, I (flE (Wt.mk w.flo w.fhi (max (0 : Int) (w.wlo - c)) (max (0 : Int) (w.whi - c))) P_4)) :: (255, I (flI (Wt.mk w.flo w.fhi (max (0 : Int) (w.wlo - c)) (max (0 : Int) (w.whi - c))) P_4)) :: (254, VV.sl (9) (flL (Wt.mk w.flo w.fhi (max (0 : Int) (w.wlo - c)) (max (0 : Int) (w.whi - c))) P_4).length) :: (250, VV.tup [VV.sl (9) (flL (Wt.mk w.flo w.fhi (max (0 : Int) (w.wlo - c)) (max (0 : Int) (w.whi - c))) P_4).length, I (flI (Wt.mk w.flo w.fhi (max (0 : Int) (w.wlo - c)) (max (0 : Int) (w.whi - c))) P_4), I (flE (Wt.mk w.flo w.fhi (max (0 : Int) (w.wlo - c)) (max (0 : Int) (w.whi - c))) P_4)]) :: (253, flV (9) (Wt.mk w.flo w.fhi (max (0 : Int) (w.wlo - c)) (max (0 : Int) (w.whi - c))) P_4) :: (252, VV.slice (VA.el 0 [] (0 : Int) 0) P.length cap) :: (251, VV.agg [I w.flo, I w.fhi, I (max (0 : Int) (w.wlo - c)), I (max (0 : Int) (w.whi - c))]) :: (249, VV.ptr (VA.own (8) (3))) :: (248, VV.ptr (VA.own (8) (2))) :: (247, I (max (0 : Int) (w.whi - c))) :: (246, I (w.whi - c)) :: (245, I c) :: (244, VV.int IntKind.u16 c) :: (243, I w.whi) :: (242, VV.ptr (VA.own 1 (3))) :: (241, VV.ptr (VA.own 1 (2))) :: (240, VV.ptr (VA.own (8) (2))) :: (239, VV.ptr (VA.own (8) (2))) :: (238, I (max (0 : Int) (w.wlo - c))) :: (237, I (w.wlo - c)) :: (236, I c) :: (235, VV.int IntKind.u16 c) :: (234, I w.wlo) :: (233, VV.ptr (VA.own 1 (2))) :: (232, VV.ptr (VA.own 1 (2))) :: (29, VV.ptr (VA.own (8) 0)) :: (231, VV.agg (wtL w)) :: (171, VV.bool false) :: (171, VV.bool (decide (flE w P_3 = (0 : Int)))) :: (170, I (flE w P_3)) :: (26, I (flE w P_3)) :: (25, I (flI w P_3)) :: (24, VV.sl (7) (flL w P_3).length) :: (169, I (flE w P_3)) :: (168, I (flI w P_3)) :: (167, VV.sl (7) (flL w P_3).length) :: (163, VV.tup [VV.sl (7) (flL w P_3).length, I (flI w P_3), I (flE w P_3)]) :: (166, flV (7) w P_3) :: (165, VV.sl (5) (0 + (remZ a ((↑P.length : Int) + (1 : Int)) - (0 : Int)).toNat + 1 + ((↑P.length : Int) - remZ a ((↑P.length : Int) + (1 : Int))).toNat)) :: (164, VV.agg (wtL w)) :: (23, VV.sl (5) (0 + (remZ a ((↑P.length : Int) + (1 : Int)) - (0 : Int)).toNat + 1 + ((↑P.length : Int) - remZ a ((↑P.length : Int) + (1 : Int))).toNat)) :: (162, VV.sl (5) (0 + (remZ a ((↑P.length : Int) + (1 : Int)) - (0 : Int)).toNat + 1 + ((↑P.length : Int) - remZ a ((↑P.length : Int) + (1 : Int))).toNat)) :: (161, VV.slice (VA.el 0 [] ((0 : Int) + remZ a ((↑P.length : Int) + (1 : Int))) 0) ((↑P.length : Int) - remZ a ((↑P.length : Int) + (1 : Int))).toNat (cap - (remZ a ((↑P.length : Int) + (1 : Int))).toNat)) :: (160, I (remZ a ((↑P.length : Int) + (1 : Int)))) :: (159, VV.slice (VA.el 0 [] (0 : Int) 0) P.length cap) :: (158, VV.sl (5) (0 + (remZ a ((↑P.length : Int) + (1 : Int)) - (0 : Int)).toNat + 1)) :: (23, VV.sl (5) (0 + (remZ a ((↑P.length : Int) + (1 : Int)) - (0 : Int)).toNat + 1)) :: (157, VV.sl (5) (0 + (remZ a ((↑P.length : Int) + (1 : Int)) - (0 : Int)).toNat + 1)) :: (156, VV.sl (6) 1) :: (155, VV.agg [I 2, I 0, I 0, I 0, I 0, I u, I u, I 0, I 0]) :: (154, VV.agg [I u, I u]) :: (153, I u) :: (152, VV.int IntKind.u32 u) :: (151, I u) :: (150, VV.int IntKind.u32 u) :: (149, VV.sl (5) (0 + (remZ a ((↑P.length : Int) + (1 : Int)) - (0 : Int)).toNat)) :: (23, VV.sl (5) (0 + (remZ a ((↑P.length : Int) + (1 : Int)) - (0 : Int)).toNat)) :: (148, VV.sl (5) (0 + (remZ a ((↑P.length : Int) + (1 : Int)) - (0 : Int)).toNat)) :: (147, VV.slice (VA.el 0 [] ((0 : Int) + (0 : Int)) 0) (remZ a ((↑P.length : Int) + (1 : Int)) - (0 : Int)).toNat (cap - Int.toNat (0 : Int))) :: (146, I (remZ a ((↑P.length : Int) + (1 : Int)))) :: (145, VV.slice (VA.el 0 [] (0 : Int) 0) P.length cap) :: (144, VV.sl (5) 0) :: (22, I (remZ a ((↑P.length : Int) + (1 : Int)))) :: (143, I (remZ a ((↑P.length : Int) + (1 : Int)))) :: (142, I ((↑P.length : Int) + (1 : Int))) :: (141, I (↑P.length : Int)) :: (140, VV.slice (VA.el 0 [] (0 : Int) 0) P.length cap) :: (139, I a) :: (138, VV.int IntKind.u8 a) :: (137, VV.bool false) :: (137, VV.bool !decide ((↑(wmP w P lim).length : Int) = (↑(wmP w P lim).length : Int))) :: (136, VV.bool !decide ((↑(wmP w P lim).length : Int) = (↑(wmP w P lim).length : Int))) :: (132, VV.bool false) :: (135, I (↑(wmP w P lim).length : Int)) :: (132, VV.bool false) :: (134, VV.sl 4 (wmP w P lim).length) :: (132, VV.bool false) :: (133, I (↑(wmP w P lim).length : Int)) :: (132, VV.bool false) :: (132, VV.bool !decide ((↑(wmS w P lim).length : Int) = (↑(wmS w P lim).length : Int))) :: (131, VV.bool !decide ((↑(wmS w P lim).length : Int) = (↑(wmS w P lim).length : Int))) :: (130, I (↑(wmS w P lim).length : Int)) :: (129, VV.sl 3 (wmS w P lim).length) :: (128, I (↑(wmS w P lim).length : Int)) :: dsJ.zip (VJ P.length cap (flL w P).length (wmS w P lim).length (wmP w P lim).length lim a u c (↑(wmS w P lim).length : Int) (↑(wmP w P lim).length : Int) (↑(flL w P).length : Int))) (VH.mk 10 ([2, 9].zip (BM (flL w P) zs))) (dsM.zip (VM (flL w P).length zs.length (0 : Int))) ∧ (CmpM (flL w P) zs ∧ zs.length = (flL w P).length ∧ (flL w P).length ≤ 100000) ∧ Q (VRes.ret (VV.bool true))
 else False
 else False
 else False
 else False
 else False
 else False
 else False
 else False
 else False
 else False
 else False
 else False
 else False
 else False
 else False) := by kernel_rfl


end Go.Sx.Str

/- stream: the law StreamWarmer. -/

namespace Go.Sx.Str
open Go Go.Sx Go.Proofs
set_option maxRecDepth 100000

theorem all2_get {α β : Type} {R : α → β → Prop} : ∀ {l : List α} {m : List β}, All2 R l m → l.length = m.length ∧ ∀ (i : Nat) (d : α) (e : β), i < l.length → R (l.getD i d) (m.getD i e)
  | _, _, .nil => ⟨rfl, fun i _ _ h => absurd h (Nat.not_lt_zero i)⟩
  | _, _, .cons h t => by
    obtain ⟨h1, h2⟩ := all2_get t
    refine ⟨by simp [h1], fun i d e hi => ?_⟩
    match i, hi with
    | 0, _ => exact h
    | i + 1, hi =>
      simp only [List.length_cons] at hi
      exact h2 i d e (by omega)

theorem leW_refl (w : Wt) : LeW w w := ⟨⟨rfl, rfl⟩, Int.le_refl _, Int.le_refl _⟩

theorem getD_app_lt {A B : List Wt} {i : Nat} (h : i < A.length) : (A ++ B).getD i w0 = A.getD i w0 := by
  rw [List.getD_eq_getElem?_getD, List.getD_eq_getElem?_getD, List.getElem?_append_left h]
theorem getD_app_ge {A B : List Wt} {i : Nat} (h : A.length ≤ i) : (A ++ B).getD i w0 = B.getD (i - A.length) w0 := by
  rw [List.getD_eq_getElem?_getD, List.getD_eq_getElem?_getD, List.getElem?_append_right h]

/-- More heat makes no point less warm. -/
theorem heat_cmp {w : Wt} {P : List Pt} {k : Nat} {u : Int} (hw : WOk w) (hk : k ≤ P.length) (hu : 0 ≤ u) (h0 : rE w P = 0) (h1 : rE w (insP P k u) = 0) : CmpK (rL w P) (rL w (insP P k u)) k := by
  have hz : rE w (P.take k) = 0 := by
    by_cases hz : rE w (P.take k) = 0
    · exact hz
    · rw [(ins_run (w := w) (heat := u) hk).1, if_neg hz] at h1
      exact h1
  have hw1 := end_ok hw hz
  rw [(ins_run (w := w) (heat := u) hk).1, if_pos hz] at h1
  obtain ⟨c1, c2, c3⟩ := rE_cons h1
  have l := add_le hw1 hu
  have hs := step_ok hw1 (ptB_iff.1 c1) c2
  obtain ⟨_, hall⟩ := run_le hw1 hs l c3
  obtain ⟨hlen, hget⟩ := all2_get hall
  have hA : (rL w (P.take k)).length = k := by rw [rL_len, List.length_take]; omega
  have eP : rL w P = rL w (P.take k) ++ rL (endW w (P.take k)) (P.drop k) := by rw [← rL_app, List.take_append_drop]
  have eI : rL w (insP P k u) = rL w (P.take k) ++ stepW (endW w (P.take k)) (mP u) :: rL (stepW (endW w (P.take k)) (mP u)) (P.drop k) := by
    unfold insP
    rw [rL_app]; rfl
  intro i i0 i1
  rw [rL_len] at i1
  rw [eP, eI]
  by_cases hik : i ≥ (k : Int)
  · rw [if_pos hik, getD_app_ge (by omega), getD_app_ge (by omega), hA, show (i + 1).toNat - k = (i.toNat - k) + 1 by omega]
    have := hget (i.toNat - k) w0 w0 (by rw [rL_len, List.length_drop]; omega)
    simpa using this
  · rw [if_neg hik, getD_app_lt (by omega), getD_app_lt (by omega)]
    exact leW_refl _

def coldW (w : Wt) (c : Int) : Wt := ⟨w.flo, w.fhi, max 0 (w.wlo - c), max 0 (w.whi - c)⟩

theorem cold_ok {w : Wt} {c : Int} (hw : WOk w) (hc : 0 ≤ c) : WOk (coldW w c) ∧ LeW (coldW w c) w := by
  obtain ⟨f1, f2, f3⟩ := hw.f
  obtain ⟨v1, v2, v3⟩ := hw.w
  refine ⟨⟨⟨f1, f2, f3⟩, ?_, ?_, ?_⟩, ⟨rfl, rfl⟩, ?_, ?_⟩
  · show 0 ≤ max 0 (w.wlo - c); omega
  · show max 0 (w.wlo - c) ≤ max 0 (w.whi - c); omega
  · show max 0 (w.whi - c) ≤ 100000; omega
  · show max 0 (w.wlo - c) ≤ w.wlo; omega
  · show max 0 (w.whi - c) ≤ w.whi; omega

theorem cold_cmp {w : Wt} {P : List Pt} {c : Int} (hw : WOk w) (hc : 0 ≤ c) (h0 : rE w P = 0) : rE (coldW w c) P = 0 ∧ CmpM (rL w P) (rL (coldW w c) P) := by
  obtain ⟨h1, h2⟩ := cold_ok hw hc
  obtain ⟨g1, g2⟩ := run_le h1 hw h2 h0
  obtain ⟨_, hget⟩ := all2_get g2
  refine ⟨g1, fun i i0 i1 => hget i.toNat w0 w0 ?_⟩
  rw [rL_len] at i1 ⊢
  omega

theorem tL8_ok : ∀ x ∈ tL8, SpOk Try.prog x.1 x.2 := by
  intro x hx
  simp only [tL8, List.mem_cons, List.not_mem_nil, or_false] at hx
  rcases hx with rfl | rfl | rfl
  · exact awT_ok
  · exact fl13_ok
  · exact wm15_ok

theorem flE_mk {w : Wt} {P : List Pt} (hw : WOk w) (hn : P.length ≤ 64) : flE w P = rE w P := (flE_o (watB_iff.2 hw) (by omega)).1

theorem wmE_fl {w : Wt} {P : List Pt} {lim : Int} (h : wmE w P lim = 0) : flE w P = 0 := by
  unfold wmE at h
  cases h3 : watB w
  · rw [h3] at h; exact absurd h (show (1 : Int) ≠ 0 by decide)
  · rw [h3] at h
    cases h4 : inB lim 0 100000
    · rw [h4] at h; exact absurd h (show (2 : Int) ≠ 0 by decide)
    · rw [h4] at h; exact h

theorem law8_v {w : Wt} {P : List Pt} {cap : Nat} {lim a u c : Int} (ha : 0 ≤ a ∧ a ≤ 255) (hu : 0 ≤ u ∧ u ≤ 4294967295) (hc : 0 ≤ c ∧ c ≤ 65535) :
    ∃ h', CallsV Try.prog 8 [.agg (wtL w), .slice (.el 0 [] 0 0) P.length cap, I lim, .int .u8 a, .int .u32 u, .int .u16 c] ⟨1, [(0, ptsA P.length (pF P))]⟩ (.ret (.bool true)) h' := by
  by_cases hcap : cap < P.length
  · exact ⟨⟨0, []⟩, vac_cap hcap⟩
  have hKr : 0 ≤ remZ a ((P.length : Int) + 1) ∧ remZ a ((P.length : Int) + 1) < P.length + 1 := by
    rw [remZ_nn ha.1]
    exact ⟨Int.emod_nonneg _ (by omega), Int.emod_lt_of_pos _ (by omega)⟩
  have hsp := spBL_ok hmix (tabs_ok tL8_ok) (f := 8) (l := ls8 P cap w lim a u c (remZ a ((P.length : Int) + 1)) (flL w (insP P (remZ a ((P.length : Int) + 1)).toNat u)) (flL (coldW w c) P)) (fun x hx => by
    simp only [ls8, List.mem_cons, List.not_mem_nil, or_false] at hx
    rcases hx with rfl | rfl | rfl
    · exact ⟨by kernel_rfl, LJ_ok⟩
    · exact ⟨by kernel_rfl, LK_ok⟩
    · exact ⟨by kernel_rfl, LM_ok⟩) (un := 10) (fu := 20)
  obtain ⟨r, h', hQ, hcc⟩ := of_sp hsp (args := [.agg (wtL w), .slice (.el 0 [] 0 0) P.length cap, I lim, .int .u8 a, .int .u32 u, .int .u16 c]) (h := ⟨1, [(0, ptsA P.length (pF P))]⟩) (K := fun r _ => r = .ret (.bool true))
    (by
      refine cast (law8_ev P cap w lim a u c _ _ _ _).symm ?_
      generalize remZ a ((P.length : Int) + 1) = K at hKr
      obtain ⟨k, rfl⟩ : ∃ k : Nat, K = (k : Int) := ⟨K.toNat, by omega⟩
      have hk : k ≤ P.length := by omega
      rw [Int.toNat_natCast]
      refine cond_d (fun _ => rfl) (fun hn => ⟨P, isList_arr rfl, P, isList_arr rfl, ?_⟩)
      by_cases he : flE w P = 0
      · by_cases hf : wmE w P lim = 0
        · obtain ⟨l1, l2, l3⟩ := flE_len he
          have hw := watB_iff.1 l2
          obtain ⟨s1, s2⟩ := wm_good hf
          have hL := flL_0 he
          have hLn : (flL w P).length = P.length := by rw [hL, rL_len]
          refine cond_nd (fun h => absurd he h) (fun _ => cond_nd (fun h => absurd hf h) (fun _ => ?_))
          refine ⟨⟨⟨rfl, rfl, VB.fit_refl _, VB.fit_refl _, VB.fit_refl _, VB.fit_refl _, VB.fit_refl _, trivial⟩, rfl, rfl, rfl, rfl, rfl, rfl, rfl, rfl, rfl, rfl, rfl, rfl, trivial⟩, ⟨by rw [s1, hL], by rw [s2, hL], by omega⟩, ?_⟩
          refine cond_nd (fun h => absurd rfl h) (fun _ => cond_nd (fun h => absurd rfl h) (fun _ => cond_r (by omega) (cond_r (by omega) ?_)))
          have e1 : ((k : Int) - 0).toNat = k := by omega
          have e2 : ((P.length : Int) - k).toNat = P.length - k := by omega
          have hl := ins_len (heat := u) hk
          have hlen : 0 + ((k : Int) - 0).toNat + 1 + ((P.length : Int) - k).toNat = (insP P k u).length := by rw [hl, e1, e2]; omega
          have hEI := flE_mk (w := w) (P := insP P k u) hw (by rw [hl]; omega)
          obtain ⟨q1, q2⟩ := cold_ok hw hc.1
          obtain ⟨q3, q4⟩ := cold_cmp (P := P) hw hc.1 l3
          have hEC := flE_mk (w := coldW w c) (P := P) q1 l1
          rw [q3] at hEC
          have hLC := flL_0 hEC
          have hv := hw.w
          have fin : ∀ h : VH, h.nx = 10 → h.at 2 = vecW (flL w P) → h.at 9 = vecW (flL (coldW w c) P) → ∀ t : Slots, look t 33 = I 0 → look t 30 = .sl 9 (flL (coldW w c) P).length → look t 13 = .sl 2 (flL w P).length →
              FitP 0 h t ⟨10, [2, 9].zip (BM (flL w P) (flL (coldW w c) P))⟩ (dsM.zip (VM (flL w P).length (flL (coldW w c) P).length 0)) ∧ (CmpM (flL w P) (flL (coldW w c) P) ∧ (flL (coldW w c) P).length = (flL w P).length ∧ (flL w P).length ≤ 100000) ∧ VRes.ret (.bool true) = .ret (.bool true) :=
            fun h n1 n2 n3 t t1 t2 t3 => ⟨⟨⟨rfl, n1, by rw [n2]; exact VB.fit_refl _, by rw [n3]; exact VB.fit_refl _, trivial⟩, t1, t2, t3, trivial⟩, ⟨by rw [hL, hLC]; exact q4, by rw [hLC, rL_len, hLn], by omega⟩, rfl⟩
          refine cond_dk ⟨by omega, by omega, by omega⟩ ⟨fun j hj => ⟨⟨rfl, by omega, by omega⟩, rfl⟩, cond_k (room72 (by omega)) (cond_r (by omega) (cond_r (by omega) (cond_k (Nat.beq_refl _) (cond_k (room72 (by omega)) (cond_dk ⟨by omega, by omega, by omega⟩ ⟨fun j hj => ⟨⟨rfl, by omega, by omega⟩, rfl⟩, cond_k (Nat.beq_refl _) (cond_k (room72 (by omega)) ?_)⟩)))))⟩
          refine ⟨insP P k u, ⟨hlen, _, _, rfl, fun j hj => ?_⟩, cond_d (fun h0 => ?_) (fun h0 => ?_)⟩
          · exact ins_cat hk e1 (fun j hj => ptI_pG (by omega)) (fun j => ptI_pG (by omega)) j
          · have hLI := flL_0 h0
            have hLIn : (flL w (insP P k u)).length = (flL w P).length + 1 := by rw [hLI, rL_len, hl, hLn]
            refine cond_r (by omega) (cond_nd (fun h => absurd (show (((flL w (insP P k u)).length : Nat) : Int) = ((flL w P).length : Int) + 1 by rw [hLIn]; omega) h) (fun _ => ?_))
            refine ⟨⟨⟨rfl, rfl, VB.fit_refl _, VB.fit_refl _, VB.fit_refl _, VB.fit_refl _, trivial⟩, rfl, rfl, rfl, rfl, rfl, rfl, rfl, trivial⟩, ⟨?_, hLIn, by omega⟩, ?_⟩
            · rw [hEI] at h0
              rw [hL, hLI]
              exact heat_cmp hw hk hu.1 l3 h0
            · refine cond_r (by omega) (cond_r (by omega) (cond_r (by omega) (cond_r (by omega) ⟨P, isList_arr rfl, cond_nd (fun h => absurd hEC h) (fun _ => cond_nd (fun h => absurd (show (((flL (coldW w c) P).length : Nat) : Int) = ((flL w P).length : Int) by rw [hLC, rL_len, hLn]) h) (fun _ => ?_))⟩)))
              exact fin _ rfl rfl rfl _ rfl rfl rfl
          · refine cond_r (by omega) (cond_r (by omega) (cond_r (by omega) (cond_r (by omega) ⟨P, isList_arr rfl, cond_nd (fun h => absurd hEC h) (fun _ => cond_nd (fun h => absurd (show (((flL (coldW w c) P).length : Nat) : Int) = ((flL w P).length : Int) by rw [hLC, rL_len, hLn]) h) (fun _ => ?_))⟩)))
            exact fin _ rfl rfl rfl _ rfl rfl rfl
        · obtain ⟨s1, s2⟩ := wm_bad hf
          refine cond_nd (fun h => absurd he h) (fun _ => cond_nd (fun _ => cond_dk he ?_) (fun h => absurd h hf))
          rw [s1, s2]
          exact cond_dk rfl (cond_dk rfl rfl)
      · have hf : wmE w P lim ≠ 0 := fun h => he (wmE_fl h)
        obtain ⟨s1, s2⟩ := wm_bad hf
        refine cond_nd (fun _ => cond_d (fun h => absurd h he) (fun _ => cond_nd (fun _ => ?_) (fun h => absurd h hf))) (fun h => absurd h he)
        rw [s1, s2]
        exact cond_dk rfl (cond_dk rfl rfl))
  subst hQ
  exact ⟨h', hcc⟩
end Go.Sx.Str

/- stream: small numbers of the machine, read. -/

namespace Go.Sx.Str
open Go Go.Sx Go.Proofs Go.ChangeShapes Go.WideShapes Go.RowKit

theorem und5 : Try.prog.underlying 5 = some (.int .u8) := by kernel_rfl
theorem und59 : Try.prog.underlying 59 = some (.int .u16) := by kernel_rfl
theorem wf_u8 {n : Int} (h : (Lit.int .u8 n).wf = true) : 0 ≤ n ∧ n ≤ 255 := by
  have h' : (decide ((0 : Int) ≤ n) && decide (n ≤ 255)) = true := h
  simpa using h'
theorem wf_u16 {n : Int} (h : (Lit.int .u16 n).wf = true) : 0 ≤ n ∧ n ≤ 65535 := by
  have h' : (decide ((0 : Int) ≤ n) && decide (n ≤ 65535)) = true := h
  simpa using h'
end Go.Sx.Str
