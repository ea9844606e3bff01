/- malt: MaltPlays returns true for all arguments. -/
import Derived.Test.YtdfbhoejljidfaaMxg
import Derived.Test.YtdfbhoejljidfaaSxR

namespace Go.Sx.Malt
open Go Go.Sx Go.Proofs
set_option maxRecDepth 100000

theorem awT_ok : SpOk Try.prog awT.1 awT.2 := by
  intro lock args h K hK
  simp only [awT] at hK
  split at hK
  · exact ⟨_, h, hK, lockP_refl _ _, awake_v h⟩
  · exact hK.elim

theorem plRow_ok {g : FuncId} {S : VB → VV → Prop} {F : Int → Int → Int → Int → Int → Int → Vat × Int × Int}
    (hF : ∀ (h : VH) sl, (S (h.at 0) sl ∨ S .gone sl) → ∀ a b c d e f, CallsV Try.prog g [.agg [I a, I b, I c, I d, I e, I f], sl] h (res4 (F a b c d e f)) h) : SpOk Try.prog (plRow g S F).1 (plRow g S F).2 := by
  intro lock args h K hK
  simp only [plRow] at hK
  split at hK
  · split at hK
    · rename_i hh
      exact ⟨_, h, hK.2, lockP_refl _ _, hF h _ (.inl (by rw [hh]; exact hK.1)) _ _ _ _ _ _⟩
    · exact ⟨_, h, hK.2, lockP_refl _ _, hF h _ (.inr hK.1) _ _ _ _ _ _⟩
  · exact hK.elim

theorem moRow_ok {g : FuncId} {M : Int → Int → Int → Int → Int → Int → Int × Int × Int}
    (hM : ∀ a b c d e f h, CallsV Try.prog g [.agg [I a, I b, I c, I d, I e, I f]] h (res3 (M a b c d e f)) h) : SpOk Try.prog (moRow g M).1 (moRow g M).2 := by
  intro lock args h K hK
  simp only [moRow] at hK
  split at hK
  · exact ⟨_, h, hK, lockP_refl _ _, hM _ _ _ _ _ _ h⟩
  · exact hK.elim

theorem slS_or {ok : List Int → Int → Prop} {kf af bf : Int → Int} {a0 : VB} {sl : VV} {off : Int} {n : Nat} (h : SlS ok kf af bf a0 sl off n ∨ SlS ok kf af bf .gone sl off n) : SlS ok kf af bf a0 sl off n := by
  rcases h with h | ⟨c, _, h, _⟩ | h
  · exact h
  · cases h
  · exact .inr h

section
variable (ok : List Int → Int → Prop) (kf af bf : Int → Int)

theorem law1_tab (off : Int) (n : Nat) : ∀ x ∈ [awT, plRow 12 (fun a sl => SlS ok kf af bf a sl off n) (plF kf af bf off n), plRow 13 (fun a sl => SlS ok kf af bf a sl off n) (plF kf af bf off n), moRow 14 moF, moRow 15 moF, moRow 16 phF, moRow 17 phF], SpOk Try.prog x.1 x.2 := by
  intro x hx
  simp only [List.mem_cons, List.not_mem_nil, or_false] at hx
  rcases hx with rfl | rfl | rfl | rfl | rfl | rfl | rfl
  · exact awT_ok
  · exact plRow_ok fun h sl hs => play_v ok kf af bf (slS_or hs)
  · exact plRow_ok fun h sl hs => rplay_v ok kf af bf (slS_or hs)
  · exact moRow_ok moist_v
  · exact moRow_ok rmoist_v
  · exact moRow_ok phen_v
  · exact moRow_ok rphen_v

theorem boQ_true {Q : Bool → Prop} {r : VRes} {h : VH} (hr : boQ Q r h) (hQ : ∀ b, Q b → b = true) : r = .ret (.bool true) := by
  unfold boQ at hr
  split at hr
  · rw [hQ _ hr]
  · exact hr.elim

theorem law1_v (n k : Nat) (hok : ∀ j : Int, 0 ≤ j → j < (n : Int) → ok [] j) (a b c d e f : Int) :
    ∃ h', CallsV Try.prog 3 [.agg [I a, I b, I c, I d, I e, I f], .slice (.el 0 [] 0 0) n k] ⟨1, [(0, .arr 3 ok (gS kf af bf))]⟩ (.ret (.bool true)) h' := by
  have hs : SlS ok kf af bf (.arr 3 ok (gS kf af bf)) (.slice (.el 0 [] 0 0) n k) 0 n := .inl ⟨k, rfl, rfl, Int.le_refl 0, fun j h1 h2 => by rw [Int.zero_add]; exact hok j h1 h2⟩
  obtain ⟨r, h', h1, h2⟩ := of_callN (tab_good hmix (law1_tab ok kf af bf 0 n) 20) (f := 3) (h := ⟨1, [(0, .arr 3 ok (gS kf af bf))]⟩) (args := [.agg [I a, I b, I c, I d, I e, I f], .slice (.el 0 [] 0 0) n k]) (K := boQ (fun b => b = true))
    (by
      rw [law1_ev]
      simp only [decide_true, Bool.and_self, cond_true]
      repeat' (refine cond_d (fun _ => ?_) (fun _ => ?_))
      all_goals first
        | trivial
        | exact ⟨hs, hs, trivial⟩
        | exact ⟨hs, trivial⟩)
  have := boQ_true h1 (fun _ h => h)
  subst this
  exact ⟨h', h2⟩

end

theorem law1n_v (a b c d e f : Int) : ∃ h', CallsV Try.prog 3 [.agg [I a, I b, I c, I d, I e, I f], .nils] ⟨0, []⟩ (.ret (.bool true)) h' := by
  have hs : SlS (fun _ _ => True) (fun _ => 0) (fun _ => 0) (fun _ => 0) .gone .nils 0 0 := .inr ⟨rfl, rfl⟩
  obtain ⟨r, h', h1, h2⟩ := of_callN (tab_good hmix (law1_tab (fun _ _ => True) (fun _ => 0) (fun _ => 0) (fun _ => 0) 0 0) 20) (f := 3) (h := ⟨0, []⟩) (args := [.agg [I a, I b, I c, I d, I e, I f], .nils]) (K := boQ (fun b => b = true))
    (by
      rw [law1n_ev]
      simp only [decide_true, Bool.and_self, cond_true]
      first
        | exact ⟨hs, hs, trivial⟩
        | exact ⟨hs, trivial⟩)
  have := boQ_true h1 (fun _ h => h)
  subst this
  exact ⟨h', h2⟩
end Go.Sx.Malt
