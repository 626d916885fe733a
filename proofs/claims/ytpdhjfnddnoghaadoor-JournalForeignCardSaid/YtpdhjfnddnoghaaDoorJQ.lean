/- slices.Clone of texts; Records.
   Conditions: the texts, the journal lie in memory. -/
import Derived.Test.YtpdhjfnddnoghaaDoorJP
namespace Go.Proofs.YtpdhjfnddnoghaaDoor
open Go.RowKit Go.Lib
set_option linter.unusedVariables false
set_option linter.unusedSimpArgs false

theorem clone_calls (w : World) (v : Value) (xs : List ByteArray) (hv : TextsAt w v xs) (hx : xs.length ≤ 1000000) :
    Calls Tryd.prog 24 #[v] w (Copied w xs) := by
  obtain ⟨A, cap, rfl, hA⟩ := hv
  rcases Nat.eq_zero_or_pos xs.length with h0 | h0
  · have hxs : xs = [] := List.length_eq_zero_iff.1 h0
    subst hxs
    cases A with
    | none =>
      refine (Tryd.slices_Clone_string_nil 0 cap w).mono ?_
      rintro e w' ⟨rfl, rfl⟩
      exact ⟨_, rfl, World.ownsRow_nil _ _ _ _, Below.refl _ _⟩
    | some a =>
      refine (Tryd.slices_Clone_string_zero a cap w).mono ?_
      rintro e w' ⟨v', rfl, ho, _, hb⟩
      exact ⟨v', rfl, ho, hb⟩
  · obtain ⟨b, off, rfl, hbl, hc⟩ := hA h0
    refine (Tryd.slices_Clone_string b off xs.length cap xs w (Nat.le_refl _) (by omega) fun j hj => ?_).mono ?_
    · rw [hc j hj, List.getD_eq_getElem?_getD, List.getElem?_eq_getElem hj]
      rfl
    · rintro e w' ⟨v', rfl, ho, _, hb⟩
      rw [List.take_length] at ho
      exact ⟨v', rfl, ho, hb⟩
set_option maxRecDepth 100000 in
theorem records_calls {w : World} {G : Nat → Prop} {j d : Nat} {js : JSt} (h : JAt w G j d js) (hx : js.recs.length ≤ 1000000) :
    Calls Tryd.prog 12 #[.pointer (some ⟨j, 0, none⟩)] w (Copied w js.recs) := by
  obtain ⟨rv, h1, h2, h3, h4, h5⟩ := h
  have c3 := cell_blk h1 3
  simp only [List.getElem?_toArray, List.getElem?_cons_zero, List.getElem?_cons_succ] at c3
  have cc := clone_calls w rv js.recs (TextsAt.of_own h2) hx
  clear h1 h2 h3 h4 h5
  go_enter Tryd.func12, Tryd.ntmps12
  go_wp2_with fail
  refine cc.mono ?_
  clear cc
  rintro e w1 ⟨v, rfl, ho, hb⟩
  have HO := Lib.hid ho
  have HB := Lib.hid hb
  clear ho hb
  go_wp2_with fail
  go_ret
  exact ⟨_, rfl, HO.out, HB.out⟩
set_option maxRecDepth 100000 in
theorem records_nil (w : World) : Calls Tryd.prog 12 #[.pointer none] w fun e w' => e = .returned (.slice none 0 0) ∧ w = w' := by
  go_enter Tryd.func12, Tryd.ntmps12
  go_wp2_with fail
  go_ret
  exact ⟨rfl, rfl⟩
end Go.Proofs.YtpdhjfnddnoghaaDoor
