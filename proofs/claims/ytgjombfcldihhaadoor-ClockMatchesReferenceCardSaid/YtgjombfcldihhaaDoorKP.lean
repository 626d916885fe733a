/- Plain laws of the clock: the spans of a valid zone tile the instants.
   Conditions: none. -/
import Derived.Test.YtgjombfcldihhaaDoorKF
namespace Go.Proofs.YtgjombfcldihhaaDoor
open Go.RowKit Go.Lib
set_option linter.unusedVariables false

theorem shsOk_sorted {first : Bool} {last : Int} {l : List Sh} (h : shsOk first last l = true) : ∀ k (hk : k + 1 < l.length), l[k].f < l[k + 1].f := by
  induction l generalizing first last with
  | nil => intro k hk; simp at hk
  | cons x l ih =>
    simp only [shsOk, Bool.and_eq_true] at h
    intro k hk
    cases k with
    | zero =>
      cases l with
      | nil => simp at hk
      | cons y l =>
        have h2 := h.2
        simp only [shsOk, Bool.and_eq_true] at h2
        exact (shOk_good h2.1).2.1
    | succ k => exact ih h.2 k (by simpa using hk)
theorem shsOk_first {last : Int} {l : List Sh} (h : shsOk true last l = true) (h0 : 0 < l.length) : l[0].f = 0 := by
  cases l with
  | nil => simp at h0
  | cons x l =>
    simp only [shsOk, Bool.and_eq_true] at h
    rcases (shOk_good h.1).1 with h1 | h1
    · cases h1
    · exact h1
structure Tiles (l : List Sh) : Prop where
  pos : 0 < l.length
  zero : l[0].f = 0
  each : ∀ k (h : k < l.length), (0 ≤ l[k].f ∧ l[k].f ≤ 144001439) ∧ -840 ≤ l[k].o ∧ l[k].o ≤ 840
  up : ∀ k (h : k + 1 < l.length), l[k].f < l[k + 1].f
theorem tiles_of {l : List Sh} (h : validB l = true) : Tiles l := by
  have hf := valid_facts h
  simp only [validB, Bool.and_eq_true, decide_eq_true_eq] at h
  exact ⟨h.2.1, shsOk_first h.1 h.2.1, fun k hk => hf.1 _ (List.getElem_mem hk), shsOk_sorted h.1⟩
theorem spanAt_fst {l : List Sh} {k : Nat} (h : k < l.length) : (spanAt l k).1 = l[k] := by unfold spanAt; rw [List.getElem?_eq_getElem h]; rfl
theorem spanAt_mid {l : List Sh} {k : Nat} (h : k + 1 < l.length) : (spanAt l k).2 = l[k + 1].f - 1 := by unfold spanAt; rw [if_pos h, List.getElem?_eq_getElem h]; rfl
theorem spanAt_last {l : List Sh} {k : Nat} (h : ¬ k + 1 < l.length) : (spanAt l k).2 = 144001439 := by unfold spanAt; rw [if_neg h]
/-- an instant lies in just one span -/
theorem Tiles.at_ {l : List Sh} (h : Tiles l) (t : Int) (h0 : 0 ≤ t) (h1 : t ≤ 144001439) : ∃ k, ∃ hk : k < l.length, l[k].f ≤ t ∧ t ≤ (spanAt l k).2 ∧ Late (upto (spanAt l) k) t := by
  have key : ∀ n, n ≤ l.length → (Late (upto (spanAt l) n) t ∧ (∀ hn : n < l.length, l[n].f ≤ t)) ∨ ∃ k, ∃ hk : k < l.length, l[k].f ≤ t ∧ t ≤ (spanAt l k).2 ∧ Late (upto (spanAt l) k) t := by
    intro n
    induction n with
    | zero => intro _; exact .inl ⟨late_nil t, fun hn => by rw [h.zero]; exact h0⟩
    | succ n ih =>
      intro hn
      rcases ih (by omega) with ⟨ha, hb⟩ | hr
      · by_cases hx : t ≤ (spanAt l n).2
        · exact .inr ⟨n, by omega, hb (by omega), hx, ha⟩
        · refine .inl ⟨by rw [upto_succ]; exact late_snoc ha (by omega), fun hn1 => ?_⟩
          rw [spanAt_mid hn1] at hx
          omega
      · exact .inr hr
  rcases key l.length (Nat.le_refl _) with ⟨ha, _⟩ | hr
  · exfalso
    have hp := h.pos
    have hm : spanAt l (l.length - 1) ∈ upto (spanAt l) l.length := List.mem_map.2 ⟨l.length - 1, List.mem_range.2 (by omega), rfl⟩
    have := ha _ hm
    rw [spanAt_last (by omega)] at this
    omega
  · exact hr
theorem Tiles.local_ {l : List Sh} {t : Int} {k : Nat} (hk : k < l.length) (h1 : t ≤ (spanAt l k).2) (h2 : Late (upto (spanAt l) k) t) : localOf l t = t + l[k].o := by
  obtain ⟨rest, hr⟩ := upto_split l (k + 1) (by omega)
  rw [upto_succ, List.append_assoc, List.singleton_append] at hr
  unfold localOf
  rw [hr, offOf_hit h2 h1, spanAt_fst hk]
theorem Tiles.end_lt {l : List Sh} (h : Tiles l) (i : Nat) : ∀ j (hj : j < l.length), i < j → (spanAt l i).2 < l[j].f := by
  intro j
  induction j with
  | zero => intro _ hij; omega
  | succ j ih =>
    intro hj hij
    rcases Nat.lt_or_ge i j with hlt | hge
    · have := ih (by omega) hlt
      have := h.up j hj
      omega
    · obtain rfl : i = j := by omega
      rw [spanAt_mid hj]
      omega
theorem Tiles.fits {l : List Sh} (h : Tiles l) {k : Nat} (hk : k < l.length) : l[k].f ≤ (spanAt l k).2 := by
  by_cases h1 : k + 1 < l.length
  · rw [spanAt_mid h1]; have := h.up k h1; omega
  · rw [spanAt_last h1]; exact (h.each k hk).1.2
theorem Tiles.end_le {l : List Sh} (h : Tiles l) {k : Nat} (hk : k < l.length) : (spanAt l k).2 ≤ 144001439 := by
  by_cases h1 : k + 1 < l.length
  · rw [spanAt_mid h1]; have := (h.each (k + 1) h1).1; omega
  · rw [spanAt_last h1]; exact Int.le_refl _
/-- the local time at an instant of span k -/
theorem Tiles.local_in {l : List Sh} (h : Tiles l) {t : Int} {k : Nat} (hk : k < l.length) (h1 : l[k].f ≤ t) (h2 : t ≤ (spanAt l k).2) : localOf l t = t + l[k].o := by
  refine Tiles.local_ hk h2 fun x hx => ?_
  obtain ⟨i, hi, rfl⟩ := List.mem_map.1 hx
  have := h.end_lt i k hk (List.mem_range.1 hi)
  omega
theorem hitV_eq {x : Sh × Int} {loc : Int} (h1 : -840 ≤ x.1.o ∧ x.1.o ≤ 840) (h2 : -100000 ≤ loc ∧ loc ≤ 1000000000) : hitV x loc = max x.1.f (loc - x.1.o) := by
  unfold hitV mx
  rw [wrap64_id (by omega) (by omega)]
  omega
/-- Instant's answer is the first instant whose local time is not earlier -/
theorem Tiles.first_ {l : List Sh} (h : Tiles l) (loc : Int) (hb : -100000 ≤ loc ∧ loc ≤ 1000000000) :
    (∃ t, firstOf (spansOf l) loc = (t, 0) ∧ 0 ≤ t ∧ t ≤ 144001439 ∧ loc ≤ localOf l t ∧ ∀ u, 0 ≤ u → u < t → localOf l u < loc) ∨
    (firstOf (spansOf l) loc = (0, 10) ∧ ∀ u, 0 ≤ u → u ≤ 144001439 → localOf l u < loc) := by
  have key : ∀ n, n ≤ l.length → (LateI (upto (spanAt l) n) loc ∧ ∀ k (hk : k < l.length), k < n → (spanAt l k).2 + l[k].o < loc) ∨
      ∃ k, ∃ hk : k < l.length, LateI (upto (spanAt l) k) loc ∧ hitV (spanAt l k) loc ≤ (spanAt l k).2 ∧ ∀ i (hi : i < l.length), i < k → (spanAt l i).2 + l[i].o < loc := by
    intro n
    induction n with
    | zero => intro _; exact .inl ⟨lateI_nil loc, fun k _ hk => by omega⟩
    | succ n ih =>
      intro hn
      rcases ih (by omega) with ⟨ha, hc⟩ | hr
      · by_cases hx : hitV (spanAt l n) loc ≤ (spanAt l n).2
        · exact .inr ⟨n, by omega, ha, hx, hc⟩
        · refine .inl ⟨by rw [upto_succ]; exact lateI_snoc ha (by omega), fun k hk hkn => ?_⟩
          rcases Nat.lt_or_ge k n with h1 | h1
          · exact hc k hk h1
          · obtain rfl : k = n := by omega
            have ho := (h.each k hk).2
            have hf := h.fits hk
            rw [hitV_eq (by rw [spanAt_fst hk]; exact ho) hb, spanAt_fst hk] at hx
            omega
      · exact .inr hr
  rcases key l.length (Nat.le_refl _) with ⟨ha, hc⟩ | ⟨k, hk, ha, hx, hc⟩
  · refine .inr ⟨firstOf_none ha, fun u hu0 hu1 => ?_⟩
    obtain ⟨i, hi, q1, q2, q3⟩ := h.at_ u hu0 hu1
    rw [h.local_in hi q1 q2]
    have := hc i hi hi
    omega
  · left
    obtain ⟨rest, hr⟩ := upto_split l (k + 1) (by omega)
    rw [upto_succ, List.append_assoc, List.singleton_append] at hr
    have ho := (h.each k hk).2
    have hf := (h.each k hk).1
    have he := h.end_le hk
    have hv := hitV_eq (x := spanAt l k) (loc := loc) (by rw [spanAt_fst hk]; exact ho) hb
    rw [spanAt_fst hk] at hv
    refine ⟨hitV (spanAt l k) loc, by rw [hr]; exact firstOf_hit ha hx, by omega, by omega, ?_, fun u hu0 hu1 => ?_⟩
    · rw [h.local_in hk (by omega) hx]; omega
    · obtain ⟨i, hi, q1, q2, q3⟩ := h.at_ u hu0 (by omega)
      rw [h.local_in hi q1 q2]
      rcases Nat.lt_trichotomy i k with h1 | h1 | h1
      · have := hc i hi h1; omega
      · subst h1; omega
      · have := h.end_lt k i hi h1; omega
end Go.Proofs.YtgjombfcldihhaaDoor
