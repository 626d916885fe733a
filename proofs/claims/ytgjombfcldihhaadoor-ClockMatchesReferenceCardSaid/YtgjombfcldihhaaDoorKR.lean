/- Plain laws for ClockGoes, ClockDays, ClockPlain, ClockFirst.
   Conditions: none. -/
import Derived.Test.YtgjombfcldihhaaDoorKQ
namespace Go.Proofs.YtgjombfcldihhaaDoor
open Go.RowKit Go.Lib
set_option linter.unusedVariables false

theorem localR_in {l : List Sh} (h : validB l = true) {t : Int} (h0 : 0 ≤ t) (h1 : t ≤ 144001439) : localR l t = (localOf l t / 1440, localOf l t % 1440, 0) := by
  unfold localR; rw [if_pos ⟨h, by simp [isB, h0, h1]⟩]
theorem Tiles.mono {l : List Sh} (h : Tiles l) {i j : Nat} (hi : i < l.length) (hj : j < l.length) (hij : i < j) : l[i].f < l[j].f := by
  have := h.end_lt i j hj hij
  have := h.fits hi
  omega
theorem Tiles.near {l : List Sh} (h : Tiles l) {t : Int} (h0 : 0 ≤ t) (h1 : t ≤ 144001439) : t - 840 ≤ localOf l t ∧ localOf l t ≤ t + 840 := by
  obtain ⟨k, hk, q1, q2, q3⟩ := h.at_ t h0 h1
  have := h.local_in hk q1 q2
  have := (h.each k hk).2
  omega
/-- what the loop of ClockGoes has found before shift n -/
def JumpIs (l : List Sh) (t j : Int) (n : Nat) : Prop :=
  (∃ i, ∃ h : i + 1 < l.length, i + 1 < n ∧ l[i + 1].f = t + 1 ∧ j = l[i + 1].o - l[i].o) ∨ ((∀ i (h : i + 1 < l.length), i + 1 < n → l[i + 1].f ≠ t + 1) ∧ j = 0)
theorem goes_facts {l : List Sh} (h : validB l = true) (t : Int) (h0 : 0 ≤ t) (h1 : t ≤ 144001438) :
    ∃ a b c d : Int, localR l t = (a, b, 0) ∧ localR l (t + 1) = (c, d, 0) ∧ 0 ≤ b ∧ b < 1440 ∧ 0 ≤ d ∧ d < 1440 ∧ -1 ≤ a ∧ a ≤ 100001 ∧ -1 ≤ c ∧ c ≤ 100001 ∧
      ∀ j n, l.length ≤ n → JumpIs l t j n → 1440 * c + d = 1440 * a + b + 1 + j := by
  have T := tiles_of h
  have n1 := T.near h0 (by omega)
  have n2 := T.near (t := t + 1) (by omega) (by omega)
  refine ⟨_, _, _, _, localR_in h h0 (by omega), localR_in h (by omega) (by omega), by omega, by omega, by omega, by omega, by omega, by omega, by omega, by omega, fun j n hn hj => ?_⟩
  have key : localOf l (t + 1) = localOf l t + 1 + j := by
    obtain ⟨k, hk, q1, q2, q3⟩ := T.at_ t h0 (by omega)
    have e1 := T.local_in hk q1 q2
    by_cases hx : t + 1 ≤ (spanAt l k).2
    · have e2 := T.local_in hk (by omega) hx
      have hj0 : j = 0 := by
        rcases hj with ⟨i, hi, _, hf, _⟩ | ⟨_, h0⟩
        · exfalso
          have hki : k < i + 1 := by
            rcases Nat.lt_or_ge k (i + 1) with h3 | h3
            · exact h3
            · rcases Nat.lt_or_ge (i + 1) k with h4 | h4
              · have := T.mono hi hk h4; omega
              · obtain rfl : k = i + 1 := by omega
                omega
          have := T.end_lt k (i + 1) hi hki
          omega
        · exact h0
      omega
    · have hk1 : k + 1 < l.length := by
        rcases Nat.lt_or_ge (k + 1) l.length with h3 | h3
        · exact h3
        · rw [spanAt_last (by omega)] at hx; omega
      rw [spanAt_mid hk1] at hx q2
      have hf : l[k + 1].f = t + 1 := by omega
      have e2 := T.local_in hk1 (t := t + 1) (by omega) (by have := T.fits hk1; omega)
      rcases hj with ⟨i, hi, _, hf2, hj⟩ | ⟨hno, _⟩
      · have hik : i = k := by
          rcases Nat.lt_trichotomy i k with h3 | h3 | h3
          · have := T.mono hi hk1 (show i + 1 < k + 1 by omega); omega
          · exact h3
          · have := T.mono hk1 hi (show k + 1 < i + 1 by omega); omega
        subst hik
        omega
      · exact absurd hf (hno k hk1 (by omega))
  omega
theorem instR_day {l : List Sh} (h : validB l = true) (day : Int) (h0 : 0 ≤ day) (h1 : day ≤ 100001) : instR l day 0 = firstOf (spansOf l) (day * 1440) := by
  have hm : mx day (-2) = day := by unfold mx; rw [if_neg (by omega)]
  unfold instR
  rw [if_pos ⟨h, by omega, by omega⟩, if_neg (by omega), hm]
  congr 1
  omega
theorem days_facts {l : List Sh} (h : validB l = true) (day : Int) (h0 : 0 ≤ day) (h1 : day ≤ 100000) :
    (instR l day 0 = (0, 10) ∧ instR l (day + 1) 0 = (0, 10)) ∨
    ∃ a b e : Int, instR l day 0 = (a, 0) ∧ 0 ≤ a ∧ a ≤ 144001439 ∧ instR l (day + 1) 0 = (b, e) ∧ (e = 10 ∨ (e = 0 ∧ a ≤ b)) ∧ ∀ u, 0 ≤ u → u < a → ∃ x y, localR l u = (x, y, 0) ∧ x < day := by
  have T := tiles_of h
  rw [instR_day h day h0 (by omega), instR_day h (day + 1) (by omega) (by omega)]
  rcases T.first_ (day * 1440) (by omega) with ⟨a, f1, f2, f3, f4, f5⟩ | ⟨f1, f2⟩
  · right
    rcases T.first_ ((day + 1) * 1440) (by omega) with ⟨b, g1, g2, g3, g4, g5⟩ | ⟨g1, g2⟩
    · refine ⟨a, b, 0, f1, f2, f3, g1, .inr ⟨rfl, ?_⟩, fun u hu0 hu1 => ⟨_, _, localR_in h hu0 (by omega), by have := f5 u hu0 hu1; omega⟩⟩
      rcases Int.lt_or_le b a with h2 | h2
      · have := f5 b g2 h2; omega
      · exact h2
    · exact ⟨a, 0, 10, f1, f2, f3, g1, .inl rfl, fun u hu0 hu1 => ⟨_, _, localR_in h hu0 (by omega), by have := f5 u hu0 hu1; omega⟩⟩
  · left
    rcases T.first_ ((day + 1) * 1440) (by omega) with ⟨b, g1, g2, g3, g4, g5⟩ | ⟨g1, g2⟩
    · have := f2 b g2 g3; omega
    · exact ⟨f1, g1⟩
theorem one_valid (off : Int) (h0 : -840 ≤ off) (h1 : off ≤ 840) : validB [⟨0, off⟩] = true := by
  simp [validB, shsOk, shOk, h0, h1]
theorem plain_facts (off : Int) (h0 : -840 ≤ off) (h1 : off ≤ 840) (t : Int) (t0 : 0 ≤ t) (t1 : t ≤ 144001439) :
    ∃ a b : Int, localR [⟨0, off⟩] t = (a, b, 0) ∧ instR [⟨0, off⟩] a b = (t, 0) ∧ 1440 * a + b = t + off ∧ 0 ≤ b ∧ b < 1440 ∧ -1 ≤ a ∧ a ≤ 100001 := by
  have hv := one_valid off h0 h1
  have T := tiles_of hv
  obtain ⟨a, b, u, hR, hI, hut, hm, _⟩ := back_facts hv t t0 t1
  have e := localR_in hv t0 t1
  have e1 := T.local_in (k := 0) (t := t) (by simp) (by simp; omega) (by rw [spanAt_last (by simp)]; omega)
  simp only [List.getElem_cons_zero] at e1
  rw [hR, e1] at e
  simp only [Prod.mk.injEq, and_true] at e
  have hu : u = t := hm fun i hi => by simp at hi
  subst hu
  exact ⟨a, b, hR, hI, by omega, by omega, by omega, by omega, by omega⟩
theorem plain_day (off : Int) (h0 : -840 ≤ off) (h1 : off ≤ 840) (day : Int) (t0 : 1 ≤ day) (t1 : day ≤ 99999) : instR [⟨0, off⟩] day 0 = (mx 0 (day * 1440 - off), 0) := by
  rw [instR_day (one_valid off h0 h1) day (by omega) (by omega)]
  have e := hitV_eq (x := ((⟨0, off⟩ : Sh), (144001439 : Int))) (loc := day * 1440) ⟨h0, h1⟩ (by omega)
  have e2 : spansOf [(⟨0, off⟩ : Sh)] = [(⟨0, off⟩, 144001439)] := rfl
  rw [e2, firstOf, if_pos (by rw [e]; simp only; omega), e]
  simp only [mx, Prod.mk.injEq, and_true]
  omega
theorem plain_days (off : Int) (h0 : -840 ≤ off) (h1 : off ≤ 840) (day : Int) (t0 : 1 ≤ day) (t1 : day ≤ 99998) :
    ∃ p q : Int, instR [⟨0, off⟩] day 0 = (p, 0) ∧ instR [⟨0, off⟩] (day + 1) 0 = (q, 0) ∧ (p = 0 ∨ q - p = 1440) ∧ 0 ≤ p ∧ p ≤ 144001439 ∧ 0 ≤ q ∧ q ≤ 144001439 := by
  refine ⟨_, _, plain_day off h0 h1 day t0 (by omega), plain_day off h0 h1 (day + 1) (by omega) (by omega), ?_⟩
  unfold mx
  omega
def AtL (l : List Sh) (u day minute : Int) (r : Bool) : Prop := ∃ a b, localR l u = (a, b, 0) ∧ earlierB a b day minute = r
theorem earlier_iff {a b c d : Int} : earlierB a b c d = true ↔ (a < c ∨ (a = c ∧ b < d)) := by simp [earlierB]
theorem atL_true {l : List Sh} (h : validB l = true) {u day minute : Int} (u0 : 0 ≤ u) (u1 : u ≤ 144001439) (hx : localOf l u / 1440 < day ∨ (localOf l u / 1440 = day ∧ localOf l u % 1440 < minute)) : AtL l u day minute true :=
  ⟨_, _, localR_in h u0 u1, earlier_iff.2 hx⟩
theorem first_facts {l : List Sh} (h : validB l = true) (day minute : Int) (m0 : 0 ≤ minute) (m1 : minute ≤ 1439) :
    (∃ t, instR l day minute = (t, 0) ∧ 0 ≤ t ∧ t ≤ 144001439 ∧ AtL l t day minute false ∧ ∀ u, 0 ≤ u → u < t → AtL l u day minute true) ∨
    (instR l day minute = (0, 10) ∧ ∀ u, 0 ≤ u → u < 144001440 → AtL l u day minute true) := by
  have T := tiles_of h
  unfold instR
  rw [if_pos ⟨h, by omega, by omega⟩]
  by_cases hd : 100001 < day
  · rw [if_pos hd]
    exact .inr ⟨rfl, fun u u0 u1 => atL_true h u0 (by omega) (.inl (by have := T.near (t := u) u0 (by omega); omega))⟩
  · rw [if_neg hd]
    have hmx : (day < -2 ∧ mx day (-2) = -2) ∨ (-2 ≤ day ∧ mx day (-2) = day) := by unfold mx; split <;> omega
    generalize mx day (-2) = dd at hmx ⊢
    rcases T.first_ (dd * 1440 + minute) (by omega) with ⟨t, f1, f2, f3, f4, f5⟩ | ⟨f1, f2⟩
    · refine .inl ⟨t, f1, f2, f3, ⟨_, _, localR_in h f2 f3, ?_⟩, fun u u0 u1 => ?_⟩
      · have := T.near f2 f3
        have hn : ¬ (localOf l t / 1440 < day ∨ (localOf l t / 1440 = day ∧ localOf l t % 1440 < minute)) := by omega
        cases he : earlierB (localOf l t / 1440) (localOf l t % 1440) day minute with
        | false => rfl
        | true => exact absurd (earlier_iff.1 he) hn
      · have := T.near (t := u) u0 (by omega)
        have := f5 u u0 u1
        exact atL_true h u0 (by omega) (by omega)
    · refine .inr ⟨f1, fun u u0 u1 => ?_⟩
      have := T.near (t := u) u0 (by omega)
      have := f2 u u0 (by omega)
      exact atL_true h u0 (by omega) (by omega)
end Go.Proofs.YtgjombfcldihhaaDoor
