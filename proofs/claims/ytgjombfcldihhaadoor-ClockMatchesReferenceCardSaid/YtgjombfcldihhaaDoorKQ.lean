/- ClockBack: Instant for the local time of an instant returns one that is not later, and the same one if no offset becomes lesser.
   Conditions: the library's tables and sentinels are laid; the zone lies in memory as ShiftsAt says. -/
import Derived.Test.YtgjombfcldihhaaDoorKP
import Derived.Test.YtgjombfcldihhaaDoorKJ
namespace Go.Proofs.YtgjombfcldihhaaDoor
open Go.RowKit Go.Lib
set_option linter.unusedVariables false

structure ZSt (w : World) (z : Nat) (A : Option Addr) (cap : Nat) (l : List Sh) (W : World) : Prop where
  zone : ShiftsAt W A l
  cell : W.cell? ⟨z, 0, none⟩ = some (.slice A l.length cap)
  lt : z < W.heap.size
  be : Below w.heap.size w W
theorem ZSt.on {w : World} {z : Nat} {A : Option Addr} {cap : Nat} {l : List Sh} {W W' : World} (h : ZSt w z A cap l W) (hb : Below W.heap.size W W') : ZSt w z A cap l W' :=
  ⟨h.zone.below hb, (hb.cell (p := ⟨_, 0, none⟩) h.lt).trans h.cell, Nat.lt_of_lt_of_le h.lt hb.size, h.be.trans (hb.mono h.be.size)⟩
theorem ZSt.box (w : World) (A : Option Addr) (cap : Nat) (l : List Sh) (hz : ShiftsAt w A l) : ZSt w w.heap.size A cap l (w.alloc (.cells #[.slice A l.length cap] 24)) :=
  ⟨hz.below ((Below.refl _ _).alloc (Nat.le_refl _) _), cell_blk (heap_alloc_new w _) 0, by simp, (Below.refl _ _).alloc (Nat.le_refl _) _⟩

theorem back_facts {l : List Sh} (h : validB l = true) (t : Int) (h0 : 0 ≤ t) (h1 : t ≤ 144001439) :
    ∃ a b u : Int, localR l t = (a, b, 0) ∧ instR l a b = (u, 0) ∧ u ≤ t ∧ ((∀ i (hi : i + 1 < l.length), l[i].o ≤ l[i + 1].o) → u = t) ∧ -10 ≤ a ∧ a ≤ 100001 ∧ 0 ≤ b ∧ b < 1440 := by
  have T := tiles_of h
  obtain ⟨k, hk, q1, q2, q3⟩ := T.at_ t h0 h1
  have hloc := T.local_in hk q1 q2
  have ho := (T.each k hk).2
  have hR : localR l t = (localOf l t / 1440, localOf l t % 1440, 0) := by unfold localR; rw [if_pos ⟨h, by simp [isB, h0, h1]⟩]
  have hm : mx (localOf l t / 1440) (-2) = localOf l t / 1440 := by unfold mx; rw [if_neg (by omega)]
  have hI : instR l (localOf l t / 1440) (localOf l t % 1440) = firstOf (spansOf l) (localOf l t) := by
    unfold instR
    rw [if_pos ⟨h, by omega, by omega⟩, if_neg (by omega), hm]
    congr 1
    omega
  rcases T.first_ (localOf l t) (by omega) with ⟨u, f1, f2, f3, f4, f5⟩ | ⟨f1, f2⟩
  · refine ⟨_, _, u, hR, hI.trans f1, ?_, fun hmono => ?_, by omega, by omega, by omega, by omega⟩
    · rcases Int.lt_or_le t u with h2 | h2
      · have := f5 t h0 h2; omega
      · exact h2
    · rcases Int.lt_or_le u t with h2 | h2
      · exfalso
        obtain ⟨i, hi, r1, r2, r3⟩ := T.at_ u f2 f3
        rw [T.local_in hi r1 r2, hloc] at f4
        have hup : ∀ j (hj : j < l.length), i ≤ j → l[i].o ≤ l[j].o := by
          intro j
          induction j with
          | zero => intro hj hij; obtain rfl : i = 0 := by omega
                    exact Int.le_refl _
          | succ j ih =>
            intro hj hij
            rcases Nat.lt_or_ge i (j + 1) with h3 | h3
            · have := ih (by omega) (by omega)
              have := hmono j hj
              omega
            · obtain rfl : i = j + 1 := by omega
              exact Int.le_refl _
        have hik : i ≤ k := by
          rcases Nat.lt_or_ge k i with h3 | h3
          · have := T.end_lt k i hi h3; omega
          · exact h3
        have := hup k hk hik
        omega
      · rcases Int.lt_or_le t u with h3 | h3
        · have := f5 t h0 h3; omega
        · omega
  · have := f2 t h0 h1; omega
end Go.Proofs.YtgjombfcldihhaaDoor
