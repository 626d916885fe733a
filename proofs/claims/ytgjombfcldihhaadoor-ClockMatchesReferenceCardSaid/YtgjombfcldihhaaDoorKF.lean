/- clock.Begin, the law's earlier and sample, the reference's Few.
   Conditions: the zone's shifts lie in memory as ShiftsAt says. -/
import Derived.Test.YtgjombfcldihhaaDoorKE
namespace Go.Proofs.YtgjombfcldihhaaDoor
open Go.RowKit Go.Lib
set_option linter.unusedVariables false

theorem begin_calls (w : World) (A : Option Addr) (cap : Nat) (l : List Sh) (hl : ShiftsAt w A l) (hlen : l.length ≤ 9223372036854775807) (day : Int) :
    Calls Tryd.prog 17 #[zoneVal A l.length cap, .int .i64 day] w fun e w' => e = .returned (.tuple #[.int .i64 (instR l day 0).1, .int .i64 (instR l day 0).2]) ∧ Below w.heap.size w w' := by
  have HL := Lib.hid hl
  clear hl
  have hval := fun (W : World) (hW : Below w.heap.size w W) => inst_calls W A cap l (HL.out.below hW) hlen day 0
  simp only [zoneVal] at hval ⊢
  go_enter Tryd.func17, Tryd.ntmps17
  go_wp2_with fail
  refine (hval _ ((Below.refl _ _).alloc (Nat.le_refl _) _)).mono ?_
  rintro e w1 ⟨rfl, hb⟩
  have HB := Lib.hid (((Below.refl w.heap.size w).alloc (Nat.le_refl _) (.cells #[.slice A l.length cap] 24)).trans (hb.mono (by simp)))
  clear hb
  go_wp2_with fail
  go_ret2
  exact ⟨rfl, HB.out⟩
theorem few_calls (w : World) (A : Option Addr) (len cap : Nat) (n : Int) :
    Calls Tryd.prog 12 #[zoneVal A len cap, .int .i64 n] w fun e w' => e = .returned (.bool (decide ((len : Int) ≤ n))) ∧ Below w.heap.size w w' := by
  simp only [zoneVal]
  go_enter Tryd.func12, Tryd.ntmps12
  go_wp2_with fail
  go_ret
  exact ⟨rfl, (Below.refl _ _).alloc (Nat.le_refl _) _⟩
def earlierB (a b c d : Int) : Bool := decide (a < c) || (decide (a = c) && decide (b < d))
theorem earlier_calls (w : World) (a b c d : Int) :
    Calls Tryd.prog 24 #[.int .i64 a, .int .i64 b, .int .i64 c, .int .i64 d] w fun e w' => e = .returned (.bool (earlierB a b c d)) ∧ w = w' := by
  by_cases h1 : a < c
  · go_enter Tryd.func24, Tryd.ntmps24
    go_wp2_with fail
    go_ret
    exact ⟨by simp [earlierB, h1], rfl⟩
  · by_cases h2 : a = c
    · have h3 : (a == c) = true := by simp [h2]
      have HE : Hid (earlierB a b c d = decide (b < d)) := by show _ = _; simp [earlierB, h2]
      clear h2
      go_enter Tryd.func24, Tryd.ntmps24
      go_wp2_with fail
      go_ret
      rw [HE.out]
      exact ⟨rfl, rfl⟩
    · have h3 : (a == c) = false := by simp [h2]
      have HE : Hid (earlierB a b c d = false) := by show _ = _; simp [earlierB, h1, h2]
      clear h2
      go_enter Tryd.func24, Tryd.ntmps24
      go_wp2_with fail
      go_ret
      rw [HE.out]
      exact ⟨rfl, rfl⟩
def sampleZ : List Sh := [⟨0, 60⟩, ⟨10000, 120⟩]
theorem sample_calls (w : World) : Calls Tryd.prog 25 #[] w fun e w' => ∃ b, e = .returned (zoneVal (some ⟨b, 0, none⟩) 2 2) ∧ ShiftsAt w' (some ⟨b, 0, none⟩) sampleZ ∧ Below w.heap.size w w' := by
  go_enter Tryd.func25, Tryd.ntmps25
  go_wp2_with fail
  refine bodyPost_ret (v := zoneVal (some ⟨w.heap.size + 1, 0, none⟩) 2 2) (by simp [results, Tryd.results25, go_sem, zoneVal]) rfl ⟨w.heap.size + 1, rfl, fun _ => ⟨w.heap.size + 1, 0, rfl, by simp, fun k hk => ?_⟩, ((Below.refl _ _).alloc (Nat.le_refl _) _).alloc (by simp) _⟩
  have hn := heap_alloc_new (w.alloc (.cells #[.slice (some ⟨w.heap.size + 1, 0, none⟩) 2 2] 24)) (.cells #[.int .i64 0, .int .i64 60, .int .i64 10000, .int .i64 120] 40)
  rw [World.size_alloc] at hn
  match k, hk with
  | 0, _ => exact ⟨cell_blk hn 0, cell_blk hn 1⟩
  | 1, _ => exact ⟨cell_blk hn 2, cell_blk hn 3⟩
end Go.Proofs.YtgjombfcldihhaaDoor
