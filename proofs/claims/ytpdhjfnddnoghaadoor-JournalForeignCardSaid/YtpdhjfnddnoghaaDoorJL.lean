/- The reference's Same.
   Conditions: the texts lie in memory as TextsAt says. -/
import Derived.Test.YtpdhjfnddnoghaaDoorJK
namespace Go.Proofs.YtpdhjfnddnoghaaDoor
open Go.RowKit Go.Lib
set_option linter.unusedVariables false
set_option linter.unusedSimpArgs false
set_option maxRecDepth 100000 in
theorem rsame_calls (w : World) (u v : Value) (xs ys : List ByteArray) (hu : TextsAt w u xs) (hv : TextsAt w v ys) (hl : xs.length ≤ 1000000000) (hl2 : ys.length ≤ 1000000000) :
    Calls Tryd.prog 11 #[u, v] w fun e w' => e = .returned (.bool (decide (xs = ys))) ∧ Below w.heap.size w w' := by
  obtain ⟨A, cap, rfl, ha⟩ := hu
  obtain ⟨A', cap', rfl, ha'⟩ := hv
  by_cases hxy : xs.length = ys.length
  · have e0 : ((xs.length : Int) == (ys.length : Int)) = true := by simp [hxy]
    have e1 : ((xs.length : Int) != (ys.length : Int)) = false := by simp [hxy]
    have HL := Lib.hid hxy
    clear hxy
    go_enter Tryd.func11, Tryd.ntmps11
    go_wp2
    go_loopw [5] (fun i wr => ∃ k m : Nat, k ≤ xs.length ∧ i = .int .i64 k ∧ xs.take k = ys.take k ∧ wr = w.drewN m) (fun i _ => xs.length - (Go.RowKit.intOf i).toNat)
    case atStart => exact ⟨0, 0, Nat.zero_le _, rfl, rfl, rfl⟩
    case round =>
      obtain ⟨k, m, hk, rfl, ht, rfl⟩ := hrel
      have HT := Lib.hid ht
      clear ht
      by_cases hlt : k < xs.length
      · have hlt' : k < ys.length := by have := HL.out; omega
        obtain ⟨b, off, rfl, hb, hc⟩ := ha (by omega)
        obtain ⟨b', off', rfl, hb', hc'⟩ := ha' (by omega)
        have x1 := hc k hlt
        have x2 := hc' k hlt'
        clear hc hc' ha ha'
        by_cases hq : xs[k] = ys[k]
        · have f1 : (xs[k].toList == ys[k].toList) = true := by rw [hq]; simp
          have f2 : (xs[k].toList != ys[k].toList) = false := by rw [hq]; simp
          have HT2 : Hid (xs.take (k + 1) = ys.take (k + 1)) := by
            show _ = _
            rw [List.take_succ_eq_append_getElem hlt, List.take_succ_eq_append_getElem hlt', HT.out, hq]
          clear hq
          go_wp2_with fail
          go_quiet (fail)
          go_wp2_with fail
          go_roundw
          case rel => exact ⟨k + 1, m + nq, by omega, by go_num, HT2.out, rfl⟩
          case measure => simp [Go.RowKit.intOf]; omega
        · have f1 := str_ne hq
          have f2 : (xs[k].toList != ys[k].toList) = true := by simpa using f1
          have HN : Hid (decide (xs = ys) = false) := by
            show _ = _
            rw [decide_eq_false_iff_not]
            rintro rfl
            exact hq rfl
          clear hq
          go_wp2_with fail
          go_quiet (fail)
          go_wp2_with fail
          go_ret
          rw [HN.out]
          exact ⟨rfl, pw_below_drewN (pw_below_drewN (Below.refl _ _) _) _⟩
      · obtain rfl : k = xs.length := by omega
        have HN : Hid (decide (xs = ys) = true) := by
          show _ = _
          have := HT.out
          rw [List.take_of_length_le (Nat.le_refl _), List.take_of_length_le (by have := HL.out; omega)] at this
          simp [this]
        clear ha ha'
        go_wp2_with fail
        go_ret
        rw [HN.out]
        exact ⟨rfl, pw_below_drewN (Below.refl _ _) _⟩
  · have e0 : ((xs.length : Int) == (ys.length : Int)) = false := by simp; omega
    have e1 : ((xs.length : Int) != (ys.length : Int)) = true := by simp; omega
    have HN : Hid (decide (xs = ys) = false) := by
      show _ = _
      rw [decide_eq_false_iff_not]
      rintro rfl
      exact hxy rfl
    clear hxy ha ha'
    go_enter Tryd.func11, Tryd.ntmps11
    go_wp2
    go_ret
    rw [HN.out]
    exact ⟨rfl, Below.refl _ _⟩
end Go.Proofs.YtpdhjfnddnoghaaDoor
