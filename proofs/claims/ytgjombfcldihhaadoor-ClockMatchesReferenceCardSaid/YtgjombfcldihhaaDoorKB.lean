/- clock.Valid.
   Conditions: the zone's slice lies in memory as ShiftsAt says. -/
import Derived.Test.YtgjombfcldihhaaDoorKA
namespace Go.Proofs.YtgjombfcldihhaaDoor
open Go.RowKit Go.Lib
set_option linter.unusedVariables false

theorem shsOk_step {first : Bool} {last : Int} {l : List Sh} {k : Nat} (hk : k < l.length) : shsOk first last (l.drop k) = (shOk first last l[k] && shsOk false l[k].f (l.drop (k + 1))) := by
  rw [← List.getElem_cons_drop hk]
  rfl
theorem shOk_good {first : Bool} {last : Int} {s : Sh} (h : shOk first last s = true) : (first = false ∨ s.f = 0) ∧ last < s.f ∧ (0 ≤ s.f ∧ s.f ≤ 144001439) ∧ -840 ≤ s.o ∧ s.o ≤ 840 := by
  simp only [shOk, Bool.and_eq_true, Bool.or_eq_true, Bool.not_eq_true', beq_iff_eq, decide_eq_true_eq] at h
  exact ⟨h.1, h.2.1.1, h.2.1.2, h.2.2⟩
theorem shOk_bad {first : Bool} {last : Int} {s : Sh} (h : ¬ shOk first last s = true) : (first = true ∧ s.f ≠ 0) ∨ ((first = false ∨ s.f = 0) ∧ (s.f ≤ last ∨ (last < s.f ∧ (s.f < 0 ∨ (0 ≤ s.f ∧ 144001439 < s.f))) ∨ (last < s.f ∧ 0 ≤ s.f ∧ s.f ≤ 144001439 ∧ (s.o < -840 ∨ (-840 ≤ s.o ∧ 840 < s.o))))) := by
  simp only [shOk, Bool.and_eq_true, Bool.or_eq_true, Bool.not_eq_true', beq_iff_eq, decide_eq_true_eq] at h
  cases first
  · right
    refine ⟨.inl rfl, ?_⟩
    simp only [true_or, true_and] at h
    omega
  · by_cases h0 : s.f = 0
    · right
      refine ⟨.inr h0, ?_⟩
      simp only [h0, or_true, true_and] at h ⊢
      omega
    · exact .inl ⟨rfl, h0⟩

set_option maxHeartbeats 2000000 in
theorem valid_calls (w : World) (A : Option Addr) (cap : Nat) (l : List Sh) (hl : ShiftsAt w A l) (hlen : l.length ≤ 9223372036854775807) :
    Calls Tryd.prog 22 #[zoneVal A l.length cap] w fun e w' => e = .returned (.bool (validB l)) ∧ Below w.heap.size w w' := by
  have HL := Lib.hid hl
  clear hl
  simp only [zoneVal]
  go_enter Tryd.func22, Tryd.ntmps22
  go_wp2_with fail
  have hz : (w.alloc (.cells #[.slice A l.length cap] 24)).cell? ⟨w.heap.size, 0, none⟩ = some (.slice A l.length cap) := cell_blk (heap_alloc_new w _) 0
  have hb0 := (Below.refl w.heap.size w).alloc (Nat.le_refl _) (.cells #[.slice A l.length cap] 24)
  have hzl : w.heap.size < (w.alloc (.cells #[.slice A l.length cap] 24)).heap.size := by simp
  generalize w.alloc (.cells #[.slice A l.length cap] 24) = W at hz hb0 hzl ⊢
  obtain ⟨z, hzz⟩ : ∃ z, w.heap.size = z := ⟨_, rfl⟩
  simp only [hzz] at hz hzl ⊢
  have HB0 := Lib.hid hb0
  have HZZ := Lib.hid hzz
  clear hb0 hzz
  go_loopw [3, 10] (fun la i wr => ∃ (k : Nat) (last : Int), k ≤ l.length ∧ i = .int .i64 k ∧ la = .int .i64 last ∧ shsOk true (-1) l = shsOk (decide (k = 0)) last (l.drop k) ∧ Below W.heap.size W wr) (fun _ i _ => l.length - (intOf i).toNat)
  case atStart => exact ⟨0, -1, Nat.zero_le _, rfl, rfl, rfl, Below.refl _ _⟩
  case round =>
    obtain ⟨k, last, hk, rfl, rfl, hok, hb⟩ := hrel
    have hzr : wr.cell? ⟨z, 0, none⟩ = some (.slice A l.length cap) := (hb.cell (p := ⟨z, 0, none⟩) hzl).trans hz
    have hbw := HB0.out.trans (hb.mono HB0.out.size)
    have HOK := Lib.hid hok
    have HB := Lib.hid hb
    have HBW := Lib.hid hbw
    have hsr := hb.size
    clear hok hb hbw
    by_cases hlt : k < l.length
    · obtain ⟨b, off, hA, hbl, hc⟩ := (HL.out.below HBW.out) (by omega)
      subst hA
      obtain ⟨x0, x1⟩ := hc k hlt
      have HC := Lib.hid hc
      have HST := Lib.hid (shsOk_step (first := decide (k = 0)) (last := last) hlt)
      clear hc
      generalize hs : l[k] = s at x0 x1 HST
      have HS := Lib.hid hs
      clear hs
      by_cases hsh : shOk (decide (k = 0)) last s = true
      · obtain ⟨g1, g2, ⟨g3, g4⟩, g5, g6⟩ := shOk_good hsh
        have gi : isB s.f = true := by simp [isB, g3, g4]
        have HSH := Lib.hid hsh
        clear hsh
        have HN : Hid (shsOk true (-1) l = shsOk (decide (k + 1 = 0)) s.f (l.drop (k + 1))) := by
          show _ = _
          rw [HOK.out, HST.out, HSH.out]
          simp
        have g1' : (k = 0 ∧ s.f = 0) ∨ 0 < k := by
          rcases Nat.eq_zero_or_pos k with h | h
          · left
            refine ⟨h, ?_⟩
            rcases g1 with g | g
            · simp [h] at g
            · exact g
          · exact .inr h
        clear g1
        rcases g1' with ⟨rfl, g0⟩ | g0
        · have g7 : (s.f == 0) = true := by simp [g0]
          simp only [Nat.zero_mul, Nat.add_zero] at x0 x1
          clear g0
          go_wp2_with fail
          refine (instant_calls _ _).mono ?_
          rintro e w1 ⟨rfl, hw⟩
          subst hw
          rw [gi]
          go_wp2_with fail
          go_roundw
          case rel => exact ⟨0 + 1, _, by omega, by go_num, rfl, HN.out, HB.out.alloc hsr _⟩
          case measure => simp [intOf]; omega
        · go_wp2_with fail
          refine (instant_calls _ _).mono ?_
          rintro e w1 ⟨rfl, hw⟩
          subst hw
          rw [gi]
          go_wp2_with fail
          go_roundw
          case rel => exact ⟨k + 1, _, by omega, by go_num, rfl, HN.out, HB.out.alloc hsr _⟩
          case measure => simp [intOf]; omega
      · have hv : validB l = false := by
          unfold validB
          rw [HOK.out, HST.out]
          simp [hsh]
        have HV := Lib.hid hv
        have hbad := shOk_bad hsh
        clear hsh hv
        have hbx := HBW.out.alloc HBW.out.size (.cells #[.int .i64 s.f, .int .i64 s.o] 40)
        have HBX := Lib.hid hbx
        clear hbx
        rcases hbad with ⟨q0, q1⟩ | ⟨q0, q1⟩
        · have q2 : k = 0 := by simpa using q0
          subst q2
          simp only [Nat.zero_mul, Nat.add_zero] at x0 x1
          have q3 : (s.f == 0) = false := by simp [q1]
          clear q0 q1
          go_wp2_with fail
          go_ret
          rw [HV.out]
          exact ⟨rfl, HBX.out⟩
        · have q0' : (k = 0 ∧ s.f = 0) ∨ 0 < k := by
            rcases Nat.eq_zero_or_pos k with h | h
            · left
              refine ⟨h, ?_⟩
              rcases q0 with g | g
              · simp [h] at g
              · exact g
            · exact .inr h
          clear q0
          rcases q0' with ⟨rfl, g0⟩ | g0
          · have g7 : (s.f == 0) = true := by simp [g0]
            simp only [Nat.zero_mul, Nat.add_zero] at x0 x1
            clear g0
            rcases q1 with q1 | ⟨q1, q2⟩ | ⟨q1, q2, q3, q4⟩
            · go_wp2_with fail
              go_ret
              rw [HV.out]
              exact ⟨rfl, HBX.out⟩
            · have gi : isB s.f = false := by simp [isB]; omega
              clear q2
              go_wp2_with fail
              refine (instant_calls _ _).mono ?_
              rintro e w1 ⟨rfl, hw⟩
              subst hw
              rw [gi]
              go_wp2_with fail
              go_ret
              rw [HV.out]
              exact ⟨rfl, HBX.out⟩
            · have gi : isB s.f = true := by simp [isB, q2, q3]
              rcases q4 with q4 | ⟨q4, q5⟩
              all_goals
                go_wp2_with fail
                refine (instant_calls _ _).mono ?_
                rintro e w1 ⟨rfl, hw⟩
                subst hw
                rw [gi]
                go_wp2_with fail
                go_ret
                rw [HV.out]
                exact ⟨rfl, HBX.out⟩
          · rcases q1 with q1 | ⟨q1, q2⟩ | ⟨q1, q2, q3, q4⟩
            · go_wp2_with fail
              go_ret
              rw [HV.out]
              exact ⟨rfl, HBX.out⟩
            · have gi : isB s.f = false := by simp [isB]; omega
              clear q2
              go_wp2_with fail
              refine (instant_calls _ _).mono ?_
              rintro e w1 ⟨rfl, hw⟩
              subst hw
              rw [gi]
              go_wp2_with fail
              go_ret
              rw [HV.out]
              exact ⟨rfl, HBX.out⟩
            · have gi : isB s.f = true := by simp [isB, q2, q3]
              rcases q4 with q4 | ⟨q4, q5⟩
              all_goals
                go_wp2_with fail
                refine (instant_calls _ _).mono ?_
                rintro e w1 ⟨rfl, hw⟩
                subst hw
                rw [gi]
                go_wp2_with fail
                go_ret
                rw [HV.out]
                exact ⟨rfl, HBX.out⟩
    · have hv : validB l = (decide (0 < l.length) && decide (l.length ≤ 20)) := by
        have e : k = l.length := by omega
        unfold validB
        rw [HOK.out, e, List.drop_length]
        rfl
      have HV := Lib.hid hv
      clear hv
      by_cases h0 : 0 < l.length
      · go_wp2_with fail
        go_ret
        exact ⟨by rw [HV.out]; simp [h0]; omega, HBW.out⟩
      · go_wp2_with fail
        go_ret
        exact ⟨by rw [HV.out]; simp [h0], HBW.out⟩
end Go.Proofs.YtgjombfcldihhaaDoor
