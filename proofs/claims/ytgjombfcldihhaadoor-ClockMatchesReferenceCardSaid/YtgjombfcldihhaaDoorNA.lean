/- The reference's Valid, Offset, Local.
   Conditions: the zone's slice lies in memory as ShiftsAt says. -/
import Derived.Test.YtgjombfcldihhaaDoorKR
import Derived.Deep.DeepCutAuto
namespace Go.Proofs.YtgjombfcldihhaaDoor
open Go.RowKit Go.Lib
set_option linter.unusedVariables false
set_option linter.unusedSimpArgs false

theorem below_drewN {B : Nat} {w W : World} (h : Below B w W) (q : Nat) : Below B w (W.drewN q) := ⟨h.os, h.tape, h.output, h.size, h.block⟩
/-- one shift, by the reference's words -/
theorem shOk_first {s : Sh} (h : s.f = 0) : shOk true (-1) s = true ↔ (-840 ≤ s.o ∧ s.o ≤ 840) := by
  simp only [shOk, Bool.and_eq_true, Bool.or_eq_true, Bool.not_eq_true', beq_iff_eq, decide_eq_true_eq]
  omega
theorem shOk_next {last : Int} {s : Sh} (h : 0 ≤ last) : shOk false last s = true ↔ (last < s.f ∧ s.f ≤ 144001439 ∧ -840 ≤ s.o ∧ s.o ≤ 840) := by
  simp only [shOk, Bool.and_eq_true, Bool.or_eq_true, Bool.not_eq_true', beq_iff_eq, decide_eq_true_eq]
  simp only [true_or, true_and]
  omega
/-- what the loop has seen -/
structure Seen (l : List Sh) (k : Nat) (last : Int) : Prop where
  eq : shsOk true (-1) l = shsOk (decide (k = 0)) last (l.drop k)
  zero : k = 0 → last = -1
  pos : 0 < k → 0 ≤ last
  prev : ∀ j (h : j < l.length), k = j + 1 → last = l[j].f
theorem Seen.step {l : List Sh} {k : Nat} {last : Int} (h : Seen l k last) (hlt : k < l.length) (hs : shOk (decide (k = 0)) last l[k] = true) : Seen l (k + 1) l[k].f := by
  refine ⟨?_, fun h0 => by omega, fun _ => (shOk_good hs).2.2.1.1, fun j hj e => ?_⟩
  · rw [h.eq, shsOk_step hlt, hs]
    simp
  · obtain rfl : k = j := by omega
    rfl
theorem Seen.bad {l : List Sh} {k : Nat} {last : Int} (h : Seen l k last) (hlt : k < l.length) (hs : ¬ shOk (decide (k = 0)) last l[k] = true) : validB l = false := by
  unfold validB
  rw [h.eq, shsOk_step hlt]
  simp [hs]
theorem Seen.done {l : List Sh} {k : Nat} {last : Int} (h : Seen l k last) (hlt : ¬ k < l.length) (h0 : 0 < l.length) (h1 : l.length ≤ 20) : validB l = true := by
  unfold validB
  rw [h.eq, List.drop_of_length_le (by omega)]
  simp [shsOk, h0, h1]

set_option maxRecDepth 100000 in
set_option maxHeartbeats 8000000 in
theorem rvalid_calls (w : World) (A : Option Addr) (cap : Nat) (l : List Sh) (hl : ShiftsAt w A l) (hlen : l.length ≤ 9223372036854775807) :
    Calls Tryd.prog 23 #[zoneVal A l.length cap] w fun e w' => e = .returned (.bool (validB l)) ∧ Below w.heap.size w w' := by
  have S0 := ZSt.box w A cap l hl
  clear hl
  simp only [zoneVal]
  have hcA := S0.cell
  by_cases h0 : (l.length : Int) < 1
  · have HV : Hid (validB l = false) := by show _ = _; unfold validB; simp; omega
    go_enter Tryd.func23, Tryd.ntmps23
    go_wp2_with fail
    go_ret
    rw [HV.out]
    exact ⟨rfl, S0.be⟩
  by_cases h1 : 20 < (l.length : Int)
  · have HV : Hid (validB l = false) := by show _ = _; unfold validB; simp; omega
    have h2 : (1 : Int) ≤ (l.length : Int) := by omega
    clear h0
    go_enter Tryd.func23, Tryd.ntmps23
    go_wp2_with fail
    go_ret
    rw [HV.out]
    exact ⟨rfl, S0.be⟩
  obtain ⟨bb, off, hA, hbl, hc⟩ := S0.zone (by omega)
  subst hA
  have hp : 0 < l.length := by omega
  have hp1 : (1 : Int) ≤ (l.length : Int) := by omega
  have hp2 : (l.length : Int) ≤ 20 := by omega
  have y0 := (hc 0 hp).1
  have HC := Lib.hid hc
  clear hc h0 h1
  simp only [Nat.zero_mul, Nat.add_zero] at y0
  by_cases hf0 : l[0].f = 0
  · have HF0 := Lib.hid hf0
    rw [hf0] at y0
    clear hf0
    go_enter Tryd.func23, Tryd.ntmps23
    go_wp2_with fail
    clear y0
    generalize w.alloc (.cells #[.slice (some ⟨bb, off, none⟩) l.length cap] 24) = W at S0 hcA hbl HC ⊢
    obtain ⟨z, hz⟩ : ∃ z, w.heap.size = z := ⟨_, rfl⟩
    have HZ := Lib.hid hz
    simp only [hz] at S0 hcA ⊢
    clear hz
    go_loopw [3] (fun i wr => ∃ (k : Nat) (last : Int), k ≤ l.length ∧ i = .int .i64 k ∧ Seen l k last ∧ Below W.heap.size W wr) (fun i _ => l.length - (Go.RowKit.intOf i).toNat)
    case atStart => exact ⟨0, -1, Nat.zero_le _, rfl, ⟨rfl, fun _ => rfl, fun h => by omega, fun j hj e => by omega⟩, Below.refl _ _⟩
    case round =>
      obtain ⟨k, last, hk, rfl, hse, hb⟩ := hrel
      have SR := S0.on hb
      have HB := Lib.hid hb
      have HSE := Lib.hid hse
      clear hb hse hcA
      have hcA := SR.cell
      by_cases hlt : k < l.length
      · have hlt2 : (k : Int) < (l.length : Int) := by omega
        have x0 := (HB.out.cell (p := ⟨bb, off + k * 2, none⟩) hbl).trans (HC.out k hlt).1
        have x1 := (HB.out.cell (p := ⟨bb, off + k * 2 + 1, none⟩) hbl).trans (HC.out k hlt).2
        have hsr := HB.out.size
        have hbr : bb < wr.heap.size := Nat.lt_of_lt_of_le hbl hsr
        have hzr : z < wr.heap.size := SR.lt
        have hzs := S0.be.size
        obtain ⟨f, hf⟩ : ∃ f, l[k].f = f := ⟨_, rfl⟩
        obtain ⟨o, ho⟩ : ∃ o, l[k].o = o := ⟨_, rfl⟩
        have HFO := Lib.hid (show l[k].f = f ∧ l[k].o = o from ⟨hf, ho⟩)
        have HLT := Lib.hid hlt
        rcases Nat.eq_zero_or_pos k with rfl | hkp
        · rw [hf] at x0
          rw [ho] at x1
          have hf' : f = 0 := hf.symm.trans HF0.out
          have HFO1 := HFO.out.1
          have HFO2 := HFO.out.2
          have HQ1 := Lib.hid HFO1
          have HQ2 := Lib.hid HFO2
          clear hf ho HFO1 HFO2
          subst hf'
          simp only [Nat.zero_mul, Nat.add_zero] at x0 x1
          have hla := HSE.out.zero rfl
          subst hla
          by_cases c1 : o < -840
          · have HV : Hid (validB l = false) := HSE.out.bad HLT.out (fun h => by have := (shOk_first HFO.out.1).1 h; rw [HFO.out.2] at this; omega)
            go_wp2_with fail
            go_quiet (fail)
            go_wp2_with fail
            go_ret
            rw [HV.out]
            exact ⟨rfl, HZ.out ▸ (S0.be.trans ((below_drewN (HB.out.alloc hsr _) _).mono hzs))⟩
          by_cases c2 : 840 < o
          · have HV : Hid (validB l = false) := HSE.out.bad HLT.out (fun h => by have := (shOk_first HFO.out.1).1 h; rw [HFO.out.2] at this; omega)
            have c3 : -840 ≤ o := by omega
            have b1 : decide (o < -840) = false := decide_eq_false (by omega)
            clear c1
            go_wp2_with fail
            go_quiet (fail)
            go_wp2_with fail
            go_ret
            rw [HV.out]
            exact ⟨rfl, HZ.out ▸ (S0.be.trans ((below_drewN (HB.out.alloc hsr _) _).mono hzs))⟩
          have HS : Hid (Seen l (0 + 1) l[0].f) := HSE.out.step HLT.out ((shOk_first HFO.out.1).2 (by rw [HFO.out.2]; omega))
          have c3 : -840 ≤ o := by omega
          have c4 : o ≤ 840 := by omega
          have b1 : decide (o < -840) = false := decide_eq_false (by omega)
          have b2 : decide (840 < o) = false := decide_eq_false (by omega)
          clear c1 c2
          go_wp2_with fail
          go_quiet (fail)
          go_wp2_with fail
          go_roundw
          case rel => exact ⟨0 + 1, _, by omega, by go_num, HS.out, below_drewN (HB.out.alloc hsr _) _⟩
          case measure => simp [Go.RowKit.intOf]; omega
        · obtain ⟨j, rfl⟩ : ∃ j, k = j + 1 := ⟨k - 1, by omega⟩
          have x2 := (HB.out.cell (p := ⟨bb, off + j * 2, none⟩) hbl).trans (HC.out j (by omega)).1
          have hl0 := HSE.out.pos hkp
          have hla := HSE.out.prev j (by omega) rfl
          rw [← hla] at x2
          rw [hf] at x0
          rw [ho] at x1
          have hkp2 : (0 : Int) < ((j + 1 : Nat) : Int) := by omega
          have hlt3 : (j : Int) < (l.length : Int) := by omega
          have hkp3 : (0 : Int) < (j : Int) + 1 := by omega
          have hkp4 : decide ((0 : Int) < (j : Int) + 1) = true := decide_eq_true hkp3
          have HSI : Hid (shOk (decide (j + 1 = 0)) last l[j + 1] = true ↔ (last < f ∧ f ≤ 144001439 ∧ -840 ≤ o ∧ o ≤ 840)) := by
            show _ ↔ _
            have := shOk_next (last := last) (s := l[j + 1]'hlt) hl0
            rw [show decide (j + 1 = 0) = false by simp, ← hf, ← ho]
            exact this
          clear hf ho hla hkp
          by_cases c1 : f ≤ last
          · have HV : Hid (validB l = false) := HSE.out.bad HLT.out (fun h => by have := HSI.out.1 h; omega)
            go_wp2_with fail
            go_quiet (fail)
            go_wp2_with fail
            go_ret
            rw [HV.out]
            exact ⟨rfl, HZ.out ▸ (S0.be.trans ((below_drewN (HB.out.alloc hsr _) _).mono hzs))⟩
          have d1 : last < f := by omega
          have bf : decide (f ≤ last) = false := decide_eq_false (by omega)
          clear c1
          by_cases c1 : 144001439 < f
          · have HV : Hid (validB l = false) := HSE.out.bad HLT.out (fun h => by have := HSI.out.1 h; omega)
            go_wp2_with fail
            go_quiet (fail)
            go_wp2_with fail
            go_ret
            rw [HV.out]
            exact ⟨rfl, HZ.out ▸ (S0.be.trans ((below_drewN (HB.out.alloc hsr _) _).mono hzs))⟩
          have d2 : f ≤ 144001439 := by omega
          have bm : decide (144001439 < f) = false := decide_eq_false (by omega)
          clear c1
          by_cases c1 : o < -840
          · have HV : Hid (validB l = false) := HSE.out.bad HLT.out (fun h => by have := HSI.out.1 h; omega)
            go_wp2_with fail
            go_quiet (fail)
            go_wp2_with fail
            go_ret
            rw [HV.out]
            exact ⟨rfl, HZ.out ▸ (S0.be.trans ((below_drewN (HB.out.alloc hsr _) _).mono hzs))⟩
          have d3 : -840 ≤ o := by omega
          have bo : decide (o < -840) = false := decide_eq_false (by omega)
          clear c1
          by_cases c1 : 840 < o
          · have HV : Hid (validB l = false) := HSE.out.bad HLT.out (fun h => by have := HSI.out.1 h; omega)
            go_wp2_with fail
            go_quiet (fail)
            go_wp2_with fail
            go_ret
            rw [HV.out]
            exact ⟨rfl, HZ.out ▸ (S0.be.trans ((below_drewN (HB.out.alloc hsr _) _).mono hzs))⟩
          have d4 : o ≤ 840 := by omega
          have bp : decide (840 < o) = false := decide_eq_false (by omega)
          clear c1
          have HS : Hid (Seen l (j + 1 + 1) l[j + 1].f) := HSE.out.step HLT.out (HSI.out.2 ⟨d1, d2, d3, d4⟩)
          go_wp2_with fail
          go_quiet (fail)
          go_wp2_with fail
          go_roundw
          case rel => exact ⟨j + 1 + 1, _, by omega, by go_num, HS.out, below_drewN (HB.out.alloc hsr _) _⟩
          case measure => simp [Go.RowKit.intOf]; omega
      · have HV : Hid (validB l = true) := HSE.out.done hlt hp (by omega)
        go_wp2_with fail
        go_ret
        rw [HV.out]
        exact ⟨rfl, HZ.out ▸ SR.be⟩
  · have HV : Hid (validB l = false) := by
      show _ = _
      by_cases hv : validB l = true
      · exact absurd (tiles_of hv).zero hf0
      · simpa using hv
    have hb : (l[0].f == 0) = false := by simp [hf0]
    have hb2 : (l[0].f != 0) = true := by simp [hf0]
    generalize l[0].f = f0 at y0 hb hb2 hf0
    go_enter Tryd.func23, Tryd.ntmps23
    go_wp2_with fail
    go_ret
    rw [HV.out]
    exact ⟨rfl, S0.be⟩
end Go.Proofs.YtgjombfcldihhaaDoor
