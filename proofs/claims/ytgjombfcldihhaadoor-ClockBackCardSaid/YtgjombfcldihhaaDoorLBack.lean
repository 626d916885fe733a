/- ClockBack: the walk.
   Conditions: the library's tables and sentinels are laid; the zone lies in memory as ShiftsAt says. -/
import Derived.Test.YtgjombfcldihhaaDoorKQ
namespace Go.Proofs.YtgjombfcldihhaaDoor
open Go.RowKit Go.Lib
set_option linter.unusedVariables false

set_option maxRecDepth 100000 in
set_option maxHeartbeats 4000000 in
theorem back_walk (w : World) (hl : LaidC w) (A : Option Addr) (cap : Nat) (l : List Sh) (hz : ShiftsAt w A l) (hlen : l.length ≤ 9223372036854775807) (raw : Int) (hr : 0 ≤ raw ∧ raw ≤ 4294967295) :
    Calls Tryd.prog 6 #[zoneVal A l.length cap, .int .u32 raw] w fun e w' => e = .returned (.bool true) ∧ Below w.heap.size w w' := by
  obtain ⟨r0, r1⟩ := hr
  have HL := Lib.hid hl
  have S0 := ZSt.box w A cap l hz
  clear hl hz
  simp only [zoneVal]
  have hcA := S0.cell
  go_enter Tryd.func6, Tryd.ntmps6
  go_wp2_with fail
  generalize w.alloc (.cells #[.slice A l.length cap] 24) = wA at S0 hcA ⊢
  obtain ⟨z, hz⟩ : ∃ z, w.heap.size = z := ⟨_, rfl⟩
  have HZ := Lib.hid hz
  simp only [hz] at S0 hcA ⊢
  clear hz
  refine (head_calls _ (HL.out.below S0.be)).mono ?_
  rintro e w1 ⟨rfl, hb⟩
  have S1 := S0.on hb
  clear hb hcA
  have hcA := S1.cell
  go_wp2_with fail
  have cc := few_calls w1 A l.length cap 40
  simp only [zoneVal] at cc
  refine cc.mono ?_
  clear cc
  rintro e w2 ⟨rfl, hb⟩
  have S2 := S1.on hb
  clear hb hcA
  have hcA := S2.cell
  by_cases hf : (l.length : Int) ≤ 40
  · rw [decide_eq_true hf]
    go_wp2_with fail
    have cc := valid_calls w2 A cap l S2.zone hlen
    simp only [zoneVal] at cc
    refine cc.mono ?_
    clear cc
    rintro e w3 ⟨rfl, hb⟩
    have S3 := S2.on hb
    clear hb hcA
    have hcA := S3.cell
    by_cases hv : validB l = true
    · rw [hv]
      obtain ⟨t, ht⟩ : ∃ t, raw % 144001440 = t := ⟨_, rfl⟩
      have t0 : 0 ≤ t := by omega
      have t1 : t ≤ 144001439 := by omega
      obtain ⟨a, b, u, hR, hI, hut, hmono, a0, a1, b0, b1⟩ := back_facts hv t t0 t1
      have HM := Lib.hid hmono
      have HV := Lib.hid hv
      clear hmono hv
      have cl := fun W (hW : ZSt w z A cap l W) => local_calls W A cap l hW.zone hlen t
      have ci := fun W (hW : ZSt w z A cap l W) => inst_calls W A cap l hW.zone hlen a b
      rw [hR] at cl
      rw [hI] at ci
      simp only [zoneVal] at cl ci
      clear hR hI
      go_wp2_with fail
      refine (cl _ S3).mono ?_
      rintro e w4 ⟨rfl, hb⟩
      have S4 := S3.on hb
      clear hb hcA
      have hcA := S4.cell
      go_wp2_with fail
      refine (ci _ S4).mono ?_
      rintro e w5 ⟨rfl, hb⟩
      have S5 := S4.on hb
      clear hb hcA cl ci
      have hcA := S5.cell
      go_wp2_with fail
      go_loopw [12] (fun i wr => ∃ k : Nat, 1 ≤ k ∧ i = .int .i64 k ∧ (∀ j (hj : j + 1 < l.length), j + 1 < k → l[j].o ≤ l[j + 1].o) ∧ ∃ q, wr = w5.drewN q) (fun i _ => l.length - (Go.RowKit.intOf i).toNat)
      case atStart => exact ⟨1, Nat.le_refl _, rfl, fun j hj h => by omega, 0, rfl⟩
      case round =>
        obtain ⟨k, hk1, rfl, hall, q, rfl⟩ := hrel
        have HA := Lib.hid hall
        clear hall
        by_cases hlt : k < l.length
        · obtain ⟨bb, off, hA, hbl, hc⟩ := S5.zone (by omega)
          subst hA
          obtain ⟨j, rfl⟩ : ∃ j, k = j + 1 := ⟨k - 1, by omega⟩
          have x0 := (hc (j + 1) hlt).2
          have x1 := (hc j (by omega)).2
          clear hc
          have BE := Lib.hid S5.be
          have HOJ := Lib.hid (show l[j + 1].o < l[j].o ∨ l[j].o ≤ l[j + 1].o from by omega)
          have hEach : Hid (∀ i (hi : i + 1 < l.length), i + 1 < j + 1 + 1 → (l[j].o ≤ l[j + 1].o) → l[i].o ≤ l[i + 1].o) := by
            show ∀ i (hi : i + 1 < l.length), _
            intro i hi h1 h2
            rcases Nat.lt_or_ge i j with h3 | h3
            · exact HA.out i hi (by omega)
            · obtain rfl : i = j := by omega
              exact h2
          have hEach2 : Hid (∀ o0 o1 : Int, l[j].o = o0 → l[j + 1].o = o1 → o0 ≤ o1 → ∀ i (hi : i + 1 < l.length), i + 1 < j + 1 + 1 → l[i].o ≤ l[i + 1].o) := by
            show ∀ o0 o1 : Int, _
            intro o0 o1 e0 e1 h2 i hi h1
            exact hEach.out i hi h1 (by rw [e0, e1]; exact h2)
          obtain ⟨o1, he1⟩ : ∃ o, l[j + 1].o = o := ⟨_, rfl⟩
          obtain ⟨o0, he0⟩ : ∃ o, l[j].o = o := ⟨_, rfl⟩
          have HE1 := Lib.hid he1
          have HE0 := Lib.hid he0
          rw [he1] at x0 HOJ
          rw [he0] at x1 HOJ
          clear he1 he0 hEach
          have S5z := Lib.hid S5
          clear S0 S1 S2 S3 S4 S5 HA
          rcases HOJ.out with hlo | hlo
          · go_wp2_with fail
            go_quiet (fail)
            go_wp2_with fail
            go_ret
            exact ⟨rfl, ⟨BE.out.os, BE.out.tape, BE.out.output, HZ.out ▸ BE.out.size, HZ.out ▸ BE.out.block⟩⟩
          · go_wp2_with fail
            go_quiet (fail)
            go_wp2_with fail
            go_roundw
            case rel => exact ⟨j + 1 + 1, by omega, by go_num, fun i hi h1 => hEach2.out o0 o1 HE0.out HE1.out hlo i hi h1, _, rfl⟩
            case measure => simp [Go.RowKit.intOf]; omega
        · have hut2 : u = t := HM.out fun i hi => HA.out i hi (by omega)
          have BE := Lib.hid S5.be
          have hb : (u == t) = true := by simp [hut2]
          clear hut2 HA S0 S1 S2 S3 S4 S5
          go_wp2_with fail
          go_ret
          exact ⟨rfl, ⟨BE.out.os, BE.out.tape, BE.out.output, HZ.out ▸ BE.out.size, HZ.out ▸ BE.out.block⟩⟩
    · have hv' : validB l = false := by simpa using hv
      rw [hv']
      clear hv hv'
      go_wp2_with fail
      go_ret
      exact ⟨rfl, HZ.out ▸ S3.be⟩
  · rw [decide_eq_false hf]
    go_wp2_with fail
    go_ret
    exact ⟨rfl, HZ.out ▸ S2.be⟩
end Go.Proofs.YtgjombfcldihhaaDoor
