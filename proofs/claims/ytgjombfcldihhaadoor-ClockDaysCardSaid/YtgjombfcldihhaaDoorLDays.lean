/- ClockDays: the walk.
   Conditions: the library's tables and sentinels are laid; the zone lies in memory as ShiftsAt says. -/
import Derived.Test.YtgjombfcldihhaaDoorKR
import Derived.Deep.DeepCutAuto
import Derived.Deep.RegionWith
namespace Go.Proofs.YtgjombfcldihhaaDoor
open Go.RowKit Go.Lib
set_option linter.unusedVariables false
set_option linter.unusedSimpArgs false

set_option maxRecDepth 100000 in
set_option maxHeartbeats 12000000 in
theorem days_walk (w : World) (hl : LaidC w) (A : Option Addr) (cap : Nat) (l : List Sh) (hz : ShiftsAt w A l) (hlen : l.length ≤ 9223372036854775807) (rday raw : Int) (hd : 0 ≤ rday ∧ rday ≤ 4294967295) (hr : 0 ≤ raw ∧ raw ≤ 4294967295) :
    Calls Tryd.prog 7 #[zoneVal A l.length cap, .int .u32 rday, .int .u32 raw] w fun e w' => e = .returned (.bool true) ∧ Below w.heap.size w w' := by
  obtain ⟨r0, r1⟩ := hr
  obtain ⟨rd0, rd1⟩ := hd
  have HL := Lib.hid hl
  have S0 := ZSt.box w A cap l hz
  clear hl hz
  simp only [zoneVal]
  have hcA := S0.cell
  go_enter Tryd.func7, Tryd.ntmps7
  go_wp2_with fail
  generalize w.alloc (.cells #[.slice A l.length cap] 24) = wA at S0 hcA ⊢
  obtain ⟨z, hz⟩ : ∃ z, w.heap.size = z := ⟨_, rfl⟩
  have HZ := Lib.hid hz
  simp only [hz] at S0 hcA ⊢
  clear hz
  refine (head_calls _ (HL.out.below S0.be)).mono ?_
  rintro e w1 ⟨rfl, hb⟩
  have S1 := S0.on hb
  clear hb hcA
  have hcA := S1.cell
  go_wp2_with fail
  have cc := few_calls w1 A l.length cap 40
  simp only [zoneVal] at cc
  refine cc.mono ?_
  clear cc
  rintro e w2 ⟨rfl, hb⟩
  have S2 := S1.on hb
  clear hb hcA
  have hcA := S2.cell
  by_cases hf : (l.length : Int) ≤ 40
  · rw [decide_eq_true hf]
    go_wp2_with fail
    have cc := valid_calls w2 A cap l S2.zone hlen
    simp only [zoneVal] at cc
    refine cc.mono ?_
    clear cc
    rintro e w3 ⟨rfl, hb⟩
    have S3 := S2.on hb
    clear hb hcA
    have hcA := S3.cell
    by_cases hv : validB l = true
    · rw [hv]
      obtain ⟨day, hd⟩ : ∃ t, rday % 100001 = t := ⟨_, rfl⟩
      have d0 : 0 ≤ day := by omega
      have d1 : day ≤ 100000 := by omega
      rcases days_facts hv day d0 d1 with ⟨hB1, hB2⟩ | ⟨a, b, er, hB1, a0, a1, hB2, her, hall⟩
      · have cb := fun W (hW : ZSt w z A cap l W) => begin_calls W A cap l hW.zone hlen day
        have cb2 := fun W (hW : ZSt w z A cap l W) => begin_calls W A cap l hW.zone hlen (day + 1)
        rw [hB1] at cb
        rw [hB2] at cb2
        simp only [zoneVal] at cb cb2
        clear hB1 hB2 hv
        go_wp2_with fail
        refine (cb _ S3).mono ?_
        rintro e w4 ⟨rfl, hb⟩
        have S4 := S3.on hb
        clear hb hcA
        have hcA := S4.cell
        go_wp2_with fail
        refine (cb2 _ S4).mono ?_
        rintro e w5 ⟨rfl, hb⟩
        have S5 := S4.on hb
        clear hb hcA cb cb2
        have hcA := S5.cell
        go_wp2_with fail
        go_ret
        exact ⟨rfl, HZ.out ▸ S5.be⟩
      · have HA := Lib.hid hall
        clear hall
        have cb := fun W (hW : ZSt w z A cap l W) => begin_calls W A cap l hW.zone hlen day
        have cb2 := fun W (hW : ZSt w z A cap l W) => begin_calls W A cap l hW.zone hlen (day + 1)
        rw [hB1] at cb
        rw [hB2] at cb2
        simp only [zoneVal] at cb cb2
        clear hB1 hB2 
        go_wp2_with fail
        refine (cb _ S3).mono ?_
        rintro e w4 ⟨rfl, hb⟩
        have S4 := S3.on hb
        clear hb hcA
        have hcA := S4.cell
        go_wp2_with fail
        refine (cb2 _ S4).mono ?_
        rintro e w5 ⟨rfl, hb⟩
        have S5 := S4.on hb
        clear hb hcA cb cb2
        have hcA := S5.cell
        have BE := Lib.hid S5.be
        go_upto_region 9 with fail
        go_cut [70] from 56 to 70 (fun v wx => v = .bool false ∧ wx = w5)
        case first =>
          rcases her with rfl | ⟨rfl, hab⟩
          · go_wp2_with fail
            go_meet
            exact ⟨by simp; omega, rfl⟩
          · have hab2 : ¬ b < a := by omega
            go_wp2_with fail
            go_meet
            exact ⟨by simp; omega, rfl⟩
        case rest =>
          obtain ⟨rfl, rfl⟩ := hcut
          clear her
          by_cases ha0 : a = 0
          · subst ha0
            go_wp2_with fail
            go_ret
            exact ⟨rfl, HZ.out ▸ BE.out⟩
          · have hae : (a == 0) = false := by simp [ha0]
            have hap : 0 < a := by omega
            clear ha0
            obtain ⟨u, hu⟩ : ∃ u, raw % a = u := ⟨_, rfl⟩
            have u0 : 0 ≤ u := by rw [← hu]; exact Int.emod_nonneg _ (by omega)
            have u1 : u < a := by rw [← hu]; exact Int.emod_lt_of_pos _ hap
            obtain ⟨x, x', hX, hxd⟩ := HA.out (a - 1) (by omega) (by omega)
            obtain ⟨y, y', hY, hyd⟩ := HA.out u u0 u1
            have cl := fun W (hW : ZSt w z A cap l W) => local_calls W A cap l hW.zone hlen (a - 1)
            have cl2 := fun W (hW : ZSt w z A cap l W) => local_calls W A cap l hW.zone hlen u
            rw [hX] at cl
            rw [hY] at cl2
            simp only [zoneVal] at cl cl2
            clear hX hY HA
            go_wp2_with fail
            refine (cl _ S5).mono ?_
            rintro e w6 ⟨rfl, hb⟩
            have S6 := S5.on hb
            clear hb hcA
            have hcA := S6.cell
            go_upto_region 14 with fail
            go_cut [16, 18] from 83 to 91 (fun v r wx => v = .int .i64 y ∧ r = .int .i64 0 ∧ ZSt w z A cap l wx)
            case first =>
              go_region_with (go_at_call 13; refine (cl2 _ (S6.on (below_drew (Below.refl _ _)))).mono ?_; rintro e w7 ⟨rfl, hb⟩; have S7 := (S6.on (below_drew (Below.refl _ _))).on hb; clear hb hcA; have hcA := S7.cell)
              all_goals
                go_wp2_with fail
                go_meet
                exact ⟨rfl, rfl, S7⟩
            case rest =>
              obtain ⟨rfl, rfl, S7⟩ := hcut
              go_wp2_with fail
              go_ret
              exact ⟨rfl, HZ.out ▸ S7.be⟩
    · have hv' : validB l = false := by simpa using hv
      rw [hv']
      clear hv hv'
      go_wp2_with fail
      go_ret
      exact ⟨rfl, HZ.out ▸ S3.be⟩
  · rw [decide_eq_false hf]
    go_wp2_with fail
    go_ret
    exact ⟨rfl, HZ.out ▸ S2.be⟩
end Go.Proofs.YtgjombfcldihhaaDoor
