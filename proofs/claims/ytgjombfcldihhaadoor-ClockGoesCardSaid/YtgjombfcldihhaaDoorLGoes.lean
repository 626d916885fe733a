/- ClockGoes: the walk.
   Conditions: the library's tables and sentinels are laid; the zone lies in memory as ShiftsAt says. -/
import Derived.Test.YtgjombfcldihhaaDoorKR
import Derived.Deep.DeepCutAuto
import Derived.Deep.RegionWith
namespace Go.Proofs.YtgjombfcldihhaaDoor
open Go.RowKit Go.Lib
set_option linter.unusedVariables false
set_option linter.unusedSimpArgs false

set_option maxRecDepth 100000 in
set_option maxHeartbeats 12000000 in
theorem goes_walk (w : World) (hl : LaidC w) (A : Option Addr) (cap : Nat) (l : List Sh) (hz : ShiftsAt w A l) (hlen : l.length ≤ 9223372036854775807) (raw aa : Int) (hr : 0 ≤ raw ∧ raw ≤ 4294967295) (ha : 0 ≤ aa ∧ aa ≤ 255) :
    Calls Tryd.prog 4 #[zoneVal A l.length cap, .int .u32 raw, .int .u8 aa] w fun e w' => e = .returned (.bool true) ∧ Below w.heap.size w w' := by
  obtain ⟨r0, r1⟩ := hr
  obtain ⟨aa0, aa1⟩ := ha
  have HL := Lib.hid hl
  have S0 := ZSt.box w A cap l hz
  clear hl hz
  simp only [zoneVal]
  have hcA := S0.cell
  go_enter Tryd.func4, Tryd.ntmps4
  go_wp2_with fail
  generalize w.alloc (.cells #[.slice A l.length cap] 24) = wA at S0 hcA ⊢
  obtain ⟨z, hz⟩ : ∃ z, w.heap.size = z := ⟨_, rfl⟩
  have HZ := Lib.hid hz
  simp only [hz] at S0 hcA ⊢
  clear hz
  refine (head_calls _ (HL.out.below S0.be)).mono ?_
  rintro e w1 ⟨rfl, hb⟩
  have S1 := S0.on hb
  clear hb hcA
  have hcA := S1.cell
  go_wp2_with fail
  have cc := few_calls w1 A l.length cap 40
  simp only [zoneVal] at cc
  refine cc.mono ?_
  clear cc
  rintro e w2 ⟨rfl, hb⟩
  have S2 := S1.on hb
  clear hb hcA
  have hcA := S2.cell
  by_cases hf : (l.length : Int) ≤ 40
  · rw [decide_eq_true hf]
    go_wp2_with fail
    have cc := valid_calls w2 A cap l S2.zone hlen
    simp only [zoneVal] at cc
    refine cc.mono ?_
    clear cc
    rintro e w3 ⟨rfl, hb⟩
    have S3 := S2.on hb
    clear hb hcA
    have hcA := S3.cell
    by_cases hv : validB l = true
    · rw [hv]
      have hp := (valid_facts hv).2
      rcases (show (∃ k : Nat, aa % ((l.length : Int) + 3) = k ∧ 0 < k ∧ k < l.length) ∨ (aa % ((l.length : Int) + 3) = 0 ∨ (∃ k : Nat, aa % ((l.length : Int) + 3) = k ∧ 0 < k ∧ l.length ≤ k)) from by
          have hm : 0 ≤ aa % ((l.length : Int) + 3) := Int.emod_nonneg _ (by omega)
          obtain ⟨k, hk⟩ := Int.eq_ofNat_of_zero_le hm
          rw [hk]
          rcases Nat.eq_zero_or_pos k with h0 | h0
          · right; left; omega
          · rcases Nat.lt_or_ge k l.length with h3 | h3
            · exact .inl ⟨k, rfl, h0, h3⟩
            · exact .inr (.inr ⟨k, rfl, h0, h3⟩)) with ⟨k, hk, hk0, hkl⟩ | hk | ⟨k, hk, hk0, hkl⟩
      · obtain ⟨bb, off, hA, hbl, hc⟩ := S3.zone (by omega)
        subst hA
        have y0 := (hc k hkl).1
        clear hc
        have g0 := ((tiles_of hv).each k hkl).1
        have g1 := (tiles_of hv).mono (i := 0) (j := k) (by omega) hkl hk0
        rw [(tiles_of hv).zero] at g1
        generalize l[k].f = fv at y0 g0 g1
        obtain ⟨t, ht⟩ : ∃ t, fv - 1 = t := ⟨_, rfl⟩
        have t0 : 0 ≤ t := by omega
        have t1 : t ≤ 144001438 := by omega
        go_wp2_with fail
        have T := tiles_of hv
        obtain ⟨a, b, c, d, hR1, hR2, b0, b1, d0, d1, a0, a1, c0, c1, hj⟩ := goes_facts hv t t0 t1
        have HT := Lib.hid T
        have HJ := Lib.hid hj
        clear hv hj T
        have cl := fun W (hW : ZSt w z (some ⟨bb, off, none⟩) cap l W) => local_calls W (some ⟨bb, off, none⟩) cap l hW.zone hlen t
        have cl2 := fun W (hW : ZSt w z (some ⟨bb, off, none⟩) cap l W) => local_calls W (some ⟨bb, off, none⟩) cap l hW.zone hlen (t + 1)
        rw [hR1] at cl
        rw [hR2] at cl2
        simp only [zoneVal] at cl cl2
        clear hR1 hR2
        go_wp2_with fail
        refine (cl _ S3).mono ?_
        rintro e w4 ⟨rfl, hb⟩
        have S4 := S3.on hb
        clear hb hcA
        have hcA := S4.cell
        go_wp2_with fail
        refine (cl2 _ S4).mono ?_
        rintro e w5 ⟨rfl, hb⟩
        have S5 := S4.on hb
        clear hb hcA cl cl2
        have hcA := S5.cell
        go_wp2_with fail
        go_loopw [16, 17] (fun j i wr => ∃ k : Nat, 1 ≤ k ∧ i = .int .i64 k ∧ (∃ jv, j = .int .i64 jv ∧ JumpIs l t jv k ∧ -1680 ≤ jv ∧ jv ≤ 1680) ∧ ∃ q, wr = w5.drewN q) (fun _ i _ => l.length - (Go.RowKit.intOf i).toNat)
        case atStart => exact ⟨1, Nat.le_refl _, rfl, ⟨0, rfl, .inr ⟨fun i hi h => by omega, rfl⟩, by omega, by omega⟩, 0, rfl⟩
        case round =>
          obtain ⟨k, hk1, rfl, ⟨jv, rfl, hji, jlo, jhi⟩, q, rfl⟩ := hrel
          have HI := Lib.hid hji
          clear hji
          by_cases hlt : k < l.length
          · obtain ⟨bb2, off2, hA, hbl2, hc⟩ := S5.zone (by omega)
            cases hA
            obtain ⟨j, rfl⟩ : ∃ j, k = j + 1 := ⟨k - 1, by omega⟩
            have y0 := (hc (j + 1) hlt).1
            have x0 := (hc (j + 1) hlt).2
            have x1 := (hc j (by omega)).2
            clear hc
            have g0 := (HT.out.each (j + 1) hlt).1
            have g1 := (HT.out.each (j + 1) hlt).2
            have g2 := (HT.out.each j (by omega)).2
            obtain ⟨fv, hfv⟩ : ∃ o, l[j + 1].f = o := ⟨_, rfl⟩
            obtain ⟨o1, he1⟩ : ∃ o, l[j + 1].o = o := ⟨_, rfl⟩
            obtain ⟨o0, he0⟩ : ∃ o, l[j].o = o := ⟨_, rfl⟩
            have HE := Lib.hid (show l[j + 1].f = fv ∧ l[j + 1].o = o1 ∧ l[j].o = o0 from ⟨hfv, he1, he0⟩)
            rw [hfv] at y0 g0
            rw [he1] at x0 g1
            rw [he0] at x1 g2
            clear he1 he0 hfv
            have BE := Lib.hid S5.be
            have HLT := Lib.hid hlt
            by_cases hq : fv = t + 1
            · have hqb : (fv == t + 1) = true := by simp [hq]
              have HQ := Lib.hid hq
              clear hq
              go_wp2_with fail
              go_quiet (fail)
              go_wp2_with fail
              go_roundw
              case rel => exact ⟨j + 1 + 1, by omega, by go_num, ⟨o1 - o0, by go_num, .inl ⟨j, HLT.out, by omega, HE.out.1.trans HQ.out, by rw [HE.out.2.1, HE.out.2.2]⟩, by omega, by omega⟩, _, rfl⟩
              case measure => simp [Go.RowKit.intOf]; omega
            · have hqb : (fv == t + 1) = false := by simp [hq]
              have HQ := Lib.hid hq
              clear hq
              go_wp2_with fail
              go_roundw
              case rel =>
                refine ⟨j + 1 + 1, by omega, by go_num, ⟨jv, rfl, ?_, jlo, jhi⟩, _, rfl⟩
                rcases HI.out with ⟨i, hi, h1, h2, h3⟩ | ⟨hno, h0⟩
                · exact .inl ⟨i, hi, by omega, h2, h3⟩
                · refine .inr ⟨fun i hi h1 => ?_, h0⟩
                  rcases Nat.lt_or_ge i j with h3 | h3
                  · exact hno i hi (by omega)
                  · obtain rfl : i = j := by omega
                    rw [HE.out.1]; exact HQ.out
              case measure => simp [Go.RowKit.intOf]; omega
          · have hfin := HJ.out jv k (by omega) HI.out
            have BE := Lib.hid S5.be
            have hb1 : (1440 * c + d == 1440 * a + b + 1 + jv) = true := by simp [hfin]
            clear hfin S0 S1 S2 S3 S4 S5
            go_wp2_with fail
            go_ret
            exact ⟨rfl, ⟨BE.out.os, BE.out.tape, BE.out.output, HZ.out ▸ BE.out.size, HZ.out ▸ BE.out.block⟩⟩
      · obtain ⟨t, ht⟩ : ∃ t, raw % 144001439 = t := ⟨_, rfl⟩
        have t0 : 0 ≤ t := by omega
        have t1 : t ≤ 144001438 := by omega
        go_wp2_with fail
        have T := tiles_of hv
        obtain ⟨a, b, c, d, hR1, hR2, b0, b1, d0, d1, a0, a1, c0, c1, hj⟩ := goes_facts hv t t0 t1
        have HT := Lib.hid T
        have HJ := Lib.hid hj
        clear hv hj T
        have cl := fun W (hW : ZSt w z A cap l W) => local_calls W A cap l hW.zone hlen t
        have cl2 := fun W (hW : ZSt w z A cap l W) => local_calls W A cap l hW.zone hlen (t + 1)
        rw [hR1] at cl
        rw [hR2] at cl2
        simp only [zoneVal] at cl cl2
        clear hR1 hR2
        go_wp2_with fail
        refine (cl _ S3).mono ?_
        rintro e w4 ⟨rfl, hb⟩
        have S4 := S3.on hb
        clear hb hcA
        have hcA := S4.cell
        go_wp2_with fail
        refine (cl2 _ S4).mono ?_
        rintro e w5 ⟨rfl, hb⟩
        have S5 := S4.on hb
        clear hb hcA cl cl2
        have hcA := S5.cell
        go_wp2_with fail
        go_loopw [16, 17] (fun j i wr => ∃ k : Nat, 1 ≤ k ∧ i = .int .i64 k ∧ (∃ jv, j = .int .i64 jv ∧ JumpIs l t jv k ∧ -1680 ≤ jv ∧ jv ≤ 1680) ∧ ∃ q, wr = w5.drewN q) (fun _ i _ => l.length - (Go.RowKit.intOf i).toNat)
        case atStart => exact ⟨1, Nat.le_refl _, rfl, ⟨0, rfl, .inr ⟨fun i hi h => by omega, rfl⟩, by omega, by omega⟩, 0, rfl⟩
        case round =>
          obtain ⟨k, hk1, rfl, ⟨jv, rfl, hji, jlo, jhi⟩, q, rfl⟩ := hrel
          have HI := Lib.hid hji
          clear hji
          by_cases hlt : k < l.length
          · obtain ⟨bb, off, hA, hbl, hc⟩ := S5.zone (by omega)
            cases hA
            obtain ⟨j, rfl⟩ : ∃ j, k = j + 1 := ⟨k - 1, by omega⟩
            have y0 := (hc (j + 1) hlt).1
            have x0 := (hc (j + 1) hlt).2
            have x1 := (hc j (by omega)).2
            clear hc
            have g0 := (HT.out.each (j + 1) hlt).1
            have g1 := (HT.out.each (j + 1) hlt).2
            have g2 := (HT.out.each j (by omega)).2
            obtain ⟨fv, hfv⟩ : ∃ o, l[j + 1].f = o := ⟨_, rfl⟩
            obtain ⟨o1, he1⟩ : ∃ o, l[j + 1].o = o := ⟨_, rfl⟩
            obtain ⟨o0, he0⟩ : ∃ o, l[j].o = o := ⟨_, rfl⟩
            have HE := Lib.hid (show l[j + 1].f = fv ∧ l[j + 1].o = o1 ∧ l[j].o = o0 from ⟨hfv, he1, he0⟩)
            rw [hfv] at y0 g0
            rw [he1] at x0 g1
            rw [he0] at x1 g2
            clear he1 he0 hfv
            have BE := Lib.hid S5.be
            have HLT := Lib.hid hlt
            by_cases hq : fv = t + 1
            · have hqb : (fv == t + 1) = true := by simp [hq]
              have HQ := Lib.hid hq
              clear hq
              go_wp2_with fail
              go_quiet (fail)
              go_wp2_with fail
              go_roundw
              case rel => exact ⟨j + 1 + 1, by omega, by go_num, ⟨o1 - o0, by go_num, .inl ⟨j, HLT.out, by omega, HE.out.1.trans HQ.out, by rw [HE.out.2.1, HE.out.2.2]⟩, by omega, by omega⟩, _, rfl⟩
              case measure => simp [Go.RowKit.intOf]; omega
            · have hqb : (fv == t + 1) = false := by simp [hq]
              have HQ := Lib.hid hq
              clear hq
              go_wp2_with fail
              go_roundw
              case rel =>
                refine ⟨j + 1 + 1, by omega, by go_num, ⟨jv, rfl, ?_, jlo, jhi⟩, _, rfl⟩
                rcases HI.out with ⟨i, hi, h1, h2, h3⟩ | ⟨hno, h0⟩
                · exact .inl ⟨i, hi, by omega, h2, h3⟩
                · refine .inr ⟨fun i hi h1 => ?_, h0⟩
                  rcases Nat.lt_or_ge i j with h3 | h3
                  · exact hno i hi (by omega)
                  · obtain rfl : i = j := by omega
                    rw [HE.out.1]; exact HQ.out
              case measure => simp [Go.RowKit.intOf]; omega
          · have hfin := HJ.out jv k (by omega) HI.out
            have BE := Lib.hid S5.be
            have hb1 : (1440 * c + d == 1440 * a + b + 1 + jv) = true := by simp [hfin]
            clear hfin S0 S1 S2 S3 S4 S5
            go_wp2_with fail
            go_ret
            exact ⟨rfl, ⟨BE.out.os, BE.out.tape, BE.out.output, HZ.out ▸ BE.out.size, HZ.out ▸ BE.out.block⟩⟩
      · obtain ⟨t, ht⟩ : ∃ t, raw % 144001439 = t := ⟨_, rfl⟩
        have t0 : 0 ≤ t := by omega
        have t1 : t ≤ 144001438 := by omega
        go_wp2_with fail
        have T := tiles_of hv
        obtain ⟨a, b, c, d, hR1, hR2, b0, b1, d0, d1, a0, a1, c0, c1, hj⟩ := goes_facts hv t t0 t1
        have HT := Lib.hid T
        have HJ := Lib.hid hj
        clear hv hj T
        have cl := fun W (hW : ZSt w z A cap l W) => local_calls W A cap l hW.zone hlen t
        have cl2 := fun W (hW : ZSt w z A cap l W) => local_calls W A cap l hW.zone hlen (t + 1)
        rw [hR1] at cl
        rw [hR2] at cl2
        simp only [zoneVal] at cl cl2
        clear hR1 hR2
        go_wp2_with fail
        refine (cl _ S3).mono ?_
        rintro e w4 ⟨rfl, hb⟩
        have S4 := S3.on hb
        clear hb hcA
        have hcA := S4.cell
        go_wp2_with fail
        refine (cl2 _ S4).mono ?_
        rintro e w5 ⟨rfl, hb⟩
        have S5 := S4.on hb
        clear hb hcA cl cl2
        have hcA := S5.cell
        go_wp2_with fail
        go_loopw [16, 17] (fun j i wr => ∃ k : Nat, 1 ≤ k ∧ i = .int .i64 k ∧ (∃ jv, j = .int .i64 jv ∧ JumpIs l t jv k ∧ -1680 ≤ jv ∧ jv ≤ 1680) ∧ ∃ q, wr = w5.drewN q) (fun _ i _ => l.length - (Go.RowKit.intOf i).toNat)
        case atStart => exact ⟨1, Nat.le_refl _, rfl, ⟨0, rfl, .inr ⟨fun i hi h => by omega, rfl⟩, by omega, by omega⟩, 0, rfl⟩
        case round =>
          obtain ⟨k, hk1, rfl, ⟨jv, rfl, hji, jlo, jhi⟩, q, rfl⟩ := hrel
          have HI := Lib.hid hji
          clear hji
          by_cases hlt : k < l.length
          · obtain ⟨bb, off, hA, hbl, hc⟩ := S5.zone (by omega)
            cases hA
            obtain ⟨j, rfl⟩ : ∃ j, k = j + 1 := ⟨k - 1, by omega⟩
            have y0 := (hc (j + 1) hlt).1
            have x0 := (hc (j + 1) hlt).2
            have x1 := (hc j (by omega)).2
            clear hc
            have g0 := (HT.out.each (j + 1) hlt).1
            have g1 := (HT.out.each (j + 1) hlt).2
            have g2 := (HT.out.each j (by omega)).2
            obtain ⟨fv, hfv⟩ : ∃ o, l[j + 1].f = o := ⟨_, rfl⟩
            obtain ⟨o1, he1⟩ : ∃ o, l[j + 1].o = o := ⟨_, rfl⟩
            obtain ⟨o0, he0⟩ : ∃ o, l[j].o = o := ⟨_, rfl⟩
            have HE := Lib.hid (show l[j + 1].f = fv ∧ l[j + 1].o = o1 ∧ l[j].o = o0 from ⟨hfv, he1, he0⟩)
            rw [hfv] at y0 g0
            rw [he1] at x0 g1
            rw [he0] at x1 g2
            clear he1 he0 hfv
            have BE := Lib.hid S5.be
            have HLT := Lib.hid hlt
            by_cases hq : fv = t + 1
            · have hqb : (fv == t + 1) = true := by simp [hq]
              have HQ := Lib.hid hq
              clear hq
              go_wp2_with fail
              go_quiet (fail)
              go_wp2_with fail
              go_roundw
              case rel => exact ⟨j + 1 + 1, by omega, by go_num, ⟨o1 - o0, by go_num, .inl ⟨j, HLT.out, by omega, HE.out.1.trans HQ.out, by rw [HE.out.2.1, HE.out.2.2]⟩, by omega, by omega⟩, _, rfl⟩
              case measure => simp [Go.RowKit.intOf]; omega
            · have hqb : (fv == t + 1) = false := by simp [hq]
              have HQ := Lib.hid hq
              clear hq
              go_wp2_with fail
              go_roundw
              case rel =>
                refine ⟨j + 1 + 1, by omega, by go_num, ⟨jv, rfl, ?_, jlo, jhi⟩, _, rfl⟩
                rcases HI.out with ⟨i, hi, h1, h2, h3⟩ | ⟨hno, h0⟩
                · exact .inl ⟨i, hi, by omega, h2, h3⟩
                · refine .inr ⟨fun i hi h1 => ?_, h0⟩
                  rcases Nat.lt_or_ge i j with h3 | h3
                  · exact hno i hi (by omega)
                  · obtain rfl : i = j := by omega
                    rw [HE.out.1]; exact HQ.out
              case measure => simp [Go.RowKit.intOf]; omega
          · have hfin := HJ.out jv k (by omega) HI.out
            have BE := Lib.hid S5.be
            have hb1 : (1440 * c + d == 1440 * a + b + 1 + jv) = true := by simp [hfin]
            clear hfin S0 S1 S2 S3 S4 S5
            go_wp2_with fail
            go_ret
            exact ⟨rfl, ⟨BE.out.os, BE.out.tape, BE.out.output, HZ.out ▸ BE.out.size, HZ.out ▸ BE.out.block⟩⟩
    · have hv' : validB l = false := by simpa using hv
      rw [hv']
      clear hv hv'
      go_wp2_with fail
      go_ret
      exact ⟨rfl, HZ.out ▸ S3.be⟩
  · rw [decide_eq_false hf]
    go_wp2_with fail
    go_ret
    exact ⟨rfl, HZ.out ▸ S2.be⟩
end Go.Proofs.YtgjombfcldihhaaDoor
