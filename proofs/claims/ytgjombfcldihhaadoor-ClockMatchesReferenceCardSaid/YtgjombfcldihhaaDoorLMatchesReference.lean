/- ClockMatchesReference: the walk.
   Conditions: the library's tables and sentinels are laid; the zone lies in memory as ShiftsAt says. -/
import Derived.Test.YtgjombfcldihhaaDoorNB
import Derived.Test.YtgjombfcldihhaaDoorND
import Derived.Deep.DeepCutAuto
import Derived.Deep.RegionHeld3
namespace Go.Proofs.YtgjombfcldihhaaDoor
open Go.RowKit Go.Lib
set_option linter.unusedVariables false
set_option linter.unusedSimpArgs false

set_option maxRecDepth 100000 in
set_option maxHeartbeats 40000000 in
theorem match_walk (w : World) (hl : LaidC w) (A : Option Addr) (cap : Nat) (l : List Sh) (hz : ShiftsAt w A l) (hlen : l.length ≤ 9223372036854775807) (t day minute : Int) (ht : -9223372036854775808 ≤ t ∧ t ≤ 9223372036854775807) (hd : -9223372036854775808 ≤ day ∧ day ≤ 9223372036854775807) (hm : -9223372036854775808 ≤ minute ∧ minute ≤ 9223372036854775807) (s : ByteArray) (hs : s.size ≤ 281474976710656) :
    Calls Tryd.prog 3 #[zoneVal A l.length cap, .int .i64 t, .int .i64 day, .int .i64 minute, .string s] w fun e w' => e = .returned (.bool true) ∧ Below w.heap.size w w' := by
  obtain ⟨t0, t1⟩ := ht
  obtain ⟨d0, d1⟩ := hd
  obtain ⟨m0, m1⟩ := hm
  have HL := Lib.hid hl
  have S0 := ZSt.box w A cap l hz
  clear hl hz
  simp only [zoneVal]
  have hcA := S0.cell
  go_enter Tryd.func3, Tryd.ntmps3
  go_wp2_with fail
  generalize w.alloc (.cells #[.slice A l.length cap] 24) = wA at S0 hcA ⊢
  obtain ⟨z, hz⟩ : ∃ z, w.heap.size = z := ⟨_, rfl⟩
  have HZ := Lib.hid hz
  simp only [hz] at S0 hcA ⊢
  clear hz
  refine (head_calls _ (HL.out.below S0.be)).mono ?_
  rintro e w1 ⟨rfl, hb⟩
  have S1 := S0.on hb
  clear hb hcA
  have hcA := S1.cell
  go_wp2_with fail
  have cc := few_calls w1 A l.length cap 40
  simp only [zoneVal] at cc
  refine cc.mono ?_
  clear cc
  rintro e w2 ⟨rfl, hb⟩
  have S2 := S1.on hb
  clear hb hcA
  have hcA := S2.cell
  by_cases hf : (l.length : Int) ≤ 40
  · rw [decide_eq_true hf]
    obtain ⟨a, b, e1, hL⟩ : ∃ a b e, localR l t = (a, b, e) := ⟨_, _, _, rfl⟩
    obtain ⟨u, e2, hI⟩ : ∃ u e, instR l day minute = (u, e) := ⟨_, _, rfl⟩
    obtain ⟨v, e3, hB⟩ : ∃ u e, instR l day 0 = (u, e) := ⟨_, _, rfl⟩
    obtain ⟨x, e4, hT⟩ : ∃ u e, textR t = (u, e) := ⟨_, _, rfl⟩
    obtain ⟨y, e5, hP⟩ : ∃ u e, parseR s = (u, e) := ⟨_, _, rfl⟩
    obtain ⟨vb, hV⟩ : ∃ u, validB l = u := ⟨_, rfl⟩
    have c1 := fun W (hW : ZSt w z A cap l W) => local_calls W A cap l hW.zone hlen t
    have c2 := fun W (hW : ZSt w z A cap l W) => rlocal_calls W A cap l hW.zone hlen t
    have c3 := fun W (hW : ZSt w z A cap l W) => inst_calls W A cap l hW.zone hlen day minute
    have c4 := fun W (hW : ZSt w z A cap l W) => rinst_calls W A cap l hW.zone hlen day minute
    have c5 := fun W (hW : ZSt w z A cap l W) => begin_calls W A cap l hW.zone hlen day
    have c6 := fun W (hW : ZSt w z A cap l W) => rinst_calls W A cap l hW.zone hlen day 0
    have c7 := fun W (hW : ZSt w z A cap l W) => text_calls W (HL.out.below hW.be) t
    have c8 := fun W (hW : ZSt w z A cap l W) => rtext_calls W t
    have c9 := fun W (hW : ZSt w z A cap l W) => parse_calls W (HL.out.below hW.be) s hs
    have c10 := fun W (hW : ZSt w z A cap l W) => rparse_calls W s hs
    have c11 := fun W (hW : ZSt w z A cap l W) => valid_calls W A cap l hW.zone hlen
    have c12 := fun W (hW : ZSt w z A cap l W) => rvalid_calls W A cap l hW.zone hlen
    rw [hL] at c1 c2
    rw [hI] at c3 c4
    rw [hB] at c5 c6
    rw [hT] at c7 c8
    rw [hP] at c9 c10
    rw [hV] at c11 c12
    simp only [zoneVal] at c1 c2 c3 c4 c5 c6 c11 c12
    clear hL hI hB hT hP hV hf
    go_wp2_with fail
    refine (c1 _ S2).mono ?_
    rintro e w3 ⟨rfl, hb⟩
    have S3 := S2.on hb
    clear hb hcA c1
    have hcA := S3.cell
    go_wp2_with fail
    refine (c2 _ S3).mono ?_
    rintro e w4 ⟨rfl, hb⟩
    have S4 := S3.on hb
    clear hb hcA c2
    have hcA := S4.cell
    go_wp2_with fail
    refine (c3 _ S4).mono ?_
    rintro e w5 ⟨rfl, hb⟩
    have S5 := S4.on hb
    clear hb hcA c3
    have hcA := S5.cell
    go_wp2_with fail
    refine (c4 _ S5).mono ?_
    rintro e w6 ⟨rfl, hb⟩
    have S6 := S5.on hb
    clear hb hcA c4
    have hcA := S6.cell
    go_wp2_with fail
    refine (c5 _ S6).mono ?_
    rintro e w7 ⟨rfl, hb⟩
    have S7 := S6.on hb
    clear hb hcA c5
    have hcA := S7.cell
    go_wp2_with fail
    refine (c6 _ S7).mono ?_
    rintro e w8 ⟨rfl, hb⟩
    have S8 := S7.on hb
    clear hb hcA c6
    have hcA := S8.cell
    go_wp2_with fail
    refine (c7 _ S8).mono ?_
    rintro e w9 ⟨rfl, hb⟩
    have S9 := S8.on hb
    clear hb hcA c7
    have hcA := S9.cell
    go_wp2_with fail
    refine (c8 _ S9).mono ?_
    rintro e w10 ⟨rfl, hb⟩
    have S10 := S9.on hb
    clear hb hcA c8
    have hcA := S10.cell
    go_wp2_with fail
    refine (c9 _ S10).mono ?_
    rintro e w11 ⟨rfl, hb⟩
    have S11 := S10.on hb
    clear hb hcA c9
    have hcA := S11.cell
    go_wp2_with fail
    refine (c10 _ S11).mono ?_
    rintro e w12 ⟨rfl, hb⟩
    have S12 := S11.on hb
    clear hb hcA c10
    have hcA := S12.cell
    go_upto_region 14 with fail
    go_cut [34] from 100 to 139 (fun r wx => r = .bool true ∧ ZSt w z A cap l wx)
    case first =>
      have Sd := S12.on (below_drew (Below.refl w12.heap.size w12))
      clear S0 S1 S2 S3 S4 S5 S6 S7 S8 S9 S10 S11
      go_region_held3 (fun W => W.cell? ⟨z, 0, none⟩ = some (.slice A l.length cap))
        (first | go_keep | exact hcV | exact hcR)
        (first
          | (go_at_call 22; refine (c11 _ Sd).mono ?_; rintro e wv ⟨rfl, hb⟩; have SV := Sd.on hb; have hcV := SV.cell; clear hb)
          | (go_at_call 22; refine (c11 _ SR).mono ?_; rintro e wv ⟨rfl, hb⟩; have SV := SR.on hb; have hcV := SV.cell; clear hb)
          | (go_at_call 23; refine (c12 _ Sd).mono ?_; rintro e wr ⟨rfl, hb⟩; have SR := Sd.on hb; have hcR := SR.cell; clear hb)
          | (go_at_call 23; refine (c12 _ SV).mono ?_; rintro e wr ⟨rfl, hb⟩; have SR := SV.on hb; have hcR := SR.cell; clear hb))
      all_goals
        go_wp2_with fail
        go_meet
        first
          | exact ⟨rfl, SR⟩
          | exact ⟨rfl, SV⟩
          | exact ⟨by simp, SR⟩
          | exact ⟨by simp, SV⟩
    case rest =>
      obtain ⟨rfl, SF⟩ := hcut
      go_wp2_with fail
      go_ret
      exact ⟨by simp, HZ.out ▸ SF.be⟩
  · rw [decide_eq_false hf]
    go_wp2_with fail
    go_ret
    exact ⟨rfl, HZ.out ▸ S2.be⟩
end Go.Proofs.YtgjombfcldihhaaDoor
