/- DiskMatchesReference: all results agree with the reference implementation.
   Conditions: the argument lies in memory as ActsArg says. -/
import Derived.Test.YtbjomjlchafkfaaSH
import Derived.Deep.DeepCutAuto
namespace Go.Proofs.Ytbjomjlchafkfaa
open Go.RowKit Go.Lib
set_option linter.unusedVariables false

set_option maxRecDepth 100000 in
set_option maxHeartbeats 4000000 in
theorem match_walk (w : World) (raw : Int) (hr : 0 ≤ raw ∧ raw ≤ 255) (sectors : Int) (hsec : i64ok sectors) (A1 : Option Addr) (cap1 : Nat) (l1 : List Act0) (hl1 : ActsArg w A1 l1) :
    Calls Try.prog 3 #[.int .u8 raw, .int .i64 sectors, .slice A1 l1.length cap1] w fun e w' => e = .returned (.bool true) ∧ Below w.heap.size w w' := by
  obtain ⟨r0, r1⟩ := hr
  have HA1 := Lib.hid hl1
  clear hl1 hsec
  go_enter Try.func3, Try.ntmps3
  go_wp2_with fail
  refine (head_calls w).mono ?_
  rintro e w1 ⟨rfl, hb1⟩
  have HB1 := Lib.hid hb1
  have G1 := Lib.hid (HA1.out.later hb1)
  clear hb1
  go_wp2_with fail
  refine (ok_calls w1 A1 cap1 l1 G1.out.at_ G1.out.len fun x hx => (G1.out.each x hx).t).mono ?_
  rintro e w1' ⟨rfl, hw⟩
  subst hw
  by_cases ho1 : okB l1 = true
  · rw [ho1]
    have HO1 := Lib.hid ho1
    clear ho1
    go_upto_region 4 with fail
    go_cut [34] from 25 to 34 (fun v wx => v = .bool false ∧ Below w.heap.size w wx)
    case first =>
      go_wp2_with fail
      by_cases hs : sectors < 1 ∨ 4000 < sectors
      · refine (new_no _ _ hs).mono ?_
        rintro e w2 ⟨rfl, hw⟩
        subst hw
        rcases hs with hs | hs
        · go_wp2_with fail
          go_meet
          exact ⟨rfl, HB1.out⟩
        · have hs2 : ¬ sectors < 1 := by omega
          go_wp2_with fail
          go_meet
          exact ⟨rfl, HB1.out⟩
      · obtain ⟨sn, rfl⟩ := Int.eq_ofNat_of_zero_le (show 0 ≤ sectors by omega)
        refine (new_ok _ sn (by omega) (by omega)).mono ?_
        rintro e w2 ⟨p, F, rfl, _, hbe, _⟩
        have HB2 := Lib.hid (HB1.out.trans (hbe.mono HB1.out.size))
        clear hbe
        have q1 : ¬ (sn : Int) < 1 := by omega
        have q2 : ¬ 4000 < (sn : Int) := by omega
        clear hs
        go_wp2_with fail
        go_meet
        exact ⟨by simp; omega, HB2.out⟩
    case rest =>
      obtain ⟨rfl, hb2⟩ := hcut
      have HB2 := Lib.hid hb2
      clear hb2
      obtain ⟨n, hszn⟩ : ∃ n, sizeN raw = n := ⟨_, rfl⟩
      have hn := sizeN_le raw r0
      rw [hszn] at hn
      obtain ⟨n1, n2⟩ := hn
      have HSZ := Lib.hid hszn
      clear hszn
      go_wp2_with fail
      refine (size_calls _ raw r0 r1).mono ?_
      rw [HSZ.out]
      rintro e w3 ⟨rfl, hw⟩
      subst hw
      go_wp2_with fail
      refine (new_ok _ n n1 (by omega)).mono ?_
      rintro e w4 hf
      obtain ⟨p, F, rfl, m⟩ := Mine.fresh HB2.out HB2.out.size hf
      have M := Lib.hid m
      clear m hf
      go_wp2_with fail
      refine (size_calls _ raw r0 r1).mono ?_
      rw [HSZ.out]
      rintro e w5 ⟨rfl, hw⟩
      subst hw
      go_wp2_with fail
      refine (rnew_ok _ n n1 (by omega)).mono ?_
      rintro e w6 hf
      obtain ⟨q, G, rfl, t⟩ := TwoR.fresh M.out hf
      have T := Lib.hid t
      clear hf t
      go_wp2_with fail
      go_loopw [10] (fun i wr => ∃ (k : Nat) (F' G' : Nat → Prop), k ≤ l1.length ∧ i = .int .i64 k ∧ TwoR w.heap.size w wr F' p ((DS.new n).acts (l1.take k)) G' q ((DS.new n).acts (l1.take k)) ∧ ((DS.new n).acts (l1.take k)).queue.length ≤ k) (fun i _ => l1.length - (intOf i).toNat)
      case atStart => exact ⟨0, F, G, Nat.zero_le _, rfl, T.out, Nat.le_refl _⟩
      case round =>
        obtain ⟨k, F1, G1', hk, rfl, hm, hq⟩ := hrel
        have HM := Lib.hid hm
        clear hm
        have h60 := (okB_true HO1.out).1
        by_cases hlt : k < l1.length
        · have harg := HA1.out.below HM.out.a.be HA1.out.lt
          obtain ⟨bb, off, hA, _, hc⟩ := harg.at_ (by omega)
          subst hA
          obtain ⟨x0, x1, x2, x3, x4, x5⟩ := ActsAt.six hc k hlt
          have hOk := Lib.hid (harg.ok HO1.out l1[k] (List.getElem_mem hlt))
          have HQ := Lib.hid (DS.act_qlen ((DS.new n).acts (l1.take k)) l1[k])
          have HSN := Lib.hid (DS.acts_snoc (DS.new n) l1 k hlt)
          clear hc harg
          go_wp2_with fail
          refine (do_calls HM.out.a.d (by omega) l1[k] hOk.out).mono ?_
          rintro e w7 ht
          obtain ⟨rfl, F2, t2⟩ := HM.out.left ht
          have T2 := Lib.hid t2
          have harg := HA1.out.below T2.out.a.be HA1.out.lt
          obtain ⟨b2, off2, hA2, _, hc2⟩ := harg.at_ (by omega)
          injection hA2 with hA2
          injection hA2 with hA2 hA3
          subst hA2 hA3
          clear x0 x1 x2 x3 x4 x5
          obtain ⟨x0, x1, x2, x3, x4, x5⟩ := ActsAt.six hc2 k hlt
          clear ht t2 hc2 harg
          go_wp2_with fail
          refine (want_calls T2.out.b (by omega) l1[k] hOk.out).mono ?_
          rintro e w8 ht
          obtain ⟨rfl, G2, t3⟩ := T2.out.right ht
          have T3 := Lib.hid t3
          clear ht t3 x0 x1 x2 x3 x4 x5
          go_wp2_with fail
          go_roundw
          case rel => exact ⟨k + 1, F2, G2, by omega, by go_num, by rw [HSN.out]; exact T3.out, by rw [HSN.out]; have := HQ.out; omega⟩
          case measure => simp [intOf]; omega
        · obtain rfl : k = l1.length := by omega
          rw [List.take_of_length_le (Nat.le_refl _)] at HM hq
          have hsl : ((DS.new n).acts l1).sect.length = n := by rw [DS.acts_length, DS.new_length]
          generalize (DS.new n).acts l1 = st at HM hq hsl
          have HSL := Lib.hid hsl
          clear hsl hlt
          go_wp2_with fail
          go_loopw [15] (fun i wr => ∃ k : Nat, k ≤ n ∧ i = .int .i64 k ∧ TwoR w.heap.size w wr F1 p st G1' q st) (fun i _ => n - (intOf i).toNat)
          case atStart => exact ⟨0, Nat.zero_le _, rfl, HM.out⟩
          case round =>
            obtain ⟨k, hk2, rfl, hm⟩ := hrel
            have HR := Lib.hid hm
            clear hm
            go_wp2_with fail
            refine (size_calls _ raw r0 r1).mono ?_
            rw [HSZ.out]
            rintro e w9 ⟨rfl, hw⟩
            subst hw
            by_cases hlt : k < n
            · go_wp2_with fail
              refine (read_calls HR.out.a.d (by omega) k).mono ?_
              rintro e w10 ⟨rfl, hb⟩
              have HR2 := Lib.hid (HR.out.below hb)
              clear hb
              go_wp2_with fail
              refine (rread_calls HR2.out.b (by omega) k).mono ?_
              rintro e w11 ⟨rfl, hw⟩
              subst hw
              go_wp2_with fail
              go_roundw
              case rel => exact ⟨k + 1, by omega, by go_num, HR2.out⟩
              case measure => simp [intOf]; omega
            · go_wp2_with fail
              go_ret
              exact ⟨rfl, HR.out.a.be⟩
  · have ho1' : okB l1 = false := by simpa using ho1
    rw [ho1']
    clear ho1 ho1'
    go_wp2_with fail
    go_ret
    exact ⟨rfl, HB1.out⟩
end Go.Proofs.Ytbjomjlchafkfaa
