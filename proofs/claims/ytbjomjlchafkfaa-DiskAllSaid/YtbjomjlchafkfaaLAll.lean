/- DiskAll: a failure with all writes leaves what Sync and a failure without any leave.
   Conditions: the arguments lie in memory as ActsArg says. -/
import Derived.Test.YtbjomjlchafkfaaDU
import Derived.Test.YtbjomjlchafkfaaLReads
namespace Go.Proofs.Ytbjomjlchafkfaa
open Go.RowKit Go.Lib
set_option linter.unusedVariables false
theorem fail_of_off {st : DS} (h : st.off = true) (c d : Int) : st.fail c d = st := by unfold DS.fail; rw [if_pos h]
theorem fail_again (st : DS) (a b c d : Int) : (st.fail a b).fail c d = st.fail a b := fail_of_off (fail_off st a b) c d
theorem all_fail (st : DS) (ho : st.off = false) (hq : st.queue.length ≤ 60) (a : Int) : (st.fail 60 a).start.all = st.all := by
  unfold DS.fail
  rw [ho]
  show settle (st.failSect 60 a) [] = _
  show st.failSect 60 a = _
  unfold DS.failSect
  rw [show clamp 60 st.queue.length = st.queue.length from by unfold clamp; omega, List.getElem?_eq_none (Nat.le_refl _)]
  rfl
theorem none_fail (st : DS) (ho : st.off = false) (a : Int) : (st.syncNow.fail 0 a).start.all = st.all := by
  unfold DS.fail
  rw [show st.syncNow.off = false from ho]
  rfl

set_option maxRecDepth 100000 in
set_option maxHeartbeats 4000000 in
theorem all_walk (w : World) (raw : Int) (hr : 0 ≤ raw ∧ raw ≤ 255) (A1 : Option Addr) (cap1 : Nat) (l1 : List Act0) (hl1 : ActsArg w A1 l1) (a : Int) (ha : i64ok a) (b : Int) (hb : i64ok b) :
    Calls Try.prog 7 #[.int .u8 raw, .slice A1 l1.length cap1, .int .i64 a, .int .i64 b] w fun e w' => e = .returned (.bool true) ∧ Below w.heap.size w w' := by
  obtain ⟨r0, r1⟩ := hr
  have HA1 := Lib.hid hl1
  clear hl1
  go_enter Try.func7, Try.ntmps7
  go_wp2_with fail
  refine (head_calls w).mono ?_
  rintro e w1 ⟨rfl, hb1⟩
  have HB1 := Lib.hid hb1
  have G1 := Lib.hid (HA1.out.later hb1)
  clear hb1
  go_wp2_with fail
  refine (ok_calls w1 A1 cap1 l1 G1.out.at_ G1.out.len fun x hx => (G1.out.each x hx).t).mono ?_
  rintro e w1' ⟨rfl, hw⟩
  subst hw
  by_cases ho1 : okB l1 = true
  · rw [ho1]
    have HO1 := Lib.hid ho1
    clear ho1
    go_wp2_with fail
    refine (size_calls w1 raw r0 r1).mono ?_
    rintro e w1' ⟨rfl, hw⟩
    subst hw
    have hn := sizeN_le raw r0
    generalize sizeN raw = n at hn ⊢
    obtain ⟨n1, n2⟩ := hn
    go_wp2_with fail
    refine (new_ok w1 n n1 (by omega)).mono ?_
    rintro e w2 hf
    obtain ⟨p, F, rfl, m⟩ := Mine.fresh HB1.out HB1.out.size hf
    clear hf
    have M := Lib.hid m
    clear m
    go_wp2_with fail
    refine (new_ok _ n n1 (by omega)).mono ?_
    rintro e w3 hf
    obtain ⟨q, G, rfl, t⟩ := Two.fresh M.out hf
    clear hf
    have T := Lib.hid t
    clear t
    go_wp2_with fail
    go_loopw [13] (fun i wr => ∃ (k : Nat) (F' G' : Nat → Prop), k ≤ l1.length ∧ i = .int .i64 k ∧ Two w.heap.size w wr F' p ((DS.new n).acts (l1.take k)) G' q ((DS.new n).acts (l1.take k)) ∧ ((DS.new n).acts (l1.take k)).queue.length ≤ k) (fun i _ => l1.length - (intOf i).toNat)
    case atStart => exact ⟨0, F, G, Nat.zero_le _, rfl, T.out, Nat.le_refl _⟩
    case round =>
      obtain ⟨k, F1, G1', hk, rfl, hm, hq⟩ := hrel
      have HM := Lib.hid hm
      clear hm
      have h60 := (okB_true HO1.out).1
      by_cases hlt : k < l1.length
      · have harg := HA1.out.below HM.out.a.be HA1.out.lt
        obtain ⟨bb, off, hA, _, hc⟩ := harg.at_ (by omega)
        subst hA
        obtain ⟨x0, x1, x2, x3, x4, x5⟩ := ActsAt.six hc k hlt
        have hOk := Lib.hid (harg.ok HO1.out l1[k] (List.getElem_mem hlt))
        have HQ := Lib.hid (DS.act_qlen ((DS.new n).acts (l1.take k)) l1[k])
        clear hc harg
        go_wp2_with fail
        refine (do_calls HM.out.a.d (by omega) l1[k] hOk.out).mono ?_
        rintro e w3 ht
        obtain ⟨rfl, F2, t2, _⟩ := HM.out.left ht
        have T2 := Lib.hid t2
        have harg := HA1.out.below T2.out.a.be HA1.out.lt
        obtain ⟨b2, off2, hA2, _, hc2⟩ := harg.at_ (by omega)
        injection hA2 with hA2
        injection hA2 with hA2 hA3
        subst hA2 hA3
        clear x0 x1 x2 x3 x4 x5
        obtain ⟨x0, x1, x2, x3, x4, x5⟩ := ActsAt.six hc2 k hlt
        clear ht t2 hc2 harg
        go_wp2_with fail
        refine (do_calls T2.out.b.d (by omega) l1[k] hOk.out).mono ?_
        rintro e w4 ht
        obtain ⟨rfl, G2, t3, _⟩ := T2.out.right ht
        have T3 := Lib.hid t3
        clear ht t3
        go_wp2_with fail
        go_roundw
        case rel => exact ⟨k + 1, F2, G2, by omega, by go_num, by rw [DS.acts_snoc _ _ _ hlt]; exact T3.out, by rw [DS.acts_snoc _ _ _ hlt]; have := HQ.out; omega⟩
        case measure => simp [intOf]; omega
      · obtain rfl : k = l1.length := by omega
        rw [List.take_of_length_le (Nat.le_refl _)] at HM hq
        have hsl : ((DS.new n).acts l1).sect.length = n := by rw [DS.acts_length, DS.new_length]
        generalize (DS.new n).acts l1 = st at HM hq hsl
        have HSL := Lib.hid hsl
        clear hsl hlt
        go_wp2_with fail
        refine (start_calls HM.out.a.d).mono ?_
        rintro e w11 ht
        obtain ⟨rfl, F11, t11, hkp⟩ := HM.out.left ht
        have T11 := Lib.hid t11
        clear ht t11 hkp
        go_wp2_with fail
        refine (start_calls T11.out.b.d).mono ?_
        rintro e w12 ht
        obtain ⟨rfl, G12, t12, hkp⟩ := T11.out.right ht
        have T12 := Lib.hid t12
        clear ht t12 hkp
        go_wp2_with fail
        have hqs : st.start.queue.length ≤ 60 := by show st.queue.length ≤ 60; omega
        have HSY := Lib.hid (sync_started st)
        have HAL := Lib.hid (all_fail st.start rfl hqs a)
        have HBL := Lib.hid (none_fail st.start rfl a)
        have HSS : Hid (n = st.start.sect.length) := HSL.out.symm
        have HOF : Hid (st.start.off = false) := rfl
        generalize st.start = s at T12 hqs HSY HAL HBL HSS HOF
        refine (fail_calls T12.out.a.d 60 a (by unfold i64ok; omega) ha (by omega)).mono ?_
        rintro e w13 ht
        obtain ⟨rfl, F13, t13, hkp⟩ := T12.out.left ht
        have T13 := Lib.hid t13
        clear ht t13 hkp
        go_wp2_with fail
        have HOFF := Lib.hid (fail_off s 60 a)
        have HSAME := Lib.hid (fail_again s 60 a b a)
        have HQL := Lib.hid (DS.fail_queue s 60 a)
        have hc := fail_calls T13.out.a.d b a hb ha (by have := HQL.out; omega)
        rw [HSAME.out] at hc
        refine hc.mono ?_
        clear hc
        rintro e w14 ht
        obtain ⟨rfl, F14, t14, hkp⟩ := T13.out.left ht
        have T14 := Lib.hid t14
        clear ht t14 hkp
        go_wp2_with fail
        have hc := sync_calls T14.out.b.d (by omega)
        rw [HSY.out] at hc
        refine hc.mono ?_
        clear hc
        rintro e w15 ht
        obtain ⟨rfl, G15, t15, hkp⟩ := T14.out.right ht
        have T15 := Lib.hid t15
        clear ht t15 hkp
        go_wp2_with fail
        refine (fail_calls T15.out.b.d 0 a (by unfold i64ok; omega) ha (Nat.zero_le _)).mono ?_
        rintro e w16 ht
        obtain ⟨rfl, G16, t16, hkp⟩ := T15.out.right ht
        have T16 := Lib.hid t16
        clear ht t16 hkp
        go_wp2_with fail
        refine (start_calls T16.out.a.d).mono ?_
        rintro e w17 ht
        obtain ⟨rfl, F17, t17, hkp⟩ := T16.out.left ht
        have T17 := Lib.hid t17
        clear ht t17 hkp
        go_wp2_with fail
        refine (start_calls T17.out.b.d).mono ?_
        rintro e w18 ht
        obtain ⟨rfl, G18, t18, hkp⟩ := T17.out.right ht
        have T18 := Lib.hid t18
        clear ht t18 hkp
        go_wp2_with fail
        have hc := start_calls T18.out.a.d
        rw [show (s.fail 60 a).start.start = (s.fail 60 a).start from rfl] at hc
        refine hc.mono ?_
        clear hc
        rintro e w19 ht
        obtain ⟨rfl, F19, t19, hkp⟩ := T18.out.left ht
        have T19 := Lib.hid t19
        clear ht t19 hkp
        go_wp2_with fail
        have HN1 : Hid (n = (s.fail 60 a).start.sect.length) := by show _ = (s.fail 60 a).sect.length; rw [DS.fail_length]; exact HSS.out
        have HN2 : Hid (n = (s.syncNow.fail 0 a).start.sect.length) := by show _ = (s.syncNow.fail 0 a).sect.length; rw [DS.fail_length]; show _ = (settle _ _).length; rw [settle_length]; exact HSS.out
        refine (contents_calls T19.out.a.d (by have := HQL.out; show (s.fail 60 a).queue.length ≤ _; omega) rfl n HN1.out).mono ?_
        rintro e w20 ht
        obtain ⟨v1, rfl, hv1, t20, hkp⟩ := T19.out.contsL ht
        obtain ⟨A1, c1, hve⟩ := hv1.form
        have L1 : Hid (((s.fail 60 a).start).all.length = n) := by show _ = _; rw [DS.all_length]; exact (HN1.out).symm
        rw [L1.out] at hve
        subst hve
        have T20 := Lib.hid t20
        have C1 := Lib.hid hv1
        clear ht t20 hkp hv1
        go_wp2_with fail
        refine (contents_calls T20.out.b.d (Nat.le_trans (DS.fail_queue _ _ _) (Nat.zero_le _)) rfl n HN2.out).mono ?_
        rintro e w21 ht
        obtain ⟨v2, rfl, hv2, t21, hkp⟩ := T20.out.contsL ht
        have C1' := Lib.hid (C1.out.keep hkp)
        clear C1
        have C1 := C1'
        clear C1'
        obtain ⟨A2, c2, hve⟩ := hv2.form
        have L2 : Hid (((s.syncNow.fail 0 a).start).all.length = n) := by show _ = _; rw [DS.all_length]; exact (HN2.out).symm
        rw [L2.out] at hve
        subst hve
        have T21 := Lib.hid t21
        have C2 := Lib.hid hv2
        clear ht t21 hkp hv2
        go_wp2_with fail
        refine (same_calls _ _ _ (s.fail 60 a).start.all (s.syncNow.fail 0 a).start.all C1.out.at_ C2.out.at_ (by rw [L1.out]; omega) (by rw [L2.out]; omega)).mono ?_
        rintro e w22 ⟨rfl, hb⟩
        rw [show decide ((s.fail 60 a).start.all = (s.syncNow.fail 0 a).start.all) = true from by simp [HAL.out, HBL.out]]
        have M9 := Lib.hid (T21.out.a.be.trans (hb.mono T21.out.a.sz))
        clear hb
        go_wp2_with fail
        go_ret
        exact ⟨rfl, M9.out⟩
  · have ho1' : okB l1 = false := by simpa using ho1
    rw [ho1']
    clear ho1 ho1'
    go_wp2_with fail
    go_ret
    exact ⟨rfl, HB1.out⟩
end Go.Proofs.Ytbjomjlchafkfaa
