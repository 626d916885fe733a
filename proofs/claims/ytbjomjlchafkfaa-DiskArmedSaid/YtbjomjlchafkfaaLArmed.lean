/- DiskArmed: an armed disk returns what one returns that is not armed, up to the call at which it turns off, and has then the contents of a disk that fails there.
   Conditions: the arguments lie in memory as ActsArg says. -/
import Derived.Test.YtbjomjlchafkfaaDV
namespace Go.Proofs.Ytbjomjlchafkfaa
open Go.RowKit Go.Lib
set_option linter.unusedVariables false
set_option maxRecDepth 100000 in
set_option maxHeartbeats 4000000 in
theorem armed_walk (w : World) (raw : Int) (hr : 0 ≤ raw ∧ raw ≤ 255) (A1 : Option Addr) (cap1 : Nat) (l1 : List Act0) (hl1 : ActsArg w A1 l1) (A2 : Option Addr) (cap2 : Nat) (l2 : List Act0) (hl2 : ActsArg w A2 l2) (a : Int) (ha : i64ok a) (b : Int) (hb : i64ok b) (c : Int) (hc : i64ok c) :
    Calls Try.prog 8 #[.int .u8 raw, .slice A1 l1.length cap1, .slice A2 l2.length cap2, .int .i64 a, .int .i64 b, .int .i64 c] w fun e w' => e = .returned (.bool true) ∧ Below w.heap.size w w' := by
  obtain ⟨r0, r1⟩ := hr
  have HA1 := Lib.hid hl1
  have HA2 := Lib.hid hl2
  clear hl1 hl2
  go_enter Try.func8, Try.ntmps8
  go_wp2_with fail
  refine (head_calls w).mono ?_
  rintro e w1 ⟨rfl, hb1⟩
  have HB1 := Lib.hid hb1
  have G1 := Lib.hid (HA1.out.later hb1)
  have G2 := Lib.hid (HA2.out.later hb1)
  clear hb1
  go_wp2_with fail
  refine (ok_calls w1 A1 cap1 l1 G1.out.at_ G1.out.len fun x hx => (G1.out.each x hx).t).mono ?_
  rintro e w1' ⟨rfl, hw⟩
  subst hw
  by_cases ho1 : okB l1 = true
  · rw [ho1]
    have HO1 := Lib.hid ho1
    clear ho1
    go_wp2_with fail
    refine (ok_calls w1 A2 cap2 l2 G2.out.at_ G2.out.len fun x hx => (G2.out.each x hx).t).mono ?_
    rintro e w1' ⟨rfl, hw⟩
    subst hw
    by_cases ho2 : okB l2 = true
    · rw [ho2]
      have HO2 := Lib.hid ho2
      clear ho2
      go_wp2_with fail
      refine (size_calls w1 raw r0 r1).mono ?_
      rintro e w1' ⟨rfl, hw⟩
      subst hw
      have hn := sizeN_le raw r0
      generalize sizeN raw = n at hn ⊢
      obtain ⟨n1, n2⟩ := hn
      go_wp2_with fail
      refine (new_ok w1 n n1 (by omega)).mono ?_
      rintro e w2 hf
      obtain ⟨p, F, rfl, m⟩ := Mine.fresh HB1.out HB1.out.size hf
      clear hf
      have M := Lib.hid m
      clear m
      go_wp2_with fail
      refine (new_ok _ n n1 (by omega)).mono ?_
      rintro e w3 hf
      obtain ⟨q, G, rfl, t⟩ := Two.fresh M.out hf
      clear hf
      have T := Lib.hid t
      clear t
      go_wp2_with fail
      go_loopw [17] (fun i wr => ∃ (k : Nat) (F' G' : Nat → Prop), k ≤ l1.length ∧ i = .int .i64 k ∧ Two w.heap.size w wr F' p ((DS.new n).acts (l1.take k)) G' q ((DS.new n).acts (l1.take k)) ∧ ((DS.new n).acts (l1.take k)).queue.length ≤ k) (fun i _ => l1.length - (intOf i).toNat)
      case atStart => exact ⟨0, F, G, Nat.zero_le _, rfl, T.out, Nat.le_refl _⟩
      case round =>
        obtain ⟨k, F1, G1', hk, rfl, hm, hq⟩ := hrel
        have HM := Lib.hid hm
        clear hm
        have h60 := (okB_true HO1.out).1
        by_cases hlt : k < l1.length
        · have harg := HA1.out.below HM.out.a.be HA1.out.lt
          obtain ⟨bb, off, hA, _, hc⟩ := harg.at_ (by omega)
          subst hA
          obtain ⟨x0, x1, x2, x3, x4, x5⟩ := ActsAt.six hc k hlt
          have hOk := Lib.hid (harg.ok HO1.out l1[k] (List.getElem_mem hlt))
          have HQ := Lib.hid (DS.act_qlen ((DS.new n).acts (l1.take k)) l1[k])
          clear hc harg
          go_wp2_with fail
          refine (do_calls HM.out.a.d (by omega) l1[k] hOk.out).mono ?_
          rintro e w3 ht
          obtain ⟨rfl, F2, t2, _⟩ := HM.out.left ht
          have T2 := Lib.hid t2
          have harg := HA1.out.below T2.out.a.be HA1.out.lt
          obtain ⟨b2, off2, hA2, _, hc2⟩ := harg.at_ (by omega)
          injection hA2 with hA2
          injection hA2 with hA2 hA3
          subst hA2 hA3
          clear x0 x1 x2 x3 x4 x5
          obtain ⟨x0, x1, x2, x3, x4, x5⟩ := ActsAt.six hc2 k hlt
          clear ht t2 hc2 harg
          go_wp2_with fail
          refine (do_calls T2.out.b.d (by omega) l1[k] hOk.out).mono ?_
          rintro e w4 ht
          obtain ⟨rfl, G2, t3, _⟩ := T2.out.right ht
          have T3 := Lib.hid t3
          clear ht t3
          go_wp2_with fail
          go_roundw
          case rel => exact ⟨k + 1, F2, G2, by omega, by go_num, by rw [DS.acts_snoc _ _ _ hlt]; exact T3.out, by rw [DS.acts_snoc _ _ _ hlt]; have := HQ.out; omega⟩
          case measure => simp [intOf]; omega
        · obtain rfl : k = l1.length := by omega
          rw [List.take_of_length_le (Nat.le_refl _)] at HM hq
          have hsl : ((DS.new n).acts l1).sect.length = n := by rw [DS.acts_length, DS.new_length]
          generalize (DS.new n).acts l1 = st at HM hq hsl
          have HSL := Lib.hid hsl
          clear hsl hlt
          go_wp2_with fail
          refine (start_calls HM.out.a.d).mono ?_
          rintro e w11 ht
          obtain ⟨rfl, F11, t11, hkp⟩ := HM.out.left ht
          have T11 := Lib.hid t11
          clear ht t11 hkp
          go_wp2_with fail
          refine (start_calls T11.out.b.d).mono ?_
          rintro e w12 ht
          obtain ⟨rfl, G12, t12, hkp⟩ := T11.out.right ht
          have T12 := Lib.hid t12
          clear ht t12 hkp
          go_wp2_with fail
          refine (arm_calls T12.out.a.d a b c ha hb hc).mono ?_
          rintro e w13 ht
          obtain ⟨rfl, F13, t13, hkp⟩ := T12.out.left ht
          have T13 := Lib.hid t13
          clear ht t13 hkp
          have HBS := Lib.hid (beside_arm st a b c)
          have hqs : st.start.queue.length ≤ 60 := by show st.queue.length ≤ 60; omega
          have HSS : Hid (n = st.start.sect.length) := HSL.out.symm
          generalize st.start.arm a b c = sa0 at T13 HBS
          generalize st.start = sb0 at T13 HBS hqs HSS
          have ha' := ha
          unfold i64ok at ha'
          go_wp2_with fail
          go_loopw [18, 19] (fun lv i wr => ∃ (k : Nat) (left : Int) (F' G' : Nat → Prop) (sa sb : DS), k ≤ l2.length ∧ i = .int .i64 k ∧ lv = .int .i64 left ∧ Two w.heap.size w wr F' p sa G' q sb ∧ Beside left b c sa sb ∧ (a < 0 → left = a) ∧ (-9223372036854775808 ≤ left ∧ left ≤ 9223372036854775807) ∧ sb.queue.length ≤ 60 + k ∧ n = sb.sect.length) (fun _ i _ => l2.length - (intOf i).toNat)
          case atStart => exact ⟨0, a, _, _, sa0, sb0, Nat.zero_le _, rfl, rfl, T13.out, HBS.out, fun _ => rfl, ha', by omega, HSS.out⟩
          case round =>
            obtain ⟨k, left, F1, G1', sa, sb, hk, rfl, rfl, ht, hbs, hla, ⟨hl1, hl2⟩, hqk, hns⟩ := hrel
            have T0 := Lib.hid ht
            have HB := Lib.hid hbs
            have HLA := Lib.hid hla
            have HNS := Lib.hid hns
            have HNA : Hid (n = sa.sect.length) := by show _ = _; rw [hbs.qlen.2]; exact hns
            have hqa : sa.queue.length ≤ 60 + k := by rw [hbs.qlen.1]; exact hqk
            clear ht hbs hla hns
            have h60 := (okB_true HO2.out).1
            by_cases hlt : k < l2.length
            · have harg := HA2.out.below T0.out.a.be HA2.out.lt
              obtain ⟨bb, off, hA, hbl, hc0⟩ := harg.at_ (by omega)
              subst hA
              obtain ⟨x0, x1, x2, x3, x4, x5⟩ := ActsAt.six hc0 k hlt
              have hOk := Lib.hid (harg.ok HO2.out l2[k] (List.getElem_mem hlt))
              clear hc0 harg
              by_cases hkd : l2[k].kind = 2
              · have e2 : (l2[k].kind == 2) = true := by simp [hkd]
                clear hkd
                obtain ⟨hsb, hs0, hs1⟩ := HB.out.sync
                have HSB := Lib.hid hsb
                have HSQ := Lib.hid (DS.sync_qlen sa)
                clear hsb
                by_cases hl0 : left = 0
                · obtain ⟨h26, hst⟩ := hs0 hl0
                  have H26 := Lib.hid h26
                  have HST := Lib.hid hst
                  subst hl0
                  have hap : 0 ≤ a := by
                    rcases Int.lt_or_le a 0 with h | h
                    · have := HLA.out h; omega
                    · exact h
                  clear hs0 hs1 h26 hst
                  go_wp2_with fail
                  refine (fail_calls T0.out.b.d b c hb hc (by omega)).mono ?_
                  rintro e w31 ht
                  obtain ⟨rfl, G41, t41, hkp⟩ := T0.out.right ht
                  have T41 := Lib.hid t41
                  clear ht t41 hkp
                  go_wp2_with fail
                  have hcc := sync_calls T41.out.a.d (by omega)
                  rw [H26.out] at hcc
                  refine hcc.mono ?_
                  clear hcc
                  rintro e w32 ht
                  obtain ⟨rfl, F90, t90, hkp⟩ := T41.out.left ht
                  have T90 := Lib.hid t90
                  clear ht t90 hkp
                  go_wp2_with fail
                  refine (start_calls T90.out.a.d).mono ?_
                  rintro e w33 ht
                  obtain ⟨rfl, F42, t42, hkp⟩ := T90.out.left ht
                  have T42 := Lib.hid t42
                  clear ht t42 hkp
                  go_wp2_with fail
                  refine (start_calls T42.out.b.d).mono ?_
                  rintro e w34 ht
                  obtain ⟨rfl, G43, t43, hkp⟩ := T42.out.right ht
                  have T43 := Lib.hid t43
                  clear ht t43 hkp
                  have HEQ : Hid ((sa.sync.1).start = (sb.fail b c).start) := HST.out
                  have HX1 : Hid (n = (sa.sync.1).start.sect.length) := by show _ = sa.sync.1.sect.length; rw [DS.sync_length]; exact HNA.out
                  have hx2 : (sa.sync.1).start.queue.length ≤ 1000 := (by show sa.sync.1.queue.length ≤ _; have := HSQ.out; omega)
                  rw [HEQ.out] at T43 HX1 hx2
                  have HX3 : Hid ((sb.fail b c).start.off = false) := rfl
                  generalize (sb.fail b c).start = sf at T43 HX1 hx2 HX3
                  go_wp2_with fail
                  refine (contents_calls T43.out.a.d (by omega) HX3.out n HX1.out).mono ?_
                  rintro e w35 ht
                  obtain ⟨v1, rfl, hv1, t44, hkp⟩ := T43.out.contsL ht
                  obtain ⟨A1, c1, hve⟩ := hv1.form
                  have L1 : Hid ((sf).all.length = n) := by show _ = _; rw [DS.all_length]; exact (HX1.out).symm
                  rw [L1.out] at hve
                  subst hve
                  have T44 := Lib.hid t44
                  have C1 := Lib.hid hv1
                  clear ht t44 hkp hv1
                  go_wp2_with fail
                  refine (contents_calls T44.out.b.d (by omega) HX3.out n HX1.out).mono ?_
                  rintro e w36 ht
                  obtain ⟨v2, rfl, hv2, t45, hkp⟩ := T44.out.contsL ht
                  have C1' := Lib.hid (C1.out.keep hkp)
                  clear C1
                  have C1 := C1'
                  clear C1'
                  obtain ⟨A2, c2, hve⟩ := hv2.form
                  have L2 : Hid ((sf).all.length = n) := by show _ = _; rw [DS.all_length]; exact (HX1.out).symm
                  rw [L2.out] at hve
                  subst hve
                  have T45 := Lib.hid t45
                  have C2 := Lib.hid hv2
                  clear ht t45 hkp hv2
                  go_wp2_with fail
                  refine (same_calls _ _ _ sf.all sf.all C1.out.at_ C2.out.at_ (by rw [L1.out]; omega) (by rw [L2.out]; omega)).mono ?_
                  rintro e w37 ⟨rfl, hb9⟩
                  rw [show decide (sf.all = sf.all) = true from by simp]
                  have M9 := Lib.hid (T45.out.a.be.trans (hb9.mono T45.out.a.sz))
                  clear hb9
                  go_wp2_with fail
                  go_ret
                  exact ⟨rfl, M9.out⟩
                · obtain ⟨h00, hst⟩ := hs1 hl0
                  have H00 := Lib.hid h00
                  have HST := Lib.hid hst
                  have n1' : (left == 0) = false := by simp [hl0]
                  clear hs0 hs1 h00 hst
                  go_wp2_with fail
                  have hc := sync_calls T0.out.b.d (by omega)
                  rw [HSB.out] at hc
                  refine hc.mono ?_
                  clear hc
                  rintro e w31 ht
                  obtain ⟨rfl, G41, t41, hkp⟩ := T0.out.right ht
                  have T41 := Lib.hid t41
                  clear ht t41 hkp
                  go_wp2_with fail
                  have hcc := sync_calls T41.out.a.d (by omega)
                  rw [H00.out] at hcc
                  refine hcc.mono ?_
                  clear hcc
                  rintro e w32 ht
                  obtain ⟨rfl, F90, t90, hkp⟩ := T41.out.left ht
                  have T90 := Lib.hid t90
                  clear ht t90 hkp
                  by_cases hpos : 0 < left
                  · have HNL : Hid (nextLeft left = left - 1) := by show _ = _; unfold nextLeft; rw [if_pos hpos]
                    go_wp2_with fail
                    go_roundw
                    case rel => exact ⟨k + 1, left - 1, F90, _, sa.sync.1, sb.syncNow, by omega, by go_num, by first | rfl | go_num, T90.out, by have := HST.out; rw [HNL.out] at this; exact this, fun h => by have := HLA.out h; omega, by omega, (by show 0 ≤ _; omega), by show _ = (settle _ _).length; rw [settle_length]; exact HNS.out⟩
                    case measure => simp [intOf]; omega
                  · have HNL : Hid (nextLeft left = left) := by show _ = _; unfold nextLeft; rw [if_neg hpos]
                    have hneg : left < 0 := by omega
                    go_wp2_with fail
                    go_roundw
                    case rel => exact ⟨k + 1, left, F90, _, sa.sync.1, sb.syncNow, by omega, by go_num, by first | rfl | go_num, T90.out, by have := HST.out; rw [HNL.out] at this; exact this, HLA.out, by omega, (by show 0 ≤ _; omega), by show _ = (settle _ _).length; rw [settle_length]; exact HNS.out⟩
                    case measure => simp [intOf]; omega
              · have e2 : (l2[k].kind == 2) = false := by simp [hkd]
                clear hkd
                have HWB := Lib.hid (DS.write_qlen sb l2[k].sector l2[k].txt)
                have HWA := Lib.hid (DS.write_qlen sa l2[k].sector l2[k].txt)
                have HWL := Lib.hid (DS.write_length sb l2[k].sector l2[k].txt)
                have HWM := Lib.hid (DS.write_length sa l2[k].sector l2[k].txt)
                go_wp2_with fail
                go_region_with (first
                  | (go_at_call 24; refine (text_calls l2[k] hOk.out.t _).mono ?_; rintro e w7 ⟨rfl, rfl⟩)
                  | (go_at_call 23; refine (write_calls (T0.out.b.d.below (by exact ((Below.refl _ _).alloc (Nat.le_refl _) _).drew)) (by omega) _ _).mono ?_; rintro e w61 hw7; have hw7b := Turns.from_box (((Below.refl _ _).alloc (Nat.le_refl _) _).drew) hw7; obtain ⟨rfl, hw7c⟩ := hw7; clear hw7c))
                all_goals
                  obtain ⟨_, G61, t61, _⟩ := T0.out.right hw7b
                  have T61 := Lib.hid t61
                  clear hw7b t61
                  have harg := HA2.out.below T61.out.a.be HA2.out.lt
                  obtain ⟨b2, off2, hA2, hbl2, hc2⟩ := harg.at_ (by omega)
                  injection hA2 with hA2
                  injection hA2 with hA2 hA3
                  subst hA2 hA3
                  clear x0 x1 x2 x3 x4 x5
                  obtain ⟨x0, x1, x2, x3, x4, x5⟩ := ActsAt.six hc2 k hlt
                  clear hc2 harg
                  rcases HB.out.write l2[k].sector l2[k].txt with ⟨h1, h2, h3⟩ | ⟨h1, h2, h3, h4, h5⟩
                  · rw [h1]
                    have H2 := Lib.hid h2
                    have H3 := Lib.hid h3
                    clear h1 h2 h3
                    go_wp2_with fail
                    go_region_with (first
                      | (go_at_call 24; refine (text_calls l2[k] hOk.out.t _).mono ?_; rintro e w7 ⟨rfl, rfl⟩)
                      | (go_at_call 23; refine (write_calls (T61.out.a.d.below (by exact ((Below.refl _ _).alloc (Nat.le_refl _) _).drew)) (by omega) _ _).mono ?_; rintro e w62 hw7; have hw7b := Turns.from_box (((Below.refl _ _).alloc (Nat.le_refl _) _).drew) hw7; obtain ⟨rfl, hw7c⟩ := hw7; clear hw7c))
                    all_goals
                      obtain ⟨_, F90, t62, _⟩ := T61.out.left hw7b
                      rw [H3.out, H2.out] at t62
                      have T90 := Lib.hid t62
                      clear hw7b t62
                      rw [H3.out]
                      go_wp2_with fail
                      go_roundw
                      case rel => exact ⟨k + 1, left, F90, _, sa, sb, by omega, by go_num, rfl, T90.out, HB.out, HLA.out, by omega, by omega, HNS.out⟩
                      case measure => simp [intOf]; omega
                  · rw [h1]
                    have H2 := Lib.hid h2
                    have H3 := Lib.hid h3
                    clear h1 h2 h3
                    have hqb : (sb.write l2[k].sector l2[k].txt).1.queue.length ≤ 61 + k := by have := HWB.out; omega
                    by_cases hl0 : left = 0
                    · obtain ⟨h26, hst⟩ := h4 hl0
                      have H26 := Lib.hid h26
                      have HST := Lib.hid hst
                      subst hl0
                      have hap : 0 ≤ a := by
                        rcases Int.lt_or_le a 0 with h | h
                        · have := HLA.out h; omega
                        · exact h
                      clear h4 h5 h26 hst
                      go_wp2_with fail
                      refine (fail_calls T61.out.b.d b c hb hc (by omega)).mono ?_
                      rintro e w71 ht
                      obtain ⟨rfl, G81, t81, hkp⟩ := T61.out.right ht
                      have T81 := Lib.hid t81
                      clear ht t81 hkp
                      have harg := HA2.out.below T81.out.a.be HA2.out.lt
                      obtain ⟨b2, off2, hA2, hbl2, hc2⟩ := harg.at_ (by omega)
                      injection hA2 with hA2
                      injection hA2 with hA2 hA3
                      subst hA2 hA3
                      clear x0 x1 x2 x3 x4 x5
                      obtain ⟨x0, x1, x2, x3, x4, x5⟩ := ActsAt.six hc2 k hlt
                      clear hc2 harg
                      go_wp2_with fail
                      go_region_with (first
                        | (go_at_call 24; refine (text_calls l2[k] hOk.out.t _).mono ?_; rintro e w7 ⟨rfl, rfl⟩)
                        | (go_at_call 23; refine (write_calls (T81.out.a.d.below (by exact ((Below.refl _ _).alloc (Nat.le_refl _) _).drew)) (by omega) _ _).mono ?_; rintro e w92 hw7; have hw7b := Turns.from_box (((Below.refl _ _).alloc (Nat.le_refl _) _).drew) hw7; obtain ⟨rfl, hw7c⟩ := hw7; clear hw7c))
                      all_goals
                        obtain ⟨_, F90, t90, _⟩ := T81.out.left hw7b
                        have T90 := Lib.hid t90
                        clear hw7b t90
                        rw [H26.out]
                        go_wp2_with fail
                        refine (start_calls T90.out.a.d).mono ?_
                        rintro e w72 ht
                        obtain ⟨rfl, F82, t82, hkp⟩ := T90.out.left ht
                        have T82 := Lib.hid t82
                        clear ht t82 hkp
                        go_wp2_with fail
                        refine (start_calls T82.out.b.d).mono ?_
                        rintro e w73 ht
                        obtain ⟨rfl, G83, t83, hkp⟩ := T82.out.right ht
                        have T83 := Lib.hid t83
                        clear ht t83 hkp
                        have HEQ : Hid (((sa.write l2[k].sector l2[k].txt).1).start = ((sb.write l2[k].sector l2[k].txt).1.fail b c).start) := HST.out
                        have HX1 : Hid (n = ((sa.write l2[k].sector l2[k].txt).1).start.sect.length) := by show _ = (sa.write l2[k].sector l2[k].txt).1.sect.length; rw [HWM.out]; exact HNA.out
                        have hx2 : ((sa.write l2[k].sector l2[k].txt).1).start.queue.length ≤ 1000 := (by show (sa.write l2[k].sector l2[k].txt).1.queue.length ≤ _; have := HWA.out; omega)
                        rw [HEQ.out] at T83 HX1 hx2
                        have HX3 : Hid (((sb.write l2[k].sector l2[k].txt).1.fail b c).start.off = false) := rfl
                        generalize ((sb.write l2[k].sector l2[k].txt).1.fail b c).start = sf at T83 HX1 hx2 HX3
                        go_wp2_with fail
                        refine (contents_calls T83.out.a.d (by omega) HX3.out n HX1.out).mono ?_
                        rintro e w74 ht
                        obtain ⟨v1, rfl, hv1, t84, hkp⟩ := T83.out.contsL ht
                        obtain ⟨A1, c1, hve⟩ := hv1.form
                        have L1 : Hid ((sf).all.length = n) := by show _ = _; rw [DS.all_length]; exact (HX1.out).symm
                        rw [L1.out] at hve
                        subst hve
                        have T84 := Lib.hid t84
                        have C1 := Lib.hid hv1
                        clear ht t84 hkp hv1
                        go_wp2_with fail
                        refine (contents_calls T84.out.b.d (by omega) HX3.out n HX1.out).mono ?_
                        rintro e w75 ht
                        obtain ⟨v2, rfl, hv2, t85, hkp⟩ := T84.out.contsL ht
                        have C1' := Lib.hid (C1.out.keep hkp)
                        clear C1
                        have C1 := C1'
                        clear C1'
                        obtain ⟨A2, c2, hve⟩ := hv2.form
                        have L2 : Hid ((sf).all.length = n) := by show _ = _; rw [DS.all_length]; exact (HX1.out).symm
                        rw [L2.out] at hve
                        subst hve
                        have T85 := Lib.hid t85
                        have C2 := Lib.hid hv2
                        clear ht t85 hkp hv2
                        go_wp2_with fail
                        refine (same_calls _ _ _ sf.all sf.all C1.out.at_ C2.out.at_ (by rw [L1.out]; omega) (by rw [L2.out]; omega)).mono ?_
                        rintro e w76 ⟨rfl, hb9⟩
                        rw [show decide (sf.all = sf.all) = true from by simp]
                        have M9 := Lib.hid (T85.out.a.be.trans (hb9.mono T85.out.a.sz))
                        clear hb9
                        go_wp2_with fail
                        go_ret
                        exact ⟨rfl, M9.out⟩
                    · obtain ⟨h00, hst⟩ := h5 hl0
                      have H00 := Lib.hid h00
                      have HST := Lib.hid hst
                      have n1' : (left == 0) = false := by simp [hl0]
                      clear h4 h5 h00 hst
                      go_wp2_with fail
                      go_region_with (first
                        | (go_at_call 24; refine (text_calls l2[k] hOk.out.t _).mono ?_; rintro e w7 ⟨rfl, rfl⟩)
                        | (go_at_call 23; refine (write_calls (T61.out.a.d.below (by exact ((Below.refl _ _).alloc (Nat.le_refl _) _).drew)) (by omega) _ _).mono ?_; rintro e w62 hw7; have hw7b := Turns.from_box (((Below.refl _ _).alloc (Nat.le_refl _) _).drew) hw7; obtain ⟨rfl, hw7c⟩ := hw7; clear hw7c))
                      all_goals
                        obtain ⟨_, F90, t62, _⟩ := T61.out.left hw7b
                        have T90 := Lib.hid t62
                        clear hw7b t62
                        rw [H00.out]
                        by_cases hpos : 0 < left
                        · have HNL : Hid (nextLeft left = left - 1) := by show _ = _; unfold nextLeft; rw [if_pos hpos]
                          go_wp2_with fail
                          go_roundw
                          case rel => exact ⟨k + 1, left - 1, F90, _, (sa.write l2[k].sector l2[k].txt).1, (sb.write l2[k].sector l2[k].txt).1, by omega, by go_num, by first | rfl | go_num, T90.out, by have := HST.out; rw [HNL.out] at this; exact this, fun h => by have := HLA.out h; omega, by omega, (by omega), by rw [HWL.out]; exact HNS.out⟩
                          case measure => simp [intOf]; omega
                        · have HNL : Hid (nextLeft left = left) := by show _ = _; unfold nextLeft; rw [if_neg hpos]
                          have hneg : left < 0 := by omega
                          go_wp2_with fail
                          go_roundw
                          case rel => exact ⟨k + 1, left, F90, _, (sa.write l2[k].sector l2[k].txt).1, (sb.write l2[k].sector l2[k].txt).1, by omega, by go_num, by first | rfl | go_num, T90.out, by have := HST.out; rw [HNL.out] at this; exact this, HLA.out, by omega, (by omega), by rw [HWL.out]; exact HNS.out⟩
                          case measure => simp [intOf]; omega
            · obtain rfl : k = l2.length := by omega
              clear hlt
              by_cases ha0 : a < 0
              · have hleq := HLA.out ha0
                subst hleq
                go_wp2_with fail
                refine (start_calls T0.out.a.d).mono ?_
                rintro e w72 ht
                obtain ⟨rfl, F82, t82, hkp⟩ := T0.out.left ht
                have T82 := Lib.hid t82
                clear ht t82 hkp
                go_wp2_with fail
                refine (start_calls T82.out.b.d).mono ?_
                rintro e w73 ht
                obtain ⟨rfl, G83, t83, hkp⟩ := T82.out.right ht
                have T83 := Lib.hid t83
                clear ht t83 hkp
                have HEQ : Hid ((sa).start = (sb).start) := HB.out.starts
                have HX1 : Hid (n = (sa).start.sect.length) := HNA.out
                have hx2 : (sa).start.queue.length ≤ 1000 := (by show sa.queue.length ≤ _; omega)
                rw [HEQ.out] at T83 HX1 hx2
                have HX3 : Hid ((sb).start.off = false) := rfl
                generalize (sb).start = sf at T83 HX1 hx2 HX3
                go_wp2_with fail
                refine (contents_calls T83.out.a.d (by omega) HX3.out n HX1.out).mono ?_
                rintro e w74 ht
                obtain ⟨v1, rfl, hv1, t84, hkp⟩ := T83.out.contsL ht
                obtain ⟨A1, c1, hve⟩ := hv1.form
                have L1 : Hid ((sf).all.length = n) := by show _ = _; rw [DS.all_length]; exact (HX1.out).symm
                rw [L1.out] at hve
                subst hve
                have T84 := Lib.hid t84
                have C1 := Lib.hid hv1
                clear ht t84 hkp hv1
                go_wp2_with fail
                refine (contents_calls T84.out.b.d (by omega) HX3.out n HX1.out).mono ?_
                rintro e w75 ht
                obtain ⟨v2, rfl, hv2, t85, hkp⟩ := T84.out.contsL ht
                have C1' := Lib.hid (C1.out.keep hkp)
                clear C1
                have C1 := C1'
                clear C1'
                obtain ⟨A2, c2, hve⟩ := hv2.form
                have L2 : Hid ((sf).all.length = n) := by show _ = _; rw [DS.all_length]; exact (HX1.out).symm
                rw [L2.out] at hve
                subst hve
                have T85 := Lib.hid t85
                have C2 := Lib.hid hv2
                clear ht t85 hkp hv2
                go_wp2_with fail
                refine (same_calls _ _ _ sf.all sf.all C1.out.at_ C2.out.at_ (by rw [L1.out]; omega) (by rw [L2.out]; omega)).mono ?_
                rintro e w76 ⟨rfl, hb9⟩
                rw [show decide (sf.all = sf.all) = true from by simp]
                have M9 := Lib.hid (T85.out.a.be.trans (hb9.mono T85.out.a.sz))
                clear hb9
                go_wp2_with fail
                go_ret
                exact ⟨rfl, M9.out⟩
              · have hap : 0 ≤ a := by omega
                clear ha0
                go_wp2_with fail
                refine (start_calls T0.out.a.d).mono ?_
                rintro e w72 ht
                obtain ⟨rfl, F82, t82, hkp⟩ := T0.out.left ht
                have T82 := Lib.hid t82
                clear ht t82 hkp
                go_wp2_with fail
                refine (start_calls T82.out.b.d).mono ?_
                rintro e w73 ht
                obtain ⟨rfl, G83, t83, hkp⟩ := T82.out.right ht
                have T83 := Lib.hid t83
                clear ht t83 hkp
                have HEQ : Hid ((sa).start = (sb).start) := HB.out.starts
                have HX1 : Hid (n = (sa).start.sect.length) := HNA.out
                have hx2 : (sa).start.queue.length ≤ 1000 := (by show sa.queue.length ≤ _; omega)
                rw [HEQ.out] at T83 HX1 hx2
                have HX3 : Hid ((sb).start.off = false) := rfl
                generalize (sb).start = sf at T83 HX1 hx2 HX3
                go_wp2_with fail
                refine (contents_calls T83.out.a.d (by omega) HX3.out n HX1.out).mono ?_
                rintro e w74 ht
                obtain ⟨v1, rfl, hv1, t84, hkp⟩ := T83.out.contsL ht
                obtain ⟨A1, c1, hve⟩ := hv1.form
                have L1 : Hid ((sf).all.length = n) := by show _ = _; rw [DS.all_length]; exact (HX1.out).symm
                rw [L1.out] at hve
                subst hve
                have T84 := Lib.hid t84
                have C1 := Lib.hid hv1
                clear ht t84 hkp hv1
                go_wp2_with fail
                refine (contents_calls T84.out.b.d (by omega) HX3.out n HX1.out).mono ?_
                rintro e w75 ht
                obtain ⟨v2, rfl, hv2, t85, hkp⟩ := T84.out.contsL ht
                have C1' := Lib.hid (C1.out.keep hkp)
                clear C1
                have C1 := C1'
                clear C1'
                obtain ⟨A2, c2, hve⟩ := hv2.form
                have L2 : Hid ((sf).all.length = n) := by show _ = _; rw [DS.all_length]; exact (HX1.out).symm
                rw [L2.out] at hve
                subst hve
                have T85 := Lib.hid t85
                have C2 := Lib.hid hv2
                clear ht t85 hkp hv2
                go_wp2_with fail
                refine (same_calls _ _ _ sf.all sf.all C1.out.at_ C2.out.at_ (by rw [L1.out]; omega) (by rw [L2.out]; omega)).mono ?_
                rintro e w76 ⟨rfl, hb9⟩
                rw [show decide (sf.all = sf.all) = true from by simp]
                have M9 := Lib.hid (T85.out.a.be.trans (hb9.mono T85.out.a.sz))
                clear hb9
                go_wp2_with fail
                go_ret
                exact ⟨rfl, M9.out⟩
    · have ho2' : okB l2 = false := by simpa using ho2
      rw [ho2']
      clear ho2 ho2'
      go_wp2_with fail
      go_ret
      exact ⟨rfl, HB1.out⟩
  · have ho1' : okB l1 = false := by simpa using ho1
    rw [ho1']
    clear ho1 ho1'
    go_wp2_with fail
    go_ret
    exact ⟨rfl, HB1.out⟩
end Go.Proofs.Ytbjomjlchafkfaa
