/- DiskReads: reading a sector returns what was written; errors and reading change nothing.
   Conditions: the arguments lie in memory as ActsArg says. -/
import Derived.Test.YtbjomjlchafkfaaLRaw
namespace Go.Proofs.Ytbjomjlchafkfaa
open Go.RowKit Go.Lib
set_option linter.unusedVariables false
theorem write_all {st : DS} (ho : st.off = false) (ha : st.armed = none) (i : Int) (t : ByteArray) :
    ((st.write i t).2 = 0 ∧ 0 ≤ i ∧ i < st.sect.length ∧ t.size = 64 ∧ (st.write i t).1.all = st.all.set i.toNat t) ∨
    ((st.write i t).2 = 1 ∧ (i < 0 ∨ (st.sect.length : Int) ≤ i ∨ t.size ≠ 64) ∧ (st.write i t).1.all = st.all) := by
  rw [DS.write_plain ho ha]
  by_cases hc : st.valid i = true ∧ t.size = 64
  · rw [if_pos hc]
    have hv : 0 ≤ i ∧ i < st.sect.length := by simpa [DS.valid] using hc.1
    refine .inl ⟨rfl, hv.1, hv.2, hc.2, ?_⟩
    show settle _ (_ ++ [_]) = _
    rw [settle_append]
    rfl
  · rw [if_neg hc]
    refine .inr ⟨rfl, ?_, rfl⟩
    simp only [DS.valid, Bool.and_eq_true, decide_eq_true_eq] at hc
    omega
theorem off_write {st : DS} (h : st.off = true) (i : Int) (t : ByteArray) : st.write i t = (st, 26) := by unfold DS.write; rw [if_pos h]
theorem off_read {st : DS} (h : st.off = true) (i : Int) : st.read i = (emptyB, 26) := by unfold DS.read; rw [if_pos h]
theorem fail_off (st : DS) (a b : Int) : (st.fail a b).off = true := by
  unfold DS.fail
  split
  · assumption
  · rfl

set_option maxRecDepth 100000 in
set_option maxHeartbeats 4000000 in
theorem reads_walk (w : World) (raw : Int) (hr : 0 ≤ raw ∧ raw ≤ 255) (A1 : Option Addr) (cap1 : Nat) (l1 : List Act0) (hl1 : ActsArg w A1 l1) (x : Act0) (hx : x.Read) :
    Calls Try.prog 6 #[.int .u8 raw, .slice A1 l1.length cap1, x.val] w fun e w' => e = .returned (.bool true) ∧ Below w.heap.size w w' := by
  obtain ⟨r0, r1⟩ := hr
  have HX := Lib.hid hx
  have HBE := Lib.hid (Boxed.of w x)
  have HA1 := Lib.hid (hl1.later HBE.out.be)
  have g6 : emptyB.toList = [] := by rw [ByteArray.toList_eq]; rfl
  clear hl1 hx
  simp only [Act0.val]
  go_enter Try.func6, Try.ntmps6
  go_wp2_with fail
  simp only [Act0.cells] at HBE HA1
  generalize w.alloc (.cells #[.int .i64 x.kind, .int .i64 x.sector, .int .i64 x.bytes, .string x.text, .bool x.odd, .int .i64 x.after] 34) = w0 at HBE HA1 ⊢
  refine (head_calls w0).mono ?_
  rintro e w1 ⟨rfl, hb1⟩
  have HB1 := Lib.hid hb1
  have G1 := Lib.hid (HA1.out.later hb1)
  clear hb1
  go_wp2_with fail
  obtain ⟨y0, y1, y2, y3, y4, y5⟩ := HBE.out.six HB1.out
  refine (ok_calls w1 A1 cap1 l1 G1.out.at_ G1.out.len fun x hx => (G1.out.each x hx).t).mono ?_
  rintro e w1' ⟨rfl, hw⟩
  subst hw
  by_cases ho1 : okB l1 = true
  · rw [ho1]
    have HO1 := Lib.hid ho1
    clear ho1
    go_wp2_with fail
    refine (ok_calls _ (some ⟨w1.heap.size, 0, none⟩) 1 [x] (one_arg x HX.out).at_ (one_arg (w := w1) x HX.out).len fun y hy => ((one_arg (w := w1) x HX.out).each y hy).t).mono ?_
    rintro e w1' ⟨rfl, hw⟩
    subst hw
    by_cases ho2 : okB [x] = true
    · rw [ho2]
      have HXO := Lib.hid ((one_arg (w := w1) x HX.out).ok ho2 x (by simp))
      clear y0 y1 y2 y3 y4 y5
      have HB2 := Lib.hid (HB1.out.alloc HB1.out.size (.cells #[.int .i64 x.kind, .int .i64 x.sector, .int .i64 x.bytes, .string x.text, .bool x.odd, .int .i64 x.after] 34))
      clear ho2
      go_wp2_with fail
      refine (size_calls _ raw r0 r1).mono ?_
      rintro e w1' ⟨rfl, hw⟩
      subst hw
      have hn := sizeN_le raw r0
      generalize sizeN raw = n at hn ⊢
      obtain ⟨n1, n2⟩ := hn
      go_wp2_with fail
      refine (new_ok _ n n1 (by omega)).mono ?_
      rintro e w2 hf
      obtain ⟨p, F, rfl, m⟩ := Mine.fresh HB2.out HB2.out.size hf
      clear hf
      have M := Lib.hid m
      clear m
      go_wp2_with fail
      go_loopw [10] (fun i wr => ∃ (k : Nat) (F' : Nat → Prop), k ≤ l1.length ∧ i = .int .i64 k ∧ Mine w0.heap.size w0 wr F' p ((DS.new n).acts (l1.take k)) ∧ ((DS.new n).acts (l1.take k)).queue.length ≤ k) (fun i _ => l1.length - (intOf i).toNat)
      case atStart => exact ⟨0, F, Nat.zero_le _, rfl, M.out, Nat.le_refl _⟩
      case round =>
        obtain ⟨k, F1, hk, rfl, hm, hq⟩ := hrel
        have HM := Lib.hid hm
        clear hm
        have h60 := (okB_true HO1.out).1
        by_cases hlt : k < l1.length
        · have harg := HA1.out.below HM.out.be HA1.out.lt
          obtain ⟨bb, off, hA, _, hc⟩ := harg.at_ (by omega)
          subst hA
          obtain ⟨x0, x1, x2, x3, x4, x5⟩ := ActsAt.six hc k hlt
          have hOk := Lib.hid (harg.ok HO1.out l1[k] (List.getElem_mem hlt))
          have HQ := Lib.hid (DS.act_qlen ((DS.new n).acts (l1.take k)) l1[k])
          clear hc harg
          go_wp2_with fail
          refine (do_calls HM.out.d (by omega) l1[k] hOk.out).mono ?_
          rintro e w3 ht
          obtain ⟨rfl, F2, m2⟩ := HM.out.turn ht
          have M2 := Lib.hid m2
          clear ht m2
          go_wp2_with fail
          go_roundw
          case rel => exact ⟨k + 1, F2, by omega, by go_num, by rw [DS.acts_snoc _ _ _ hlt]; exact M2.out, by rw [DS.acts_snoc _ _ _ hlt]; have := HQ.out; omega⟩
          case measure => simp [intOf]; omega
        · obtain rfl : k = l1.length := by omega
          rw [List.take_of_length_le (Nat.le_refl _)] at HM hq
          have hsl : ((DS.new n).acts l1).sect.length = n := by rw [DS.acts_length, DS.new_length]
          generalize (DS.new n).acts l1 = st at HM hq hsl
          have HSL := Lib.hid hsl
          clear hsl hlt
          go_wp2_with fail
          refine (start_calls HM.out.d).mono ?_
          rintro e w4 ht
          obtain ⟨rfl, F11, m11, hkp⟩ := HM.out.turns ht
          have M11 := Lib.hid m11
          clear ht m11 hkp
          go_wp2_with fail
          have HSS : Hid (n = st.start.sect.length) := HSL.out.symm
          have hqs : st.start.queue.length ≤ 60 := by show st.queue.length ≤ 60; omega
          have HOF : Hid (st.start.off = false) := rfl
          have HAR : Hid (st.start.armed = none) := rfl
          generalize st.start = s0 at M11 HSS hqs HOF HAR
          refine (contents_calls M11.out.d (by omega) HOF.out n HSS.out).mono ?_
          rintro e w5 ht
          obtain ⟨v1, rfl, hv1, m12, hkp⟩ := M11.out.contsO ht
          obtain ⟨A1, c1, hve⟩ := hv1.form
          have L1 : Hid ((s0).all.length = n) := by show _ = _; rw [DS.all_length]; exact (HSS.out).symm
          rw [L1.out] at hve
          subst hve
          have M12 := Lib.hid m12
          have C1 := Lib.hid hv1
          clear ht m12 hkp hv1
          go_wp2_with fail
          obtain ⟨y0, y1, y2, y3, y4, y5⟩ := HBE.out.six M12.out.be
          have hbl := Nat.lt_of_lt_of_le HBE.out.lt M12.out.be.size
          go_region_with (first
            | (go_at_call 24; refine (text_calls x HXO.out.t _).mono ?_; rintro e w7 ⟨rfl, rfl⟩)
            | (go_at_call 23; refine (write_calls (M12.out.d.below (by exact ((Below.refl _ _).alloc (Nat.le_refl _) _).drew)) (by omega) _ _).mono ?_; rintro e w7 hw7; have hw7b := Turns.from_box (((Below.refl _ _).alloc (Nat.le_refl _) _).drew) hw7; obtain ⟨rfl, hw7c⟩ := hw7; clear hw7c))
          all_goals
            obtain ⟨_, F30, m30, hkp⟩ := M12.out.turns hw7b
            have M30 := Lib.hid m30
            have C1' := Lib.hid (C1.out.keep hkp)
            clear C1
            have C1 := C1'
            clear C1'
            have Q30 := Lib.hid (DS.write_qlen s0 x.sector x.txt)
            have P30 := Lib.hid (write_keeps HOF.out HAR.out x.sector x.txt)
            have S30 : Hid (n = (s0.write x.sector x.txt).1.sect.length) := by show _ = _; rw [P30.out.2.2]; exact HSS.out
            have W30 := Lib.hid (write_all HOF.out HAR.out x.sector x.txt)
            clear hw7b m30 hkp y0 y1 y2 y3 y4 y5 hbl
            generalize hs30 : (s0.write x.sector x.txt).1 = s30 at M30 Q30 P30 S30 W30
            generalize he30 : (s0.write x.sector x.txt).2 = c30 at W30 ⊢
            clear hs30 he30
            go_wp2_with fail
            have hb1lt : ∀ k, (Value.slice A1 n c1).ownBlock = some k → k < w7.heap.size := fun k hk => (C1.out.own.lt k hk).2
            have HLT := Lib.hid hb1lt
            clear hb1lt
            refine (contents_calls M30.out.d (by have := Q30.out; omega) P30.out.1 n S30.out).mono ?_
            rintro e w21 ht
            obtain ⟨v2, rfl, hv2, m13, hkp⟩ := M30.out.contsO ht
            have C1' := Lib.hid (C1.out.keep hkp)
            clear C1
            have C1 := C1'
            clear C1'
            obtain ⟨A2, c2, hve⟩ := hv2.form
            have L2 : Hid ((s30).all.length = n) := by show _ = _; rw [DS.all_length]; exact (S30.out).symm
            rw [L2.out] at hve
            subst hve
            have M13 := Lib.hid m13
            have C2 := Lib.hid hv2
            clear ht m13 hkp hv2
            go_wp2_with fail
            refine (contents_calls M13.out.d (by have := Q30.out; omega) P30.out.1 n S30.out).mono ?_
            rintro e w22 ht
            obtain ⟨v3, rfl, hv3, m14, hkp⟩ := M13.out.contsO ht
            have C1' := Lib.hid (C1.out.keep hkp)
            clear C1
            have C1 := C1'
            clear C1'
            have C2' := Lib.hid (C2.out.keep hkp)
            clear C2
            have C2 := C2'
            clear C2'
            obtain ⟨A3, c3, hve⟩ := hv3.form
            have L3 : Hid ((s30).all.length = n) := by show _ = _; rw [DS.all_length]; exact (S30.out).symm
            rw [L3.out] at hve
            subst hve
            have M14 := Lib.hid m14
            have C3 := Lib.hid hv3
            clear ht m14 hkp hv3
            go_wp2_with fail
            refine (same_calls _ _ _ s30.all s30.all C2.out.at_ C3.out.at_ (by rw [L2.out]; omega) (by rw [L3.out]; omega)).mono ?_
            rintro e w24 ⟨rfl, hb⟩
            rw [show decide (s30.all = s30.all) = true from by simp]
            have hkp := Keep.below (F := F30) hb
            have m := M14.out.below hb
            have C1' := Lib.hid (C1.out.keep hkp)
            clear C1
            have C1 := C1'
            clear C1'
            have C2' := Lib.hid (C2.out.keep hkp)
            clear C2
            have C2 := C2'
            clear C2'
            have C3' := Lib.hid (C3.out.keep hkp)
            clear C3
            have C3 := C3'
            clear C3'
            have M15 := Lib.hid m
            clear m hb hkp
            rcases W30.out with ⟨rfl, hs1, hs2, hs3, hs4⟩ | ⟨rfl, hs1, hs2⟩
            · have HS4 := Lib.hid hs4
              rw [← HSS.out] at hs2
              clear hs4
              obtain ⟨y0, y1, y2, y3, y4, y5⟩ := HBE.out.six M15.out.be
              have hbl := Nat.lt_of_lt_of_le HBE.out.lt M15.out.be.size
              go_wp2_with fail
              obtain ⟨b1, hb1, hB1, hb1lt, hb1F, hb1fr, hbn, hb1c⟩ := C1.out.block (by rw [L1.out]; omega)
              clear hbn
              subst hb1
              have z1 := hb1c x.sector.toNat (by rw [L1.out]; omega)
              have z2 := hb1fr x.sector.toNat
              have hsn : x.sector.toNat < n := by omega
              clear hb1c hb1fr
              go_region_with (go_at_call 24; refine (text_calls x HXO.out.t _).mono ?_; rintro e w8 ⟨rfl, rfl⟩)
              all_goals
                have HZ : Hid (w0.heap.size ≤ b1) := Nat.le_trans M11.out.sz hB1
                have hal := (((Below.refl (w24.setCell ⟨b1, x.sector.toNat, none⟩ (.string x.txt)).heap.size (w24.setCell ⟨b1, x.sector.toNat, none⟩ (.string x.txt))).alloc (Nat.le_refl _) (.cells x.cells.toArray 34)).drew)
                have M40 := Lib.hid ((M15.out.set hb1F HZ.out x.sector.toNat (.string x.txt)).below hal)
                have hc1 := C1.out
                rw [← L1.out] at hc1
                have hc1' := (hc1.set x.sector.toNat x.txt).at_.below hal
                rw [L1.out] at hc1'
                have D1 := Lib.hid hc1'
                have D2 := Lib.hid ((C2.out.apart (HLT.out b1 rfl) x.sector.toNat (.string x.txt)).at_.below hal)
                generalize ((w24.setCell ⟨b1, x.sector.toNat, none⟩ (.string x.txt)).alloc (.cells x.cells.toArray 34)).drew = w40 at M40 D1 D2 ⊢
                clear hal hc1 hc1' z1 z2 C1 C2 C3 y0 y1 y2 y3 y4 y5 hbl
                go_wp2_with fail
                refine (same_calls _ _ _ (s0.all.set x.sector.toNat x.txt) s30.all D1.out D2.out (by rw [List.length_set, L1.out]; omega) (by rw [L2.out]; omega)).mono ?_
                rintro e w41 ⟨rfl, hb⟩
                rw [show decide (s0.all.set x.sector.toNat x.txt = s30.all) = true from by simp [HS4.out]]
                have hkp := Keep.below (F := F30) hb
                have m := M40.out.below hb
                have M16 := Lib.hid m
                clear m hb hkp
                go_wp2_with fail
                refine (fail_calls M16.out.d 0 0 (by unfold i64ok; omega) (by unfold i64ok; omega) (by have := Q30.out; omega)).mono ?_
                rintro e w42 ht
                obtain ⟨rfl, F17, m17, hkp⟩ := M16.out.turns ht
                have M17 := Lib.hid m17
                clear ht m17 hkp
                go_wp2_with fail
                have HFO := Lib.hid (fail_off s30 0 0)
                have HFQ := Lib.hid (DS.fail_queue s30 0 0)
                refine (fill_A _).mono ?_
                rintro e w43 ⟨rfl, hb⟩
                have hkp := Keep.below (F := F17) hb
                have M18 := Lib.hid (M17.out.below hb)
                clear hb hkp
                go_wp2_with fail
                have hc := write_calls M18.out.d (by have := Q30.out; have := HFQ.out; omega) 0 fA
                rw [off_write HFO.out] at hc
                refine hc.mono ?_
                clear hc
                rintro e w44 ht
                obtain ⟨rfl, F19, m19, hkp⟩ := M18.out.turns ht
                have M19 := Lib.hid m19
                clear ht m19 hkp
                go_wp2_with fail
                have hc := read_calls M19.out.d (by have := Q30.out; have := HFQ.out; omega) 0
                rw [off_read HFO.out] at hc
                refine hc.mono ?_
                clear hc
                rintro e w45 ⟨rfl, hb⟩
                have hkp := Keep.below (F := F19) hb
                have M20 := Lib.hid (M19.out.below hb)
                clear hb hkp
                go_wp2_with fail
                go_ret
                exact ⟨rfl, fin0 HBE.out M20.out.be⟩
            · have HS2 := Lib.hid hs2
              rw [← HSS.out] at hs1
              clear hs2
              obtain ⟨y0, y1, y2, y3, y4, y5⟩ := HBE.out.six M15.out.be
              have hbl := Nat.lt_of_lt_of_le HBE.out.lt M15.out.be.size
              go_wp2_with fail
              refine (same_calls _ _ _ s0.all s30.all C1.out.at_ C2.out.at_ (by rw [L1.out]; omega) (by rw [L2.out]; omega)).mono ?_
              rintro e w25 ⟨rfl, hb⟩
              rw [show decide (s0.all = s30.all) = true from by simp [HS2.out]]
              have hkp := Keep.below (F := F30) hb
              have m := M15.out.below hb
              have C1' := Lib.hid (C1.out.keep hkp)
              clear C1
              have C1 := C1'
              clear C1'
              have C2' := Lib.hid (C2.out.keep hkp)
              clear C2
              have C2 := C2'
              clear C2'
              have C3' := Lib.hid (C3.out.keep hkp)
              clear C3
              have C3 := C3'
              clear C3'
              have M16 := Lib.hid m
              clear m hb hkp
              clear y0 y1 y2 y3 y4 y5 hbl
              obtain ⟨y0, y1, y2, y3, y4, y5⟩ := HBE.out.six M16.out.be
              have hbl := Nat.lt_of_lt_of_le HBE.out.lt M16.out.be.size
              have key : x.sector < 0 ∨ (0 ≤ x.sector ∧ (n : Int) ≤ x.sector) ∨ (0 ≤ x.sector ∧ x.sector < n ∧ x.txt.size ≠ 64) := by omega
              clear hs1
              rcases key with q1 | ⟨q1, q2⟩ | ⟨q1, q2, q3⟩
              · go_wp2_with fail
                go_ret
                exact ⟨rfl, fin0 HBE.out M16.out.be⟩
              · go_wp2_with fail
                go_ret
                exact ⟨rfl, fin0 HBE.out M16.out.be⟩
              · have q4 : ((x.txt.size : Int) == 64) = false := by simp; omega
                have q5 : ((x.txt.size : Int) != 64) = true := by simp; omega
                clear q3
                go_wp2_with fail
                refine (text_calls x HXO.out.t _).mono ?_
                rintro e w50 ⟨rfl, hw⟩
                have M50 := Lib.hid (M16.out.be.trans ((hw ▸ (Below.refl _ _).alloc (Nat.le_refl _) _ : Below w25.heap.size w25 w50).mono M16.out.sz))
                clear hw
                go_wp2_with fail
                go_ret
                exact ⟨rfl, fin0 HBE.out M50.out⟩
    · have ho2' : okB [x] = false := by simpa using ho2
      rw [ho2']
      clear ho2 ho2'
      go_wp2_with fail
      go_ret
      exact ⟨rfl, fin0 HBE.out (HB1.out.alloc HB1.out.size _)⟩
  · have ho1' : okB l1 = false := by simpa using ho1
    rw [ho1']
    clear ho1 ho1'
    go_wp2_with fail
    go_ret
    exact ⟨rfl, fin0 HBE.out (HB1.out)⟩
end Go.Proofs.Ytbjomjlchafkfaa
