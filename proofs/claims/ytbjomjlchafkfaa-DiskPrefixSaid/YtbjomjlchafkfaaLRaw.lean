/- DiskRaw: Raw shows no pending write; behind a Sync it is what is read from all sectors.
   Conditions: the arguments lie in memory as ActsArg says. -/
import Derived.Test.YtbjomjlchafkfaaLDamage
namespace Go.Proofs.Ytbjomjlchafkfaa
open Go.RowKit Go.Lib
set_option linter.unusedVariables false
theorem raw_keep (st : DS) (i : Int) (t : ByteArray) : (st.start.write i t).1.raw = st.start.raw := by
  unfold DS.raw
  rw [(write_keeps (st := st.start) rfl rfl i t).2.2]
theorem fail_none (st : DS) (ho : st.off = false) : (st.fail 0 0).sect = st.sect := by
  unfold DS.fail
  rw [ho]
  show st.failSect 0 0 = st.sect
  unfold DS.failSect
  have e : clamp 0 st.queue.length = 0 := by unfold clamp; omega
  have e2 : clamp 0 64 = 0 := by unfold clamp; omega
  rw [e, e2]
  cases hq : st.queue with
  | nil => rfl
  | cons x q =>
    show tearAt (settle st.sect ((x :: q).take 0)) x 0 = _
    rw [tearAt_none]
    rfl
theorem raw_fail (st : DS) (i : Int) (t : ByteArray) : ((st.start.write i t).1.fail 0 0).raw = st.start.raw := by
  have h := write_keeps (st := st.start) rfl rfl i t
  unfold DS.raw
  rw [fail_none _ h.1, h.2.2]
theorem raw_size (st : DS) (h : st.WF) : st.raw.size = 64 * st.sect.length := by
  have e := stCells_length st.sect h.s64
  rw [stCells_bytes, byteCells_length] at e
  show (List.toArray _).size = _
  simpa using e
theorem rawOf_snoc (xs : List ByteArray) (x : ByteArray) : rawOf (xs ++ [x]) = rawOf xs ++ x := by
  apply WideShapes.bytes_inj
  rw [ByteArray.data_append]
  simp [rawOf]
theorem rawOf_size (xs : List ByteArray) (h : ∀ x ∈ xs, x.size = 64) : (rawOf xs).size = 64 * xs.length := by
  have e := stCells_length xs h
  rw [stCells_bytes, byteCells_length] at e
  show (List.toArray _).size = _
  simpa using e

set_option maxRecDepth 100000 in
set_option maxHeartbeats 4000000 in
theorem raw_walk (w : World) (raw : Int) (hr : 0 ≤ raw ∧ raw ≤ 255) (A1 : Option Addr) (cap1 : Nat) (l1 : List Act0) (hl1 : ActsArg w A1 l1) (x : Act0) (hx : x.Read) :
    Calls Try.prog 10 #[.int .u8 raw, .slice A1 l1.length cap1, x.val] w fun e w' => e = .returned (.bool true) ∧ Below w.heap.size w w' := by
  obtain ⟨r0, r1⟩ := hr
  have HX := Lib.hid hx
  have HBE := Lib.hid (Boxed.of w x)
  have HA1 := Lib.hid (hl1.later HBE.out.be)
  clear hl1 hx
  simp only [Act0.val]
  go_enter Try.func10, Try.ntmps10
  go_wp2_with fail
  simp only [Act0.cells] at HBE HA1
  generalize w.alloc (.cells #[.int .i64 x.kind, .int .i64 x.sector, .int .i64 x.bytes, .string x.text, .bool x.odd, .int .i64 x.after] 34) = w0 at HBE HA1 ⊢
  refine (head_calls w0).mono ?_
  rintro e w1 ⟨rfl, hb1⟩
  have HB1 := Lib.hid hb1
  have G1 := Lib.hid (HA1.out.later hb1)
  clear hb1
  go_wp2_with fail
  obtain ⟨y0, y1, y2, y3, y4, y5⟩ := HBE.out.six HB1.out
  refine (ok_calls w1 A1 cap1 l1 G1.out.at_ G1.out.len fun x hx => (G1.out.each x hx).t).mono ?_
  rintro e w1' ⟨rfl, hw⟩
  subst hw
  by_cases ho1 : okB l1 = true
  · rw [ho1]
    have HO1 := Lib.hid ho1
    clear ho1
    go_wp2_with fail
    refine (ok_calls _ (some ⟨w1.heap.size, 0, none⟩) 1 [x] (one_arg x HX.out).at_ (one_arg (w := w1) x HX.out).len fun y hy => ((one_arg (w := w1) x HX.out).each y hy).t).mono ?_
    rintro e w1' ⟨rfl, hw⟩
    subst hw
    by_cases ho2 : okB [x] = true
    · rw [ho2]
      have HXO := Lib.hid ((one_arg (w := w1) x HX.out).ok ho2 x (by simp))
      clear y0 y1 y2 y3 y4 y5
      have HB2 := Lib.hid (HB1.out.alloc HB1.out.size (.cells #[.int .i64 x.kind, .int .i64 x.sector, .int .i64 x.bytes, .string x.text, .bool x.odd, .int .i64 x.after] 34))
      clear ho2
      go_wp2_with fail
      refine (size_calls _ raw r0 r1).mono ?_
      rintro e w1' ⟨rfl, hw⟩
      subst hw
      have hn := sizeN_le raw r0
      generalize sizeN raw = n at hn ⊢
      obtain ⟨n1, n2⟩ := hn
      go_wp2_with fail
      refine (new_ok _ n n1 (by omega)).mono ?_
      rintro e w2 hf
      obtain ⟨p, F, rfl, m⟩ := Mine.fresh HB2.out HB2.out.size hf
      clear hf
      have M := Lib.hid m
      clear m
      go_wp2_with fail
      go_loopw [10] (fun i wr => ∃ (k : Nat) (F' : Nat → Prop), k ≤ l1.length ∧ i = .int .i64 k ∧ Mine w0.heap.size w0 wr F' p ((DS.new n).acts (l1.take k)) ∧ ((DS.new n).acts (l1.take k)).queue.length ≤ k) (fun i _ => l1.length - (intOf i).toNat)
      case atStart => exact ⟨0, F, Nat.zero_le _, rfl, M.out, Nat.le_refl _⟩
      case round =>
        obtain ⟨k, F1, hk, rfl, hm, hq⟩ := hrel
        have HM := Lib.hid hm
        clear hm
        have h60 := (okB_true HO1.out).1
        by_cases hlt : k < l1.length
        · have harg := HA1.out.below HM.out.be HA1.out.lt
          obtain ⟨bb, off, hA, _, hc⟩ := harg.at_ (by omega)
          subst hA
          obtain ⟨x0, x1, x2, x3, x4, x5⟩ := ActsAt.six hc k hlt
          have hOk := Lib.hid (harg.ok HO1.out l1[k] (List.getElem_mem hlt))
          have HQ := Lib.hid (DS.act_qlen ((DS.new n).acts (l1.take k)) l1[k])
          clear hc harg
          go_wp2_with fail
          refine (do_calls HM.out.d (by omega) l1[k] hOk.out).mono ?_
          rintro e w3 ht
          obtain ⟨rfl, F2, m2⟩ := HM.out.turn ht
          have M2 := Lib.hid m2
          clear ht m2
          go_wp2_with fail
          go_roundw
          case rel => exact ⟨k + 1, F2, by omega, by go_num, by rw [DS.acts_snoc _ _ _ hlt]; exact M2.out, by rw [DS.acts_snoc _ _ _ hlt]; have := HQ.out; omega⟩
          case measure => simp [intOf]; omega
        · obtain rfl : k = l1.length := by omega
          rw [List.take_of_length_le (Nat.le_refl _)] at HM hq
          have hsl : ((DS.new n).acts l1).sect.length = n := by rw [DS.acts_length, DS.new_length]
          generalize (DS.new n).acts l1 = st at HM hq hsl
          have HSL := Lib.hid hsl
          clear hsl hlt
          go_wp2_with fail
          refine (start_calls HM.out.d).mono ?_
          rintro e w4 ht
          obtain ⟨rfl, F11, m11, hkp⟩ := HM.out.turns ht
          have M11 := Lib.hid m11
          clear ht m11 hkp
          go_wp2_with fail
          refine (raw_calls M11.out.d).mono ?_
          rintro e w5 ⟨rfl, hw⟩
          subst hw
          obtain ⟨x0, x1, x2, x3, x4, x5⟩ := HBE.out.six M11.out.be
          have hbl := Nat.lt_of_lt_of_le HBE.out.lt M11.out.be.size
          go_wp2_with fail
          have hqs : st.start.queue.length ≤ 60 := by show st.queue.length ≤ 60; omega
          go_region_with (first
            | (go_at_call 24; refine (text_calls x HXO.out.t _).mono ?_; rintro e w7 ⟨rfl, rfl⟩)
            | (go_at_call 23; refine (write_calls (M11.out.d.below (by exact ((Below.refl _ _).alloc (Nat.le_refl _) _).drew)) (by omega) _ _).mono ?_; rintro e w7 hw7; have hw7b := Turns.from_box (((Below.refl _ _).alloc (Nat.le_refl _) _).drew) hw7; obtain ⟨rfl, hw7c⟩ := hw7; clear hw7c))
          all_goals
            obtain ⟨_, F30, m30, hkp⟩ := M11.out.turns hw7b
            have M30 := Lib.hid m30
            have Q30 := Lib.hid (DS.write_qlen st.start x.sector x.txt)
            have P30 := Lib.hid (write_keeps (st := st.start) rfl rfl x.sector x.txt)
            have R30 := Lib.hid (raw_keep st x.sector x.txt)
            have R31 := Lib.hid (raw_fail st x.sector x.txt)
            have S30 : Hid ((st.start.write x.sector x.txt).1.sect.length = n) := by show _ = _; rw [P30.out.2.2]; exact HSL.out
            have RS : Hid (st.start.raw.size = 64 * n) := by show _ = _; rw [raw_size _ M11.out.d.wf, show st.start.sect.length = n from HSL.out]
            clear hw7b m30 hkp x0 x1 x2 x3 x4 x5
            generalize hs30 : (st.start.write x.sector x.txt).1 = s30 at M30 Q30 P30 R30 R31 S30
            clear hs30
            obtain ⟨x0, x1, x2, x3, x4, x5⟩ := HBE.out.six M30.out.be
            go_wp2_with fail
            refine (read_calls M30.out.d (by have := Q30.out; omega) x.sector).mono ?_
            rintro e w7 ⟨rfl, hb⟩
            have hkp := Keep.below (F := F30) hb
            have M12 := Lib.hid (M30.out.below hb)
            clear hb hkp
            go_wp2_with fail
            have hc := raw_calls M12.out.d
            rw [R30.out] at hc
            refine hc.mono ?_
            clear hc
            rintro e w8 ⟨rfl, hw⟩
            subst hw
            have rs1 : ((st.start.raw.size : Int) == (n : Int) * 64) = true := by simp; have := RS.out; omega
            have rs2 : ((st.start.raw.size : Int) != (n : Int) * 64) = false := by simp; have := RS.out; omega
            clear x0 x1 x2 x3 x4 x5
            obtain ⟨_, _, _, _, x4, _⟩ := HBE.out.six M12.out.be
            by_cases hod : x.odd = true
            · rw [hod] at x4
              go_wp2_with fail
              refine (fail_calls M12.out.d 0 0 (by unfold i64ok; omega) (by unfold i64ok; omega) (by have := Q30.out; omega)).mono ?_
              rintro e w9 ht
              obtain ⟨rfl, F13, m13, hkp⟩ := M12.out.turns ht
              have M13 := Lib.hid m13
              clear ht m13 hkp
              go_wp2_with fail
              have hc := raw_calls M13.out.d
              rw [R31.out] at hc
              refine hc.mono ?_
              clear hc
              rintro e w10 ⟨rfl, hw⟩
              subst hw
              go_wp2_with fail
              refine (start_calls M13.out.d).mono ?_
              rintro e w11 ht
              obtain ⟨rfl, F14, m14, hkp⟩ := M13.out.turns ht
              have M14 := Lib.hid m14
              clear ht m14 hkp
              go_wp2_with fail
              have hc := raw_calls M14.out.d
              rw [show (s30.fail 0 0).start.raw = (s30.fail 0 0).raw from rfl, R31.out] at hc
              refine hc.mono ?_
              clear hc
              rintro e w12 ⟨rfl, hw⟩
              subst hw
              go_wp2_with fail
              go_ret
              exact ⟨rfl, fin0 HBE.out M14.out.be⟩
            · have hod' : x.odd = false := by simpa using hod
              rw [hod'] at x4
              go_wp2_with fail
              have hc := sync_calls M12.out.d (by have := Q30.out; omega)
              rw [sync_plain P30.out.1 P30.out.2.1] at hc
              refine hc.mono ?_
              clear hc
              rintro e w13 ht
              obtain ⟨rfl, F15, m15, hkp⟩ := M12.out.turns ht
              have M15 := Lib.hid m15
              clear ht m15 hkp
              go_wp2_with fail
              have HSY : Hid (n = s30.syncNow.sect.length) := by show _ = (settle _ _).length; rw [settle_length]; exact S30.out.symm
              refine (contents_calls M15.out.d (Nat.zero_le _) P30.out.1 n HSY.out).mono ?_
              rintro e w14 ht
              obtain ⟨v1, rfl, hv1, m16, hkp⟩ := M15.out.conts ht
              obtain ⟨A1, c1, hve⟩ := hv1.form
              have L1 : Hid ((s30.syncNow).all.length = n) := by show _ = _; rw [DS.all_length]; exact (HSY.out).symm
              rw [L1.out] at hve
              subst hve
              have M16 := Lib.hid m16
              have C1 := Lib.hid hv1
              clear ht m16 hkp hv1
              go_wp2_with fail
              have HALL : Hid (s30.syncNow.all = s30.all) := rfl
              have H64 := Lib.hid (DS.all_64 M16.out.d.wf)
              rw [HALL.out] at C1 L1 H64
              have C9 := Lib.hid C1.out.at_
              generalize hxs : s30.all = xs at C1 L1 H64 C9
              have HXS := Lib.hid hxs
              clear hxs
              go_loop [15, 16] (fun s i => ∃ k : Nat, k ≤ n ∧ i = .int .i64 k ∧ s = .string (rawOf (xs.take k))) (fun _ i => n - (intOf i).toNat)
              case atStart => exact ⟨0, Nat.zero_le _, rfl, rfl⟩
              case round =>
                obtain ⟨k, hk, rfl, rfl⟩ := hrel
                have hsz : (rawOf (xs.take k)).size ≤ 768 := by
                  rw [rawOf_size _ fun x hx => H64.out x (List.mem_of_mem_take hx), List.length_take]
                  omega
                by_cases hlt : k < n
                · have hkx : k < xs.length := by rw [L1.out]; exact hlt
                  obtain ⟨b1, hb1, z1⟩ := strs_cell C9.out k hkx
                  subst hb1
                  have h64 := H64.out _ (List.getElem_mem hkx)
                  have HR : Hid (rawOf (xs.take k) ++ xs[k] = rawOf (xs.take (k + 1))) := by
                    show _ = _
                    rw [List.take_succ_eq_append_getElem hkx, rawOf_snoc]
                  have h64' : xs[k].size ≤ 64 := by omega
                  clear h64
                  go_wp2_with fail
                  go_round
                  case rel => exact ⟨k + 1, by omega, by go_num, by rw [HR.out]⟩
                  case measure => simp [intOf]; omega
                · obtain rfl : k = n := by omega
                  have HT : Hid (xs.take k = xs) := List.take_of_length_le (by rw [L1.out]; exact Nat.le_refl _)
                  rw [HT.out] at hsz ⊢
                  go_wp2_with fail
                  have hc := raw_calls M16.out.d
                  rw [show s30.syncNow.raw = rawOf s30.all from rfl, HXS.out] at hc
                  refine hc.mono ?_
                  clear hc
                  rintro e w15 ⟨rfl, hw⟩
                  subst hw
                  go_wp2_with fail
                  go_ret
                  exact ⟨rfl, fin0 HBE.out M16.out.be⟩
    · have ho2' : okB [x] = false := by simpa using ho2
      rw [ho2']
      clear ho2 ho2'
      go_wp2_with fail
      go_ret
      exact ⟨rfl, fin0 HBE.out (HB1.out.alloc HB1.out.size _)⟩
  · have ho1' : okB l1 = false := by simpa using ho1
    rw [ho1']
    clear ho1 ho1'
    go_wp2_with fail
    go_ret
    exact ⟨rfl, fin0 HBE.out (HB1.out)⟩
end Go.Proofs.Ytbjomjlchafkfaa
