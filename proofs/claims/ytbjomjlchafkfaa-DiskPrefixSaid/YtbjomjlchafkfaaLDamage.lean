/- DiskDamage: Rot inverts just the bits that it names, or nothing; twice it brings everything back.
   Conditions: the arguments lie in memory as ActsArg says. -/
import Derived.Test.YtbjomjlchafkfaaDP
namespace Go.Proofs.Ytbjomjlchafkfaa
open Go.RowKit Go.Lib
set_option linter.unusedVariables false
theorem rot_same (st : DS) (a b c : Int) : (st.rot a b c).queue = st.queue ∧ (st.rot a b c).off = st.off := by unfold DS.rot; split <;> exact ⟨rfl, rfl⟩
theorem all_empty {st : DS} (h : st.queue = []) : st.all = st.sect := by unfold DS.all; rw [h]; rfl
theorem xor_bytes (a b : UInt8) : bits .xor .u8 (a.toNat : Int) (b.toNat : Int) = ((a ^^^ b).toNat : Int) := by
  rw [u8_xor_nat _ _ a.toNat_lt b.toNat_lt, UInt8.toNat_xor]
theorem xor_self_bytes {x y : ByteArray} (h : y = x) (k : Nat) (h1 : k < x.size) (h2 : k < y.size) : ((x[k] ^^^ y[k]).toNat : Int) = 0 := by
  subst h; simp
theorem strs_cell {w : World} {A : Option Addr} {n cap : Nat} {xs : List ByteArray} (h : StrsAt w (.slice A n cap) xs) (k : Nat) (hk : k < xs.length) : ∃ b, A = some ⟨b, 0, none⟩ ∧ w.cell? ⟨b, k, none⟩ = some (.string xs[k]) := by
  obtain ⟨A', cap', e, h⟩ := h
  injection e with e1 e2 e3
  subst e1 e2 e3
  obtain ⟨b, rfl, _, hc⟩ := h (by omega)
  exact ⟨b, rfl, hc k hk⟩
theorem flip_twice (s : ByteArray) (a m : Nat) : flipAt (flipAt s a m) a m = s := by
  apply WideShapes.bytes_inj
  show (List.modify (List.modify s.data.toList a (· ^^^ UInt8.ofNat m)) a (· ^^^ UInt8.ofNat m)) = s.data.toList
  apply List.ext_getElem
  · simp
  · intro j h1 h2
    simp only [List.getElem_modify]
    split
    · rw [UInt8.xor_assoc, UInt8.xor_self, UInt8.xor_zero]
    · rfl
theorem rot_rot (st : DS) (a b c : Int) : ((st.rot a b c).rot a b c).sect = st.sect := by
  by_cases h : (st.valid a && (decide (0 ≤ b) && decide (b < 64) && decide (0 < c) && decide (c < 256))) = true
  · have e1 : st.rot a b c = { st with sect := st.sect.modify a.toNat (flipAt · b.toNat c.toNat) } := by unfold DS.rot; rw [if_pos h]
    have h2 : ((st.rot a b c).valid a && (decide (0 ≤ b) && decide (b < 64) && decide (0 < c) && decide (c < 256))) = true := by
      rw [e1]
      have : DS.valid { st with sect := st.sect.modify a.toNat (flipAt · b.toNat c.toNat) } a = st.valid a := by simp [DS.valid]
      rw [this]; exact h
    have e2 : (st.rot a b c).rot a b c = { st.rot a b c with sect := (st.rot a b c).sect.modify a.toNat (flipAt · b.toNat c.toNat) } := by rw [DS.rot, if_pos h2]
    rw [e2, e1]
    show (st.sect.modify a.toNat _).modify a.toNat _ = _
    apply List.ext_getElem
    · simp
    · intro j h1 h2
      simp only [List.getElem_modify]
      split
      · exact flip_twice _ _ _
      · rfl
  · have e1 : st.rot a b c = st := by unfold DS.rot; rw [if_neg h]
    rw [e1, e1]
theorem rot_twice (st : DS) (h : st.queue = []) (a b c : Int) : decide (st.all = ((st.rot a b c).rot a b c).all) = true := by
  rw [all_empty h, all_empty (by rw [(rot_same _ _ _ _).1, (rot_same _ _ _ _).1]; exact h), rot_rot]
  simp
theorem rot_invalid (st : DS) (n : Nat) (hn : n = st.sect.length) (a b c : Int) (h : ¬ (0 ≤ a ∧ a < n ∧ 0 ≤ b ∧ b < 64 ∧ 1 ≤ c ∧ c ≤ 255)) : (st.rot a b c).all = st.all := by
  have : st.rot a b c = st := by
    unfold DS.rot DS.valid
    rw [if_neg]
    simp only [Bool.and_eq_true, decide_eq_true_eq]
    omega
  rw [this]
theorem flipAt_get (s : ByteArray) (a m : Nat) (hm : m < 256) (k : Nat) (h1 : k < s.size) (h2 : k < (flipAt s a m).size) : ((s[k] ^^^ (flipAt s a m)[k]).toNat : Int) = if k = a then (m : Int) else 0 := by
  have hb := bsize s
  have e1 : s[k] = s.data.toList[k]'(by omega) := rfl
  have e2 : (flipAt s a m)[k] = (s.data.toList.modify a (· ^^^ UInt8.ofNat m))[k]'(by rw [List.length_modify]; omega) := rfl
  rw [e1, e2, List.getElem_modify]
  by_cases h : a = k
  · subst h
    rw [if_pos rfl, if_pos rfl, ← UInt8.xor_assoc, UInt8.xor_self, UInt8.zero_xor, UInt8.toNat_ofNat_of_lt' hm]
  · rw [if_neg h, if_neg (fun e => h e.symm), UInt8.xor_self]
    rfl
theorem rot_64 (st : DS) (hq : st.queue = []) (a b c : Int) (h : ∀ x ∈ st.all, x.size = 64) : ∀ x ∈ (st.rot a b c).all, x.size = 64 := by
  rw [all_empty hq] at h
  rw [all_empty (by rw [(rot_same _ _ _ _).1]; exact hq)]
  unfold DS.rot
  split
  · intro x hx
    obtain ⟨j, hj, rfl⟩ := List.getElem_of_mem hx
    simp only [List.getElem_modify]
    split
    · rw [flipAt_size]; exact h _ (List.getElem_mem _)
    · exact h _ (List.getElem_mem _)
  · exact h
/-- where the three are valid -/
theorem rot_valid (st : DS) (hq : st.queue = []) (a b c : Int) (v1 : 0 ≤ a) (v2 : a < st.sect.length) (v3 : 0 ≤ b) (v4 : b < 64) (v5 : 1 ≤ c) (v6 : c ≤ 255) (i : Nat) (h1 : i < st.all.length) (h2 : i < (st.rot a b c).all.length) :
    ((i : Int) = a → ∀ k (k1 : k < st.all[i].size) (k2 : k < (st.rot a b c).all[i].size), (k : Int) = b → ((st.all[i][k] ^^^ (st.rot a b c).all[i][k]).toNat : Int) = c) ∧
    ((i : Int) = a → ∀ k (k1 : k < st.all[i].size) (k2 : k < (st.rot a b c).all[i].size), ¬ (k : Int) = b → ((st.all[i][k] ^^^ (st.rot a b c).all[i][k]).toNat : Int) = 0) ∧
    (¬ (i : Int) = a → ∀ k (k1 : k < st.all[i].size) (k2 : k < (st.rot a b c).all[i].size), ((st.all[i][k] ^^^ (st.rot a b c).all[i][k]).toNat : Int) = 0) := by
  have e1 : st.rot a b c = { st with sect := st.sect.modify a.toNat (flipAt · b.toNat c.toNat) } := by
    unfold DS.rot DS.valid
    rw [if_pos]
    simp only [Bool.and_eq_true, decide_eq_true_eq]
    omega
  have e2 := all_empty hq
  have e3 : (st.rot a b c).all = st.sect.modify a.toNat (flipAt · b.toNat c.toNat) := by
    rw [all_empty (by rw [(rot_same _ _ _ _).1]; exact hq), e1]
  generalize (st.rot a b c).all = ys at h2 e3 ⊢
  generalize st.all = xs at h1 e2 ⊢
  subst e2 e3
  have e4 := List.getElem_modify (f := (flipAt · b.toNat c.toNat)) (l := st.sect) (i := a.toNat) (j := i) (h := h2)
  generalize (st.sect.modify a.toNat (flipAt · b.toNat c.toNat))[i] = y at e4 ⊢
  refine ⟨fun hi k k1 k2 hk => ?_, fun hi k k1 k2 hk => ?_, fun hi k k1 k2 => ?_⟩
  · rw [if_pos (by omega)] at e4
    subst e4
    rw [flipAt_get _ _ _ (by omega) k k1 k2, if_pos (by omega)]
    omega
  · rw [if_pos (by omega)] at e4
    subst e4
    rw [flipAt_get _ _ _ (by omega) k k1 k2, if_neg (by omega)]
  · rw [if_neg (by omega)] at e4
    exact xor_self_bytes e4 k k1 k2

set_option maxRecDepth 100000 in
set_option maxHeartbeats 4000000 in
theorem damage_walk (w : World) (raw : Int) (hr : 0 ≤ raw ∧ raw ≤ 255) (A1 : Option Addr) (cap1 : Nat) (l1 : List Act0) (hl1 : ActsArg w A1 l1) (sector : Int) (_hs : i64ok sector) (at_ : Int) (_ha : i64ok at_) (mask : Int) (_hm : i64ok mask) :
    Calls Try.prog 9 #[.int .u8 raw, .slice A1 l1.length cap1, .int .i64 sector, .int .i64 at_, .int .i64 mask] w fun e w' => e = .returned (.bool true) ∧ Below w.heap.size w w' := by
  obtain ⟨r0, r1⟩ := hr
  have HA1 := Lib.hid hl1
  clear hl1
  go_enter Try.func9, Try.ntmps9
  go_wp2_with fail
  refine (head_calls w).mono ?_
  rintro e w1 ⟨rfl, hb1⟩
  have HB1 := Lib.hid hb1
  have G1 := Lib.hid (HA1.out.later hb1)
  clear hb1
  go_wp2_with fail
  refine (ok_calls w1 A1 cap1 l1 G1.out.at_ G1.out.len fun x hx => (G1.out.each x hx).t).mono ?_
  rintro e w1' ⟨rfl, hw⟩
  subst hw
  by_cases ho1 : okB l1 = true
  · rw [ho1]
    have HO1 := Lib.hid ho1
    clear ho1
    go_wp2_with fail
    refine (size_calls w1 raw r0 r1).mono ?_
    rintro e w1' ⟨rfl, hw⟩
    subst hw
    have hn := sizeN_le raw r0
    generalize sizeN raw = n at hn ⊢
    obtain ⟨n1, n2⟩ := hn
    go_wp2_with fail
    refine (new_ok w1 n n1 (by omega)).mono ?_
    rintro e w2 hf
    obtain ⟨p, F, rfl, m⟩ := Mine.fresh HB1.out HB1.out.size hf
    clear hf
    have M := Lib.hid m
    clear m
    go_wp2_with fail
    go_loopw [14] (fun i wr => ∃ (k : Nat) (F' : Nat → Prop), k ≤ l1.length ∧ i = .int .i64 k ∧ Mine w.heap.size w wr F' p ((DS.new n).acts (l1.take k)) ∧ ((DS.new n).acts (l1.take k)).queue.length ≤ k) (fun i _ => l1.length - (intOf i).toNat)
    case atStart => exact ⟨0, F, Nat.zero_le _, rfl, M.out, Nat.le_refl _⟩
    case round =>
      obtain ⟨k, F1, hk, rfl, hm, hq⟩ := hrel
      have HM := Lib.hid hm
      clear hm
      have h60 := (okB_true HO1.out).1
      by_cases hlt : k < l1.length
      · have harg := HA1.out.below HM.out.be HA1.out.lt
        obtain ⟨bb, off, hA, _, hc⟩ := harg.at_ (by omega)
        subst hA
        obtain ⟨x0, x1, x2, x3, x4, x5⟩ := ActsAt.six hc k hlt
        have hOk := Lib.hid (harg.ok HO1.out l1[k] (List.getElem_mem hlt))
        have HQ := Lib.hid (DS.act_qlen ((DS.new n).acts (l1.take k)) l1[k])
        clear hc harg
        go_wp2_with fail
        refine (do_calls HM.out.d (by omega) l1[k] hOk.out).mono ?_
        rintro e w3 ht
        obtain ⟨rfl, F2, m2⟩ := HM.out.turn ht
        have M2 := Lib.hid m2
        clear ht m2
        go_wp2_with fail
        go_roundw
        case rel => exact ⟨k + 1, F2, by omega, by go_num, by rw [DS.acts_snoc _ _ _ hlt]; exact M2.out, by rw [DS.acts_snoc _ _ _ hlt]; have := HQ.out; omega⟩
        case measure => simp [intOf]; omega
      · obtain rfl : k = l1.length := by omega
        rw [List.take_of_length_le (Nat.le_refl _)] at HM hq
        have hsl : ((DS.new n).acts l1).sect.length = n := by rw [DS.acts_length, DS.new_length]
        generalize (DS.new n).acts l1 = st at HM hq hsl
        have HSL := Lib.hid hsl
        clear hsl hlt
        go_wp2_with fail
        refine (start_calls HM.out.d).mono ?_
        rintro e w4 ht
        obtain ⟨rfl, F11, m11, hkp⟩ := HM.out.turns ht
        have M11 := Lib.hid m11
        clear ht m11 hkp
        go_wp2_with fail
        have hc := sync_calls M11.out.d (by show st.queue.length ≤ _; omega)
        rw [sync_started] at hc
        refine hc.mono ?_
        clear hc
        rintro e w5 ht
        obtain ⟨rfl, F12, m12, hkp⟩ := M11.out.turns ht
        have M12 := Lib.hid m12
        clear ht m12 hkp
        have hsl2 : n = st.start.syncNow.sect.length := by show _ = (settle _ _).length; rw [settle_length]; exact HSL.out.symm
        have hq2 : st.start.syncNow.queue = [] := rfl
        have hoff : st.start.syncNow.off = false := rfl
        generalize st.start.syncNow = st2 at M12 hsl2 hq2 hoff
        have HOFF := Lib.hid hoff
        have HS2 := Lib.hid hsl2
        have HQ2 := Lib.hid hq2
        have HR1 := Lib.hid (rot_same st2 sector at_ mask)
        have HR2 := Lib.hid (rot_same (st2.rot sector at_ mask) sector at_ mask)
        have HS3 : Hid (n = (st2.rot sector at_ mask).sect.length) := by show _ = _; rw [DS.rot_length]; exact HS2.out
        have HS4 : Hid (n = ((st2.rot sector at_ mask).rot sector at_ mask).sect.length) := by show _ = _; rw [DS.rot_length, DS.rot_length]; exact HS2.out
        clear hoff hsl2 hq2
        go_wp2_with fail
        refine (contents_calls M12.out.d (by rw [HQ2.out]; simp) HOFF.out n HS2.out).mono ?_
        rintro e w6 ht
        obtain ⟨v1, rfl, hv1, m13, hkp⟩ := M12.out.conts ht
        obtain ⟨A1, c1, hve⟩ := hv1.form
        have L1 : Hid ((st2).all.length = n) := by show _ = _; rw [DS.all_length]; exact (HS2.out).symm
        rw [L1.out] at hve
        subst hve
        have M13 := Lib.hid m13
        have C1 := Lib.hid hv1
        clear ht m13 hkp hv1
        go_wp2_with fail
        refine (rot_calls M13.out.d sector at_ mask).mono ?_
        rintro e w7 ht
        obtain ⟨rfl, F14, m14, hkp⟩ := M13.out.turns ht
        have M14 := Lib.hid m14
        have C1' := Lib.hid (C1.out.keep hkp)
        clear C1
        have C1 := C1'
        clear C1'
        clear ht m14 hkp
        go_wp2_with fail
        refine (contents_calls M14.out.d (by rw [HR1.out.1, HQ2.out]; simp) (by rw [HR1.out.2]; exact HOFF.out) n HS3.out).mono ?_
        rintro e w8 ht
        obtain ⟨v2, rfl, hv2, m15, hkp⟩ := M14.out.conts ht
        have C1' := Lib.hid (C1.out.keep hkp)
        clear C1
        have C1 := C1'
        clear C1'
        obtain ⟨A2, c2, hve⟩ := hv2.form
        have L2 : Hid ((st2.rot sector at_ mask).all.length = n) := by show _ = _; rw [DS.all_length]; exact (HS3.out).symm
        rw [L2.out] at hve
        subst hve
        have M15 := Lib.hid m15
        have C2 := Lib.hid hv2
        clear ht m15 hkp hv2
        go_wp2_with fail
        refine (rot_calls M15.out.d sector at_ mask).mono ?_
        rintro e w9 ht
        obtain ⟨rfl, F16, m16, hkp⟩ := M15.out.turns ht
        have M16 := Lib.hid m16
        have C1' := Lib.hid (C1.out.keep hkp)
        clear C1
        have C1 := C1'
        clear C1'
        have C2' := Lib.hid (C2.out.keep hkp)
        clear C2
        have C2 := C2'
        clear C2'
        clear ht m16 hkp
        go_wp2_with fail
        refine (contents_calls M16.out.d (by rw [HR2.out.1, HR1.out.1, HQ2.out]; simp) (by rw [HR2.out.2, HR1.out.2]; exact HOFF.out) n HS4.out).mono ?_
        rintro e w10 ht
        obtain ⟨v3, rfl, hv3, m17, hkp⟩ := M16.out.conts ht
        have C1' := Lib.hid (C1.out.keep hkp)
        clear C1
        have C1 := C1'
        clear C1'
        have C2' := Lib.hid (C2.out.keep hkp)
        clear C2
        have C2 := C2'
        clear C2'
        obtain ⟨A3, c3, hve⟩ := hv3.form
        have L3 : Hid (((st2.rot sector at_ mask).rot sector at_ mask).all.length = n) := by show _ = _; rw [DS.all_length]; exact (HS4.out).symm
        rw [L3.out] at hve
        subst hve
        have M17 := Lib.hid m17
        have C3 := Lib.hid hv3
        clear ht m17 hkp hv3
        go_wp2_with fail
        refine (same_calls _ _ _ st2.all _ C1.out.at_ C3.out.at_ (by rw [L1.out]; omega) (by rw [L3.out]; omega)).mono ?_
        rintro e w11 ⟨rfl, hb⟩
        rw [rot_twice st2 HQ2.out sector at_ mask]
        have hkp := Keep.below (F := F) hb
        have M9 := Lib.hid (M17.out.be.trans (hb.mono M17.out.sz))
        have hkp2 := hb
        have D1 := Lib.hid (C1.out.at_.below hkp2)
        have D2 := Lib.hid (C2.out.at_.below hkp2)
        have H64 := Lib.hid (DS.all_64 M17.out.d.wf)
        clear hb hkp hkp2
        have hV : (0 ≤ sector ∧ sector < n ∧ 0 ≤ at_ ∧ at_ < 64 ∧ 1 ≤ mask ∧ mask ≤ 255) ∨ ¬ (0 ≤ sector ∧ sector < n ∧ 0 ≤ at_ ∧ at_ < 64 ∧ 1 ≤ mask ∧ mask ≤ 255) := Classical.em _
        have hW64 : Hid (∀ x ∈ st2.all, x.size = 64) := by
          show ∀ x ∈ _, _
          have := H64.out
          rw [← of_decide_eq_true (rot_twice st2 HQ2.out sector at_ mask)] at this
          exact this
        have hN64 : Hid (∀ x ∈ (st2.rot sector at_ mask).all, x.size = 64) := by
          show ∀ x ∈ _, _
          exact rot_64 st2 HQ2.out sector at_ mask hW64.out
        rcases hV with ⟨v1, v2, v3, v4, v5, v6⟩ | hV
        · have HX := Lib.hid (rot_valid st2 HQ2.out sector at_ mask v1 (by rw [← HS2.out]; exact v2) v3 v4 v5 v6)
          go_wp2_with fail
          go_loopw [22] (fun i wr' => ∃ i' m : Nat, i' ≤ n ∧ i = .int .i64 i' ∧ wr' = w11.drewN m) (fun i _ => n - (intOf i).toNat)
          case atStart => exact ⟨0, 0, Nat.zero_le _, rfl, rfl⟩
          case round =>
            obtain ⟨i, m, hi, rfl, rfl⟩ := hrel
            by_cases hlt : i < n
            · obtain ⟨wo, hwo⟩ : ∃ wo : World, wo = w11.drewN m := ⟨_, rfl⟩
              rw [← hwo]
              have HWO := Lib.hid hwo
              clear hwo
              go_wp2_with fail
              go_loopw [23] (fun j wr' => ∃ k m' : Nat, k ≤ 64 ∧ j = .int .i64 k ∧ wr' = w11.drewN m') (fun j _ => 64 - (intOf j).toNat)
              case atStart => exact ⟨0, m, Nat.zero_le _, rfl, HWO.out⟩
              case round =>
                obtain ⟨k, m', hk, rfl, rfl⟩ := hrel
                by_cases hlk : k < 64
                · obtain ⟨b1, hb1, z1⟩ := strs_cell D1.out i (by rw [L1.out]; exact hlt)
                  obtain ⟨b2, hb2, z2⟩ := strs_cell D2.out i (by rw [L2.out]; exact hlt)
                  subst hb1 hb2
                  have hx64 := hW64.out _ (List.getElem_mem (show i < st2.all.length by rw [L1.out]; exact hlt))
                  have hy64 := hN64.out _ (List.getElem_mem (show i < (st2.rot sector at_ mask).all.length by rw [L2.out]; exact hlt))
                  have hxy := HX.out i (by rw [L1.out]; exact hlt) (by rw [L2.out]; exact hlt)
                  generalize st2.all[i]'(by rw [L1.out]; exact hlt) = x at z1 hx64 hxy
                  generalize (st2.rot sector at_ mask).all[i]'(by rw [L2.out]; exact hlt) = y at z2 hy64 hxy
                  have k1 : k < x.size := by omega
                  have k2 : k < y.size := by omega
                  have HXY := Lib.hid hxy
                  have X64 := Lib.hid hx64
                  clear hxy hx64 hy64
                  by_cases hs : (i : Int) = sector
                  · have s1 : ((i : Int) == sector) = true := by simp [hs]
                    by_cases ha : (k : Int) = at_
                    · have s2 : ((k : Int) == at_) = true := by simp [ha]
                      have hbx : bits .xor .u8 (x[k].toNat : Int) (y[k].toNat : Int) = mask := by rw [xor_bytes]; exact HXY.out.1 hs k k1 k2 ha
                      clear hs ha
                      go_wp2_with fail
                      go_quiet (fail)
                      go_wp2_with fail
                      go_roundw
                      case rel => exact ⟨k + 1, m' + nq, by omega, by go_num, rfl⟩
                      case measure => simp [intOf]; omega
                    · have s2 : ((k : Int) == at_) = false := by simp [ha]
                      have hbx : bits .xor .u8 (x[k].toNat : Int) (y[k].toNat : Int) = 0 := by rw [xor_bytes]; exact HXY.out.2.1 hs k k1 k2 ha
                      clear hs ha
                      go_wp2_with fail
                      go_quiet (fail)
                      go_wp2_with fail
                      go_roundw
                      case rel => exact ⟨k + 1, m' + nq, by omega, by go_num, rfl⟩
                      case measure => simp [intOf]; omega
                  · have s1 : ((i : Int) == sector) = false := by simp [hs]
                    have hbx : bits .xor .u8 (x[k].toNat : Int) (y[k].toNat : Int) = 0 := by rw [xor_bytes]; exact HXY.out.2.2 hs k k1 k2
                    clear hs
                    go_wp2_with fail
                    go_quiet (fail)
                    go_wp2_with fail
                    go_roundw
                    case rel => exact ⟨k + 1, m' + nq, by omega, by go_num, rfl⟩
                    case measure => simp [intOf]; omega
                · obtain rfl : k = 64 := by omega
                  go_wp2_with fail
                  go_roundw
                  case rel => exact ⟨i + 1, m', by omega, by go_num, rfl⟩
                  case measure => simp [intOf]; omega
            · go_wp2_with fail
              go_ret
              exact ⟨rfl, pw_below_drewN M9.out _⟩
        · have HX := Lib.hid (rot_invalid st2 n HS2.out sector at_ mask hV)
          have key : sector < 0 ∨ (0 ≤ sector ∧ (n : Int) ≤ sector) ∨ (0 ≤ sector ∧ sector < n ∧ at_ < 0) ∨ (0 ≤ sector ∧ sector < n ∧ 0 ≤ at_ ∧ 64 ≤ at_) ∨ (0 ≤ sector ∧ sector < n ∧ 0 ≤ at_ ∧ at_ < 64 ∧ mask < 1) ∨ (0 ≤ sector ∧ sector < n ∧ 0 ≤ at_ ∧ at_ < 64 ∧ 1 ≤ mask ∧ 255 < mask) := by omega
          clear hV
          rcases key with q1 | ⟨q1, q2⟩ | ⟨q1, q2, q3⟩ | ⟨q1, q2, q3, q4⟩ | ⟨q1, q2, q3, q4, q5⟩ | ⟨q1, q2, q3, q4, q5, q6⟩
          rotate_left 5
          have q7 : decide (mask ≤ 255) = false := by simp; omega
          rotate_left
          all_goals
            go_wp2_with fail
            go_loopw [22] (fun i wr' => ∃ i' m : Nat, i' ≤ n ∧ i = .int .i64 i' ∧ wr' = w11.drewN m) (fun i _ => n - (intOf i).toNat)
            case atStart => exact ⟨0, 0, Nat.zero_le _, rfl, rfl⟩
            case round =>
              obtain ⟨i, m, hi, rfl, rfl⟩ := hrel
              by_cases hlt : i < n
              · obtain ⟨wo, hwo⟩ : ∃ wo : World, wo = w11.drewN m := ⟨_, rfl⟩
                rw [← hwo]
                have HWO := Lib.hid hwo
                clear hwo
                go_wp2_with fail
                go_loopw [23] (fun j wr' => ∃ k m' : Nat, k ≤ 64 ∧ j = .int .i64 k ∧ wr' = w11.drewN m') (fun j _ => 64 - (intOf j).toNat)
                case atStart => exact ⟨0, m, Nat.zero_le _, rfl, HWO.out⟩
                case round =>
                  obtain ⟨k, m', hk, rfl, rfl⟩ := hrel
                  by_cases hlk : k < 64
                  · obtain ⟨b1, hb1, z1⟩ := strs_cell D1.out i (by rw [L1.out]; exact hlt)
                    obtain ⟨b2, hb2, z2⟩ := strs_cell D2.out i (by rw [L2.out]; exact hlt)
                    subst hb1 hb2
                    have hx64 := hW64.out _ (List.getElem_mem (show i < st2.all.length by rw [L1.out]; exact hlt))
                    have hy64 := hN64.out _ (List.getElem_mem (show i < (st2.rot sector at_ mask).all.length by rw [L2.out]; exact hlt))
                    have hxy : (st2.rot sector at_ mask).all[i]'(by rw [L2.out]; exact hlt) = st2.all[i]'(by rw [L1.out]; exact hlt) := by simp only [HX.out]
                    generalize st2.all[i]'(by rw [L1.out]; exact hlt) = x at z1 hx64 hxy
                    generalize (st2.rot sector at_ mask).all[i]'(by rw [L2.out]; exact hlt) = y at z2 hy64 hxy
                    have k1 : k < x.size := by omega
                    have k2 : k < y.size := by omega
                    have HXY := Lib.hid hxy
                    have X64 := Lib.hid hx64
                    clear hxy hx64 hy64
                    have hbx : bits .xor .u8 (x[k].toNat : Int) (y[k].toNat : Int) = 0 := by rw [xor_bytes]; exact xor_self_bytes HXY.out k k1 k2
                    go_wp2_with fail
                    go_quiet (fail)
                    go_wp2_with fail
                    go_roundw
                    case rel => exact ⟨k + 1, m' + nq, by omega, by go_num, rfl⟩
                    case measure => simp [intOf]; omega
                  · obtain rfl : k = 64 := by omega
                    go_wp2_with fail
                    go_roundw
                    case rel => exact ⟨i + 1, m', by omega, by go_num, rfl⟩
                    case measure => simp [intOf]; omega
              · go_wp2_with fail
                go_ret
                exact ⟨rfl, pw_below_drewN M9.out _⟩
  · have ho1' : okB l1 = false := by simpa using ho1
    rw [ho1']
    clear ho1 ho1'
    go_wp2_with fail
    go_ret
    exact ⟨rfl, HB1.out⟩
end Go.Proofs.Ytbjomjlchafkfaa
