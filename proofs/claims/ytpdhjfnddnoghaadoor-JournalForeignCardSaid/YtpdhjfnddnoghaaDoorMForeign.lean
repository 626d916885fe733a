/- The law JournalForeign: the walk.
   Conditions: the argument lies in memory; the library's tables and sentinels are laid. -/
import Derived.Test.YtpdhjfnddnoghaaDoorJI2
namespace Go.Proofs.YtpdhjfnddnoghaaDoor
open Go.RowKit Go.Lib
set_option linter.unusedVariables false
set_option linter.unusedSimpArgs false

structure TextsArg (B : Nat) (w : World) (v : Value) (l : List ByteArray) : Prop where
  txt : TextsIn B w v l
  len : l.length ≤ 9223372036854775807
  each : ∀ x ∈ l, x.size ≤ 140737488355328
set_option maxRecDepth 100000 in
theorem refzeros_calls (w : World) : Calls Tryd.prog 47 #[.int .i64 64] w fun e w' => e = .returned (.string zeroB) ∧ Below w.heap.size w w' := by
  have hmk := fun W => Go.run_make_row' (P := Tryd.prog) 51 5 (.int .u8 0) 1 Tryd.underlying51 Tryd.infoU8 rfl .i64 .i64 64 (by omega) (by omega) W
  have hrow : (w.alloc (.cells (madeCells #[Value.int .u8 0] 64) 5)).heap[w.heap.size]? = some (.cells (byteVals (List.replicate 64 0)).toArray 5 (0, 0)) := by
    rw [heap_alloc_new]
    congr 2
    apply Array.ext'
    rw [toList_madeCells_one]
    simp [byteVals]
  have hcv := conv_row hrow 64 64 (by simp)
  rw [show ((64 : Nat) : Int) = 64 from rfl] at hmk
  have HS : Hid (bytesB (List.replicate 64 (0 : UInt8)) = zeroB) := rfl
  generalize bytesB (List.replicate 64 (0 : UInt8)) = s at hcv HS
  clear hrow
  go_enter Tryd.func47, Tryd.ntmps47
  go_wp2_with fail
  go_ret
  rw [← HS.out]
  exact ⟨rfl, (Below.refl _ _).alloc (Nat.le_refl _) _⟩
set_option maxRecDepth 100000 in
theorem refzero_calls (w : World) : Calls Tryd.prog 20 #[] w fun e w' => e = .returned (.string zeroB) ∧ Below w.heap.size w w' := by
  have hz := refzeros_calls w
  generalize zeroB = zb at hz ⊢
  go_enter Tryd.func20, Tryd.ntmps20
  go_wp2_with fail
  refine hz.mono ?_
  clear hz
  rintro e w1 ⟨rfl, hb⟩
  have HB := Lib.hid hb
  clear hb
  go_wp2_with fail
  go_ret
  exact ⟨rfl, HB.out⟩
def bX : ByteArray := ⟨#[120]⟩
theorem small_x : Small [bX] := ⟨by simp, fun x hx => by rw [List.mem_singleton.1 hx]; show (1 : Nat) ≤ 1000000; omega⟩
theorem len_x : (textL [bX]).length ≤ 1000000 := by
  rw [textL_one bX (by decide), show bX.size = 1 from rfl, decDigits_one (by omega)]
  simp
theorem inv_recs {s : List ByteArray} {c : Nat} {recs : List ByteArray} (h : Inv s c recs) (h64 : ∀ x ∈ s, x.size = 64) : recs.length ≤ 46 * c := by
  obtain ⟨L, h1, h2⟩ := h.fnd.ex
  have h3 := foundB_len ((s.drop 2).take c) (fun x hx => h64 x (List.mem_of_mem_drop (List.mem_of_mem_take hx))) 2 L h1
  have h4 := parseJ_len _ _ _ (Nat.le_refl _) h2
  rw [bytesB_size] at h4
  rw [List.length_take, List.length_drop] at h3
  have h5 : min c (s.length - 2) ≤ c := Nat.min_le_left _ _
  have h6 : 46 * min c (s.length - 2) ≤ 46 * c := Nat.mul_le_mul_left _ h5
  omega
/-- the contents are being laid -/
structure WS (B : Nat) (w0 : World) (n k d : Nat) (F : Nat → Prop) (st : DS) (wr : World) : Prop where
  own : Own B w0 wr F d st
  rd : Ready st
  ar : st.armed = none
  len : st.sect.length = n
  q : st.queue.length = k
theorem zero_size : zeroB.size = 64 := zeroB_size
set_option maxRecDepth 100000 in
set_option maxHeartbeats 8000000 in
theorem foreign_walk (W : World) (hl : LaidJ W) (v : Value) (l : List ByteArray) (harg : TextsArg W.heap.size W v l) :
    Calls Tryd.prog 6 #[v] W fun e w' => e = .returned (.bool true) ∧ Below W.heap.size W w' := by
  have HL := Lib.hid hl
  have hh := head_calls W fun X hX => hl.below hX
  have hlen := harg.len
  obtain ⟨A, cap, hve, hA⟩ := harg.txt
  subst hve
  have HA := Lib.hid hA
  have HE := Lib.hid harg.each
  clear hl harg hA
  go_enter Tryd.func6, Tryd.ntmps6
  go_wp2_with fail
  refine hh.mono ?_
  clear hh
  rintro e w1 ⟨rfl, hb1⟩
  have HB1 := Lib.hid hb1
  clear hb1
  by_cases h3 : l.length < 3
  · have h3b : (l.length : Int) < 3 := by omega
    go_wp2_with fail
    go_ret
    exact ⟨rfl, HB1.out⟩
  have h3b : decide ((l.length : Int) < 3) = false := decide_eq_false (by omega)
  by_cases h40 : 40 < l.length
  · have h40b : (40 : Int) < (l.length : Int) := by omega
    go_wp2_with fail
    go_ret
    exact ⟨rfl, HB1.out⟩
  have h40b : decide ((40 : Int) < (l.length : Int)) = false := decide_eq_false (by omega)
  have hnew := new_ok w1 l.length (by omega) (by omega)
  obtain ⟨n, hn⟩ : ∃ n, l.length = n := ⟨_, rfl⟩
  have HN := Lib.hid hn
  simp only [hn] at *
  clear hn
  have HLU : Hid (∀ X, Below w1.heap.size w1 X → LaidJ X) := by
    show ∀ X, _
    intro X hX
    exact (HL.out.below HB1.out).below hX
  go_wp2_with fail
  refine hnew.mono ?_
  clear hnew
  rintro e w2 ⟨d, F, rfl, hd, hb, hF⟩
  have H0 : Hid (WS w1.heap.size w1 n 0 d F (DS.new n) w2) := ⟨⟨hd, hF, hb, hb.size⟩, ⟨DS.WF.new n (by omega) (by omega), rfl, .inl rfl⟩, rfl, by simp [DS.new], rfl⟩
  clear hd hb hF
  go_wp2_with fail
  go_loopw [5] (fun iv wr => ∃ (k : Nat) (F : Nat → Prop) (st : DS), k ≤ n ∧ iv = .int .i64 k ∧ WS w1.heap.size w1 n k d F st wr) (fun iv _ => n - (Go.RowKit.intOf iv).toNat)
  case atStart => exact ⟨0, F, DS.new n, Nat.zero_le _, rfl, H0.out⟩
  case round =>
    obtain ⟨k, F1, st, hk, rfl, hws⟩ := hrel
    have HWS := Lib.hid hws
    have hBW : Below W.heap.size W wr := HB1.out.trans (hws.own.be.mono HB1.out.size)
    clear hws H0
    by_cases hlt : k < n
    · have hltl : k < l.length := by have := HN.out; omega
      obtain ⟨b, off, hAe, hbl, hc⟩ := HA.out (by omega)
      subst hAe
      have x0 := (hBW.cell (p := ⟨b, off + k, none⟩) hbl).trans (hc k hlt)
      have hbl2 : b < wr.heap.size := Nat.lt_of_lt_of_le hbl hBW.size
      obtain ⟨x, hx⟩ : ∃ x, l[k] = x := ⟨_, rfl⟩
      have hxs := HE.out _ (List.getElem_mem hltl)
      rw [hx] at x0 hxs
      have hlt2 : (k : Int) < (n : Int) := by omega
      clear hc hx
      by_cases h100 : 100 < x.size
      · have h100b : (100 : Int) < (x.size : Int) := by omega
        have HBW := Lib.hid hBW
        clear hBW
        go_wp2_with fail
        go_ret
        exact ⟨rfl, HBW.out⟩
      have h100b : decide ((100 : Int) < (x.size : Int)) = false := decide_eq_false (by omega)
      have hz := refzero_calls wr.drew
      have hzs := zero_size
      have HT : Hid (((x ++ zeroB).extract 0 64).size = 64) := by
        show _ = _
        rw [ByteArray.size_extract, ByteArray.size_append]
        omega
      have hsum : ¬ (9223372036854775807 < x.size + zeroB.size) := by omega
      have hsz64 : (64 : Int) ≤ ((x ++ zeroB).size : Int) := by rw [ByteArray.size_append]; omega
      clear hzs
      generalize zeroB = zb at hz HT hsz64 hsum
      have HBW := Lib.hid hBW
      have k0 : (0 : Int) ≤ (k : Int) := by omega
      clear hBW
      go_wp2_with fail
      go_region_held3 (fun Z => Z.cell? ⟨b, off + k, none⟩ = some (.string x))
        (first | exact na0 | exact x0)
        (first | (go_at_call 20; (with_reducible refine hz.mono ?_); rintro e wa ⟨rfl, hb⟩; have na0 := (hb.cell (p := ⟨b, off + k, none⟩) hbl2).trans x0; have HZ : Hid (Below wr.heap.size wr wa) := (show Below wr.heap.size wr wr.drew from ⟨rfl, rfl, rfl, Nat.le_refl _, fun _ _ => rfl⟩).trans hb; clear hb))
      all_goals
        have hO2 := HWS.out.own.below HZ.out
        have hwr := write_calls hO2.dk (by rw [HWS.out.q]; omega) (k : Int) ((x ++ zb).extract 0 64)
        obtain ⟨hc0, hr2, ha2, hl2, hq2⟩ := write_ready HWS.out.rd HWS.out.ar (p := k) (by rw [HWS.out.len]; exact hlt) HT.out
        rw [hc0] at hwr
        obtain ⟨s2, hs2⟩ : ∃ s2, (st.write (k : Int) ((x ++ zb).extract 0 64)).1 = s2 := ⟨_, rfl⟩
        rw [hs2] at hwr hr2 ha2 hl2 hq2
        have HO2 := Lib.hid hO2
        have HR2 := Lib.hid hr2
        have HX2 : Hid (s2.armed = none ∧ s2.sect.length = n ∧ s2.queue.length = k + 1) := ⟨ha2, hl2.trans HWS.out.len, by rw [hq2, HWS.out.q]⟩
        clear hO2 hr2 ha2 hl2 hq2 hs2 hc0 hz
        go_wp2_with fail
        refine hwr.mono ?_
        clear hwr
        rintro e w4 ht
        obtain ⟨rfl, F4, hd4, hk4⟩ := Kept.turns ht
        have HN4 : Hid (WS w1.heap.size w1 n (k + 1) d F4 s2 w4) := ⟨HO2.out.kept hk4 hd4, HR2.out, HX2.out.1, HX2.out.2.1, HX2.out.2.2⟩
        clear ht hd4 hk4
        go_wp2_with fail
        go_roundw
        case rel => exact ⟨k + 1, F4, s2, by omega, by go_num, HN4.out⟩
        case measure => simp [Go.RowKit.intOf]; omega
    · have hke : k = n := by omega
      have hlen3 : st.all.length = n := by rw [DS.all_len]; exact HWS.out.len
      have hfo := foreign_open HWS.out.rd HWS.out.ar (by omega)
      rw [hlen3] at hfo
      have HFO := Lib.hid hfo
      have ho := open_calls (HWS.out.own.laid HLU.out) HWS.out.own.dk (by rw [HWS.out.q]; omega)
      clear hfo hlen3 hBW
      go_wp2_with fail
      refine ho.mono ?_
      clear ho
      rintro e w3 hoo
      obtain ⟨F3, hk3, hOw3, hc3⟩ := HWS.out.own.open hoo
      rcases HFO.out with h9 | ⟨st3, c, recs, h9, hrd3, har3, hinv3, hlen3⟩
      · rw [h9] at hc3 hOw3
        rcases hc3 with ⟨_, rfl⟩ | ⟨js, jj, GG, vv, h8, _⟩
        rotate_left
        · cases h8
        have HBE := Lib.hid (HB1.out.trans (hOw3.be.mono HB1.out.size))
        clear hoo hk3 hOw3 h9
        go_wp2_with fail
        go_ret
        exact ⟨rfl, HBE.out⟩
      rw [h9] at hc3 hOw3
      rcases hc3 with ⟨h8, _⟩ | ⟨js, j, G, lv, h8, rfl, hja, hgf, hgn, _, hlt3⟩
      · cases h8
      injection h8 with h8
      subst h8
      have hcb : c + 2 ≤ n := by have := hinv3.fnd.le; omega
      have hrl := inv_recs hinv3 hrd3.all64
      have HOW3 := Lib.hid hOw3
      have HJ3 : Hid (JAt w3 G j d ⟨n, c, recs, false⟩ ∧ ∀ k, G k → ¬ F3 k) := ⟨hja, hgf⟩
      have HGB3 : Hid (∀ k, G k → w1.heap.size ≤ k) := by show ∀ k, _; intro k hk1; exact Nat.le_trans HWS.out.own.sz (hgn k hk1)
      have HU3 := Lib.hid hlt3
      have HRD := Lib.hid hrd3
      have HAR := Lib.hid har3
      have HINV := Lib.hid hinv3
      have HLEN := Lib.hid hlen3
      obtain ⟨LA, lcap, hlv, _⟩ := id hlt3
      subst hlv
      have hq3 : st3.queue.length ≤ 90 := by
        have := hq_open h9
        rw [HWS.out.q] at this
        omega
      clear hoo hk3 hOw3 h9 hja hgf hgn hlt3 hrd3 har3 hinv3 hlen3
      obtain ⟨rm, hrm⟩ : ∃ rm : Int, (n : Int) - 2 - (c : Int) = rm := ⟨_, rfl⟩
      have hx := room_calls HJ3.out.1 (by show n ≤ _; omega) (by show c ≤ _; omega)
      rw [show (JSt.mk n c recs false).room = (n : Int) - 2 - (c : Int) from rfl, hrm] at hx
      go_wp2_with fail
      refine hx.mono ?_
      clear hx
      rintro e w4 ⟨rfl, hb⟩
      have HOW4 := Lib.hid (HOW3.out.below hb)
      have HJ4 := Lib.hid (HJ3.out.1.kept (Kept.below hb) HJ3.out.2)
      have HGB4 := HGB3
      have HU4 := Lib.hid (HU3.out.kept ((Kept.below hb)).union)
      clear HOW3 HJ3 HGB3 HU3
      clear hb
      have hfa := foreign_append HRD.out HAR.out HINV.out bX rfl
      rw [HLEN.out] at hfa
      have HFA := Lib.hid hfa
      clear hfa
      rcases HFA.out with ⟨hfull, hE⟩ | ⟨hfull, st5, hE, hrd5, hinv5, hlen5⟩
      · have hrb : decide (0 < rm) = false := decide_eq_false (by omega)
        have HE1 := Lib.hid hE
        have hq3' := hq3
        clear hE hrm hfull
        have hba : Below w4.heap.size w4 (w4.alloc (.cells #[.string bX] 9)) := (Below.refl _ _).alloc (Nat.le_refl _) _
        have hOa := HOW4.out.below hba
        have hJa := HJ4.out.1.below hba
        have ha := append_calls (hOa.laid HLU.out) hOa.dk hJa HJ4.out.2 _ [bX] (textsOut_alloc w4 [bX] _ fun k hk => hk.elim (HOW4.out.lt k) (HJ4.out.1.lt k)) small_x (.inl len_x) (by show n ≤ 1000; omega) (by show c + 2 ≤ n; omega) (by show st3.queue.length ≤ _; omega) (by show recs.length ≤ 100000; omega)
        rw [HE1.out] at ha
        have HBA := Lib.hid hba
        have HOA := Lib.hid hOa
        have HJA := Lib.hid hJa
        clear hba hOa hJa
        go_wp2_with fail
        refine ha.mono ?_
        clear ha
        rintro e w5 hao
        obtain ⟨rfl, F5, G5, hOw, hj, hgf, hgb, hk⟩ := HOA.out.app2 HJA.out HGB4.out hao
        have HOW5 := Lib.hid hOw
        have HJ5 : Hid (JAt w5 G5 j d ⟨n, c, recs, false⟩ ∧ ∀ k, G5 k → ¬ F5 k) := ⟨hj, hgf⟩
        have HGB5 := Lib.hid hgb
        have HU5 := Lib.hid ((HU4.out.kept (Kept.below HBA.out)).kept hk)
        clear hao hOw hj hgf hgb hk HBA HOA HJA HOW4 HJ4 HU4 HGB4
        have HW5 : Hid (TextsOut w5 F5 (.slice LA recs.length lcap) recs) := HU5.out.weak fun k hk => .inl hk
        have hoi := open_inv HRD.out HINV.out
        rw [HLEN.out] at hoi
        have HOI := Lib.hid hoi
        clear hoi
        have ho := open_calls (HOW5.out.laid HLU.out) HOW5.out.dk (by show st3.queue.length ≤ _; omega)
        go_wp2_with fail
        refine ho.mono ?_
        clear ho
        rintro e w6 hoo
        obtain ⟨F6, hk, hOw, hc⟩ := HOW5.out.open hoo
        rw [HOI.out] at hc hOw
        rcases hc with ⟨h9, _⟩ | ⟨js, Kp, GK, Mv, h9, rfl, hja, hgf, hgn, hmt, _⟩
        · cases h9
        injection h9 with h9
        subst h9
        have HOW6 := Lib.hid hOw
        have HW6 := Lib.hid (HW5.out.kept hk)
        have HK6 : Hid (JAt w6 GK Kp d ⟨n, c, recs, false⟩ ∧ ∀ k, GK k → ¬ F6 k) := ⟨hja, hgf⟩
        have HM6 := Lib.hid hmt
        clear hoo hk hOw hja hgf hgn hmt
        clear HOW5 HW5
        obtain ⟨MA, mcap, hmv, _⟩ := id HM6.out
        subst hmv
        have hx := rsame_calls w6 _ _ recs recs HW6.out.at_ HM6.out.at_ (by omega) (by omega)
        rw [decide_eq_true (rfl : recs = recs)] at hx
        go_wp2_with fail
        refine hx.mono ?_
        clear hx
        rintro e w7 ⟨rfl, hb⟩
        have HOW7 := Lib.hid (HOW6.out.below hb)
        clear HOW6
        clear hb
        go_wp2_with fail
        go_ret
        exact ⟨rfl, HB1.out.trans (HOW7.out.be.mono HB1.out.size)⟩
      · have hrb : decide (0 < rm) = true := decide_eq_true (by omega)
        have HE1 := Lib.hid hE
        have HRD5 := Lib.hid hrd5
        have HINV5 := Lib.hid hinv5
        have HLEN5 := Lib.hid hlen5
        have hrl5 : recs.length ≤ 2000 := by omega
        have hq5 : st5.queue.length ≤ 100 := by
          have h := appendM_q st3 ⟨n, c, recs, false⟩ [bX]
          rw [hE] at h
          simp only [one_piece bX rfl] at h
          omega
        clear hE hrm hfull hrd5 hinv5 hlen5
        have hba : Below w4.heap.size w4 (w4.alloc (.cells #[.string bX] 9)) := (Below.refl _ _).alloc (Nat.le_refl _) _
        have hOa := HOW4.out.below hba
        have hJa := HJ4.out.1.below hba
        have ha := append_calls (hOa.laid HLU.out) hOa.dk hJa HJ4.out.2 _ [bX] (textsOut_alloc w4 [bX] _ fun k hk => hk.elim (HOW4.out.lt k) (HJ4.out.1.lt k)) small_x (.inl len_x) (by show n ≤ 1000; omega) (by show c + 2 ≤ n; omega) (by show st3.queue.length ≤ _; omega) (by show recs.length ≤ 100000; omega)
        rw [HE1.out] at ha
        have HBA := Lib.hid hba
        have HOA := Lib.hid hOa
        have HJA := Lib.hid hJa
        clear hba hOa hJa
        go_wp2_with fail
        refine ha.mono ?_
        clear ha
        rintro e w5 hao
        obtain ⟨rfl, F5, G5, hOw, hj, hgf, hgb, hk⟩ := HOA.out.app2 HJA.out HGB4.out hao
        have HOW5 := Lib.hid hOw
        have HJ5 : Hid (JAt w5 G5 j d ⟨n, c + 1, recs ++ [bX], false⟩ ∧ ∀ k, G5 k → ¬ F5 k) := ⟨hj, hgf⟩
        have HGB5 := Lib.hid hgb
        have HU5 := Lib.hid ((HU4.out.kept (Kept.below HBA.out)).kept hk)
        clear hao hOw hj hgf hgb hk HBA HOA HJA HOW4 HJ4 HU4 HGB4
        have HW5 : Hid (TextsOut w5 F5 (.slice LA recs.length lcap) recs) := HU5.out.weak fun k hk => .inl hk
        have hOB := HOW5.out.be
        have hOS := HOW5.out.sz
        have hw5 := HW5.out.at_
        have H0 : Hid ((w5.alloc (.cells #[] 9)).ownsRow w5.heap.size 9 1 (.slice (some ⟨w5.heap.size, 0, none⟩) 0 0) 0 (strs [])) := World.ownsRow_made w5 #[] 0 (Nat.le_refl _) (by simp [maxLen]) rfl
        have hta : TextsAt (w5.alloc (.cells #[] 9)) (.slice LA recs.length lcap) recs := hw5.below ((Below.refl _ _).alloc (Nat.le_refl _) _)
        have HTA := Lib.hid hta
        obtain ⟨i0, hi, hz0, hzz1, hz2⟩ := info_parts Tryd.infoStr
        clear hOB hOS hw5 hta
        go_wp2_with (first
          | (at_builtin; refine wpList_append_texts rfl _ _ rfl w5.heap.size (.slice (some ⟨w5.heap.size, 0, none⟩) 0 0) 0 (strs []) rfl H0.out LA lcap recs rfl HTA.out (by simp only [maxLen]; omega) (by omega) (by simp) ?_; intro v6 w6 hown6 hg6 hat6)
          | (at_builtin; refine wpList_append_own_at _ rfl _ _ 27 rfl w5.heap.size 9 i0 _ 1 16 Tryd.underlying27 hi hz0 hzz1 hz2 rfl (by omega) v6 (0 + recs.length) (strs [] ++ strs recs) rfl (hown6.alloc _) ⟨w6.heap.size, 0, none⟩ 1 1 [.string bX] rfl rfl (cell_one_new _ _ _) (by intro u hu; simp at hu; subst hu; rfl) (by simp only [maxLen]; omega) (by omega) (by have := hg6.size; simp at this ⊢; omega) ?_; intro v7 w7 hown7 hg7 _ _))
        have hb6 : Below w5.heap.size w5 w6 := ((Below.refl _ _).alloc (Nat.le_refl _) _).grown hg6 (by simp) fun g hg => by have := (H0.out.lt g hg).1; omega
        have hb7 : Below w5.heap.size w5 w7 := (hb6.alloc hb6.size _).grown hg7 (by have := hb6.size; simp; omega) fun g hg => (hown6.lt g hg).1
        have hrow7 : w7.ownsRow w5.heap.size 9 1 v7 (recs ++ [bX]).length (strs (recs ++ [bX])) := by
          have e1 : strs (recs ++ [bX]) = strs [] ++ strs recs ++ [.string bX] := by simp [strs]
          rw [e1, List.length_append, List.length_singleton, show recs.length + 1 = 0 + recs.length + 1 by omega]
          exact hown7
        have HOW7 := Lib.hid (HOW5.out.below hb7)
        have HT7 : Hid (TextsOut w7 F5 v7 (recs ++ [bX])) := TextsOut.new (w := w5) hrow7 fun k hk => HOW5.out.lt k hk
        have hoi := open_inv HRD5.out HINV5.out
        rw [HLEN5.out] at hoi
        have HOI := Lib.hid hoi
        clear hoi hown6 hg6 hat6 hown7 hg7 hb6 hb7 hrow7 HTA H0 HW5 HOW5 HJ5 HU5 hi hz0 hzz1 hz2
        have ho := open_calls (HOW7.out.laid HLU.out) HOW7.out.dk (by show st5.queue.length ≤ _; omega)
        go_wp2_with fail
        refine ho.mono ?_
        clear ho
        rintro e w8 hoo
        obtain ⟨F8, hk, hOw, hc⟩ := HOW7.out.open hoo
        rw [HOI.out] at hc hOw
        rcases hc with ⟨h9, _⟩ | ⟨js, Kp, GK, Mv, h9, rfl, hja, hgf, hgn, hmt, _⟩
        · cases h9
        injection h9 with h9
        subst h9
        have HOW8 := Lib.hid hOw
        have HT8 := Lib.hid (HT7.out.kept hk)
        have HK8 : Hid (JAt w8 GK Kp d ⟨n, c + 1, recs ++ [bX], false⟩ ∧ ∀ k, GK k → ¬ F8 k) := ⟨hja, hgf⟩
        have HM8 := Lib.hid hmt
        clear hoo hk hOw hja hgf hgn hmt
        clear HOW7 HT7
        have hx := rsame_calls w8 _ _ (recs ++ [bX]) (recs ++ [bX]) HT8.out.at_ HM8.out.at_ (by rw [List.length_append, List.length_singleton]; omega) (by rw [List.length_append, List.length_singleton]; omega)
        rw [decide_eq_true (rfl : (recs ++ [bX]) = (recs ++ [bX]))] at hx
        go_wp2_with fail
        refine hx.mono ?_
        clear hx
        rintro e w9 ⟨rfl, hb⟩
        have HOW9 := Lib.hid (HOW8.out.below hb)
        clear HOW8
        clear hb
        go_wp2_with fail
        go_ret
        exact ⟨rfl, HB1.out.trans (HOW9.out.be.mono HB1.out.size)⟩
end Go.Proofs.YtpdhjfnddnoghaaDoor
