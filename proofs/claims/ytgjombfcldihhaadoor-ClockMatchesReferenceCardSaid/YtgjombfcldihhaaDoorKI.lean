/- clock.Parse.
   Conditions: the library's tables and sentinels are laid; a text has at most 2^47 bytes. -/
import Derived.Test.YtgjombfcldihhaaDoorKH
namespace Go.Proofs.YtgjombfcldihhaaDoor
open Go.RowKit Go.Lib
set_option linter.unusedVariables false

def numR (s : ByteArray) : Option Int := match atoiR s with | some k => if 0 ≤ k ∧ k ≤ 100000 then some k else none | none => none
theorem numR_some {s : ByteArray} {k : Int} (h : atoiR s = some k) (h0 : 0 ≤ k) (h1 : k ≤ 100000) : numR s = some k := by unfold numR; rw [h]; exact if_pos ⟨h0, h1⟩
theorem numR_none {s : ByteArray} (h : atoiR s = none) : numR s = none := by unfold numR; rw [h]
theorem numR_out {s : ByteArray} {k : Int} (h : atoiR s = some k) (h0 : k < 0 ∨ 100000 < k) : numR s = none := by unfold numR; rw [h]; exact if_neg (by omega)
theorem numR_le {s : ByteArray} {k : Int} (h : numR s = some k) : 0 ≤ k ∧ k ≤ 100000 := by
  unfold numR at h
  split at h
  · split at h
    · injection h with h; subst h; assumption
    · cases h
  · cases h
def part0 (s : ByteArray) : ByteArray := (cutB s 47).1
def part1 (s : ByteArray) : ByteArray := (cutB (cutB s 47).2.1 58).1
def part2 (s : ByteArray) : ByteArray := (cutB (cutB s 47).2.1 58).2.1
def parseR (s : ByteArray) : Int × Int :=
  match numR (part0 s), numR (part1 s), numR (part2 s) with
  | some a, some b, some c => if textR (a * 1440 + b * 60 + c) = (s, 0) then (a * 1440 + b * 60 + c, 0) else (0, 5)
  | _, _, _ => (0, 5)
theorem cutB_size (s : ByteArray) (c : UInt8) : (cutB s c).1.size ≤ s.size ∧ (cutB s c).2.1.size ≤ s.size := by
  unfold cutB
  split
  · simp only [ByteArray.size_extract]; omega
  · exact ⟨Nat.le_refl _, Nat.zero_le _⟩

theorem idx3 (W : World) (x0 x1 x2 : ByteArray) :
    (Instr.index 63 (.agg #[.string x0, .string x1, .string x2]) (.int .i64 0)).run Tryd.prog W = .ok (.string x0) W ∧
    (Instr.index 63 (.agg #[.string x0, .string x1, .string x2]) (.int .i64 1)).run Tryd.prog W = .ok (.string x1) W ∧
    (Instr.index 63 (.agg #[.string x0, .string x1, .string x2]) (.int .i64 2)).run Tryd.prog W = .ok (.string x2) W :=
  ⟨by kernel_rfl, by kernel_rfl, by kernel_rfl⟩
set_option maxRecDepth 100000 in
set_option maxHeartbeats 2000000 in
theorem parse_calls (w : World) (hl : LaidC w) (s : ByteArray) (hs : s.size ≤ 281474976710656) : Calls Tryd.prog 20 #[.string s] w fun e w' => e = .returned (.tuple #[.int .i64 (parseR s).1, .int .i64 (parseR s).2]) ∧ Below w.heap.size w w' := by
  have HL := Lib.hid hl
  have h1 := cut_calls w s (by omega) 47
  have hz1 := (cutB_size s 47).2
  have h2 := fun W => cut_calls W (cutB s 47).2.1 (by omega) 58
  have hz0 := (cutB_size s 47).1
  have hz2 := (cutB_size (cutB s 47).2.1 58)
  obtain ⟨x0, hx0⟩ : ∃ x, part0 s = x := ⟨_, rfl⟩
  obtain ⟨x1, hx1⟩ : ∃ x, part1 s = x := ⟨_, rfl⟩
  obtain ⟨x2, hx2⟩ : ∃ x, part2 s = x := ⟨_, rfl⟩
  have hs0 : x0.size ≤ 281474976710656 := by rw [← hx0]; unfold part0; omega
  have hs1 : x1.size ≤ 281474976710656 := by rw [← hx1]; unfold part1; omega
  have hs2 : x2.size ≤ 281474976710656 := by rw [← hx2]; unfold part2; omega
  have HX := Lib.hid (show part0 s = x0 ∧ part1 s = x1 ∧ part2 s = x2 from ⟨hx0, hx1, hx2⟩)
  change (cutB s 47).1 = x0 at hx0
  change (cutB (cutB s 47).2.1 58).1 = x1 at hx1
  change (cutB (cutB s 47).2.1 58).2.1 = x2 at hx2
  rw [hx0] at h1
  rw [hx1, hx2] at h2
  generalize (cutB s 47).2.1 = r1 at h1 h2
  generalize (cutB s 47).2.2 = f1 at h1
  generalize (cutB r1 58).2.2 = f2 at h2
  have HS := Lib.hid (show x0.size ≤ 281474976710656 ∧ x1.size ≤ 281474976710656 ∧ x2.size ≤ 281474976710656 from ⟨hs0, hs1, hs2⟩)
  clear hl hx0 hx1 hx2 hz0 hz1 hz2 hs0 hs1 hs2 hs
  go_enter Tryd.func20, Tryd.ntmps20
  go_wp2_with fail
  refine h1.mono ?_
  rintro e w1 ⟨rfl, hb1⟩
  have HB1 := Lib.hid hb1
  clear hb1 h1
  go_wp2_with fail
  refine (h2 _).mono ?_
  rintro e w2 ⟨rfl, hb2⟩
  have HB2 := Lib.hid (HB1.out.trans (hb2.mono HB1.out.size))
  clear hb2 h2 HB1
  go_wp2_with fail
  have hblk0 := heap_alloc_new w2 (.cells #[.int .i64 0, .int .i64 0, .int .i64 0] 62)
  have hbA := HB2.out.alloc HB2.out.size (.cells #[.int .i64 0, .int .i64 0, .int .i64 0] 62)
  have hB : w.heap.size ≤ w2.heap.size := HB2.out.size
  generalize w2.alloc (.cells #[.int .i64 0, .int .i64 0, .int .i64 0] 62) = wA at hblk0 hbA ⊢
  generalize w2.heap.size = B at hblk0 hB ⊢
  go_loopw [34] (fun i wr => ∃ (k : Nat) (a b c : Int), k ≤ 3 ∧ i = .int .i64 k ∧ wr.heap[B]? = some (.cells #[.int .i64 a, .int .i64 b, .int .i64 c] 62 (0, 0)) ∧ (0 < k → numR x0 = some a) ∧ (1 < k → numR x1 = some b) ∧ (2 < k → numR x2 = some c) ∧ Below w.heap.size w wr) (fun i _ => 3 - (RowKit.intOf i).toNat)
  case atStart => exact ⟨0, 0, 0, 0, by omega, rfl, hblk0, fun h => by omega, fun h => by omega, fun h => by omega, hbA⟩
  case round =>
    obtain ⟨k, a, b, c, hk, rfl, hblk, ha, hb, hc, hbr⟩ := hrel
    have HBR := Lib.hid hbr
    clear hbr hblk0 hbA
    by_cases hlt : k < 3
    · have hk3 : k = 0 ∨ k = 1 ∨ k = 2 := by omega
      have HABC := Lib.hid (show (0 < k → numR x0 = some a) ∧ (1 < k → numR x1 = some b) ∧ (2 < k → numR x2 = some c) from ⟨ha, hb, hc⟩)
      have HBLK := Lib.hid hblk
      clear hlt hk ha hb hc hblk
      have hidx := idx3 wr x0 x1 x2
      obtain ⟨hi0, hi1, hi2⟩ := hidx
      rcases hk3 with rfl | rfl | rfl
      · go_wp2_with fail
        refine (atoi_calls _ (HL.out.below HBR.out) x0 HS.out.1).mono ?_
        rintro e w4 ⟨⟨n, ev, rfl, hev⟩, hb4⟩
        have HB4 := Lib.hid (HBR.out.trans (hb4.mono HBR.out.size))
        have hblk4 := (hb4.block _ (blk_lt HBLK.out)).trans HBLK.out
        clear hb4
        rcases hev with ⟨rfl, hat, hn0, hn2⟩ | ⟨T, N, rfl, hat⟩
        · by_cases hn : 0 ≤ n ∧ n ≤ 100000
          · obtain ⟨hn3, hn4⟩ := hn
            have hn1 := numR_some hat hn3 hn4
            have cN := cell_blk hblk4 0
            have fN := free_blk hblk4 0
            have hset := Go.heap_setCell_same _ _ 0 _ _ (.int .i64 n) hblk4
            have HSET := Lib.hid hset
            have ltN := blk_lt hblk4
            clear hat hset hblk4
            go_wp2_with fail
            go_roundw
            case rel => exact ⟨0 + 1, n, b, c, by omega, by go_num, HSET.out, fun _ => hn1, fun h => by omega, fun h => by omega, HB4.out.setCell (by exact hB) _⟩
            case measure => simp [RowKit.intOf]
          · have hn1 := numR_out hat (show n < 0 ∨ 100000 < n by omega)
            have HBAD : Hid (parseR s = (0, 5)) := by show _ = _; unfold parseR; rw [HX.out.1, hn1]
            have hn' : n < 0 ∨ (0 ≤ n ∧ 100000 < n) := by omega
            clear hn hat hn1 hblk4
            rcases hn' with hn5 | ⟨hn5, hn6⟩
            all_goals
              go_wp2_with fail
              go_ret2
              rw [HBAD.out]
              exact ⟨rfl, HB4.out⟩
        · have hn1 := numR_none hat
          have HBAD : Hid (parseR s = (0, 5)) := by show _ = _; unfold parseR; rw [HX.out.1, hn1]
          clear hat hn1 hblk4
          go_wp2_with fail
          go_ret2
          rw [HBAD.out]
          exact ⟨rfl, HB4.out⟩
      · go_wp2_with fail
        refine (atoi_calls _ (HL.out.below HBR.out) x1 HS.out.2.1).mono ?_
        rintro e w4 ⟨⟨n, ev, rfl, hev⟩, hb4⟩
        have HB4 := Lib.hid (HBR.out.trans (hb4.mono HBR.out.size))
        have hblk4 := (hb4.block _ (blk_lt HBLK.out)).trans HBLK.out
        clear hb4
        rcases hev with ⟨rfl, hat, hn0, hn2⟩ | ⟨T, N, rfl, hat⟩
        · by_cases hn : 0 ≤ n ∧ n ≤ 100000
          · obtain ⟨hn3, hn4⟩ := hn
            have hn1 := numR_some hat hn3 hn4
            have cN := cell_blk hblk4 1
            have fN := free_blk hblk4 1
            have hset := Go.heap_setCell_same _ _ 1 _ _ (.int .i64 n) hblk4
            have HSET := Lib.hid hset
            have ltN := blk_lt hblk4
            clear hat hset hblk4
            go_wp2_with fail
            go_roundw
            case rel => exact ⟨1 + 1, a, n, c, by omega, by go_num, HSET.out, fun _ => HABC.out.1 (by omega), fun _ => hn1, fun h => by omega, HB4.out.setCell (by exact hB) _⟩
            case measure => simp [RowKit.intOf]
          · have hn1 := numR_out hat (show n < 0 ∨ 100000 < n by omega)
            have HBAD : Hid (parseR s = (0, 5)) := by show _ = _; unfold parseR; rw [HX.out.2.1, hn1]; cases numR (part0 s) <;> rfl
            have hn' : n < 0 ∨ (0 ≤ n ∧ 100000 < n) := by omega
            clear hn hat hn1 hblk4
            rcases hn' with hn5 | ⟨hn5, hn6⟩
            all_goals
              go_wp2_with fail
              go_ret2
              rw [HBAD.out]
              exact ⟨rfl, HB4.out⟩
        · have hn1 := numR_none hat
          have HBAD : Hid (parseR s = (0, 5)) := by show _ = _; unfold parseR; rw [HX.out.2.1, hn1]; cases numR (part0 s) <;> rfl
          clear hat hn1 hblk4
          go_wp2_with fail
          go_ret2
          rw [HBAD.out]
          exact ⟨rfl, HB4.out⟩
      · go_wp2_with fail
        refine (atoi_calls _ (HL.out.below HBR.out) x2 HS.out.2.2).mono ?_
        rintro e w4 ⟨⟨n, ev, rfl, hev⟩, hb4⟩
        have HB4 := Lib.hid (HBR.out.trans (hb4.mono HBR.out.size))
        have hblk4 := (hb4.block _ (blk_lt HBLK.out)).trans HBLK.out
        clear hb4
        rcases hev with ⟨rfl, hat, hn0, hn2⟩ | ⟨T, N, rfl, hat⟩
        · by_cases hn : 0 ≤ n ∧ n ≤ 100000
          · obtain ⟨hn3, hn4⟩ := hn
            have hn1 := numR_some hat hn3 hn4
            have cN := cell_blk hblk4 2
            have fN := free_blk hblk4 2
            have hset := Go.heap_setCell_same _ _ 2 _ _ (.int .i64 n) hblk4
            have HSET := Lib.hid hset
            have ltN := blk_lt hblk4
            clear hat hset hblk4
            go_wp2_with fail
            go_roundw
            case rel => exact ⟨2 + 1, a, b, n, by omega, by go_num, HSET.out, fun _ => HABC.out.1 (by omega), fun _ => HABC.out.2.1 (by omega), fun _ => hn1, HB4.out.setCell (by exact hB) _⟩
            case measure => simp [RowKit.intOf]
          · have hn1 := numR_out hat (show n < 0 ∨ 100000 < n by omega)
            have HBAD : Hid (parseR s = (0, 5)) := by show _ = _; unfold parseR; rw [HX.out.2.2, hn1]; cases numR (part0 s) <;> cases numR (part1 s) <;> rfl
            have hn' : n < 0 ∨ (0 ≤ n ∧ 100000 < n) := by omega
            clear hn hat hn1 hblk4
            rcases hn' with hn5 | ⟨hn5, hn6⟩
            all_goals
              go_wp2_with fail
              go_ret2
              rw [HBAD.out]
              exact ⟨rfl, HB4.out⟩
        · have hn1 := numR_none hat
          have HBAD : Hid (parseR s = (0, 5)) := by show _ = _; unfold parseR; rw [HX.out.2.2, hn1]; cases numR (part0 s) <;> cases numR (part1 s) <;> rfl
          clear hat hn1 hblk4
          go_wp2_with fail
          go_ret2
          rw [HBAD.out]
          exact ⟨rfl, HB4.out⟩
    · obtain rfl : k = 3 := by omega
      have na := ha (by omega)
      have nb := hb (by omega)
      have nc := hc (by omega)
      have la := numR_le na
      have lb := numR_le nb
      have lc := numR_le nc
      obtain ⟨la1, la2⟩ := la
      obtain ⟨lb1, lb2⟩ := lb
      obtain ⟨lc1, lc2⟩ := lc
      have c0 := cell_blk hblk 0
      have c1 := cell_blk hblk 1
      have c2 := cell_blk hblk 2
      simp only [List.getElem?_toArray, List.getElem?_cons_zero, List.getElem?_cons_succ] at c0 c1 c2
      have HR : Hid (parseR s = if textR (a * 1440 + b * 60 + c) = (s, 0) then (a * 1440 + b * 60 + c, 0) else (0, 5)) := by
        show _ = _
        unfold parseR
        rw [HX.out.1, HX.out.2.1, HX.out.2.2, na, nb, nc]
      have ltB := blk_lt hblk
      clear hlt hk ha hb hc na nb nc hblk
      go_wp2_with fail
      refine (text_calls _ (HL.out.below HBR.out) (a * 1440 + b * 60 + c)).mono ?_
      rintro e w5 ⟨rfl, hb5⟩
      have HB5 := Lib.hid (HBR.out.trans (hb5.mono HBR.out.size))
      clear hb5
      obtain ⟨ts, hts⟩ : ∃ x, textR (a * 1440 + b * 60 + c) = x := ⟨_, rfl⟩
      rw [hts] at HR
      simp only [hts]
      clear hts
      obtain ⟨tt, te⟩ := ts
      by_cases h0 : te = 0
      · subst h0
        by_cases ht : tt = s
        · subst ht
          have HR2 := Lib.hid (HR.out.trans (if_pos rfl))
          go_wp2_with fail
          go_ret2
          rw [HR2.out]
          exact ⟨rfl, HB5.out⟩
        · have HR2 := Lib.hid (HR.out.trans (if_neg (fun e => ht (by injection e))))
          have ht' : (tt.toList == s.toList) = false := beq_eq_false_iff_ne.2 fun e => ht (WideShapes.bytes_inj (by rwa [ByteArray.toList_eq, ByteArray.toList_eq] at e))
          clear ht
          go_wp2_with fail
          go_ret2
          rw [HR2.out]
          exact ⟨rfl, HB5.out⟩
      · have HR2 := Lib.hid (HR.out.trans (if_neg (fun e => h0 (by injection e))))
        have h0' : (te == 0) = false := by simp [h0]
        have h0'' : (te != 0) = true := by simp [h0]
        go_wp2_with fail
        go_ret2
        rw [HR2.out]
        exact ⟨rfl, HB5.out⟩
end Go.Proofs.YtgjombfcldihhaaDoor
