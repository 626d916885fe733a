/- The reference's disk: Rot, Raw.
   Conditions: it lies in memory as RefAt says. -/
import Derived.Test.YtbjomjlchafkfaaSE
namespace Go.Proofs.Ytbjomjlchafkfaa
open Go.RowKit Go.Lib
set_option linter.unusedVariables false

theorem conv_one (W : World) (b : Nat) (c : Int) (h : W.cell? ⟨b, 0, none⟩ = some (.int .u8 c)) : (convert 56 9 (.slice (some ⟨b, 0, none⟩) 1 1)).run Try.prog W = .ok (.string (strOfNums [c])) W := by
  refine run_convert_bytes_arg (P := Try.prog) W 56 5 Try.underlying56 Try.underlying5 b 0 1 1 [c] rfl (fun j hj => ?_) 9 Try.underlying9
  obtain rfl : j = 0 := by omega
  exact h
theorem flip_ext (old : ByteArray) (h : old.size = 64) (k : Nat) (hk : k < 64) (m : Nat) (hm : m < 256) : old.extract 0 k ++ strOfNums [bits .xor .u8 ((old[k]'(by omega)).toNat : Int) m] ++ old.extract (k + 1) 64 = flipAt old k m := by
  have hb := bsize old
  have hu := (old[k]'(by omega)).toNat_lt
  apply WideShapes.bytes_inj
  rw [ByteArray.data_append, ByteArray.data_append]
  rw [u8_xor_nat _ _ hu hm]
  simp only [flipAt, Array.toList_append, extract_take, strOfNums_data, List.map_cons, List.map_nil, Int.toNat_natCast]
  rw [List.modify_eq_take_cons_drop (by omega), List.append_assoc]
  congr 1
  simp only [ByteArray.data_extract, Array.toList_extract, List.extract_eq_take_drop, List.singleton_append]
  congr 1
  · show _ = (old.data.toList[k]) ^^^ _
    rw [← UInt8.toNat_inj, UInt8.toNat_xor, UInt8.toNat_ofNat_of_lt' hm, UInt8.toNat_ofNat_of_lt' (Nat.xor_lt_two_pow (n := 8) hu hm)]
    rfl
  · exact List.take_of_length_le (by rw [List.length_drop]; omega)
set_option maxHeartbeats 400000 in
theorem rrot_calls {w : World} {F : Nat → Prop} {p : Nat} {st : DS} (h : RefAt w F p st) (sec a m : Int) :
    Calls Try.prog 38 #[.pointer (some ⟨p, 0, none⟩), .int .i64 sec, .int .i64 a, .int .i64 m] w (RTurns w F p (st.rot sec a m) (.tuple #[])) := by
  have h' := h
  obtain ⟨sv, pv, a0, x0, y0, hc, f1, f2, f3, f5⟩ := h
  obtain ⟨c0, c1, c2, c3, c4, c5, c6, c7, c8⟩ := hc.p7
  obtain ⟨As, caps, rfl⟩ := row_form hc.ds
  have HC := Lib.hid hc
  clear c1 c2 c3 c4 c5 c6
  by_cases hg : (0 ≤ sec ∧ sec < st.sect.length) ∧ (0 ≤ a ∧ a < 64 ∧ 1 ≤ m ∧ m ≤ 255)
  · obtain ⟨⟨g1, g2⟩, g3, g4, g5, g6⟩ := hg
    obtain ⟨i, rfl⟩ := Int.eq_ofNat_of_zero_le g1
    obtain ⟨k, rfl⟩ := Int.eq_ofNat_of_zero_le g3
    obtain ⟨mm, rfl⟩ := Int.eq_ofNat_of_zero_le (show 0 ≤ m by omega)
    have hi : i < st.sect.length := by omega
    obtain ⟨gs, caps', hsv, hgsl, hgss⟩ := hc.ds.form (by omega)
    injection hsv with hs1 hs2 hs3
    subst hs1
    have s0 := strs_at hc.ds i hi
    have s1 : ∀ o, w.frozen? ⟨gs, o, none⟩ = false := fun o => hc.ds.frozenAt o
    have s64 := hc.wf.s64 _ (List.getElem_mem hi)
    generalize hold : st.sect[i] = old at s0 s64
    have k1 : (k : Int) < (old.size : Int) := by omega
    have k2 : old.size = 64 := s64
    have HOLD := Lib.hid hold
    clear hc hs2 hs3 hold s64
    go_enter Try.func38, Try.ntmps38
    go_wp2_with fail
    generalize hNB : w.alloc (.cells #[.int .u8 (bits .xor .u8 (old[k]'(by omega)).toNat mm)] 5) = NB
    have hcell : NB.cell? ⟨w.heap.size, 0, none⟩ = some (.int .u8 (bits .xor .u8 (old[k]'(by omega)).toNat mm)) := by rw [← hNB]; exact cell_blk (heap_alloc_new w _) 0
    have hcvW := fun W => conv_one W w.heap.size (bits .xor .u8 (old[k]'(by omega)).toNat mm)
    have hcv0 := hcvW NB hcell
    have hcv1 := hcvW NB.drew hcell
    have hcv2 := fun n => hcvW (NB.drewN n) hcell
    have s0' : NB.cell? ⟨gs, i, none⟩ = some (.string old) := by rw [← hNB]; exact (World.cell?_of_block (Below.heap_alloc w _ _ hgss)).trans s0
    have c0' : NB.cell? ⟨p, 0, none⟩ = some (.slice (some ⟨gs, 0, none⟩) st.sect.length caps) := by rw [← hNB]; exact (World.cell?_of_block (Below.heap_alloc w _ _ c8)).trans c0
    have s1' : ∀ o, NB.frozen? ⟨gs, o, none⟩ = false := fun o => by rw [← hNB]; exact (World.frozen?_of_block (Below.heap_alloc w _ _ hgss)).trans (s1 o)
    have HNB := Lib.hid hNB
    have hbs : (strOfNums [bits .xor .u8 (old[k]'(by omega)).toNat mm]).size = 1 := rfl
    generalize hbb : strOfNums [bits .xor .u8 (old[k]'(by omega)).toNat mm] = bb at hcv0 hcv1 hcv2 hbs
    have HBB := Lib.hid hbb
    have e1 : (old.extract 0 k).size = k := by simp; omega
    have e3 : (k : Int) ≤ 64 := by omega
    have e4 : (k : Int) + 1 ≤ 64 := by omega
    clear hcvW hcell hNB s0 c0 s1 c7 hbb
    go_region
    go_end0
    have hm3 : mm < 256 := by omega
    have hk3 : k < 64 := by omega
    have hcN := HC.out.below ((Below.refl _ _).alloc (Nat.le_refl _) (.cells #[.int .u8 (bits .xor .u8 (old[k]'(by omega)).toNat mm)] 5))
    rw [HNB.out] at hcN
    have hf := flip_ext old k2 k hk3 mm hm3
    rw [HBB.out] at hf
    rw [hf]
    have hft : (flipAt old k mm).size = 64 := by rw [flipAt_size]; exact k2
    obtain ⟨_, hc2, hg2⟩ := rset_fin hcN i hi (flipAt old k mm) hft
    have he : st.rot i k mm = { st with sect := st.sect.set i (flipAt old k mm) } := by
      unfold DS.rot DS.valid
      rw [if_pos (by simp; omega)]
      simp only [Int.toNat_natCast]
      congr 1
      rw [← HOLD.out]
      apply List.ext_getElem (by simp)
      intro j h1 h2
      rw [List.getElem_modify, List.getElem_set]
      split
      · rename_i e; subst e; rfl
      · rfl
    rw [he]
    refine RTurns.drew (RTurns.of hc2 f1 f2 f3 f5 (Upd.grown ?_ hg2 fun j hj => .inl (f2 j hj)))
    rw [← HNB.out]
    exact (Upd.refl _ _).alloc _
  · have HE : Hid (st.rot sec a m = st) := by
      show _ = _
      unfold DS.rot
      rw [if_neg]
      simp only [DS.valid, Bool.and_eq_true, decide_eq_true_eq]
      omega
    have key : sec < 0 ∨ (0 ≤ sec ∧ (st.sect.length : Int) ≤ sec) ∨ (0 ≤ sec ∧ sec < st.sect.length ∧ a < 0) ∨ (0 ≤ sec ∧ sec < st.sect.length ∧ 0 ≤ a ∧ 64 ≤ a) ∨ (0 ≤ sec ∧ sec < st.sect.length ∧ 0 ≤ a ∧ a < 64 ∧ m < 1) ∨ (0 ≤ sec ∧ sec < st.sect.length ∧ 0 ≤ a ∧ a < 64 ∧ 1 ≤ m ∧ 255 < m) := by omega
    clear hg hc
    rcases key with q1 | ⟨q1, q2⟩ | ⟨q1, q2, q3⟩ | ⟨q1, q2, q3, q4⟩ | ⟨q1, q2, q3, q4, q5⟩ | ⟨q1, q2, q3, q4, q5, q6⟩
    all_goals
      go_enter Try.func38, Try.ntmps38
      go_wp2_with fail
      refine bodyPost_ret (v := .tuple #[]) (results_none rfl _ _ _) rfl ?_
      rw [HE.out]
      exact RTurns.self h' (Below.refl _ _)

/-! ### Raw -/
theorem strCells_eq (t : ByteArray) : strCells t = byteCells t.data.toList := by simp [strCells, byteCells]
theorem stCells_snoc (s : List ByteArray) (k : Nat) (hk : k < s.length) : stCells (s.take (k + 1)) = stCells (s.take k) ++ strCells s[k] := by
  rw [List.take_succ_eq_append_getElem hk, stCells_append, strCells_eq]
  simp [stCells]
set_option maxHeartbeats 400000 in
theorem rraw_calls {w : World} {F : Nat → Prop} {p : Nat} {st : DS} (h : RefAt w F p st) :
    Calls Try.prog 39 #[.pointer (some ⟨p, 0, none⟩)] w fun e w' => e = .returned (.string st.raw) ∧ Below w.heap.size w w' := by
  obtain ⟨sv, pv, a0, x0, y0, hc, f1, f2, f3, f5⟩ := h
  obtain ⟨c0, c1, c2, c3, c4, c5, c6, c7, c8⟩ := hc.p7
  have hn1 := hc.wf.n1
  have hn2 := hc.wf.n2
  obtain ⟨gs, caps, hsv, hgsl, hgss⟩ := hc.ds.form (by omega)
  subst hsv
  have HC := Lib.hid hc
  clear hc c1 c2 c3 c4 c5 c6 c7 f1 f2 f3 f5
  obtain ⟨i0, hi, hz0, hzz1, hz2⟩ := info_parts Try.infoByte
  have b1 : i0.bytes * (st.sect.length * 64) ≤ 281474976710656 := by rw [hz2]; omega
  have HB1 := Lib.hid b1
  clear b1
  go_enter Try.func39, Try.ntmps39
  go_wp2_with (at_make; refine wpList_make_own _ rfl _ _ 56 rfl w.heap.size 5 i0 _ 1 Try.underlying56 hi hz0 hzz1 _ _ _ (st.sect.length * 64) rfl rfl (by omega) HB1.out (by simp only [maxLen]; omega) (Nat.le_refl _) ?_; intro w1 hown1 hg1; have HO1 := Lib.hid hown1; have HG1 := Lib.hid hg1; clear hown1 hg1)
  go_loopw [3, 4] (fun v i wr => ∃ k : Nat, k ≤ st.sect.length ∧ i = .int .i64 k ∧ wr.ownsRow w.heap.size 5 1 v (64 * k) (stCells (st.sect.take k)) ∧ Below w.heap.size w wr) (fun _ i _ => st.sect.length - (intOf i).toNat)
  case atStart => exact ⟨0, Nat.zero_le _, rfl, HO1.out, (Below.refl _ _).grown HG1.out (Nat.le_refl _) fun k hk => by simp at hk⟩
  case round =>
    obtain ⟨k, hk, rfl, hown, hb⟩ := hrel
    have hcr := HC.out.below hb
    obtain ⟨d0, d1, d2, d3, d4, d5, d6, d7, d8⟩ := hcr.p7
    have HB := Lib.hid hb
    have hsz := hb.size
    clear d1 d2 d3 d4 d5 d6 d7 hb
    by_cases hlt : k < st.sect.length
    · have z0 := strs_at hcr.ds k hlt
      have HS := Lib.hid (hcr.wf.s64 _ (List.getElem_mem hlt))
      have HSN := Lib.hid (stCells_snoc st.sect k hlt)
      have HOWN := Lib.hid hown
      have hgsr : gs < wr.heap.size := Nat.lt_of_lt_of_le hgss hsz
      clear hcr hown
      generalize hold : st.sect[k] = old at z0 HS HSN
      clear hold
      go_wp2_with (at_builtin; refine wpList_append_own_string _ rfl _ _ 56 9 rfl w.heap.size 5 i0 Try.underlying56 Try.underlying9 hi hz0 hzz1 hz2 _ (64 * k) (stCells (st.sect.take k)) rfl HOWN.out old rfl (by have := HS.out; simp only [maxLen]; omega) (by have := HS.out; omega) hsz ?_; intro v2 w2 hown2 hg2 _; have HO2 := Lib.hid hown2; have HG2 := Lib.hid hg2; clear hown2 hg2)
      go_roundw
      case rel =>
        have ho := HO2.out
        rw [HS.out, ← HSN.out, show 64 * k + 64 = 64 * (k + 1) from by omega] at ho
        exact ⟨k + 1, by omega, by go_num, ho, HB.out.grown HG2.out hsz fun j hj => (HOWN.out.lt j hj).1⟩
      case measure => simp [intOf]; omega
    · obtain rfl : k = st.sect.length := by omega
      rw [List.take_of_length_le (Nat.le_refl _)] at hown
      obtain ⟨g, cap, rfl, hgl, hgs⟩ := hown.form (by omega)
      have hl := hown.1
      have hcv : (convert 56 9 (.slice (some ⟨g, 0, none⟩) (64 * st.sect.length) cap)).run Try.prog wr = .ok (.string st.raw) wr := by
        have h := run_convert_bytes_arg (P := Try.prog) wr 56 5 Try.underlying56 Try.underlying5 g 0 (64 * st.sect.length) cap (st.raw.data.toList.map fun b => (b.toNat : Int)) ?_ (fun j hj => ?_) 9 Try.underlying9
        · rw [strOfNums_byte] at h; exact h
        · rw [List.length_map]
          rw [stCells_bytes, byteCells_length] at hl
          have : (st.sect.flatMap fun x => x.data.toList).length = 64 * st.sect.length := by omega
          exact this
        · rw [Nat.zero_add, hown.cellAt j (by omega), stCells_bytes]
          have hj' : j < (st.sect.flatMap fun x => x.data.toList).length := by rw [stCells_bytes, byteCells_length] at hl; omega
          show _ = some (Value.int .u8 (((st.sect.flatMap fun x => x.data.toList).map fun b => (b.toNat : Int)).getD j 0))
          simp only [byteCells, List.getElem?_map, List.getElem?_eq_getElem hj', List.getD_eq_getElem?_getD, Option.map_some, Option.getD_some]
      clear hown hl hcr
      go_wp2_with fail
      go_ret
      exact ⟨rfl, HB.out⟩
end Go.Proofs.Ytbjomjlchafkfaa
