/- The reference's disk: Fail, count.
   Conditions: it lies in memory as RefAt says; at most 1000000 writes are pending. -/
import Derived.Test.YtbjomjlchafkfaaSA
import Derived.Deep.DeepCutAuto
namespace Go.Proofs.Ytbjomjlchafkfaa
open Go.RowKit Go.Lib
set_option linter.unusedVariables false

attribute [local go_sem high] max2_num min2_num max_of_two min_of_two
theorem clamp_eq2 (a : Int) (m : Nat) : mx 0 (mn a m) = clamp a m := by unfold mn mx clamp; split <;> split <;> omega
theorem clamp_64 (a : Int) : mx 0 (mn a 64) = clamp a 64 := clamp_eq2 a 64
theorem clamp_le' (a : Int) (m : Nat) : clamp a m ≤ m := by unfold clamp; omega

theorem rfail_nil (w : World) (a b : Int) :
    Calls Try.prog 35 #[.pointer none, .int .i64 a, .int .i64 b] w fun e w' => e = .returned (.tuple #[]) ∧ w = w' := by
  go_enter Try.func35, Try.ntmps35
  go_wp2
  refine bodyPost_ret (v := .tuple #[]) (results_none rfl _ _ _) rfl ⟨rfl, rfl⟩

theorem tear_ext (old new : ByteArray) (k : Nat) (h : old.size = 64) : new.extract 0 k ++ old.extract k 64 = tear old new k := by
  apply WideShapes.bytes_inj
  have hb := bsize old
  rw [ByteArray.data_append]
  simp only [tear, Array.toList_append, extract_take]
  congr 1
  simp only [ByteArray.data_extract, Array.toList_extract, List.extract_eq_take_drop]
  exact List.take_of_length_le (by rw [List.length_drop]; omega)

theorem rfail_fin {w w1 : World} {F : Nat → Prop} {p : Nat} {sv pv : Value} {a0 x0 y0 : Int} {st : DS} (f1 : F p) (f2 : ∀ k, sv.ownBlock = some k → F k) (f5 : ∀ k, F k → k < w.heap.size) (a b : Int) (ho : st.off = false)
    (hc1 : RCells w1 p sv pv a0 x0 y0 { st with sect := st.failSect a b }) (hu : Upd F w w1) :
    RTurns w F p (st.fail a b) (.tuple #[]) (.returned (.tuple #[])) (((w1.setCell ⟨p, 1, none⟩ (.slice none 0 0)).setCell ⟨p, 2, none⟩ (.bool false)).setCell ⟨p, 3, none⟩ (.bool false)) := by
  have he : st.fail a b = ⟨st.failSect a b, [], true, none⟩ := by unfold DS.fail; rw [ho]; rfl
  rw [he]
  have h1 := Go.heap_setCell_same _ _ 1 _ _ (.slice none 0 0) hc1.dp
  have h2 := Go.heap_setCell_same _ _ 2 _ _ (.bool false) h1
  have h3 := Go.heap_setCell_same _ _ 3 _ _ (.bool false) h2
  refine ⟨rfl, F, ⟨sv, .slice none 0 0, a0, x0, y0, ⟨h3, own_same hc1.ds fun k hk => ?_, World.ownsRow_nil _ _ _ _, fun t ht => by simp at ht, ⟨hc1.wf.n1, hc1.wf.n2, hc1.wf.s64, fun z hz => by simp at hz, fun _ _ _ hh => by simp at hh⟩⟩, f1, f2, fun k hk => by simp [Value.ownBlock] at hk, fun k hk => ?_⟩,
    ((hu.setCell _ (.inl f1) _).setCell _ (.inl f1) _).setCell _ (.inl f1) _, fun k hk => .inl hk⟩
  · obtain ⟨c, hc⟩ := own_type hc1.ds hk
    have hne : k ≠ p := ne_of_type hc hc1.dp (by decide)
    rw [Below.heap_setCell _ _ _ _ hne, Below.heap_setCell _ _ _ _ hne, Below.heap_setCell _ _ _ _ hne]
  · have := f5 k hk
    have := hu.size
    simp [World.setCell]
    omega

set_option maxHeartbeats 8000000 in
theorem rfail_calls {w : World} {F : Nat → Prop} {p : Nat} {st : DS} (h : RefAt w F p st) (a b : Int) (ha : i64ok a) (hb : i64ok b) (hql : st.queue.length ≤ 1000000) :
    Calls Try.prog 35 #[.pointer (some ⟨p, 0, none⟩), .int .i64 a, .int .i64 b] w (RTurns w F p (st.fail a b) (.tuple #[])) := by
  have h' := h
  obtain ⟨sv, pv, a0, b0, y0, hc, f1, f2, f3, f5⟩ := h
  obtain ⟨c0, c1, c2, c3, c4, c5, c6, c7, c8⟩ := hc.p7
  obtain ⟨A, cap, rfl⟩ := row_form hc.dq
  by_cases ho : st.off = true
  · rw [ho] at c2
    have HF : Hid (st.fail a b = st) := by unfold DS.fail; rw [if_pos ho]; exact rfl
    clear hc ho c0 c1 c3 c4 c5 c6
    simp only [Bool.not_true] at c2
    go_enter Try.func35, Try.ntmps35
    go_wp2
    refine bodyPost_ret (v := .tuple #[]) (results_none rfl _ _ _) rfl ?_
    rw [HF.out]
    exact RTurns.self h' (Below.refl _ _)
  · have ho' : st.off = false := by simpa using ho
    rw [ho'] at c2
    simp only [Bool.not_false] at c2
    unfold i64ok at ha hb
    obtain ⟨n, hn⟩ : ∃ n, clamp a st.queue.length = n := ⟨_, rfl⟩
    have hnl : n ≤ st.queue.length := by rw [← hn]; exact clamp_le' _ _
    have e1 : mx 0 (mn a (st.queue.length : Int)) = (n : Int) := by rw [clamp_eq2, hn]
    have HN := Lib.hid hn
    have HQ64 := Lib.hid hc.wf.q64
    have HO := Lib.hid ho'
    clear hn ho ho' c0 c3 c4 c5 c6
    go_enter Try.func35, Try.ntmps35
    go_wp2_with fail
    refine (rsettle_calls hc n hnl hql).mono ?_
    rintro e w1 ⟨rfl, hc1, hg1⟩
    obtain ⟨d0, d1, d2, d3, d4, d5, d6, d7, d8⟩ := hc1.p7
    have HC1 := Lib.hid hc1
    have HU1 := Lib.hid (Upd.grown (Upd.refl F w) hg1 fun k hk => .inl (f2 k hk))
    clear hc1 hg1 c1 c2 c7 c8 hc d4 d5 d6
    by_cases hlt : n < st.queue.length
    · obtain ⟨j, hj⟩ : ∃ j, clamp b 64 = j := ⟨_, rfl⟩
      have hj64 : j ≤ 64 := by rw [← hj]; exact clamp_le' _ _
      have e2 : mx 0 (mn b 64) = (j : Int) := by rw [← hj]; exact clamp_64 b
      have HJ := Lib.hid hj
      clear hj
      have hlq1 : w1.ownsRow 0 72 2 (.slice A st.queue.length cap) st.queue.length (pCells st.queue) := HC1.out.dq
      obtain ⟨g, cap', e, hgl, hgs⟩ := hlq1.form (by omega)
      injection e with e3 e4 e5
      subst e3 e5
      obtain ⟨x0, x1⟩ := pend2 hlq1 n hlt
      clear e4 hgl hlq1
      have hx := HQ64.out st.queue[n] (List.getElem_mem hlt)
      obtain ⟨hx1, hx2⟩ := hx
      have hfs : Hid (st.failSect a b = tearAt (settle st.sect (st.queue.take n)) (st.queue[n].1, st.queue[n].2) j) := by
        show _ = _
        unfold DS.failSect
        rw [HN.out, HJ.out, List.getElem?_eq_getElem hlt]
      generalize st.queue[n].1 = qi at x0 hx1 hfs
      generalize st.queue[n].2 = qt at x1 hx2 hfs
      have HSL : Hid ((settle st.sect (st.queue.take n)).length = st.sect.length) := settle_length _ _
      generalize settle st.sect (st.queue.take n) = S at HC1 hfs HSL
      have hs1 : qi < S.length := by have := HSL.out; omega
      have hds : w1.ownsRow 0 9 1 sv S.length (strs S) := HC1.out.ds
      obtain ⟨gs, caps, hsv, hgsl, hgss⟩ := hds.form (by omega)
      subst hsv
      have s0 := strs_at hds _ hs1
      have s64 : S[qi].size = 64 := HC1.out.wf.s64 _ (List.getElem_mem hs1)
      generalize hold : S[qi] = old at s0 s64
      have HT : Hid (tearAt S (qi, qt) j = S.set qi (tear old qt j)) := by
        show _ = _
        unfold tearAt
        rw [List.getD_eq_getElem?_getD, List.getElem?_eq_getElem hs1, ← hold]
        rfl
      have HTE := Lib.hid (tear_ext old qt j s64)
      have HTS := Lib.hid (tear_size old qt j s64 hx2)
      have sl1 : (qt.size : Int) = 64 := by omega
      have sl2 : (old.size : Int) = 64 := by omega
      have hlt' : (qi : Int) < (S.length : Int) := by omega
      have HS1 := Lib.hid hs1
      have hjz : (j : Int) ≤ 64 := by omega
      clear hds hold hgsl HQ64 hx1 hql hnl e1
      by_cases hj0 : 0 < j
      · go_upto_region 8 with fail
        go_cut [] from 46 to 64 (fun wx => RCells wx p (.slice (some ⟨gs, 0, none⟩) S.length caps) (.slice (some ⟨g, 0, none⟩) st.queue.length cap) a0 b0 y0 { sect := S.set qi (tear old qt j), queue := st.queue, off := st.off, armed := st.armed } ∧ Upd F w wx)
        case first =>
          go_region_with (go_at_call 47; refine (rset_calls (HC1.out.below ((below_drew ((Below.refl _ _).alloc (Nat.le_refl _) _)))) qi HS1.out _ (by rw [HTE.out]; exact HTS.out)).mono ?_; rintro e w2 ⟨rfl, hc2, hg2⟩)
          all_goals
            rw [HTE.out] at hc2
            have HC2 := Lib.hid hc2
            have HG2 := Lib.hid hg2
            clear hc2 hg2 d0 d1 d2 d3 x0 x1 s0
            go_wp2_with fail
            go_meet
            exact ⟨HC2.out, Upd.grown (Upd.drew (Upd.alloc HU1.out _)) HG2.out fun k hk => .inl (f2 k hk)⟩
        case rest =>
          obtain ⟨hc2, hu2⟩ := hcut
          obtain ⟨_, y1, y2, y3, _, _, _, y7, y8⟩ := hc2.p7
          have HC2 := Lib.hid hc2
          have HU2 := Lib.hid hu2
          clear hc2 hu2 d0 d1 d2 d3 x0 x1 s0
          go_wp2_with fail
          go_end0
          refine rfail_fin f1 f2 f5 a b HO.out (pv := .slice (some ⟨g, 0, none⟩) st.queue.length cap) (a0 := a0) (x0 := b0) (y0 := y0) ?_ HU2.out
          rw [hfs.out, HT.out]
          exact HC2.out
      · obtain rfl : j = 0 := by omega
        go_wp2_with fail
        go_end0
        refine RTurns.alloc (rfail_fin f1 f2 f5 a b HO.out (pv := .slice (some ⟨g, 0, none⟩) st.queue.length cap) (a0 := a0) (x0 := b0) (y0 := y0) ?_ HU1.out) _
        rw [hfs.out, tearAt_none]
        exact HC1.out
    · obtain rfl : n = st.queue.length := by omega
      go_wp2_with fail
      go_end0
      refine rfail_fin f1 f2 f5 a b HO.out (pv := .slice A st.queue.length cap) (a0 := a0) (x0 := b0) (y0 := y0) ?_ HU1.out
      have hfs : st.failSect a b = settle st.sect (st.queue.take st.queue.length) := by
        unfold DS.failSect
        rw [HN.out, List.getElem?_eq_none (Nat.le_refl _), List.take_of_length_le (Nat.le_refl _)]
      rw [hfs]
      exact HC1.out
end Go.Proofs.Ytbjomjlchafkfaa
