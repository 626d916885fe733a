/- The reference's disk: count, Start, Arm, Sync.
   Conditions: it lies in memory as RefAt says; at most 1000000 writes are pending. -/
import Derived.Test.YtbjomjlchafkfaaSB
namespace Go.Proofs.Ytbjomjlchafkfaa
open Go.RowKit Go.Lib
set_option linter.unusedVariables false

/-- two cells or more of the struct are set: the disk is as the new numbers say -/
theorem RCells.turned {w w1 : World} {p : Nat} {sv pv : Value} {a x y a' x' y' : Int} {st st' : DS} (h : RCells w p sv pv a x y st) (hu : Upd (fun k => k = p) w w1)
    (hp : w1.heap[p]? = some (.cells #[sv, pv, .bool (!st'.off), .bool st'.armed.isSome, .int .i64 a', .int .i64 x', .int .i64 y'] 63 (0, 0)))
    (hs : st'.sect = st.sect) (hq : st'.queue = st.queue) (hn : ∀ t, st'.armed = some t → t = (a', x', y')) (hwf : st'.WF) : RCells w1 p sv pv a' x' y' st' := by
  refine ⟨hp, ?_, ?_, hn, hwf⟩
  · rw [hs]
    exact own_same h.ds fun k hk => by
      obtain ⟨c, hc⟩ := own_type h.ds hk
      exact hu.block k (blk_lt hc) (ne_of_type hc h.dp (by decide))
  · rw [hq]
    exact own_same h.dq fun k hk => by
      obtain ⟨c, hc⟩ := own_type h.dq hk
      exact hu.block k (blk_lt hc) (ne_of_type hc h.dp (by decide))
theorem RTurns.of {w w1 : World} {F : Nat → Prop} {p : Nat} {sv pv : Value} {a x y : Int} {st' : DS} {v : Value} (hc : RCells w1 p sv pv a x y st') (f1 : F p) (f2 : ∀ k, sv.ownBlock = some k → F k) (f3 : ∀ k, pv.ownBlock = some k → F k) (f5 : ∀ k, F k → k < w.heap.size) (hu : Upd F w w1) :
    RTurns w F p st' v (.returned v) w1 :=
  ⟨rfl, F, ⟨sv, pv, a, x, y, hc, f1, f2, f3, fun k hk => Nat.lt_of_lt_of_le (f5 k hk) hu.size⟩, hu, fun k hk => .inl hk⟩

set_option maxHeartbeats 400000 in
theorem rcount_calls {w : World} {F : Nat → Prop} {p : Nat} {st : DS} (h : RefAt w F p st) (hql : st.queue.length ≤ 1000000) :
    Calls Try.prog 45 #[.pointer (some ⟨p, 0, none⟩)] w (RTurns w F p st.count.1 (.int .i64 st.count.2)) := by
  have h' := h
  obtain ⟨sv, pv, a, x, y, hc, f1, f2, f3, f5⟩ := h
  obtain ⟨c0, c1, c2, c3, c4, c5, c6, c7, c8⟩ := hc.p7
  cases har : st.armed with
  | none =>
    rw [har] at c3
    have e1 : st.count = (st, 0) := by unfold DS.count; rw [har]
    rw [e1]
    simp only [Option.isSome_none] at c3
    clear hc har e1 c0 c1 c2 c4 c5 c6
    go_enter Try.func45, Try.ntmps45
    go_wp2
    go_ret
    exact RTurns.self h' (Below.refl _ _)
  | some axy =>
    obtain rfl := hc.nm _ har
    obtain ⟨r0, r1, r2, r3⟩ := hc.wf.ar _ _ _ har
    have r1' := r1
    unfold i64ok at r1'
    rw [har] at c3
    simp only [Option.isSome_some] at c3
    have HR := Lib.hid har
    have HC := Lib.hid hc
    clear har hc c0 c1 c2
    by_cases h0 : 0 < a
    · have s1 : ((a : Int) == 0) = false := by simp; omega
      go_enter Try.func45, Try.ntmps45
      go_wp2_with fail
      go_ret
      have e1 : st.count = ({ st with armed := some (a - 1, x, y) }, 0) := by unfold DS.count; rw [HR.out]; simp [h0]
      have hwf := HC.out.wf.count
      rw [e1] at hwf ⊢
      have hset := Go.heap_setCell_same _ _ 4 _ _ (.int .i64 (a - 1)) HC.out.dp
      refine RTurns.of (HC.out.turned ((Upd.refl (fun k => k = p) _).setCell _ (.inl rfl) _) ?_ rfl rfl (fun t ht => by injection ht with ht; exact ht.symm) hwf) f1 f2 f3 f5 ((Upd.refl _ _).setCell _ (.inl f1) _)
      rw [hset, HR.out]
      rfl
    · obtain rfl : a = 0 := by omega
      have e1 : Hid (st.count = (st.fail x y, 26)) := by show _ = _; unfold DS.count; rw [HR.out]; simp
      go_enter Try.func45, Try.ntmps45
      go_wp2_with fail
      go_region_with (go_at_call 35; refine (rfail_calls (h'.below (below_drew (Below.refl _ _))) x y r2 r3 hql).mono ?_; rintro e w2 ⟨rfl, hw2⟩)
      all_goals
        have HW := Lib.hid hw2
        clear hw2
        go_wp2_with fail
        go_ret
        rw [e1.out]
        exact RTurns.since (F := F) ⟨rfl, HW.out⟩ (Upd.refl _ _).drew

theorem rstart_calls {w : World} {F : Nat → Prop} {p : Nat} {st : DS} (h : RefAt w F p st) : Calls Try.prog 36 #[.pointer (some ⟨p, 0, none⟩)] w (RTurns w F p st.start (.tuple #[])) := by
  obtain ⟨sv, pv, a, x, y, hc, f1, f2, f3, f5⟩ := h
  obtain ⟨c0, c1, c2, c3, c4, c5, c6, c7, c8⟩ := hc.p7
  have HC := Lib.hid hc
  clear hc c0 c1 c4 c5 c6
  go_enter Try.func36, Try.ntmps36
  go_wp2
  go_end0
  have h2 := Go.heap_setCell_same _ _ 2 _ _ (.bool true) HC.out.dp
  have h3 := Go.heap_setCell_same _ _ 3 _ _ (.bool false) h2
  exact RTurns.of (HC.out.turned (((Upd.refl (fun k => k = p) _).setCell _ (.inl rfl) _).setCell _ (.inl rfl) _) (a' := a) (x' := x) (y' := y) h3 rfl rfl (fun t ht => by simp [DS.start] at ht) HC.out.wf.start) f1 f2 f3 f5 (((Upd.refl _ _).setCell _ (.inl f1) _).setCell _ (.inl f1) _)

set_option maxHeartbeats 400000 in
theorem rarm_calls {w : World} {F : Nat → Prop} {p : Nat} {st : DS} (h : RefAt w F p st) (a x y : Int) (ha : i64ok a) (hx : i64ok x) (hy : i64ok y) :
    Calls Try.prog 37 #[.pointer (some ⟨p, 0, none⟩), .int .i64 a, .int .i64 x, .int .i64 y] w (RTurns w F p (st.arm a x y) (.tuple #[])) := by
  have h' := h
  obtain ⟨sv, pv, a0, x0, y0, hc, f1, f2, f3, f5⟩ := h
  obtain ⟨c0, c1, c2, c3, c4, c5, c6, c7, c8⟩ := hc.p7
  by_cases ho : st.off = true
  · rw [ho] at c2
    simp only [Bool.not_true] at c2
    have HE : Hid (st.arm a x y = st) := by show _ = _; unfold DS.arm; rw [if_pos ho]
    clear ho hc c0 c1 c3 c4 c5 c6
    go_enter Try.func37, Try.ntmps37
    go_wp2
    refine bodyPost_ret (v := .tuple #[]) (results_none rfl _ _ _) rfl ?_
    rw [HE.out]
    exact RTurns.self h' (Below.refl _ _)
  · have ho' : st.off = false := by simpa using ho
    rw [ho'] at c2
    simp only [Bool.not_false] at c2
    have HO := Lib.hid ho'
    have HC := Lib.hid hc
    obtain ⟨bo, hbo⟩ : ∃ bo, decide (0 ≤ a) = bo := ⟨_, rfl⟩
    have HB := Lib.hid hbo
    clear hc ho ho' c0 c1 hbo
    go_enter Try.func37, Try.ntmps37
    go_wp2_with fail
    go_end0
    have he : st.arm a x y = { st with armed := if 0 ≤ a then some (a, x, y) else none } := by unfold DS.arm; rw [HO.out]; rfl
    have hwf := HC.out.wf.arm a x y ha hx hy
    rw [he] at hwf ⊢
    have h3 := Go.heap_setCell_same _ _ 3 _ _ (.bool (decide (0 ≤ a))) HC.out.dp
    have h4 := Go.heap_setCell_same _ _ 4 _ _ (.int .i64 a) h3
    have h5 := Go.heap_setCell_same _ _ 5 _ _ (.int .i64 x) h4
    have h6 := Go.heap_setCell_same _ _ 6 _ _ (.int .i64 y) h5
    refine RTurns.of (HC.out.turned (((((Upd.refl (fun k => k = p) _).setCell _ (.inl rfl) _).setCell _ (.inl rfl) _).setCell _ (.inl rfl) _).setCell _ (.inl rfl) _) (a' := a) (x' := x) (y' := y) (h6.trans ?_) rfl rfl (fun t ht => ?_) hwf) f1 f2 f3 f5 (((((Upd.refl _ _).setCell _ (.inl f1) _).setCell _ (.inl f1) _).setCell _ (.inl f1) _).setCell _ (.inl f1) _)
    · by_cases h0 : 0 ≤ a
      · simp [h0]
      · simp [h0]
    · by_cases h0 : 0 ≤ a
      · simp only [if_pos h0] at ht; injection ht with ht; exact ht.symm
      · simp only [if_neg h0] at ht; cases ht

set_option maxHeartbeats 400000 in
theorem rsync_calls {w : World} {F : Nat → Prop} {p : Nat} {st : DS} (h : RefAt w F p st) (hql : st.queue.length ≤ 1000000) :
    Calls Try.prog 34 #[.pointer (some ⟨p, 0, none⟩)] w (RTurns w F p st.sync.1 (.int .i64 st.sync.2)) := by
  have h' := h
  obtain ⟨sv, pv, a, x, y, hc, f1, f2, f3, f5⟩ := h
  obtain ⟨c0, c1, c2, c3, c4, c5, c6, c7, c8⟩ := hc.p7
  clear hc c0 c1 c3 c4 c5 c6
  by_cases ho : st.off = true
  · rw [ho] at c2
    simp only [Bool.not_true] at c2
    have HE : Hid (st.sync = (st, 26)) := by show _ = _; unfold DS.sync; rw [if_pos ho]
    clear ho
    go_enter Try.func34, Try.ntmps34
    go_wp2
    go_ret
    rw [HE.out]
    exact RTurns.self h' (Below.refl _ _)
  · have ho' : st.off = false := by simpa using ho
    rw [ho'] at c2
    simp only [Bool.not_false] at c2
    have HO := Lib.hid ho'
    clear ho ho'
    have hres := st.count_res
    by_cases hr : st.count.2 = 0
    · have HE : Hid (st.sync = (st.count.1.syncNow, 0)) := by show _ = _; unfold DS.sync; rw [HO.out, if_pos hr]; rfl
      have HQ := Lib.hid (DS.count_queue hr)
      have HR := Lib.hid hr
      clear hr hres
      go_enter Try.func34, Try.ntmps34
      go_wp2_with fail
      refine (rcount_calls h' hql).mono ?_
      rintro e w1 ⟨rfl, F1, ⟨sv1, pv1, a1, x1, y1, hc1, e1, e2, e3, e5⟩, hu1, hF1⟩
      rw [HR.out]
      obtain ⟨d0, d1, d2, d3, d4, d5, d6, d7, d8⟩ := hc1.p7
      obtain ⟨A, cap, rfl⟩ := row_form hc1.dq
      have hq1 : st.count.1.queue.length ≤ 1000000 := by rw [HQ.out]; omega
      clear c2 c7 c8 d0 d2 d3 d4 d5 d6
      have HC1 := Lib.hid hc1
      have HU1 := Lib.hid hu1
      clear hc1 hu1
      go_wp2_with fail
      refine (rsettle_calls HC1.out st.count.1.queue.length (Nat.le_refl _) hq1).mono ?_
      rintro e w2 ⟨rfl, hc2, hg2⟩
      obtain ⟨z0, z1, z2, z3, z4, z5, z6, z7, z8⟩ := hc2.p7
      have HC2 := Lib.hid hc2
      have HU2 := Lib.hid (HU1.out.grown hg2 fun k hk => hF1 k (e2 k hk))
      have hsz2 := hg2.size
      clear hc2 hg2 d1 d7 d8 z0 z2 z3 z4 z5 z6
      go_wp2_with fail
      go_ret
      rw [HE.out]
      have hset := Go.heap_setCell_same _ _ 1 _ _ (.slice none 0 0) HC2.out.dp
      have hw2 := HC2.out.wf
      refine ⟨rfl, F1, ⟨sv1, .slice none 0 0, a1, x1, y1, ⟨hset, ?_, World.ownsRow_nil _ _ _ _, HC2.out.nm, ⟨?_, ?_, ?_, fun z hz => by simp [DS.syncNow] at hz, HC2.out.wf.ar⟩⟩, e1, e2, fun k hk => by simp [Value.ownBlock] at hk, fun k hk => ?_⟩, HU2.out.setCell _ (hF1 _ e1) _, hF1⟩
      · have hds := own_same (w' := w2.setCell ⟨p, 1, none⟩ (.slice none 0 0)) HC2.out.ds fun k hk => by
          obtain ⟨c, hc⟩ := own_type HC2.out.ds hk
          exact Below.heap_setCell _ _ _ _ (ne_of_type hc HC2.out.dp (by decide))
        rw [List.take_of_length_le (Nat.le_refl _)] at hds
        exact hds
      · have := hw2.n1; rw [List.take_of_length_le (Nat.le_refl _)] at this; exact this
      · have := hw2.n2; rw [List.take_of_length_le (Nat.le_refl _)] at this; exact this
      · have := hw2.s64; rw [List.take_of_length_le (Nat.le_refl _)] at this; exact this
      · have := e5 k hk
        simp [World.setCell]; omega
    · have hr' : st.count.2 = 26 := by omega
      have HE : Hid (st.sync = st.count) := by show _ = _; unfold DS.sync; rw [HO.out, if_neg hr]; rfl
      have HR := Lib.hid hr'
      clear hr hres hr'
      go_enter Try.func34, Try.ntmps34
      go_wp2_with fail
      refine (rcount_calls h' hql).mono ?_
      rintro e w1 ⟨rfl, ht⟩
      have HT := Lib.hid ht
      clear ht
      rw [HR.out]
      go_wp2_with fail
      go_ret
      rw [HE.out, HR.out]
      exact ⟨rfl, HT.out⟩
end Go.Proofs.Ytbjomjlchafkfaa
