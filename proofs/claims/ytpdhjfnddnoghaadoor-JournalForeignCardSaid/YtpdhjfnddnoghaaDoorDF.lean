/- The disk's New, Start, Arm, Sync, Write.
   Conditions: the disk lies in memory as DiskAt says. -/
import Derived.Test.YtpdhjfnddnoghaaDoorDE
namespace Go.Proofs.YtpdhjfnddnoghaaDoor
open Go.RowKit Go.Lib
set_option linter.unusedVariables false

theorem start_nil (w : World) : Calls Tryd.prog 14 #[.pointer none] w fun e w' => e = .returned (.tuple #[]) ∧ w = w' := by
  go_enter Tryd.func14, Tryd.ntmps14
  go_wp2
  go_end0
  exact ⟨rfl, rfl⟩

theorem start_fin {w : World} {F : Nat → Prop} {p : Nat} {st : DS} (h : DiskAt w F p st) : Turns w F p st.start (.tuple #[]) (.returned (.tuple #[])) ((w.setCell ⟨p, 2, none⟩ (.bool false)).setCell ⟨p, 3, none⟩ (.pointer none)) := by
  obtain ⟨s, qv, av, hc, f1, f2, f3, f4, f5⟩ := h
  have hs : s ≠ p := ne_of_type hc.ds hc.dp (by decide)
  have h2 := Go.heap_setCell_same _ _ 2 _ _ (.bool false) hc.dp
  have h3 := Go.heap_setCell_same _ _ 3 _ _ (.pointer none) h2
  refine ⟨rfl, F, ⟨s, qv, none, ⟨h3, ?_, own_same hc.dq fun j hj => ?_, True.intro, hc.wf.start⟩, f1, f2, f3, fun j hj => by simp at hj, fun j hj => ?_⟩, ((Upd.refl _ _).setCell _ (.inl f1) _).setCell _ (.inl f1) _, fun j hj => .inl hj⟩
  · rw [Below.heap_setCell _ _ _ _ hs, Below.heap_setCell _ _ _ _ hs]; exact hc.ds
  · obtain ⟨c, hc'⟩ := own_type hc.dq hj
    have := ne_of_type hc' hc.dp (by decide)
    rw [Below.heap_setCell _ _ _ _ this, Below.heap_setCell _ _ _ _ this]
  · have := f5 j hj; simpa [World.setCell] using this

theorem start_calls {w : World} {F : Nat → Prop} {p : Nat} {st : DS} (h : DiskAt w F p st) : Calls Tryd.prog 14 #[.pointer (some ⟨p, 0, none⟩)] w (Turns w F p st.start (.tuple #[])) := by
  have h' := h
  obtain ⟨s, qv, av, hc, f1, f2, f3, f4, f5⟩ := h
  obtain ⟨c0, c1, c2, c3, c4, c5⟩ := hc.p4
  go_enter Tryd.func14, Tryd.ntmps14
  go_wp2
  go_end0
  exact start_fin h'

theorem arm_nil (w : World) (a b c : Int) : Calls Tryd.prog 22 #[.pointer none, .int .i64 a, .int .i64 b, .int .i64 c] w fun e w' => e = .returned (.tuple #[]) ∧ w = w' := by
  go_enter Tryd.func22, Tryd.ntmps22
  go_wp2
  refine bodyPost_ret (v := .tuple #[]) (results_none rfl _ _ _) rfl ⟨rfl, rfl⟩

theorem arm_fin {w w1 : World} {F : Nat → Prop} {p s : Nat} {qv : Value} {av av' : Option Nat} {st : DS} (hc : Cells w p s qv av st) (f1 : F p) (f2 : F s) (f3 : ∀ k, qv.ownBlock = some k → F k) (f5 : ∀ k, F k → k < w.heap.size)
    (a x y : Int) (ho : st.off = false) (ha : i64ok a) (hx : i64ok x) (hy : i64ok y)
    (hp : w1.heap[p]? = some (.cells #[.slice (some ⟨s, 0, none⟩) (64 * st.sect.length) (64 * st.sect.length), qv, .bool false, ptrTo av'] 55 (0, 0)))
    (hk : ∀ k, k < w.heap.size → k ≠ p → w1.heap[k]? = w.heap[k]?) (hu : Upd F w w1) (hal : Alarm w1 88 (if 0 ≤ a then some (a, x, y) else none) av') (hav : ∀ k, av' = some k → w.heap.size ≤ k) :
    Turns w F p (st.arm a x y) (.tuple #[]) (.returned (.tuple #[])) w1 := by
  have hs : s ≠ p := ne_of_type hc.ds hc.dp (by decide)
  have he : st.arm a x y = { st with armed := if 0 ≤ a then some (a, x, y) else none } := by unfold DS.arm; rw [ho]; rfl
  have hwf := hc.wf.arm a x y ha hx hy
  rw [he] at hwf ⊢
  refine ⟨rfl, fun k => F k ∨ av' = some k, ⟨s, qv, av', ⟨?_, ?_, own_same hc.dq fun j hj => ?_, hal, hwf⟩, .inl f1, .inl f2, fun k h => .inl (f3 k h), fun k h => .inr h, fun j hj => ?_⟩, hu, fun j hj => hj.imp id (hav j)⟩
  · show w1.heap[p]? = some (.cells #[_, _, .bool st.off, _] _ _)
    rw [ho]; exact hp
  · rw [hk s (blk_lt hc.ds) hs]; exact hc.ds
  · obtain ⟨c, hc'⟩ := own_type hc.dq hj
    exact hk j (hc.q_lt j hj) (ne_of_type hc' hc.dp (by decide))
  · rcases hj with hj | hj
    · exact Nat.lt_of_lt_of_le (f5 j hj) hu.size
    · subst hj; exact hal.lt

set_option maxHeartbeats 400000 in
theorem arm_calls {w : World} {F : Nat → Prop} {p : Nat} {st : DS} (h : DiskAt w F p st) (a x y : Int) (ha : i64ok a) (hx : i64ok x) (hy : i64ok y) :
    Calls Tryd.prog 22 #[.pointer (some ⟨p, 0, none⟩), .int .i64 a, .int .i64 x, .int .i64 y] w (Turns w F p (st.arm a x y) (.tuple #[])) := by
  have h' := h
  obtain ⟨s, qv, av, hc, f1, f2, f3, f4, f5⟩ := h
  obtain ⟨c0, c1, c2, c3, c4, c5⟩ := hc.p4
  have HC := Lib.hid hc
  clear hc
  by_cases ho : st.off = true
  · rw [ho] at c2
    have HE : Hid (st.arm a x y = st) := by show _ = _; unfold DS.arm; rw [if_pos ho]
    clear ho
    go_enter Tryd.func22, Tryd.ntmps22
    go_wp2
    refine bodyPost_ret (v := .tuple #[]) (results_none rfl _ _ _) rfl ?_
    rw [HE.out]
    exact Turns.self h' (Below.refl _ _)
  · have ho' : st.off = false := by simpa using ho
    rw [ho'] at c2
    have HO := Lib.hid ho'
    clear ho ho'
    by_cases h0 : 0 ≤ a
    · go_enter Tryd.func22, Tryd.ntmps22
      go_wp2_with fail
      go_end0
      have hq := HC.out.dp
      have h3 := Go.heap_setCell_same _ _ 3 _ _ (.pointer none) hq
      have h4 := Go.heap_setCell_same _ _ 3 _ _ (.pointer (some ⟨w.heap.size, 0, none⟩)) h3
      refine arm_fin (av' := some w.heap.size) HC.out f1 f2 f3 f5 a x y HO.out ha hx hy ?_ (fun k hk1 hk2 => ?_) ((((Upd.refl _ _).setCell _ (.inl f1) _).setCell _ (.inl f1) _).alloc _) ?_ (fun k hk => by injection hk with hk; omega)
      · rw [Below.heap_alloc _ _ _ (by simpa [World.setCell] using c5), h4]
        simp [HO.out, ptrTo]
      · rw [Below.heap_alloc _ _ _ (by simpa [World.setCell] using hk1), Below.heap_setCell _ _ _ _ hk2, Below.heap_setCell _ _ _ _ hk2]
      · rw [if_pos h0]
        show _ = _
        have : ((w.setCell ⟨p, 3, none⟩ (.pointer none)).setCell ⟨p, 3, none⟩ (.pointer (some ⟨w.heap.size, 0, none⟩))).heap.size = w.heap.size := by simp [World.setCell]
        have hn := heap_alloc_new ((w.setCell ⟨p, 3, none⟩ (.pointer none)).setCell ⟨p, 3, none⟩ (.pointer (some ⟨w.heap.size, 0, none⟩))) (.cells #[.int .i64 a, .int .i64 x, .int .i64 y] 88)
        rw [this] at hn
        exact hn
    · go_enter Tryd.func22, Tryd.ntmps22
      go_wp2_with fail
      go_end0
      refine arm_fin (av' := none) HC.out f1 f2 f3 f5 a x y HO.out ha hx hy ?_ (fun k _ hk => Below.heap_setCell _ _ _ _ hk) ((Upd.refl _ _).setCell _ (.inl f1) _) (by rw [if_neg (by omega)]; exact True.intro) (fun k hk => by simp at hk)
      have h3 := Go.heap_setCell_same _ _ 3 _ _ (.pointer none) HC.out.dp
      rw [h3]
      simp [HO.out, ptrTo]

theorem sync_nil (w : World) : Calls Tryd.prog 58 #[.pointer none] w fun e w' => e = .returned (.int .i64 1) ∧ w = w' := by
  go_enter Tryd.func58, Tryd.ntmps58
  go_wp2
  go_ret
  exact ⟨rfl, rfl⟩

theorem DS.count_queue {st : DS} (h : st.count.2 = 0) : st.count.1.queue = st.queue := by
  unfold DS.count at *
  split at *
  · rfl
  · rename_i a w b e
    by_cases h0 : 0 < a
    · rw [if_pos h0]
    · rw [if_neg h0] at h; simp at h
theorem DS.count_off {st : DS} (h : st.count.2 = 0) : st.count.1.off = st.off := by
  unfold DS.count at *
  split at *
  · rfl
  · rename_i a w b e
    by_cases h0 : 0 < a
    · rw [if_pos h0]
    · rw [if_neg h0] at h; simp at h
theorem DS.count_res (st : DS) : st.count.2 = 0 ∨ st.count.2 = 26 := by
  unfold DS.count
  split
  · exact .inl rfl
  · split
    · exact .inl rfl
    · exact .inr rfl

theorem sync_fin {w w1 w2 : World} {F F1 : Nat → Prop} {p s : Nat} {qv : Value} {av : Option Nat} {st1 : DS} (hu : Upd F w w1) (hF : ∀ k, F1 k → F k ∨ w.heap.size ≤ k)
    (f1 : F1 p) (f2 : F1 s) (f4 : ∀ k, av = some k → F1 k) (f5 : ∀ k, F1 k → k < w1.heap.size)
    (hc : Cells w2 p s qv av { st1 with sect := settle st1.sect st1.queue }) (hg : w1.grownBy w2 (some s)) :
    Turns w F p st1.syncNow (.int .i64 0) (.returned (.int .i64 0)) (w2.setCell ⟨p, 1, none⟩ (.slice none 0 0)) := by
  have hs : s ≠ p := ne_of_type hc.ds hc.dp (by decide)
  have h1 := Go.heap_setCell_same _ _ 1 _ _ (.slice none 0 0) hc.dp
  refine ⟨rfl, F1, ⟨s, .slice none 0 0, av, ⟨h1, ?_, World.ownsRow_nil _ _ _ _, hc.da.same fun k hk => Below.heap_setCell _ _ _ _ ?_, ⟨hc.wf.n1, hc.wf.n2, hc.wf.s64, fun x hx => by simp [DS.syncNow] at hx, hc.wf.ar⟩⟩, f1, f2, fun k hk => by simp [Value.ownBlock] at hk, f4, fun k hk => ?_⟩,
    (hu.grown hg fun k hk => ?_).setCell _ ?_ _, hF⟩
  · rw [Below.heap_setCell _ _ _ _ hs]; exact hc.ds
  · subst hk
    obtain ⟨c, hc'⟩ := alarm_type hc.da
    exact ne_of_type hc' hc.dp (by decide)
  · have := f5 k hk
    have := hg.size
    simp [World.setCell]; omega
  · injection hk with hk; subst hk; exact hF _ f2
  · exact hF _ f1

set_option maxHeartbeats 400000 in
theorem sync_calls {w : World} {F : Nat → Prop} {p : Nat} {st : DS} (h : DiskAt w F p st) (hql : st.queue.length ≤ 1000000) :
    Calls Tryd.prog 58 #[.pointer (some ⟨p, 0, none⟩)] w (Turns w F p st.sync.1 (.int .i64 st.sync.2)) := by
  have h' := h
  obtain ⟨s, qv, av, hc, f1, f2, f3, f4, f5⟩ := h
  obtain ⟨c0, c1, c2, c3, c4, c5⟩ := hc.p4
  clear hc
  by_cases ho : st.off = true
  · rw [ho] at c2
    have HE : Hid (st.sync = (st, 26)) := by show _ = _; unfold DS.sync; rw [if_pos ho]
    clear ho
    go_enter Tryd.func58, Tryd.ntmps58
    go_wp2
    go_ret
    rw [HE.out]
    exact Turns.self h' (Below.refl _ _)
  · have ho' : st.off = false := by simpa using ho
    rw [ho'] at c2
    have HO := Lib.hid ho'
    clear ho ho'
    have hres := st.count_res
    by_cases hr : st.count.2 = 0
    · have HE : Hid (st.sync = (st.count.1.syncNow, 0)) := by show _ = _; unfold DS.sync; rw [HO.out, if_pos hr]; rfl
      have HQ := Lib.hid (DS.count_queue hr)
      have HR := Lib.hid hr
      clear hr hres
      go_enter Tryd.func58, Tryd.ntmps58
      go_wp2_with fail
      refine (count_calls h' hql).mono ?_
      rintro e w1 ⟨rfl, F1, ⟨s1, qv1, av1, hc1, e1, e2, e3, e4, e5⟩, hu1, hF1⟩
      rw [HR.out]
      obtain ⟨d0, d1, d2, d3, d4, d5⟩ := hc1.p4
      obtain ⟨A, cap, rfl⟩ : ∃ A cap, qv1 = .slice A st.count.1.queue.length cap := by
        rcases hc1.dq.2 with ⟨h1, h2⟩ | ⟨g, cap, cur, h1, _⟩
        · exact ⟨none, 0, by rw [h1, h2]⟩
        · exact ⟨_, cap, h1⟩
      have hq1 : st.count.1.queue.length ≤ 1000000000 := by rw [HQ.out]; omega
      clear c0 c1 c2 c3 c4 c5
      have HC1 := Lib.hid hc1
      have HU1 := Lib.hid hu1
      clear hc1 hu1
      go_wp2_with fail
      refine (settle_calls HC1.out A _ cap st.count.1.queue rfl HC1.out.wf.q64 HC1.out.dq hq1).mono ?_
      rintro e w2 ⟨rfl, hc2, hg2⟩
      obtain ⟨y0, y1, y2, y3, y4, y5⟩ := hc2.p4
      have HC2 := Lib.hid hc2
      have HG2 := Lib.hid hg2
      clear hc2 hg2 d0 d1 d2 d3 d4 d5
      go_wp2_with fail
      go_ret
      rw [HE.out]
      exact sync_fin HU1.out hF1 e1 e2 e4 e5 HC2.out HG2.out
    · have hr' : st.count.2 = 26 := by omega
      have HE : Hid (st.sync = st.count) := by show _ = _; unfold DS.sync; rw [HO.out, if_neg hr]; rfl
      have HR := Lib.hid hr'
      clear hr hres hr'
      go_enter Tryd.func58, Tryd.ntmps58
      go_wp2_with fail
      refine (count_calls h' hql).mono ?_
      rintro e w1 ⟨rfl, ht⟩
      have HT := Lib.hid ht
      clear ht
      rw [HR.out]
      go_wp2_with fail
      go_ret
      rw [HE.out, HR.out]
      exact ⟨rfl, HT.out⟩
end Go.Proofs.YtpdhjfnddnoghaaDoor
