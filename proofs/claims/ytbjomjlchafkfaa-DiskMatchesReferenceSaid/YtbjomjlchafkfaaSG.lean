/- The law's want: one operation on the reference's disk.
   Conditions: it lies in memory as RefAt says; an operation's text has at most 100 bytes; fewer than 1000000 writes are pending. -/
import Derived.Test.YtbjomjlchafkfaaSF
namespace Go.Proofs.Ytbjomjlchafkfaa
open Go.RowKit Go.Lib
set_option linter.unusedVariables false

set_option maxHeartbeats 400000 in
theorem want_write {w : World} {F : Nat → Prop} {p : Nat} {st : DS} (h : RefAt w F p st) (hql : st.queue.length < 1000000) (sector bytes : Int) (text : ByteArray) (odd : Bool) (after : Int) (ht : text.size ≤ 100) :
    Calls Try.prog 17 #[.pointer (some ⟨p, 0, none⟩), (⟨0, sector, bytes, text, odd, after⟩ : Act0).val] w
      (RTurns w F p (st.write sector (⟨0, sector, bytes, text, odd, after⟩ : Act0).txt).1 (.tuple #[.string emptyB, .int .i64 (st.write sector (⟨0, sector, bytes, text, odd, after⟩ : Act0).txt).2])) := by
  have hlt : p < w.heap.size := by obtain ⟨sv, pv, a0, x0, y0, hc, _⟩ := h; exact blk_lt hc.dp
  simp only [Act0.val]
  go_enter Try.func17, Try.ntmps17
  go_wp2_with fail
  go_region_with (first
    | (go_at_call 24; refine (text_calls ⟨0, sector, bytes, text, odd, after⟩ ht _).mono ?_; rintro e w1 ⟨rfl, rfl⟩)
    | (go_at_call 33; refine (rwrite_calls (h.below (by exact (((Below.refl w.heap.size w).alloc (Nat.le_refl _) _).drew.alloc (by show _ ≤ (World.alloc _ _).heap.size; simp) _))) hql _ _).mono ?_; rintro e w2 ⟨rfl, hw2⟩))
  all_goals
    have HW := Lib.hid hw2
    clear hw2
    go_wp2_with fail
    go_ret2
    exact (RTurns.from_box ((((Below.refl w.heap.size w).alloc (Nat.le_refl _) _).drew.alloc (by show _ ≤ (World.alloc _ _).heap.size; simp) _)) ⟨rfl, HW.out⟩)

set_option maxHeartbeats 400000 in
theorem want_calls {w : World} {F : Nat → Prop} {p : Nat} {st : DS} (h : RefAt w F p st) (hql : st.queue.length < 1000000) (a : Act0) (ha : a.Ok) :
    Calls Try.prog 17 #[.pointer (some ⟨p, 0, none⟩), a.val] w (RTurns w F p (st.act a).1 (.tuple #[.string (st.act a).2.1, .int .i64 (st.act a).2.2])) := by
  have hlt : p < w.heap.size := by obtain ⟨sv, pv, a0, x0, y0, hc, _⟩ := h; exact blk_lt hc.dp
  obtain ⟨kind, sector, bytes, text, odd, after⟩ := a
  obtain ⟨a1, a2, a3, a4, a5⟩ := ha
  simp only at a1 a2 a3 a4 a5
  have hB := (Below.refl w.heap.size w).alloc (Nat.le_refl _) (.cells #[.int .i64 kind, .int .i64 sector, .int .i64 bytes, .string text, .bool odd, .int .i64 after] 34)
  have hd := h.below hB
  by_cases k0 : kind = 0
  · subst k0
    have := want_write h hql sector bytes text odd after a5
    unfold DS.act
    exact this
  have e0 : (kind == 0) = false := by simp [k0]
  by_cases k1 : kind = 1
  · subst k1
    unfold DS.act
    simp only [Act0.val]
    go_enter Try.func17, Try.ntmps17
    go_wp2_with fail
    refine (rread_calls hd (by omega) _).mono ?_
    rintro e w1 ⟨rfl, hw⟩
    have HW := Lib.hid hw
    clear hw
    go_wp2_with fail
    go_ret2
    exact RTurns.from_box hB (RTurns.self hd (by rw [HW.out]; exact Below.refl _ _))
  have e1 : (kind == 1) = false := by simp [k1]
  by_cases k2 : kind = 2
  · subst k2
    unfold DS.act
    simp only [Act0.val]
    go_enter Try.func17, Try.ntmps17
    go_wp2_with fail
    refine (rsync_calls hd (by omega)).mono ?_
    rintro e w1 hw
    have HW := Lib.hid (RTurns.from_box hB hw)
    obtain ⟨rfl, _⟩ := hw
    go_wp2_with fail
    go_ret2
    exact HW.out.as
  have e2 : (kind == 2) = false := by simp [k2]
  by_cases k3 : kind = 3
  · subst k3
    unfold DS.act
    simp only [Act0.val]
    go_enter Try.func17, Try.ntmps17
    go_wp2_with fail
    refine (rfail_calls hd _ _ a2 a3 (by omega)).mono ?_
    rintro e w1 hw
    have HW := Lib.hid (RTurns.from_box hB hw)
    obtain ⟨rfl, _⟩ := hw
    go_wp2_with fail
    go_ret2
    exact HW.out.as
  have e3 : (kind == 3) = false := by simp [k3]
  by_cases k4 : kind = 4
  · subst k4
    unfold DS.act
    simp only [Act0.val]
    go_enter Try.func17, Try.ntmps17
    go_wp2_with fail
    refine (rstart_calls hd).mono ?_
    rintro e w1 hw
    have HW := Lib.hid (RTurns.from_box hB hw)
    obtain ⟨rfl, _⟩ := hw
    go_wp2_with fail
    go_ret2
    exact HW.out.as
  have e4 : (kind == 4) = false := by simp [k4]
  by_cases k5 : kind = 5
  · subst k5
    unfold DS.act
    simp only [Act0.val]
    go_enter Try.func17, Try.ntmps17
    go_wp2_with fail
    refine (rarm_calls hd _ _ _ a4 a2 a3).mono ?_
    rintro e w1 hw
    have HW := Lib.hid (RTurns.from_box hB hw)
    obtain ⟨rfl, _⟩ := hw
    go_wp2_with fail
    go_ret2
    exact HW.out.as
  have e5 : (kind == 5) = false := by simp [k5]
  by_cases k6 : kind = 6
  · subst k6
    unfold DS.act
    simp only [Act0.val]
    go_enter Try.func17, Try.ntmps17
    go_wp2_with fail
    refine (rrot_calls hd _ _ _).mono ?_
    rintro e w1 hw
    have HW := Lib.hid (RTurns.from_box hB hw)
    obtain ⟨rfl, _⟩ := hw
    go_wp2_with fail
    go_ret2
    exact HW.out.as
  have e6 : (kind == 6) = false := by simp [k6]
  by_cases k7 : kind = 7
  · subst k7
    unfold DS.act
    simp only [Act0.val]
    go_enter Try.func17, Try.ntmps17
    go_wp2_with fail
    refine (rraw_calls hd).mono ?_
    rintro e w1 ⟨rfl, hw⟩
    have HW := Lib.hid hw
    clear hw
    go_wp2_with fail
    go_ret2
    exact RTurns.from_box hB (RTurns.self hd HW.out)
  have e7 : (kind == 7) = false := by simp [k7]
  have HE : Hid (st.act ⟨kind, sector, bytes, text, odd, after⟩ = (st, emptyB, 0)) := by
    show _ = _
    unfold DS.act
    simp only [k0, k1, k2, k3, k4, k5, k6, k7, if_false]
  clear k0 k1 k2 k3 k4 k5 k6 k7
  simp only [Act0.val]
  go_enter Try.func17, Try.ntmps17
  go_wp2_with fail
  go_ret2
  rw [HE.out]
  exact RTurns.from_box hB (RTurns.self hd (Below.refl _ _))
end Go.Proofs.Ytbjomjlchafkfaa
