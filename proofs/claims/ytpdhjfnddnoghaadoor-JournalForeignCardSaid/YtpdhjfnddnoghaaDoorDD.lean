/- The disk's count, at, Start, Arm, New, Sync.
   Conditions: the disk lies in memory as DiskAt says. -/
import Derived.Test.YtpdhjfnddnoghaaDoorDC
namespace Go.Proofs.YtpdhjfnddnoghaaDoor
open Go.RowKit Go.Lib
set_option linter.unusedVariables false

theorem Turns.self {w w' : World} {F : Nat → Prop} {p : Nat} {st : DS} {v : Value} (h : DiskAt w F p st) (hb : Below w.heap.size w w') : Turns w F p st v (.returned v) w' :=
  ⟨rfl, F, h.below hb, Upd.of_below hb F, fun k hk => .inl hk⟩

theorem count_tick {w : World} {F : Nat → Prop} {p s k : Nat} {qv : Value} {st : DS} {a x y : Int} (hc : Cells w p s qv (some k) st) (f1 : F p) (f2 : F s) (f3 : ∀ k, qv.ownBlock = some k → F k) (f4 : F k) (f5 : ∀ k, F k → k < w.heap.size)
    (har : st.armed = some (a, x, y)) (h0 : 0 < a) : Turns w F p st.count.1 (.int .i64 st.count.2) (.returned (.int .i64 0)) (w.setCell ⟨k, 0, none⟩ (.int .i64 (a - 1))) := by
  have e1 : st.count = ({ st with armed := some (a - 1, x, y) }, 0) := by unfold DS.count; rw [har]; simp [h0]
  have hwf := hc.wf.count
  rw [e1] at hwf ⊢
  have ha := hc.da
  rw [har] at ha
  have hka : w.heap[k]? = some (.cells #[.int .i64 a, .int .i64 x, .int .i64 y] 88 (0, 0)) := ha
  have hkp : p ≠ k := ne_of_type hc.dp hka (by decide)
  have hks : s ≠ k := ne_of_type hc.ds hka (by decide)
  refine ⟨rfl, F, ⟨s, qv, some k, ⟨?_, ?_, own_same hc.dq fun j hj => Below.heap_setCell _ _ _ _ ?_, ?_, hwf⟩, f1, f2, f3, fun j hj => by injection hj with hj; subst hj; exact f4, fun j hj => ?_⟩, (Upd.refl _ _).setCell _ (.inl f4) _, fun j hj => .inl hj⟩
  · rw [Below.heap_setCell _ _ _ _ hkp]; exact hc.dp
  · rw [Below.heap_setCell _ _ _ _ hks]; exact hc.ds
  · obtain ⟨c, hc'⟩ := own_type hc.dq hj
    exact ne_of_type hc' hka (by decide)
  · exact Go.heap_setCell_same _ _ 0 _ _ _ hka
  · have := f5 j hj; simpa [World.setCell] using this

set_option maxHeartbeats 400000 in
theorem count_calls {w : World} {F : Nat → Prop} {p : Nat} {st : DS} (h : DiskAt w F p st) (hql : st.queue.length ≤ 1000000) :
    Calls Tryd.prog 49 #[.pointer (some ⟨p, 0, none⟩)] w (Turns w F p st.count.1 (.int .i64 st.count.2)) := by
  have h' := h
  obtain ⟨s, qv, av, hc, f1, f2, f3, f4, f5⟩ := h
  obtain ⟨c0, c1, c2, c3, c4, c5⟩ := hc.p4
  have hda := hc.da
  cases har : st.armed with
  | none =>
    rw [har] at hda
    obtain rfl : av = none := by cases av with | none => rfl | some k => exact hda.elim
    have e1 : st.count = (st, 0) := by unfold DS.count; rw [har]
    rw [e1]
    have c3' : w.cell? ⟨p, 3, none⟩ = some (.pointer none) := c3
    clear c3 hda har e1
    go_enter Tryd.func49, Tryd.ntmps49
    go_wp2
    go_ret
    exact Turns.self h' (Below.refl _ _)
  | some axy =>
    obtain ⟨a, x, y⟩ := axy
    rw [har] at hda
    obtain ⟨k, rfl⟩ : ∃ k, av = some k := by cases av with | none => exact hda.elim | some k => exact ⟨k, rfl⟩
    have hka : w.heap[k]? = some (.cells #[.int .i64 a, .int .i64 x, .int .i64 y] 88 (0, 0)) := hda
    have c3' : w.cell? ⟨p, 3, none⟩ = some (.pointer (some ⟨k, 0, none⟩)) := c3
    have k0 : w.cell? ⟨k, 0, none⟩ = some (.int .i64 a) := cell_blk hka 0
    have k1 : w.cell? ⟨k, 1, none⟩ = some (.int .i64 x) := cell_blk hka 1
    have k2 : w.cell? ⟨k, 2, none⟩ = some (.int .i64 y) := cell_blk hka 2
    have k3 : ∀ o, w.frozen? ⟨k, o, none⟩ = false := fun o => free_blk hka o
    have hr := hc.wf.ar _ _ _ har
    obtain ⟨r0, r1, r2, r3⟩ := hr
    have r1' := r1
    unfold i64ok at r1'
    have HR := Lib.hid har
    have HC := Lib.hid hc
    clear hda hka c3 har hc
    by_cases h0 : 0 < a
    · go_enter Tryd.func49, Tryd.ntmps49
      go_wp2
      go_ret
      exact count_tick HC.out f1 f2 f3 (f4 k rfl) f5 HR.out h0
    · obtain rfl : a = 0 := by omega
      have e1 : Hid (st.count = (st.fail x y, 26)) := by show _ = _; unfold DS.count; rw [HR.out]; simp
      go_enter Tryd.func49, Tryd.ntmps49
      go_wp2_with fail
      go_region_with (go_at_call 13; refine (fail_calls (h'.below (below_drew (Below.refl _ _))) x y r2 r3 hql).mono ?_; rintro e w2 ⟨rfl, hw2⟩)
      all_goals
        have HW := Lib.hid hw2
        clear hw2
        go_wp2_with fail
        go_ret
        rw [e1.out]
        exact Turns.since (F := F) ⟨rfl, HW.out⟩ (Upd.refl _ _).drew
end Go.Proofs.YtpdhjfnddnoghaaDoor
