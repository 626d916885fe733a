/- The disk's at, Start, Arm, New, Sync.
   Conditions: the disk lies in memory as DiskAt says. -/
import Derived.Test.YtpdhjfnddnoghaaDoorDD
namespace Go.Proofs.YtpdhjfnddnoghaaDoor
open Go.RowKit Go.Lib
set_option linter.unusedVariables false

/-- a new block of two cells, behind a call that makes blocks of its own -/
theorem keep_new {w w1 : World} {cs : Array Value} {T : TypeId} (hb : Below (w.alloc (.cells cs T)).heap.size (w.alloc (.cells cs T)) w1) : w1.heap[w.heap.size]? = some (.cells cs T (0, 0)) ∧ w.heap.size < w1.heap.size := by
  have := hb.size
  simp only [World.size_alloc] at this
  exact ⟨(hb.block _ (by simp)).trans (heap_alloc_new w _), by omega⟩
theorem two_cells {w : World} {b : Nat} {x y : Value} {T : TypeId} (h : w.heap[b]? = some (.cells #[x, y] T (0, 0))) : w.cell? ⟨b, 0, none⟩ = some x ∧ w.cell? ⟨b, 1, none⟩ = some y ∧ ∀ o, w.frozen? ⟨b, o, none⟩ = false :=
  ⟨cell_blk h 0, cell_blk h 1, fun o => free_blk h o⟩

theorem at_fin {w w1 : World} {o : Obj} {g : Nat} (hb : Below (w.alloc o).heap.size (w.alloc o) w1) (hg : w.heap.size ≤ g) (x y : Value) (o2 : Obj) : Below w.heap.size w (((w1.setCell ⟨g, 0, none⟩ x).setCell ⟨g, 1, none⟩ y).alloc o2) := by
  have := hb.size
  simp only [World.size_alloc] at this
  have h0 : Below w.heap.size w w1 := ((Below.refl _ _).alloc (Nat.le_refl _) o).trans (hb.mono (by simp))
  exact ((h0.setCell (by exact hg) _).setCell (by exact hg) _).alloc (by simp [World.setCell]; omega) _

theorem at_nil (w : World) (sec : Int) :
    Calls Tryd.prog 48 #[.pointer none, .int .i64 sec] w fun e w' => e = .returned (.tuple #[.agg #[.int .i64 0, .int .i64 0], .int .i64 1]) ∧ Below w.heap.size w w' := by
  go_enter Tryd.func48, Tryd.ntmps48
  go_wp2_with fail
  refine (place_nil _ _).mono ?_
  rintro e w1 ⟨rfl, hb⟩
  obtain ⟨hn, hz⟩ := keep_new hb
  obtain ⟨g1, g2, g3⟩ := two_cells hn
  have HB := Lib.hid hb
  clear hb hn
  go_wp2_with fail
  refine bodyPost_ret (v := .tuple #[.agg #[.int .i64 0, .int .i64 0], .int .i64 1]) ?_ rfl ⟨rfl, ?_⟩
  · simp [results, Tryd.results48, go_sem, g1, g2, hz]
  · exact at_fin HB.out (by simp) _ _ _

theorem at_off {w : World} {p s : Nat} {qv : Value} {av : Option Nat} {st : DS} (hc : Cells w p s qv av st) (ho : st.off = true) (sec : Int) :
    Calls Tryd.prog 48 #[.pointer (some ⟨p, 0, none⟩), .int .i64 sec] w fun e w' => e = .returned (.tuple #[.agg #[.int .i64 0, .int .i64 0], .int .i64 26]) ∧ Below w.heap.size w w' := by
  obtain ⟨c0, c1, c2, c3, c4, c5⟩ := hc.p4
  rw [ho] at c2
  clear ho c0 c1 c3 c4
  go_enter Tryd.func48, Tryd.ntmps48
  go_wp2_with fail
  refine bodyPost_ret (v := .tuple #[.agg #[.int .i64 0, .int .i64 0], .int .i64 26]) ?_ rfl ⟨rfl, ?_⟩
  · simp [results, Tryd.results48, go_sem]
  · exact (Below.refl _ _).alloc (Nat.le_refl _) _

theorem at_no {w : World} {p s : Nat} {qv : Value} {av : Option Nat} {st : DS} (hc : Cells w p s qv av st) (ho : st.off = false) (sec : Int) (hv : st.valid sec = false) :
    Calls Tryd.prog 48 #[.pointer (some ⟨p, 0, none⟩), .int .i64 sec] w fun e w' => e = .returned (.tuple #[.agg #[.int .i64 0, .int .i64 0], .int .i64 1]) ∧ Below w.heap.size w w' := by
  obtain ⟨c0, c1, c2, c3, c4, c5⟩ := hc.p4
  have hn2 := hc.wf.n2
  have HV : Hid (sec < 0 ∨ ((64 * st.sect.length : Nat) : Int) / 64 ≤ sec) := by
    show _ ∨ _
    have : ¬ (0 ≤ sec ∧ sec < st.sect.length) := by intro ⟨h1, h2⟩; simp [DS.valid, h1, h2] at hv
    omega
  rw [ho] at c2
  clear ho c1 c3 c4 hv
  go_enter Tryd.func48, Tryd.ntmps48
  go_wp2_with fail
  refine (place_no _ p _ (64 * st.sect.length) _ (by omega) (((Below.refl w.heap.size w).alloc (Nat.le_refl _) _).cell (p := ⟨p, 0, none⟩) c5 |>.trans c0) _ HV.out).mono ?_
  rintro e w1 ⟨rfl, hb⟩
  obtain ⟨hn, hz⟩ := keep_new hb
  obtain ⟨g1, g2, g3⟩ := two_cells hn
  have HB := Lib.hid hb
  clear hb hn
  go_wp2_with fail
  refine bodyPost_ret (v := .tuple #[.agg #[.int .i64 0, .int .i64 0], .int .i64 1]) ?_ rfl ⟨rfl, ?_⟩
  · simp [results, Tryd.results48, go_sem, g1, g2, hz]
  · exact at_fin HB.out (by simp) _ _ _

theorem at_ok {w : World} {p s : Nat} {qv : Value} {av : Option Nat} {st : DS} (hc : Cells w p s qv av st) (ho : st.off = false) (sec : Int) (hv : st.valid sec = true) :
    Calls Tryd.prog 48 #[.pointer (some ⟨p, 0, none⟩), .int .i64 sec] w fun e w' => e = .returned (.tuple #[.agg #[.int .i64 (sec * 64), .int .i64 ((sec + 1) * 64)], .int .i64 0]) ∧ Below w.heap.size w w' := by
  obtain ⟨c0, c1, c2, c3, c4, c5⟩ := hc.p4
  have hn2 := hc.wf.n2
  have HV : Hid (0 ≤ sec ∧ sec < ((64 * st.sect.length : Nat) : Int) / 64) := by
    show _ ∧ _
    simp only [DS.valid, Bool.and_eq_true, decide_eq_true_eq] at hv
    omega
  rw [ho] at c2
  clear ho c1 c3 c4 hv
  go_enter Tryd.func48, Tryd.ntmps48
  go_wp2_with fail
  refine (place_ok _ p _ (64 * st.sect.length) _ (by omega) (((Below.refl w.heap.size w).alloc (Nat.le_refl _) _).cell (p := ⟨p, 0, none⟩) c5 |>.trans c0) _ HV.out.1 HV.out.2).mono ?_
  rintro e w1 ⟨rfl, hb⟩
  obtain ⟨hn, hz⟩ := keep_new hb
  obtain ⟨g1, g2, g3⟩ := two_cells hn
  have HB := Lib.hid hb
  clear hb
  go_wp2_with fail
  refine bodyPost_ret (v := .tuple #[.agg #[.int .i64 (sec * 64), .int .i64 ((sec + 1) * 64)], .int .i64 0]) ?_ rfl ⟨rfl, ?_⟩
  · clear g1 g2 g3
    have h1 := Go.heap_setCell_same _ _ 0 _ _ (.int .i64 (sec * 64)) hn
    have h2 := Go.heap_setCell_same _ _ 1 _ _ (.int .i64 ((sec + 1) * 64)) h1
    obtain ⟨g1, g2, g3⟩ := two_cells h2
    simp [results, Tryd.results48, go_sem, g1, g2, hz]
  · exact at_fin HB.out (by simp) _ _ _
end Go.Proofs.YtpdhjfnddnoghaaDoor
