/- The disk's Fail.
   Conditions: the disk lies in memory as DiskAt says. -/
import Derived.Test.YtpdhjfnddnoghaaDoorDB
namespace Go.Proofs.YtpdhjfnddnoghaaDoor
open Go.RowKit Go.Lib
set_option linter.unusedVariables false

attribute [local go_sem high] max2_num min2_num max_of_two min_of_two

theorem fail_nil (w : World) (a b : Int) :
    Calls Tryd.prog 13 #[.pointer none, .int .i64 a, .int .i64 b] w fun e w' => e = .returned (.tuple #[]) ∧ w = w' := by
  go_enter Tryd.func13, Tryd.ntmps13
  go_wp2
  refine bodyPost_ret (v := .tuple #[]) (results_none rfl _ _ _) rfl ⟨rfl, rfl⟩

theorem qCells_take (q : List (Nat × ByteArray)) (n : Nat) : (qCells q).take (n * 3) = qCells (q.take n) := by
  induction q generalizing n with
  | nil => simp [qCells]
  | cons x q ih =>
    cases n with
    | zero => simp [qCells]
    | succ n =>
      rw [List.take_succ_cons, show qCells (x :: q) = qCell x ++ qCells q from rfl, show qCells (x :: q.take n) = qCell x ++ qCells (q.take n) from rfl, ← ih n, List.take_append]
      rw [List.take_of_length_le (by simp [qCell]; omega)]
      simp [qCell, show (n + 1) * 3 - 3 = n * 3 from by omega]
theorem own_cap {w : World} {base : Nat} {e : TypeId} {size n : Nat} {A : Option Addr} {cap : Nat} {xs : List Value} (h : w.ownsRow base e size (.slice A n cap) n xs) : n ≤ cap := by
  rcases h.2 with ⟨h1, h2⟩ | ⟨g, cap', cur, h1, _, _, h4, _⟩
  · omega
  · injection h1 with _ _ h1; omega

theorem extract_take (t : ByteArray) (j : Nat) : (t.extract 0 j).data.toList = t.data.toList.take j := by
  simp

theorem below_drew {B : Nat} {w W : World} (h : Below B w W) : Below B w W.drew := ⟨h.os, h.tape, h.output, h.size, h.block⟩

theorem fail_fin {w w1 : World} {F : Nat → Prop} {p s : Nat} {qv qv' : Value} {av : Option Nat} {st : DS} (hc : Cells w p s qv av st) (f1 : F p) (f2 : F s) (f5 : ∀ k, F k → k < w.heap.size) (a b : Int) (ho : st.off = false)
    (hc1 : Cells w1 p s qv' av { st with sect := st.failSect a b }) (hu : Upd F w w1) :
    Turns w F p (st.fail a b) (.tuple #[]) (.returned (.tuple #[])) (((w1.setCell ⟨p, 1, none⟩ (.slice none 0 0)).setCell ⟨p, 2, none⟩ (.bool true)).setCell ⟨p, 3, none⟩ (.pointer none)) := by
  have hps : s ≠ p := ne_of_type hc1.ds hc1.dp (by decide)
  have he : st.fail a b = ⟨st.failSect a b, [], true, none⟩ := by unfold DS.fail; rw [ho]; rfl
  rw [he]
  refine ⟨rfl, F, ⟨s, _, none, hc1.blank true ?_ ?_, f1, f2, fun k hk => by simp [Value.ownBlock] at hk, fun k hk => by simp at hk, fun k hk => ?_⟩, ((hu.setCell _ (.inl f1) _).setCell _ (.inl f1) _).setCell _ (.inl f1) _, fun k hk => .inl hk⟩
  · have h1 := Go.heap_setCell_same _ _ 1 _ _ (.slice none 0 0) hc1.dp
    have h2 := Go.heap_setCell_same _ _ 2 _ _ (.bool true) h1
    exact Go.heap_setCell_same _ _ 3 _ _ (.pointer none) h2
  · rw [Below.heap_setCell _ _ _ _ hps, Below.heap_setCell _ _ _ _ hps, Below.heap_setCell _ _ _ _ hps]
  · have := f5 k hk
    have := hu.size
    simp [World.setCell]
    omega

set_option maxHeartbeats 400000 in
theorem fail_calls {w : World} {F : Nat → Prop} {p : Nat} {st : DS} (h : DiskAt w F p st) (a b : Int) (ha : i64ok a) (hb : i64ok b) (hql : st.queue.length ≤ 1000000) :
    Calls Tryd.prog 13 #[.pointer (some ⟨p, 0, none⟩), .int .i64 a, .int .i64 b] w (Turns w F p (st.fail a b) (.tuple #[])) := by
  obtain ⟨s, qv, av, hc, f1, f2, f3, f4, f5⟩ := h
  have c0 := cell_blk hc.dp 0
  have c1 := cell_blk hc.dp 1
  have c2 := cell_blk hc.dp 2
  have c3 := cell_blk hc.dp 3
  simp only [List.getElem?_toArray, List.getElem?_cons_zero, List.getElem?_cons_succ] at c0 c1 c2 c3
  obtain ⟨A, cap, rfl⟩ : ∃ A cap, qv = .slice A st.queue.length cap := by
    rcases hc.dq.2 with ⟨h1, h2⟩ | ⟨g, cap, cur, h1, _⟩
    · exact ⟨none, 0, by rw [h1, h2]⟩
    · exact ⟨_, cap, h1⟩
  by_cases ho : st.off = true
  · rw [ho] at c2
    have HF : Hid (st.fail a b = st) := by unfold DS.fail; rw [if_pos ho]; exact rfl
    have HC := Lib.hid hc
    clear hc ho
    go_enter Tryd.func13, Tryd.ntmps13
    go_wp2
    refine bodyPost_ret (v := .tuple #[]) (results_none rfl _ _ _) rfl ?_
    rw [HF.out]
    exact ⟨rfl, F, ⟨s, _, av, HC.out, f1, f2, f3, f4, f5⟩, Upd.refl _ _, fun k hk => .inl hk⟩
  · have ho' : st.off = false := by simpa using ho
    rw [ho'] at c2
    unfold i64ok at ha hb
    obtain ⟨n, hn⟩ : ∃ n, clamp a st.queue.length = n := ⟨_, rfl⟩
    have hnl : n ≤ st.queue.length := by rw [← hn]; exact clamp_le _ _
    have e1 : mn (mx a 0) (st.queue.length : Int) = (n : Int) := by rw [clamp_eq, hn]
    have hcap : st.queue.length ≤ cap := own_cap hc.dq
    have HN := Lib.hid hn
    have hlq := own_take hc.dq n hnl
    rw [qCells_take] at hlq
    have hnc : n ≤ cap := by omega
    clear hn
    go_enter Tryd.func13, Tryd.ntmps13
    go_wp2_with fail
    refine (settle_calls hc A n cap (st.queue.take n) (by rw [List.length_take]; omega) (fun x hx => hc.wf.q64 x (List.mem_of_mem_take hx)) hlq (by omega)).mono ?_
    rintro e w1 ⟨rfl, hc1, hg1⟩
    obtain ⟨d0, d1, d2, d3, d4, d5⟩ := hc1.p4
    have HC1 := Lib.hid hc1
    have HG1 := Lib.hid hg1
    clear hc1 hg1 c0 c1 c2 c3
    simp only at d0 d1 d2 d3
    by_cases hlt : n < st.queue.length
    · obtain ⟨j, hj⟩ : ∃ j, clamp b 64 = j := ⟨_, rfl⟩
      have hj64 : j ≤ 64 := by rw [← hj]; exact clamp_le _ _
      have e2 : mn (mx b 0) 64 = (j : Int) := by rw [← hj]; exact clamp_eq b 64
      have HJ := Lib.hid hj
      clear hj
      have hlq1 : w1.ownsRow 0 60 3 (.slice A st.queue.length cap) st.queue.length (qCells st.queue) := HC1.out.dq
      obtain ⟨g, cap', e, hgl, hgs⟩ := hlq1.form (by omega)
      injection e with e3 e4 e5
      subst e3 e5
      obtain ⟨x0, x1, x2⟩ := pend_cells hlq1 n hlt
      clear e4 hgl
      have hw := HC1.out.wf
      have hx := hc.wf.q64 st.queue[n] (List.getElem_mem hlt)
      obtain ⟨hx1, hx2⟩ := hx
      have hx2' := hx2
      have HX := Lib.hid hx2
      have hx3 : j ≤ st.queue[n].2.size := by omega
      clear hx2 hw hlq hlq1
      have hfs : Hid (st.failSect a b = tearAt (settle st.sect (st.queue.take n)) (st.queue[n].1, st.queue[n].2) j) := by
        show _ = _
        unfold DS.failSect
        rw [HN.out, HJ.out, List.getElem?_eq_getElem hlt]
      by_cases hj0 : 0 < j
      · go_wp2_with fail
        go_region_with (go_at_call 26; refine (set_calls (HC1.out.below ((below_drew ((Below.refl _ _).alloc (Nat.le_refl _) _)))) st.queue[n].1 (by show _ < (settle _ _).length; rw [settle_length]; exact hx1) st.queue[n].2 _ HX.out j hj64 (extract_take _ _) _ _ rfl rfl).mono ?_; rintro e w2 ⟨rfl, hc2, hg2⟩)
        all_goals
          obtain ⟨_, y1, y2, y3, y4, y5⟩ := hc2.p4
          have HC2 := Lib.hid hc2
          have HG2 := Lib.hid hg2
          clear hc2 hg2 d0 d1 d2 d3 d4 x0 x1 x2
          go_wp2_with fail
          go_end0
          refine fail_fin hc f1 f2 f5 a b ho' (qv' := .slice (some ⟨g, 0, none⟩) st.queue.length cap) (av := av) ?_
            (Upd.grown (Upd.drew (Upd.alloc (Upd.grown (Upd.refl _ _) HG1.out fun k hk => by injection hk with hk; subst hk; exact .inl f2) _)) HG2.out fun k hk => by injection hk with hk; subst hk; exact .inl f2)
          rw [hfs.out]
          exact HC2.out
      · obtain rfl : j = 0 := by omega
        go_wp2_with fail
        go_end0
        refine Turns.alloc (fail_fin hc f1 f2 f5 a b ho' (qv' := .slice (some ⟨g, 0, none⟩) st.queue.length cap) (av := av) ?_ (Upd.grown (Upd.refl _ _) HG1.out fun k hk => by injection hk with hk; subst hk; exact .inl f2)) _
        rw [hfs.out, tearAt_none]
        exact HC1.out
    · obtain rfl : n = st.queue.length := by omega
      go_wp2_with fail
      go_end0
      refine fail_fin hc f1 f2 f5 a b ho' (qv' := .slice A st.queue.length cap) (av := av) ?_ (Upd.grown (Upd.refl _ _) HG1.out fun k hk => by injection hk with hk; subst hk; exact .inl f2)
      have hfs : st.failSect a b = settle st.sect (st.queue.take st.queue.length) := by
        unfold DS.failSect
        rw [HN.out, List.getElem?_eq_none (Nat.le_refl _), List.take_of_length_le (Nat.le_refl _)]
      rw [hfs]
      exact HC1.out
end Go.Proofs.YtpdhjfnddnoghaaDoor
