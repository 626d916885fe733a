/- The disk's Write.
   Conditions: the disk lies in memory as DiskAt says; fewer than 1000000 writes are pending. -/
import Derived.Test.YtpdhjfnddnoghaaDoorDF
namespace Go.Proofs.YtpdhjfnddnoghaaDoor
open Go.RowKit Go.Lib
set_option linter.unusedVariables false

theorem Tryd.infoPend : (Tryd.prog.info? 60).map (fun i => (i.zero, i.size, i.bytes)) = some (some (.agg #[.int .i64 0, .int .i64 0, .string ByteArray.empty]), 3, 32) := by kernel_rfl

theorem heap_new2 (w : World) (a b : Obj) : ((w.alloc a).alloc b).drew.heap[w.heap.size + 1]? = some b := by
  have := heap_alloc_new (w.alloc a) b
  rw [World.size_alloc] at this
  exact this
theorem one_pend (x y : Int) (t : ByteArray) : ∀ u ∈ ([.int .i64 x, .int .i64 y, .string t] : List Value), u.oneCell' = true := by
  intro u hu
  simp only [List.mem_cons, List.not_mem_nil, or_false] at hu
  rcases hu with rfl | rfl | rfl <;> rfl
/-- behind an append to the queue the disk's struct reads as it did -/
theorem far_blk {w1 w2 : World} {a b : Obj} {p s : Nat} {qv : Value} {av : Option Nat} {st : DS} (hc : Cells w1 p s qv av st) (hg : (((w1.alloc a).alloc b).drew).grownBy w2 qv.ownBlock) {k : Nat} {c : Array Value} {T : TypeId} (hk : w1.heap[k]? = some (.cells c T (0, 0))) (hT : T ≠ 60) : w2.heap[k]? = w1.heap[k]? := by
  have hlt := blk_lt hk
  rw [hg.block k (by show k < ((w1.alloc a).alloc b).heap.size; simp; omega) ?_]
  · show ((w1.alloc a).alloc b).heap[k]? = _
    rw [Below.heap_alloc _ _ _ (by simp; omega), Below.heap_alloc _ _ _ hlt]
  · intro e
    obtain ⟨c', hc'⟩ := own_type hc.dq e.symm
    exact ne_of_type hk hc' hT rfl
theorem far_cell {w1 w2 : World} {a b : Obj} {p s : Nat} {qv : Value} {av : Option Nat} {st : DS} (hc : Cells w1 p s qv av st) (hg : (((w1.alloc a).alloc b).drew).grownBy w2 qv.ownBlock) :
    w2.cell? ⟨p, 1, none⟩ = some qv ∧ w2.frozen? ⟨p, 1, none⟩ = false ∧ p < w2.heap.size := by
  have h := far_blk hc hg hc.dp (by decide)
  rw [hc.dp] at h
  exact ⟨cell_blk h 1, free_blk h 1, blk_lt h⟩

theorem Turns.after {w w1 w' : World} {F F1 : Nat → Prop} {p : Nat} {st : DS} {v : Value} {e : Ending} (h0 : Upd F w w1) (hF : ∀ k, F1 k → F k ∨ w.heap.size ≤ k) (h : Turns w1 F1 p st v e w') : Turns w F p st v e w' := by
  obtain ⟨he, F', hd, hu, hF'⟩ := h
  refine ⟨he, F', hd, h0.trans hu hF, fun k hk => ?_⟩
  rcases hF' k hk with h1 | h1
  · exact hF k h1
  · exact .inr (Nat.le_trans h0.size h1)

theorem push_fin {w w1 w2 : World} {F : Nat → Prop} {p s g cap : Nat} {qv : Value} {av : Option Nat} {st : DS} {sec : Int} {t : ByteArray} {a b : Obj} (h : DiskAt w F p st) (hc : Cells w1 p s qv av st) (hb : Below w.heap.size w w1) (hv : st.valid sec = true) (ht : t.size = 64)
    (hown : w2.ownsRow 0 60 3 (.slice (some ⟨g, 0, none⟩) (st.queue.length + 1) cap) (st.queue.length + 1) (qCells st.queue ++ [.int .i64 (sec * 64), .int .i64 ((sec + 1) * 64), .string t]))
    (hg : (((w1.alloc a).alloc b).drew).grownBy w2 qv.ownBlock) (hor : qv.ownBlock = some g ∨ g = (((w1.alloc a).alloc b).drew).heap.size)
    (f1 : F p) (f2 : F s) (f3 : ∀ k, qv.ownBlock = some k → F k) (f4 : ∀ k, av = some k → F k) (f5 : ∀ k, F k → k < w.heap.size) :
    ∃ F', DiskAt (w2.setCell ⟨p, 1, none⟩ (.slice (some ⟨g, 0, none⟩) (st.queue.length + 1) cap)) F' p { st with queue := st.queue ++ [(sec.toNat, t)] } ∧
      Upd F w (w2.setCell ⟨p, 1, none⟩ (.slice (some ⟨g, 0, none⟩) (st.queue.length + 1) cap)) ∧ ∀ k, F' k → F k ∨ w.heap.size ≤ k := by
  have hsz : (((w1.alloc a).alloc b).drew).heap.size = w1.heap.size + 2 := by show ((w1.alloc a).alloc b).heap.size = _; simp
  have hsz2 := hg.size
  have hbs := hb.size
  rw [hsz] at hor hsz2
  have hp2 := (far_blk hc hg hc.dp (by decide)).trans hc.dp
  have hs2 := (far_blk hc hg hc.ds (by decide)).trans hc.ds
  have hsp : s ≠ p := ne_of_type hc.ds hc.dp (by decide)
  have hgp : g ≠ p := by
    obtain ⟨c, hc'⟩ := own_type hown (k := g) rfl
    exact ne_of_type hc' hp2 (by decide)
  have hv' : 0 ≤ sec ∧ sec < st.sect.length := by simpa [DS.valid] using hv
  have hset := Go.heap_setCell_same _ _ 1 _ _ (.slice (some ⟨g, 0, none⟩) (st.queue.length + 1) cap) hp2
  refine ⟨fun k => F k ∨ k = g, ⟨s, _, av, ⟨hset, ?_, ?_, ?_, hc.wf.push sec t hv ht⟩, .inl f1, .inl f2, fun k hk => ?_, fun k hk => .inl (f4 k hk), fun k hk => ?_⟩, ?_, fun k hk => ?_⟩
  · rw [Below.heap_setCell _ _ _ _ hsp]; exact hs2
  · have e : qCells (st.queue ++ [(sec.toNat, t)]) = qCells st.queue ++ [.int .i64 (sec * 64), .int .i64 ((sec + 1) * 64), .string t] := by
      rw [qCells_append]
      have : ((sec.toNat : Nat) : Int) = sec := by omega
      simp [qCells, qCell, this]
    show World.ownsRow _ 0 _ 3 _ (st.queue ++ [(sec.toNat, t)]).length _
    rw [e, List.length_append, List.length_singleton]
    refine own_same hown fun k hk => Below.heap_setCell _ _ _ _ ?_
    have : g = k := by simpa [Value.ownBlock] using hk
    rw [← this]; exact hgp
  · refine hc.da.same fun k hk => ?_
    subst hk
    obtain ⟨c, hc'⟩ := alarm_type hc.da
    have h1 : k ≠ p := ne_of_type hc' hc.dp (by decide)
    rw [Below.heap_setCell _ _ _ _ h1]
    exact far_blk hc hg hc' (by decide)
  · right; have : g = k := by simpa [Value.ownBlock] using hk
    exact this.symm
  · have hlt := (hown.lt g rfl).2
    rcases hk with hk | rfl
    · have := f5 k hk; simp [World.setCell]; omega
    · simpa [World.setCell] using hlt
  · refine Upd.setCell (Upd.grown (w := ((w1.alloc a).alloc b).drew) (((Upd.of_below hb F).alloc a).alloc b).drew hg fun k hk => .inl (f3 k hk)) _ (.inl f1) _
  · rcases hk with hk | rfl
    · exact .inl hk
    · rcases hor with h1 | h1
      · exact .inl (f3 _ h1)
      · right; omega

theorem write_nil (w : World) (sec : Int) (t : ByteArray) : Calls Tryd.prog 21 #[.pointer none, .int .i64 sec, .string t] w fun e w' => e = .returned (.int .i64 1) ∧ Below w.heap.size w w' := by
  go_enter Tryd.func21, Tryd.ntmps21
  go_wp2_with fail
  refine (at_nil _ _).mono ?_
  rintro e w1 ⟨rfl, hb⟩
  have HB := Lib.hid hb
  clear hb
  go_wp2_with fail
  go_ret
  exact ⟨rfl, HB.out.alloc HB.out.size _⟩

set_option maxHeartbeats 400000 in
theorem write_calls {w : World} {F : Nat → Prop} {p : Nat} {st : DS} (h : DiskAt w F p st) (hql : st.queue.length < 1000000) (sec : Int) (t : ByteArray) :
    Calls Tryd.prog 21 #[.pointer (some ⟨p, 0, none⟩), .int .i64 sec, .string t] w (Turns w F p (st.write sec t).1 (.int .i64 (st.write sec t).2)) := by
  have h' := h
  obtain ⟨s, qv, av, hc, f1, f2, f3, f4, f5⟩ := h
  by_cases ho : st.off = true
  · have HE : Hid (st.write sec t = (st, 26)) := by show _ = _; unfold DS.write; rw [if_pos ho]
    go_enter Tryd.func21, Tryd.ntmps21
    go_wp2_with fail
    refine (at_off hc ho _).mono ?_
    rintro e w1 ⟨rfl, hb⟩
    have HB := Lib.hid hb
    clear hb hc ho
    go_wp2_with fail
    go_ret
    rw [HE.out]
    exact Turns.alloc (Turns.self h' HB.out) _
  · have ho' : st.off = false := by simpa using ho
    clear ho
    by_cases hv : st.valid sec = true
    · by_cases ht : t.size = 64
      · have HE : Hid (st.write sec t = DS.count { st with queue := st.queue ++ [(sec.toNat, t)] }) := by show _ = _; unfold DS.write; rw [ho', hv]; simp [ht]
        have HV := Lib.hid hv
        have HT := Lib.hid ht
        have HO := Lib.hid ho'
        have hn2 := hc.wf.n2
        have hts : ((t.size : Int) == 64) = true := by simp [ht]
        have hts2 : ((t.size : Int) != 64) = false := by simp [ht]
        clear ht
        go_enter Tryd.func21, Tryd.ntmps21
        go_wp2_with fail
        refine (at_ok hc HO.out _ HV.out).mono ?_
        rintro e w1 ⟨rfl, hb⟩
        have hc1 := hc.below hb
        have hz1 := hb.size
        obtain ⟨c0, c1, c2, c3, c4, c5⟩ := hc1.p4
        have HB := Lib.hid hb
        have HC := Lib.hid hc1
        clear hb hc hc1 hv ho'
        go_wp2_with fail
        obtain ⟨i0, hi, hz0, hzz1, hz2⟩ := info_parts Tryd.infoPend
        go_region_law (refine step_append_lies _ rfl (.tmp 25) (.tmp 29) 52 rfl 0 60 i0 _ 3 32 Tryd.underlying52 hi hz0 hzz1 hz2 rfl (by omega) qv st.queue.length (qCells st.queue) rfl (((HC.out.dq.alloc _).alloc _).drew) ⟨w1.heap.size + 1, 0, none⟩ 1 1 [.int .i64 (sec * 64), .int .i64 ((sec + 1) * 64), .string t] rfl rfl (World.news_of_block (heap_new2 w1 _ _)) (one_pend _ _ _) (by omega) (by simp only [maxLen]; omega) (by omega) (Nat.zero_le _) _ rfl ?_; intro g cap w2 hown hg hor hlt; have u1 := (far_cell HC.out hg).1; have u2 := (far_cell HC.out hg).2.1; have u3 := (far_cell HC.out hg).2.2; have HW := Lib.hid hown; have HG := Lib.hid hg; have HR := Lib.hid hor; clear hown hg hor)
        all_goals
          obtain ⟨F', hd, hu, hF⟩ := push_fin h' HC.out HB.out HV.out HT.out HW.out HG.out HR.out f1 f2 f3 f4 f5
          have HD := Lib.hid hd
          have HU := Lib.hid hu
          clear hd hu u1 u2
          go_wp2_with fail
          refine (count_calls HD.out (by simp; omega)).mono ?_
          rintro e w3 ht3
          have HT3 := Lib.hid (Turns.after HU.out hF ht3)
          obtain ⟨rfl, _⟩ := ht3
          go_wp2_with fail
          go_ret
          rw [HE.out]
          exact HT3.out
      · have HE : Hid (st.write sec t = (st, 1)) := by show _ = _; unfold DS.write; rw [ho', hv]; simp [ht]
        have HV := Lib.hid hv
        have HO := Lib.hid ho'
        have hts : ((t.size : Int) == 64) = false := by simp; omega
        have hts2 : ((t.size : Int) != 64) = true := by simp; omega
        clear ht
        go_enter Tryd.func21, Tryd.ntmps21
        go_wp2_with fail
        refine (at_ok hc HO.out _ HV.out).mono ?_
        rintro e w1 ⟨rfl, hb⟩
        have HB := Lib.hid hb
        clear hb hc hv ho'
        go_wp2_with fail
        go_ret
        rw [HE.out]
        exact Turns.alloc (Turns.self h' HB.out) _
    · have hv' : st.valid sec = false := by simpa using hv
      have HE : Hid (st.write sec t = (st, 1)) := by show _ = _; unfold DS.write; rw [ho', hv']; simp
      have HV := Lib.hid hv'
      have HO := Lib.hid ho'
      clear hv hv' ho'
      go_enter Tryd.func21, Tryd.ntmps21
      go_wp2_with fail
      refine (at_no hc HO.out _ HV.out).mono ?_
      rintro e w1 ⟨rfl, hb⟩
      have HB := Lib.hid hb
      clear hb hc
      go_wp2_with fail
      go_ret
      rw [HE.out]
      exact Turns.alloc (Turns.self h' HB.out) _
end Go.Proofs.YtpdhjfnddnoghaaDoor
