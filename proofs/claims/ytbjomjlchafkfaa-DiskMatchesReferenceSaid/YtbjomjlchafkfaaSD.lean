/- The reference's disk: Write, Read.
   Conditions: it lies in memory as RefAt says; at most 1000000 writes are pending. -/
import Derived.Test.YtbjomjlchafkfaaSC
namespace Go.Proofs.Ytbjomjlchafkfaa
open Go.RowKit Go.Lib
set_option linter.unusedVariables false

theorem Try.infoRPend : (Try.prog.info? 72).map (fun i => (i.zero, i.size, i.bytes)) = some (some (.agg #[.int .i64 0, .string ByteArray.empty]), 2, 24) := by kernel_rfl
theorem one_rpend (x : Int) (t : ByteArray) : ∀ u ∈ ([.int .i64 x, .string t] : List Value), u.oneCell' = true := by
  intro u hu
  simp only [List.mem_cons, List.not_mem_nil, or_false] at hu
  rcases hu with rfl | rfl <;> rfl
/-- behind an append to the pending writes the disk's struct and its sectors read as they did -/
theorem rfar {w w2 : World} {p : Nat} {o : Obj} {sv pv : Value} {a x y : Int} {st : DS} (hc : RCells w p sv pv a x y st) (hg : (w.alloc o).grownBy w2 pv.ownBlock) {k : Nat} {c : Array Value} {T : TypeId} (hk : w.heap[k]? = some (.cells c T (0, 0))) (hT : T ≠ 72) : w2.heap[k]? = w.heap[k]? := by
  have hlt := blk_lt hk
  rw [hg.block k (by simp; omega) ?_]
  · exact Below.heap_alloc _ _ _ hlt
  · intro e
    obtain ⟨c', hc'⟩ := own_type hc.dq e.symm
    exact ne_of_type hk hc' hT rfl
theorem rpush_fin {w w2 : World} {F : Nat → Prop} {p g cap : Nat} {sv pv : Value} {a x y : Int} {st : DS} {sec : Int} {t : ByteArray} {o : Obj} (hc : RCells w p sv pv a x y st) (hv : st.valid sec = true) (ht : t.size = 64)
    (hown : w2.ownsRow 0 72 2 (.slice (some ⟨g, 0, none⟩) (st.queue.length + 1) cap) (st.queue.length + 1) (pCells st.queue ++ [.int .i64 sec, .string t]))
    (hg : (w.alloc o).grownBy w2 pv.ownBlock) (hor : pv.ownBlock = some g ∨ g = w.heap.size + 1)
    (f1 : F p) (f2 : ∀ k, sv.ownBlock = some k → F k) (f3 : ∀ k, pv.ownBlock = some k → F k) (f5 : ∀ k, F k → k < w.heap.size) :
    ∃ F', RefAt (w2.setCell ⟨p, 1, none⟩ (.slice (some ⟨g, 0, none⟩) (st.queue.length + 1) cap)) F' p { st with queue := st.queue ++ [(sec.toNat, t)] } ∧
      Upd F w (w2.setCell ⟨p, 1, none⟩ (.slice (some ⟨g, 0, none⟩) (st.queue.length + 1) cap)) ∧ ∀ k, F' k → F k ∨ w.heap.size ≤ k := by
  have hv1 : 0 ≤ sec ∧ sec < st.sect.length := by simpa [DS.valid] using hv
  have hp2 := (rfar hc hg hc.dp (by decide)).trans hc.dp
  have hset := Go.heap_setCell_same _ _ 1 _ _ (.slice (some ⟨g, 0, none⟩) (st.queue.length + 1) cap) hp2
  have hsz := hg.size
  have hglt := (hown.lt g rfl).2
  have hgp : g ≠ p := by
    obtain ⟨c, hcc⟩ := own_type hown (k := g) rfl
    exact ne_of_type hcc hp2 (by decide)
  have hu : Upd F w w2 := Upd.grown ((Upd.refl F w).alloc o) hg fun k hk => .inl (f3 k hk)
  have hq : pCells (st.queue ++ [(sec.toNat, t)]) = pCells st.queue ++ [.int .i64 sec, .string t] := by
    rw [pCells_append]
    have e : ((sec.toNat : Nat) : Int) = sec := by omega
    simp [pCells, pCell, e]
  refine ⟨fun k => F k ∨ k = g, ⟨sv, _, a, x, y, ⟨hset, ?_, ?_, hc.nm, hc.wf.push sec t hv ht⟩, .inl f1, fun k hk => .inl (f2 k hk), fun k hk => .inr (by simpa [Value.ownBlock] using hk.symm), fun k hk => ?_⟩, hu.setCell _ (.inl f1) _, fun k hk => ?_⟩
  · exact own_same hc.ds fun k hk => by
      obtain ⟨c, hcc⟩ := own_type hc.ds hk
      rw [Below.heap_setCell _ _ _ _ (ne_of_type hcc hc.dp (by decide))]
      exact rfar hc hg hcc (by decide)
  · show World.ownsRow _ _ _ _ _ (st.queue ++ [(sec.toNat, t)]).length _
    rw [List.length_append, hq]
    exact own_same hown fun k hk => Below.heap_setCell _ _ _ _ (by
      have e : g = k := by simpa [Value.ownBlock] using hk
      exact e ▸ hgp)
  · have hsz2 : w.heap.size ≤ w2.heap.size := hu.size
    rcases hk with hk | rfl
    · have := f5 k hk; simp [World.setCell]; omega
    · simp [World.setCell]; omega
  · rcases hk with hk | rfl
    · exact .inl hk
    · rcases hor with h | h
      · exact .inl (f3 k h)
      · exact .inr (by omega)

set_option maxHeartbeats 400000 in
theorem rwrite_calls {w : World} {F : Nat → Prop} {p : Nat} {st : DS} (h : RefAt w F p st) (hql : st.queue.length < 1000000) (sec : Int) (t : ByteArray) :
    Calls Try.prog 33 #[.pointer (some ⟨p, 0, none⟩), .int .i64 sec, .string t] w (RTurns w F p (st.write sec t).1 (.int .i64 (st.write sec t).2)) := by
  have h' := h
  obtain ⟨sv, pv, a, x, y, hc, f1, f2, f3, f5⟩ := h
  obtain ⟨c0, c1, c2, c3, c4, c5, c6, c7, c8⟩ := hc.p7
  obtain ⟨As, caps, rfl⟩ := row_form hc.ds
  by_cases ho : st.off = true
  · rw [ho] at c2
    simp only [Bool.not_true] at c2
    have HE : Hid (st.write sec t = (st, 26)) := by show _ = _; unfold DS.write; rw [if_pos ho]
    clear ho hc c0 c1 c3 c4 c5 c6
    go_enter Try.func33, Try.ntmps33
    go_wp2
    go_ret
    rw [HE.out]
    exact RTurns.self h' (Below.refl _ _)
  · have ho' : st.off = false := by simpa using ho
    rw [ho'] at c2
    simp only [Bool.not_false] at c2
    have HC := Lib.hid hc
    clear hc ho c3 c4 c5 c6
    by_cases hv : st.valid sec = true ∧ t.size = 64
    · obtain ⟨hv, ht⟩ := hv
      have HE : Hid (st.write sec t = DS.count { st with queue := st.queue ++ [(sec.toNat, t)] }) := by show _ = _; unfold DS.write; rw [ho', hv]; simp [ht]
      have hv1 : 0 ≤ sec ∧ sec < st.sect.length := by simpa [DS.valid] using hv
      obtain ⟨v1, v2⟩ := hv1
      have HV := Lib.hid hv
      have HT := Lib.hid ht
      have ht1 : ((t.size : Int) != 64) = false := by simp [ht]
      clear hv ht ho'
      obtain ⟨i0, hi, hz0, hzz1, hz2⟩ := info_parts Try.infoRPend
      go_enter Try.func33, Try.ntmps33
      go_wp2_with (at_builtin; refine wpList_append_lies _ rfl _ _ 61 rfl 0 72 i0 _ 2 24 Try.underlying61 hi hz0 hzz1 hz2 rfl (by omega) pv st.queue.length (pCells st.queue) rfl (HC.out.dq.alloc _) ⟨w.heap.size, 0, none⟩ 1 1 [.int .i64 sec, .string t] rfl rfl (World.news_of_block (heap_alloc_new w _)) (one_rpend _ _) (by omega) (by simp only [maxLen]; omega) (by omega) (Nat.zero_le _) (w.heap.size + 1) (by simp) ?_; intro g cap w2 hown hg hor hlt; have u0 := (rfar HC.out hg HC.out.dp (by decide)).trans HC.out.dp; have u1 := cell_blk u0 1; have u2 := free_blk u0; have u3 := blk_lt u0; have HW := Lib.hid hown; have HG := Lib.hid hg; have HR := Lib.hid hor; clear hown hg hor u0)
      obtain ⟨F', hd, hu, hF⟩ := rpush_fin HC.out HV.out HT.out HW.out HG.out HR.out f1 f2 f3 f5
      have HD := Lib.hid hd
      have HU := Lib.hid hu
      clear hd hu u1 u2
      refine (rcount_calls HD.out (by simp; omega)).mono ?_
      rintro e w3 ht3
      have HT3 := Lib.hid (RTurns.after HU.out hF ht3)
      obtain ⟨rfl, _⟩ := ht3
      go_wp2_with fail
      go_ret
      rw [HE.out]
      exact HT3.out
    · have HE : Hid (st.write sec t = (st, 1)) := by
        show _ = _
        unfold DS.write
        rw [ho', if_neg (by decide)]
        by_cases hv1 : st.valid sec = true
        · rw [if_neg (by simp [hv1]), if_pos (fun e => hv ⟨hv1, e⟩)]
        · rw [if_pos (by simpa using hv1)]
      have key : sec < 0 ∨ (0 ≤ sec ∧ (st.sect.length : Int) ≤ sec) ∨ (0 ≤ sec ∧ sec < st.sect.length ∧ t.size ≠ 64) := by
        simp only [DS.valid, Bool.and_eq_true, decide_eq_true_eq] at hv
        omega
      clear hv ho' c1
      rcases key with k1 | ⟨k1, k2⟩ | ⟨k1, k2, k3⟩
      · go_enter Try.func33, Try.ntmps33
        go_wp2_with fail
        go_ret
        rw [HE.out]
        exact RTurns.self h' (Below.refl _ _)
      · go_enter Try.func33, Try.ntmps33
        go_wp2_with fail
        go_ret
        rw [HE.out]
        exact RTurns.self h' (Below.refl _ _)
      · have k4 : ((t.size : Int) != 64) = true := by simp; omega
        clear k3
        go_enter Try.func33, Try.ntmps33
        go_wp2_with fail
        go_ret
        rw [HE.out]
        exact RTurns.self h' (Below.refl _ _)

/-! ### Read -/
def RReadPost (w : World) (t : ByteArray) (c : Int) (e : Ending) (w' : World) : Prop := e = .returned (.tuple #[.string t, .int .i64 c]) ∧ w' = w
theorem read_step (s : List ByteArray) (q : List (Nat × ByteArray)) (k i : Nat) (hk : k < q.length) (hi : i < s.length) :
    (settle s (q.take (k + 1)))[i]? = if q[k].1 = i then some q[k].2 else (settle s (q.take k))[i]? := by
  rw [settle_snoc s q k hk]
  split
  · rename_i e; rw [e, List.getElem?_set_self (by rw [settle_length]; exact hi)]
  · rename_i e; rw [List.getElem?_set_ne e]
set_option maxHeartbeats 400000 in
theorem rread_calls {w : World} {F : Nat → Prop} {p : Nat} {st : DS} (h : RefAt w F p st) (hql : st.queue.length ≤ 1000000) (sec : Int) :
    Calls Try.prog 19 #[.pointer (some ⟨p, 0, none⟩), .int .i64 sec] w (RReadPost w (st.read sec).1 (st.read sec).2) := by
  obtain ⟨sv, pv, a, x, y, hc, f1, f2, f3, f5⟩ := h
  obtain ⟨c0, c1, c2, c3, c4, c5, c6, c7, c8⟩ := hc.p7
  obtain ⟨As, caps, rfl⟩ := row_form hc.ds
  by_cases ho : st.off = true
  · rw [ho] at c2
    simp only [Bool.not_true] at c2
    have HE : Hid (st.read sec = (emptyB, 26)) := by show _ = _; unfold DS.read; rw [if_pos ho]
    clear ho hc c0 c1 c3 c4 c5 c6
    go_enter Try.func19, Try.ntmps19
    go_wp2
    go_ret2
    rw [HE.out]
    exact ⟨rfl, rfl⟩
  · have ho' : st.off = false := by simpa using ho
    rw [ho'] at c2
    simp only [Bool.not_false] at c2
    by_cases hv : st.valid sec = true
    · have hv1 : 0 ≤ sec ∧ sec < st.sect.length := by simpa [DS.valid] using hv
      obtain ⟨i, rfl⟩ := Int.eq_ofNat_of_zero_le hv1.1
      have hi : i < st.sect.length := by omega
      have hii : (i : Int) < st.sect.length := by omega
      obtain ⟨gs, caps', hsv, hgsl, hgss⟩ := hc.ds.form (by omega)
      injection hsv with hs1 hs2 hs3
      subst hs1
      have s0 := strs_at hc.ds i hi
      have HE : Hid (st.read i = (st.all.getD i emptyB, 0)) := by show _ = _; unfold DS.read; rw [ho', if_pos hv]; rfl
      have HC := Lib.hid hc
      obtain ⟨Aq, capq, rfl⟩ := row_form hc.dq
      clear hc ho ho' hv hv1 c3 c4 c5 c6 hs2 hs3
      go_enter Try.func19, Try.ntmps19
      go_wp2_with fail
      go_loopw [6, 7] (fun o v wr => ∃ (k : Nat) (t : ByteArray), k ≤ st.queue.length ∧ v = .int .i64 k ∧ o = .string t ∧ (settle st.sect (st.queue.take k))[i]? = some t ∧ wr = w) (fun _ v _ => st.queue.length - (intOf v).toNat)
      case atStart => exact ⟨0, _, Nat.zero_le _, rfl, rfl, List.getElem?_eq_getElem hi, rfl⟩
      case round =>
        obtain ⟨k, t, hk, rfl, rfl, hs, rfl⟩ := hrel
        have HS := Lib.hid hs
        clear hs
        by_cases hlt : k < st.queue.length
        · have hdq : wr.ownsRow 0 72 2 (.slice Aq st.queue.length capq) st.queue.length (pCells st.queue) := HC.out.dq
          obtain ⟨g, cap', e, hgl, hgs⟩ := hdq.form (by omega)
          injection e with e3 e4 e5
          subst e3 e5
          obtain ⟨x0, x1⟩ := pend2 hdq k hlt
          have HR := Lib.hid (read_step st.sect st.queue k i hlt hi)
          clear e4 hgl hdq
          by_cases he : st.queue[k].1 = i
          · have hb : ((st.queue[k].1 : Int) == (i : Int)) = true := by simp [he]
            have HN := HR.out
            rw [if_pos he] at HN
            have HN2 := Lib.hid HN
            clear he HN
            go_wp2_with fail
            go_roundw
            case rel => exact ⟨k + 1, _, by omega, by go_num, rfl, HN2.out, trivial⟩
            case measure => simp [intOf]; omega
          · have hb : ((st.queue[k].1 : Int) == (i : Int)) = false := by simp; omega
            have HN := HR.out
            rw [if_neg he, HS.out] at HN
            have HN2 := Lib.hid HN
            clear he HN
            go_wp2_with fail
            go_roundw
            case rel => exact ⟨k + 1, _, by omega, by go_num, rfl, HN2.out, trivial⟩
            case measure => simp [intOf]; omega
        · obtain rfl : k = st.queue.length := by omega
          have HL : Hid (st.all.getD i emptyB = t) := by
            show _ = _
            have := HS.out
            rw [List.take_of_length_le (Nat.le_refl _)] at this
            unfold DS.all
            rw [List.getD_eq_getElem?_getD, this]
            rfl
          go_wp2_with fail
          go_ret2
          rw [HE.out, HL.out]
          exact ⟨rfl, rfl⟩
    · have hv' : st.valid sec = false := by simpa using hv
      have HE : Hid (st.read sec = (emptyB, 1)) := by show _ = _; unfold DS.read; rw [ho', hv']; rfl
      have key : sec < 0 ∨ (0 ≤ sec ∧ (st.sect.length : Int) ≤ sec) := by
        simp only [DS.valid, Bool.and_eq_true, decide_eq_true_eq] at hv
        omega
      clear hv hv' ho ho' hc c1 c3 c4 c5 c6
      rcases key with k1 | ⟨k1, k2⟩
      all_goals
        go_enter Try.func19, Try.ntmps19
        go_wp2_with fail
        go_ret2
        rw [HE.out]
        exact ⟨rfl, rfl⟩
end Go.Proofs.Ytbjomjlchafkfaa
