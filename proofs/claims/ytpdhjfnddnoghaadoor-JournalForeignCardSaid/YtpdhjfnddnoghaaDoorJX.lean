/- What the steps of the journal's Append hold; its deferred closure.
   Conditions: none. -/
import Derived.Test.YtpdhjfnddnoghaaDoorJV
import Derived.Test.YtpdhjfnddnoghaaDoorJS
namespace Go.Proofs.YtpdhjfnddnoghaaDoor
open Go.RowKit Go.Lib
set_option linter.unusedVariables false
set_option linter.unusedSimpArgs false

theorem DiskAt.setj {w : World} {F : Nat → Prop} {d j : Nat} {st : DS} (hd : DiskAt w F d st) (hj : ¬ F j) (o : Nat) (x : Value) : DiskAt (w.setCell ⟨j, o, none⟩ x) F d st :=
  hd.apart (G := fun k => k = j) ((Upd.refl (fun k => k = j) w).setCell ⟨j, o, none⟩ (.inl rfl) x) fun k hk e => hj (e ▸ hk)
theorem DiskAt.lt {w : World} {F : Nat → Prop} {d : Nat} {st : DS} (hd : DiskAt w F d st) : ∀ k, F k → k < w.heap.size := by
  obtain ⟨s, qv, av, hc, h1, h2, h3, h4, h5⟩ := hd
  exact h5
theorem TextsOut.of_own {w : World} {F : Nat → Prop} {base n : Nat} {v : Value} {xs : List ByteArray} (h : w.ownsRow base 9 1 v n (strs xs)) (hF : ∀ g, v.ownBlock = some g → ¬ F g) : TextsOut w F v xs := by
  have hl : xs.length = n := by have := h.1; simp [strs] at this; exact this
  subst hl
  rcases h.2 with ⟨rfl, h0⟩ | ⟨g, cap, cur, rfl, _⟩
  · refine ⟨none, 0, by rw [h0], fun hp => ?_⟩
    omega
  · refine ⟨_, cap, rfl, fun hp => ⟨g, 0, rfl, (h.lt g rfl).2, hF g rfl, fun k hk => ?_⟩⟩
    rw [Nat.zero_add, h.cellAt k (by omega)]
    simp [strs, hk]
theorem left_step (c : Nat) (ps : List ByteArray) (k : Nat) (hk : k < 4) (s : DS) : DS.left_ c ps (4 - k) s = if (s.from_ c ps k).2 = 0 then DS.left_ c ps (4 - (k + 1)) (s.from_ c ps k).1 else s.from_ c ps k := by
  have : k = 0 ∨ k = 1 ∨ k = 2 ∨ k = 3 := by omega
  rcases this with rfl | rfl | rfl | rfl
  · rfl
  · rfl
  · rfl
  · rfl
/-- k of the four steps are done -/
structure KS (WL : World) (F : Nat → Prop) (d : Nat) (st : DS) (c : Nat) (ps : List ByteArray) (be k : Nat) (st' : DS) (F' : Nat → Prop) (wr : World) : Prop where
  disk : DiskAt wr F' d st'
  up : Upd (fun i => F i ∨ i = be) WL wr
  old : ∀ i, F' i → F i ∨ WL.heap.size ≤ i
  q : st'.queue.length ≤ st.queue.length + 1000 * k
  eq : st.steps c ps = DS.left_ c ps (4 - k) st'
  ce : wr.heap[be]? = some (.cells #[.int .i64 0] 33 (0, 0))
section
variable {WL : World} {F : Nat → Prop} {d : Nat} {st : DS} {c : Nat} {ps : List ByteArray} {be k : Nat} {st' : DS} {F' : Nat → Prop} {wr : World}
/-- what stood there, and is none of the disk's -/
theorem KS.kept (h : KS WL F d st c ps be k st' F' wr) {b : Nat} (hb : b < WL.heap.size) (hF : ¬ F b) (he : b ≠ be) : wr.heap[b]? = WL.heap[b]? ∧ ¬ F' b := by
  refine ⟨h.up.block b hb (fun h1 => h1.elim hF he), fun h1 => ?_⟩
  rcases h.old b h1 with h2 | h2
  · exact hF h2
  · omega
theorem from_q (s : DS) (c : Nat) (ps : List ByteArray) (k : Nat) (hp : ps.length ≤ 1000) : (s.from_ c ps k).1.queue.length ≤ s.queue.length + 1000 := by
  have hfl := fulls_len ps (2 + c)
  by_cases h0 : k = 0
  · have e : s.from_ c ps k = s.writeM ((2 + c : Nat) : Int) (List.replicate ps.length zeroB) := by unfold DS.from_; exact if_pos h0
    rw [e]
    refine Nat.le_trans (DS.writeM_q s ((2 + c : Nat) : Int) (List.replicate ps.length zeroB)) ?_
    rw [List.length_replicate]
    omega
  by_cases h1 : k = 1
  · have e : s.from_ c ps k = s.writeM ((2 + c : Nat) : Int) (fulls (2 + c) ps) := by unfold DS.from_; rw [if_neg h0]; exact if_pos h1
    rw [e]
    refine Nat.le_trans (DS.writeM_q s ((2 + c : Nat) : Int) (fulls (2 + c) ps)) ?_
    rw [hfl]
    omega
  by_cases h2 : k = 2
  · have e : s.from_ c ps k = s.writeM ((1 : Nat) : Int) [headB 1 (c + ps.length)] := by unfold DS.from_; rw [if_neg h0, if_neg h1]; exact if_pos h2
    rw [e]
    exact Nat.le_trans (DS.writeM_q s ((1 : Nat) : Int) [headB 1 (c + ps.length)]) (Nat.add_le_add_left (show [headB 1 (c + ps.length)].length ≤ 1000 by rw [List.length_singleton]; omega) _)
  · have e : s.from_ c ps k = s.writeM ((0 : Nat) : Int) [headB 0 (c + ps.length)] := by unfold DS.from_; rw [if_neg h0, if_neg h1]; exact if_neg h2
    rw [e]
    exact Nat.le_trans (DS.writeM_q s ((0 : Nat) : Int) [headB 0 (c + ps.length)]) (Nat.add_le_add_left (show [headB 0 (c + ps.length)].length ≤ 1000 by rw [List.length_singleton]; omega) _)
/-- behind a step -/
structure KT (WL : World) (F : Nat → Prop) (d : Nat) (st : DS) (c : Nat) (ps : List ByteArray) (be k : Nat) (r : DS × Int) (F1 : Nat → Prop) (w1 : World) : Prop where
  disk : DiskAt w1 F1 d r.1
  up : Upd (fun i => F i ∨ i = be) WL w1
  old : ∀ i, F1 i → F i ∨ WL.heap.size ≤ i
  q : r.1.queue.length ≤ st.queue.length + 1000 * (k + 1)
  eq : st.steps c ps = if r.2 = 0 then DS.left_ c ps (4 - (k + 1)) r.1 else r
  ce : w1.heap[be]? = some (.cells #[.int .i64 0] 33 (0, 0))
  bl : be < WL.heap.size
theorem KS.step (h : KS WL F d st c ps be k st' F' wr) (hk : k < 4) (hp : ps.length ≤ 1000) (hbe : be < WL.heap.size) (hbF : ¬ F be) {e : Ending} {w1 : World} {r : DS × Int} (hr : st'.from_ c ps k = r) (ht : Turns wr F' d r.1 (.int .i64 r.2) e w1) :
    e = .returned (.int .i64 r.2) ∧ ∃ F1, KT WL F d st c ps be k r F1 w1 := by
  obtain ⟨rfl, F1, hd, hu, hF⟩ := ht
  have hbF' : ¬ F' be := fun h1 => by
    rcases h.old be h1 with h2 | h2
    · exact hbF h2
    · omega
  refine ⟨rfl, F1, hd, h.up.trans hu fun i hi => ?_, fun i hi => ?_, ?_, ?_, (hu.block be (blk_lt h.ce) hbF').trans h.ce, hbe⟩
  · rcases h.old i hi with h2 | h2
    · exact .inl (.inl h2)
    · exact .inr h2
  · rcases hF i hi with h2 | h2
    · exact h.old i h2
    · exact .inr (Nat.le_trans h.up.size h2)
  · have h1 := from_q st' c ps k hp
    rw [hr] at h1
    refine Nat.le_trans h1 ?_
    rw [Nat.mul_add, ← Nat.add_assoc]
    exact Nat.add_le_add_right h.q 1000
  · rw [h.eq, left_step c ps k hk]
    simp only [hr]
theorem KT.out {r : DS × Int} {F1 : Nat → Prop} {w1 : World} (h : KT WL F d st c ps be k r F1 w1) (hbF : ¬ F be) : ¬ F1 be := fun h1 => by
  rcases h.old be h1 with h2 | h2
  · exact hbF h2
  · have := h.bl; omega
/-- a step that went well, its result stored -/
theorem KT.next {r : DS × Int} {F1 : Nat → Prop} {w1 : World} (h : KT WL F d st c ps be k r F1 w1) (hbF : ¬ F be) (h0 : r.2 = 0) : KS WL F d st c ps be (k + 1) r.1 F1 (w1.setCell ⟨be, 0, none⟩ (.int .i64 0)) :=
  ⟨h.disk.setj (h.out hbF) _ _, h.up.setCell _ (.inl (.inr rfl)) _, h.old, h.q, by rw [h.eq]; exact if_pos h0, heap_set_one h.ce _⟩
theorem KT.kept {r : DS × Int} {F1 : Nat → Prop} {w1 : World} (h : KT WL F d st c ps be k r F1 w1) {b : Nat} (hb : b < WL.heap.size) (hF : ¬ F b) (he : b ≠ be) : w1.heap[b]? = WL.heap[b]? ∧ ¬ F1 b := by
  refine ⟨h.up.block b hb (fun h1 => h1.elim hF he), fun h1 => ?_⟩
  rcases h.old b h1 with h2 | h2
  · exact hF h2
  · omega
end
set_option maxRecDepth 100000 in
theorem app2_good {W : World} {be bj j : Nat} (hbe : W.cell? ⟨be, 0, none⟩ = some (.int .i64 0)) (hbj : W.cell? ⟨bj, 0, none⟩ = some (.pointer (some ⟨j, 0, none⟩))) {x : Value} (hj : W.cell? ⟨j, 4, none⟩ = some x) (hf : W.frozen? ⟨j, 4, none⟩ = false) (u : FrameMode) :
    CallsD Tryd.prog 42 #[.pointer (some ⟨be, 0, none⟩), .pointer (some ⟨bj, 0, none⟩)] u W fun e u' w' => u' = u ∧ (e = .returned (.tuple #[]) ∧ w' = W.setCell ⟨j, 4, none⟩ (.bool false)) := by
  have hjl := World.block_lt_of_cell? W _ hj
  go_enter_d Tryd.func42, Tryd.ntmps42
  go_wp2_with fail
  go_end0
  exact ⟨rfl, rfl⟩
set_option maxRecDepth 100000 in
theorem app2_bad {W : World} {be bj j : Nat} {ev : Int} (hev : ev ≠ 0) (hbe : W.cell? ⟨be, 0, none⟩ = some (.int .i64 ev)) (hbj : W.cell? ⟨bj, 0, none⟩ = some (.pointer (some ⟨j, 0, none⟩))) {x : Value} (hj : W.cell? ⟨j, 4, none⟩ = some x) (hf : W.frozen? ⟨j, 4, none⟩ = false) (u : FrameMode) :
    CallsD Tryd.prog 42 #[.pointer (some ⟨be, 0, none⟩), .pointer (some ⟨bj, 0, none⟩)] u W fun e u' w' => u' = u ∧ (e = .returned (.tuple #[]) ∧ w' = W.setCell ⟨j, 4, none⟩ (.bool true)) := by
  have hjl := World.block_lt_of_cell? W _ hj
  have hb1 : (ev == 0) = false := by simp [hev]
  have hb2 : (ev != 0) = true := by simp [hev]
  go_enter_d Tryd.func42, Tryd.ntmps42
  go_wp2_with fail
  go_end0
  exact ⟨rfl, rfl⟩
/-! ### the ends of Append -/
theorem jcells_same {w W : World} {G : Nat → Prop} {j d : Nat} {js : JSt} (h : JAt w G j d js) (hs : ∀ i, G i → W.heap[i]? = w.heap[i]?) (hz : w.heap.size ≤ W.heap.size) : JAt W G j d js := by
  obtain ⟨rv, h1, h2, h3, h4, h5⟩ := h
  exact ⟨rv, (hs j h3).trans h1, own_same h2 fun k hk => hs k (h4 k hk), h3, h4, fun k hk => Nat.lt_of_lt_of_le (h5 k hk) hz⟩
theorem size_setCell (w : World) (p : Addr) (x : Value) : (w.setCell p x).heap.size = w.heap.size := by simp [World.setCell]
/-- a step has failed -/
theorem KT.lost {w WL : World} {F G : Nat → Prop} {d j : Nat} {st : DS} {js : JSt} {c : Nat} {ps xs : List ByteArray} {be k : Nat} {s1 : DS} {e1 : Int} {F1 : Nat → Prop} {w1 : World} (h : KT WL F d st c ps be k (s1, e1) F1 w1) (he : e1 ≠ 0) (hc : js.count = c)
    (hA : appendM st js xs = if (st.steps js.count ps).2 = 0 then ((st.steps js.count ps).1, ⟨js.sectors, js.count + ps.length, js.recs ++ xs, false⟩, 0) else ((st.steps js.count ps).1, ⟨js.sectors, js.count, js.recs, true⟩, (st.steps js.count ps).2))
    (hj : JAt w G j d js) (hFG : ∀ k, G k → ¬ F k) (hd : DiskAt w F d st) (hb : Below w.heap.size w WL) (hbe : w.heap.size ≤ be) {W2 : World} (hW : Upd (fun i => i = be) w1 W2) :
    AppendOut w F G d j (appendM st js xs) (.returned (.int .i64 e1)) (W2.setCell ⟨j, 4, none⟩ (.bool true)) := by
  have hbF : ¬ F be := fun h1 => by have := hd.lt be h1; omega
  have hst : st.steps js.count ps = (s1, e1) := by rw [hc, h.eq]; exact if_neg he
  have hE : appendM st js xs = (s1, ⟨js.sectors, js.count, js.recs, true⟩, e1) := by rw [hA, hst]; exact if_neg he
  have hGlt : ∀ i, G i → i < w.heap.size := by obtain ⟨rv, h1, h2, h3, h4, h5⟩ := hj; exact h5
  have hGsame : ∀ i, G i → W2.heap[i]? = w.heap[i]? := fun i hi => by
    have hl := hGlt i hi
    have hk := h.kept (b := i) (Nat.lt_of_lt_of_le hl hb.size) (hFG i hi) (by omega)
    exact (hW.block i (Nat.lt_of_lt_of_le (Nat.lt_of_lt_of_le hl hb.size) h.up.size) (by omega)).trans (hk.1.trans (hb.block i hl))
  have hGF : ∀ i, G i → ¬ F1 i := fun i hi => (h.kept (b := i) (Nat.lt_of_lt_of_le (hGlt i hi) hb.size) (hFG i hi) (by have := hGlt i hi; omega)).2
  have hz : w.heap.size ≤ W2.heap.size := Nat.le_trans hb.size (Nat.le_trans h.up.size hW.size)
  have hj2 := jcells_same hj hGsame hz
  have hjG : G j := by obtain ⟨rv, h1, h2, h3, h4, h5⟩ := hj; exact h3
  rw [hE]
  have hup : Upd (fun i => F i ∨ G i) w W2 := by
    refine ((Upd.of_below hb _).trans h.up fun i hi => ?_).trans hW fun i hi => .inr (by omega)
    rcases hi with h1 | h1
    · exact .inl (.inl h1)
    · exact .inr (by omega)
  refine ⟨rfl, F1, G, (h.disk.apart (G := fun i => i = be) hW fun i hi e => h.out hbF (e ▸ hi)).setj (hGF j hjG) _ _, ?_, hup.setCell _ (.inl (.inr hjG)) _, fun i hi => (h.old i hi).imp id fun h1 => Nat.le_trans hb.size h1, fun i hi => .inl hi, hGF⟩
  obtain ⟨rv, h1, h2, h3, h4, h5⟩ := hj2
  refine ⟨rv, Go.heap_setCell_same _ _ 4 _ _ (.bool true) h1, own_same h2 fun i hi => Below.heap_setCell _ _ _ _ ?_, h3, h4, fun i hi => by rw [size_setCell]; exact h5 i hi⟩
  obtain ⟨c', hc'⟩ := own_type h2 hi
  exact ne_of_type hc' h1 (by decide)
/-- all steps have been done -/
theorem KS.done {w WL : World} {F G : Nat → Prop} {d j : Nat} {st : DS} {js : JSt} {c nx : Nat} {ps xs : List ByteArray} {be : Nat} {s1 : DS} {F1 : Nat → Prop} {w1 : World} (h : KS WL F d st c ps be 4 s1 F1 w1) (hc : js.count = c) (hnx : c + ps.length = nx)
    (hA : appendM st js xs = if (st.steps js.count ps).2 = 0 then ((st.steps js.count ps).1, ⟨js.sectors, js.count + ps.length, js.recs ++ xs, false⟩, 0) else ((st.steps js.count ps).1, ⟨js.sectors, js.count, js.recs, true⟩, (st.steps js.count ps).2))
    (hj : JAt w G j d js) (hFG : ∀ k, G k → ¬ F k) (hd : DiskAt w F d st) (hb : Below w.heap.size w WL) (hbe : w.heap.size ≤ be) (hbl : be < WL.heap.size) {rv : Value} (hrv : w1.heap[j]? = some (.cells #[.pointer (some ⟨d, 0, none⟩), .int .i64 js.sectors, .int .i64 js.count, rv, .bool false] 50 (0, 0)))
    (hro : ∀ i, rv.ownBlock = some i → G i)
    {w2 : World} {g cap n : Nat} (hown : w2.ownsRow 0 9 1 (.slice (some ⟨g, 0, none⟩) n cap) n (strs js.recs ++ strs xs)) (hgr : (w1.setCell ⟨j, 2, none⟩ (.int .i64 nx)).drew.grownBy w2 rv.ownBlock) (hat : rv.ownBlock = some g ∨ g = w1.heap.size) :
    AppendOut w F G d j (appendM st js xs) (.returned (.int .i64 0)) (((w2.setCell ⟨j, 3, none⟩ (.slice (some ⟨g, 0, none⟩) n cap)).setCell ⟨be, 0, none⟩ (.int .i64 0)).setCell ⟨j, 4, none⟩ (.bool false)) := by
  have hbF : ¬ F be := fun h1 => by have := hd.lt be h1; omega
  have hst : st.steps js.count ps = (s1, 0) := by rw [hc, h.eq]; rfl
  have hE : appendM st js xs = (s1, ⟨js.sectors, js.count + ps.length, js.recs ++ xs, false⟩, 0) := by rw [hA, hst]; exact if_pos rfl
  obtain ⟨rv0, _, _, hjG, _, hGlt⟩ := id hj
  have hwl := hb.size
  have hlw := h.up.size
  have hGF : ∀ i, G i → ¬ F1 i := fun i hi => (h.kept (b := i) (Nat.lt_of_lt_of_le (hGlt i hi) hb.size) (hFG i hi) (by have := hGlt i hi; omega)).2
  have hF1lt := h.disk.lt
  have hbF1 : ¬ F1 be := fun h1 => by
    rcases h.old be h1 with h2 | h2
    · exact hbF h2
    · omega
  have hjl : j < w.heap.size := hGlt j hjG
  have hjw1 := blk_lt hrv
  have hjbe : j ≠ be := by omega
  have hgs := hgr.size
  have hrj : rv.ownBlock ≠ some j := fun e => by
    obtain ⟨rv1, h1, h2, _⟩ := id hj
    have hw1 : w1.heap[j]? = w.heap[j]? := (h.kept (b := j) (by omega) (hFG j hjG) hjbe).1.trans (hb.block j hjl)
    rw [hw1, h1] at hrv
    injection hrv with hrv
    injection hrv with hrv _ _
    have e2 : rv1 = rv := by
      have := congrArg (fun a : Array Value => a[3]?) hrv
      simpa using this
    subst e2
    obtain ⟨c', hc'⟩ := own_type h2 e
    exact ne_of_type hc' h1 (by decide) rfl
  have hsz1 : (w1.setCell ⟨j, 2, none⟩ (.int .i64 nx)).drew.heap.size = w1.heap.size := size_setCell _ _ _
  -- the journal's block behind the append
  have hj2 : w2.heap[j]? = some (.cells #[.pointer (some ⟨d, 0, none⟩), .int .i64 js.sectors, .int .i64 nx, rv, .bool false] 50 (0, 0)) := by
    rw [hgr.block j (by rw [hsz1]; exact hjw1) (fun e => hrj e.symm)]
    exact Go.heap_setCell_same _ _ 2 _ _ (.int .i64 nx) hrv
  have hgj : g ≠ j := fun e => by
    rcases hat with h1 | h1
    · exact hrj (by rw [h1, e])
    · omega
  -- the result's box
  have hgbe : g ≠ be := fun e => by
    rcases hat with h1 | h1
    · have := hGlt g (hro g h1); omega
    · have := blk_lt h.ce; omega
  have hgF1 : ¬ F1 g := fun h1 => by
    rcases hat with h2 | h2
    · exact hGF g (hro g h2) h1
    · have := hF1lt g h1; omega
  have hup1 : Upd (fun i => F i ∨ G i) w w1 := (Upd.of_below hb _).trans h.up fun i hi => by
    rcases hi with h1 | h1
    · exact .inl (.inl h1)
    · exact .inr (by omega)
  have hup2 : Upd (fun i => F i ∨ G i) w w2 := ((hup1.setCell ⟨j, 2, none⟩ (.inl (.inr hjG)) _).drew).grown hgr fun i hi => .inl (.inr (hro i hi))
  have hup : Upd (fun i => F i ∨ G i) w (((w2.setCell ⟨j, 3, none⟩ (.slice (some ⟨g, 0, none⟩) n cap)).setCell ⟨be, 0, none⟩ (.int .i64 0)).setCell ⟨j, 4, none⟩ (.bool false)) :=
    ((hup2.setCell _ (.inl (.inr hjG)) _).setCell _ (.inr hbe) _).setCell _ (.inl (.inr hjG)) _
  have hdisk2 : DiskAt w2 F1 d s1 := by
    refine ((h.disk.setj (hGF j hjG) 2 (.int .i64 nx)).below (w' := (w1.setCell ⟨j, 2, none⟩ (.int .i64 nx)).drew) ⟨rfl, rfl, rfl, Nat.le_refl _, fun _ _ => rfl⟩).apart (G := fun i => rv.ownBlock = some i) ?_ fun i hi e => hGF i (hro i e) hi
    exact ⟨hgr.os, hgr.tape, hgr.output, hgr.size, fun i hi hn => hgr.block i hi fun e => hn e.symm⟩
  rw [hE]
  refine ⟨rfl, F1, fun i => G i ∨ i = g, ((hdisk2.setj (hGF j hjG) _ _).setj hbF1 _ _).setj (hGF j hjG) _ _, ?_, hup, fun i hi => (h.old i hi).imp id fun h1 => Nat.le_trans hb.size h1, fun i hi => ?_, fun i hi => ?_⟩
  · have hj3 := Go.heap_setCell_same _ _ 3 _ _ (.slice (some ⟨g, 0, none⟩) n cap) hj2
    have hj4 : ((w2.setCell ⟨j, 3, none⟩ (.slice (some ⟨g, 0, none⟩) n cap)).setCell ⟨be, 0, none⟩ (.int .i64 0)).heap[j]? = _ := (Below.heap_setCell _ _ _ _ hjbe).trans hj3
    have hj5 := Go.heap_setCell_same _ _ 4 _ _ (.bool false) hj4
    have hn : (js.recs ++ xs).length = n := by
      have := hown.1
      simp [strs] at this
      simp
      omega
    refine ⟨.slice (some ⟨g, 0, none⟩) n cap, ?_, ?_, .inl hjG, fun i hi => .inr (by simpa [Value.ownBlock] using hi.symm), fun i hi => ?_⟩
    · rw [hj5]
      simp only [hc, hnx]
      rfl
    · have e : strs (js.recs ++ xs) = strs js.recs ++ strs xs := by simp [strs]
      simp only [hn, e]
      refine own_same hown fun i hi => ?_
      have hgi : g = i := by simpa [Value.ownBlock] using hi
      subst hgi
      exact (Below.heap_setCell _ _ _ _ hgj).trans ((Below.heap_setCell _ _ _ _ hgbe).trans (Below.heap_setCell _ _ _ _ hgj))
    · rw [size_setCell, size_setCell, size_setCell]
      rcases hi with h1 | rfl
      · have := hGlt i h1; omega
      · exact (hown.lt _ rfl).2
  · rcases hi with h1 | rfl
    · exact .inl h1
    · rcases hat with h1 | h1
      · exact .inl (hro _ h1)
      · exact .inr (by omega)
  · rcases hi with h1 | rfl
    · exact hGF i h1
    · exact hgF1
end Go.Proofs.YtpdhjfnddnoghaaDoor
