/- The journal's Open.
   Conditions: the disk lies in memory; the library's tables and sentinels are laid, and stay so while the disk's blocks are written. -/
import Derived.Test.YtpdhjfnddnoghaaDoorPE
import Derived.Deep.DeepCutAuto
import Derived.Deep.RegionHeld3
namespace Go.Proofs.YtpdhjfnddnoghaaDoor
open Go.RowKit Go.Lib
set_option linter.unusedVariables false
set_option linter.unusedSimpArgs false
attribute [local go_sem high] max2_num max_of_two min2_num min_of_two

def OpenOut (w : World) (F : Nat → Prop) (d : Nat) (st : DS) (e : Ending) (w' : World) : Prop :=
  ∃ jv lv, e = .returned (.tuple #[jv, lv, .int .i64 st.openM.2.2]) ∧ ∃ F', DiskAt w' F' d st.openM.1 ∧ Upd F w w' ∧ (∀ k, F' k → F k ∨ w.heap.size ≤ k) ∧
    match st.openM.2.1 with
    | none => jv = .pointer none ∧ lv = .slice none 0 0
    | some js => ∃ j G, jv = .pointer (some ⟨j, 0, none⟩) ∧ JAt w' G j d js ∧ (∀ k, G k → w.heap.size ≤ k) ∧ (∀ k, G k → ¬ F' k) ∧ w'.ownsRow w.heap.size 9 1 lv js.recs.length (strs js.recs) ∧ ∀ k, lv.ownBlock = some k → ¬ F' k ∧ ¬ G k
/-- without a journal, the disk as it was -/
theorem OpenOut.no {w w' : World} {F : Nat → Prop} {d : Nat} {st : DS} {c : Int} (h : st.openM = (st, none, c)) (hd : DiskAt w' F d st) (hb : Below w.heap.size w w') :
    OpenOut w F d st (.returned (.tuple #[.pointer none, .slice none 0 0, .int .i64 c])) w' := by
  refine ⟨_, _, by rw [h], F, by rw [h]; exact hd, Upd.of_below hb F, fun k hk => .inl hk, ?_⟩
  rw [h]
  exact ⟨rfl, rfl⟩
/-- what the loop over the pieces holds -/
structure FSt (B : Nat) (wc : World) (S : List ByteArray) (L : List UInt8) (k : Nat) (wr : World) : Prop where
  eq : foundB 2 (S.take k) = some L
  bu : Lib.IsBuilder 67 5 B B (Lib.byteCells L) wr
  be_ : Below B wc wr
  sz : B ≤ wr.heap.size
theorem builder_same {B : Nat} {L : List Value} {wr W : World} (h : Lib.IsBuilder 67 5 B B L wr) (hb : Below wr.heap.size wr W) : Lib.IsBuilder 67 5 B B L W := by
  have step : ∀ p, Lib.BuilderAt 67 5 B B p L wr → Lib.BuilderAt 67 5 B B p L W := by
    rintro p ⟨q1, v, q2, q3, q4⟩
    exact ⟨q1, v, (hb.block B (blk_lt q2)).trans q2, own_same q3 fun j hj => hb.block j (q3.lt j hj).2, q4⟩
  rcases h with h | h
  · exact .inl (step _ h)
  · exact .inr (step _ h)
theorem FSt.draw {B : Nat} {wc : World} {S : List ByteArray} {L : List UInt8} {k : Nat} {wr W : World} (h : FSt B wc S L k wr) (hb : Below wr.heap.size wr W) : FSt B wc S L k W :=
  ⟨h.eq, builder_same h.bu hb, h.be_.trans (hb.mono h.sz), Nat.le_trans h.sz hb.size⟩
theorem own_low {w : World} {b b' : Nat} {e : TypeId} {size n : Nat} {v : Value} {xs : List Value} (h : w.ownsRow b e size v n xs) (hb : b' ≤ b) : w.ownsRow b' e size v n xs := by
  refine ⟨h.1, ?_⟩
  rcases h.2 with h | ⟨g, cap, cur, h1, h2, h3⟩
  · exact .inl h
  · exact .inr ⟨g, cap, cur, h1, Nat.le_trans hb h2, h3⟩
/-! ### the repairs -/
theorem DS.count_q (st : DS) : st.count.1.queue.length ≤ st.queue.length := by
  unfold DS.count
  split
  · exact Nat.le_refl _
  · split
    · exact Nat.le_refl _
    · unfold DS.fail; split <;> simp
theorem DS.writesFrom_q (xs : List ByteArray) : ∀ (st : DS) (p : Int), (st.writesFrom p xs).1.queue.length ≤ st.queue.length + xs.length := by
  induction xs with
  | nil => intro st p; exact Nat.le_refl _
  | cons x xs ih =>
    intro st p
    have h1 := DS.write_q st p x
    rw [DS.writesFrom, List.length_cons]
    split
    · have := ih (st.write p x).1 (p + 1)
      omega
    · omega
theorem DS.sync_q (st : DS) : st.sync.1.queue.length ≤ st.queue.length := by
  unfold DS.sync
  split
  · exact Nat.le_refl _
  · split
    · exact Nat.zero_le _
    · exact st.count_q
theorem DS.writeM_q (st : DS) (p : Int) (xs : List ByteArray) : (st.writeM p xs).1.queue.length ≤ st.queue.length + xs.length := by
  have h := DS.writesFrom_q xs st p
  unfold DS.writeM
  split
  · exact Nat.le_trans (DS.sync_q _) h
  · exact h
def DS.repLeft (all : List ByteArray) (c : Nat) : Nat → DS → DS × Int
  | 0, s => (s, 0)
  | n + 1, s => if (s.repairM all c (1 - n)).2 = 0 then DS.repLeft all c n (s.repairM all c (1 - n)).1 else s.repairM all c (1 - n)
theorem rep_eta (x : DS × Int) : (if x.2 = 0 then (x.1, (0 : Int)) else x) = x := by
  split
  · rename_i h; exact Prod.ext rfl h.symm
  · rfl
theorem repairs_left (st : DS) (all : List ByteArray) (c : Nat) : st.repairs all c = DS.repLeft all c 2 st := by
  unfold DS.repairs
  simp only [DS.repLeft, Nat.sub_self, show (1 - 0 = 1) from rfl, rep_eta]
theorem rep_step (all : List ByteArray) (c p : Nat) (hp : p < 2) (s : DS) : DS.repLeft all c (2 - p) s = if (s.repairM all c p).2 = 0 then DS.repLeft all c (2 - (p + 1)) (s.repairM all c p).1 else s.repairM all c p := by
  have : p = 0 ∨ p = 1 := by omega
  rcases this with rfl | rfl
  · rfl
  · rfl
structure RP (wy : World) (F : Nat → Prop) (d : Nat) (st : DS) (all : List ByteArray) (c k : Nat) (st' : DS) (F' : Nat → Prop) (wr : World) : Prop where
  disk : DiskAt wr F' d st'
  up : Upd F wy wr
  old : ∀ i, F' i → F i ∨ wy.heap.size ≤ i
  q : st'.queue.length ≤ st.queue.length + 2 * k
  eq : st.repairs all c = DS.repLeft all c (2 - k) st'
theorem RP.draw {wy : World} {F : Nat → Prop} {d : Nat} {st : DS} {all : List ByteArray} {c k : Nat} {st' : DS} {F' : Nat → Prop} {wr W : World} (h : RP wy F d st all c k st' F' wr) (hb : Below wr.heap.size wr W) : RP wy F d st all c k st' F' W :=
  ⟨h.disk.below hb, h.up.trans (Upd.of_below hb F) fun i hi => .inl hi, h.old, h.q, h.eq⟩
theorem RP.next {wy : World} {F : Nat → Prop} {d : Nat} {st : DS} {all : List ByteArray} {c k : Nat} {st' s2 : DS} {F' F2 : Nat → Prop} {wr W : World} (h : RP wy F d st all c k st' F' wr) (hk : k < 2) (hr : st'.repairM all c k = (s2, 0))
    (hd : DiskAt W F2 d s2) (hu : Upd F' wr W) (hF : ∀ i, F2 i → F' i ∨ wr.heap.size ≤ i) (hq : s2.queue.length ≤ st'.queue.length + 2) : RP wy F d st all c (k + 1) s2 F2 W := by
  refine ⟨hd, h.up.trans hu h.old, fun i hi => ?_, by have := h.q; omega, ?_⟩
  · rcases hF i hi with h1 | h1
    · exact h.old i h1
    · exact .inr (Nat.le_trans h.up.size h1)
  · rw [h.eq, rep_step all c k hk, hr]
    exact if_pos rfl
theorem RP.fail {wy : World} {F : Nat → Prop} {d : Nat} {st : DS} {all : List ByteArray} {c k : Nat} {st' s2 : DS} {F' : Nat → Prop} {wr : World} {e : Int} (h : RP wy F d st all c k st' F' wr) (hk : k < 2) (hr : st'.repairM all c k = (s2, e)) (he : e ≠ 0) : st.repairs all c = (s2, e) := by
  rw [h.eq, rep_step all c k hk, hr]
  exact if_neg he
/-- one sector is written -/
theorem jwrite_one {w : World} {F : Nat → Prop} {d : Nat} {st : DS} (hd : DiskAt w F d st) (j : Nat) (hj : w.cell? ⟨j, 0, none⟩ = some (.pointer (some ⟨d, 0, none⟩))) (hjF : ¬ F j) (p : Nat) (hp : p ≤ 1000000) (x : ByteArray) (hql : st.queue.length ≤ 100000) :
    Calls Tryd.prog 36 #[.pointer (some ⟨j, 0, none⟩), .int .i64 p, .slice (some ⟨w.heap.size, 0, none⟩) 1 1] (w.alloc (.cells #[.string x] 9)) (Turns w F d (st.writeM (p : Int) [x]).1 (.int .i64 (st.writeM (p : Int) [x]).2)) := by
  have hjl := World.block_lt_of_cell? w _ hj
  have hDF : ∀ k, F k → k < w.heap.size := by obtain ⟨s, qv, av, hc, h1, h2, h3, h4, h5⟩ := hd; exact h5
  have hb2 : Below w.heap.size w (w.alloc (.cells #[.string x] 9)) := (Below.refl _ _).alloc (Nat.le_refl _) _
  refine (jwrite_calls (hd.below hb2) j ((hb2.cell (p := ⟨j, 0, none⟩) hjl).trans hj) hjF (p : Int) (by omega) _ [x] ⟨some ⟨w.heap.size, 0, none⟩, 1, rfl, fun _ => ⟨w.heap.size, 0, rfl, by simp, fun hF => absurd (hDF _ hF) (by omega), fun k hk => ?_⟩⟩ (by simp) hql).mono fun e w' h => h.since (Upd.of_below hb2 F)
  obtain rfl : k = 0 := by simp at hk; omega
  exact cell_blk (heap_alloc_new w (.cells #[.string x] 9)) 0
/-- a repair that fails -/
theorem OpenOut.lost {w wy wr : World} {F F' : Nat → Prop} {d : Nat} {st s' : DS} {c : Nat} {e : Int} {js : JSt} (hO : st.openM = if (st.repairs st.all c).2 = 0 then ((st.repairs st.all c).1, some js, 0) else ((st.repairs st.all c).1, none, (st.repairs st.all c).2))
    (hr : st.repairs st.all c = (s', e)) (he : e ≠ 0) (hd : DiskAt wr F' d s') (hb : Below w.heap.size w wy) (hu : Upd F wy wr) (ho : ∀ i, F' i → F i ∨ wy.heap.size ≤ i) : OpenOut w F d st (.returned (.tuple #[.pointer none, .slice none 0 0, .int .i64 e])) wr := by
  have hE : st.openM = (s', none, e) := by rw [hO, hr]; exact if_neg he
  refine ⟨_, _, by rw [hE], F', by rw [hE]; exact hd, (Upd.of_below hb F).trans hu fun i hi => .inl hi, fun k hk => (ho k hk).imp id fun h => Nat.le_trans hb.size h, ?_⟩
  rw [hE]
  exact ⟨rfl, rfl⟩
theorem idx0 (W : World) (g n cap : Nat) (h : (0 : Int) < (n : Int)) : (Instr.indexAt 27 (.slice (some ⟨g, 0, none⟩) n cap) (.int .i64 0)).run Tryd.prog W = .ok (.pointer (some ⟨g, 0, none⟩)) W := by
  have hu := Tryd.underlying27
  go_simp
  intro hn
  omega
set_option maxRecDepth 100000 in
set_option maxHeartbeats 8000000 in
theorem open_calls {w : World} {F : Nat → Prop} (hlu : ∀ W, Upd F w W → LaidJ W) {d : Nat} {st : DS} (hd : DiskAt w F d st) (hql : st.queue.length ≤ 90000) :
    Calls Tryd.prog 15 #[.pointer (some ⟨d, 0, none⟩)] w (OpenOut w F d st) := by
  obtain ⟨i0, hi, hz0, hzz1, hz2⟩ := info_parts Tryd.infoStr
  have hn : st.all.length ≤ 4000 := by rw [DS.all_len]; exact hd.wf.n2
  have hl := hlu w (Upd.refl _ _)
  have HLU := Lib.hid hlu
  have HL := Lib.hid hl
  have HD := Lib.hid hd
  have hrd := fun W (hW : Below w.heap.size w W) (k : Int) => read_calls (HD.out.below hW) (by omega) k
  clear hl hd hlu
  by_cases ho : st.off = true
  · have HO : Hid (st.openM = (st, none, 26)) := by show _ = _; unfold DS.openM; rw [if_pos ho]
    have hr := hrd w (Below.refl _ _) 0
    rw [read_off ho] at hr
    clear hrd ho
    go_enter Tryd.func15, Tryd.ntmps15
    go_wp2_with fail
    go_loopw [5] (fun v wr => v = .slice none 0 0 ∧ wr = w) (fun _ _ => 0)
    case atStart => exact ⟨rfl, rfl⟩
    case round =>
      obtain ⟨rfl, rfl⟩ := hrel
      go_wp2_with fail
      refine hr.mono ?_
      rintro e w1 ⟨rfl, hb⟩
      have HB := Lib.hid hb
      clear hb hr
      go_wp2_with fail
      go_ret3
      exact OpenOut.no HO.out (HD.out.below HB.out) HB.out
  · have hof : st.off = false := by simpa using ho
    clear ho
    go_enter Tryd.func15, Tryd.ntmps15
    go_wp2_with fail
    go_loopw [5] (fun v wr => ∃ k : Nat, RSt w st k v wr ∧ ∃ cap A, v = .slice A k cap) (fun v wr => st.all.length + 1 - (match v with | .slice _ k _ => k | _ => 0))
    case atStart => exact ⟨0, ⟨Nat.zero_le _, World.ownsRow_nil _ _ _ _, Below.refl _ _⟩, 0, none, rfl⟩
    case round =>
      obtain ⟨k, hrs, cap, A, rfl⟩ := hrel
      have HR := Lib.hid hrs
      have hkl := hrs.le
      have hsB := hrs.be.size
      have hr := hrd wr hrs.be k
      clear hrs
      by_cases hlt : k < st.all.length
      · rw [read_in hof k hlt] at hr
        have HT : Hid (strs (st.all.take (k + 1)) = strs (st.all.take k) ++ [.string st.all[k]]) := by
          show _ = _
          unfold strs; rw [List.take_succ_eq_append_getElem hlt, List.map_append]; rfl
        have h64 : st.all[k].size = 64 := settle_64 _ _ HD.out.wf.s64 (fun x hx => (HD.out.wf.q64 x hx).2) _ (List.getElem_mem hlt)
        generalize st.all[k] = x at hr HT h64
        go_wp2_with fail
        refine hr.mono ?_
        clear hr
        rintro e w1 ⟨rfl, hb⟩
        have HO1 : Hid (w1.ownsRow w.heap.size 9 1 (.slice A k cap) k (strs (st.all.take k))) := own_same HR.out.own fun j hj => hb.block j (HR.out.own.lt j hj).2
        have HB1 : Hid (Below w.heap.size w w1) := HR.out.be.trans (hb.mono HR.out.be.size)
        have hs1 : w.heap.size ≤ w1.heap.size := HB1.out.size
        clear hb
        go_wp2_with (at_builtin; refine wpList_append_own_at _ rfl _ _ 27 rfl w.heap.size 9 i0 _ 1 16 Tryd.underlying27 hi hz0 hzz1 hz2 rfl (by omega) _ k (strs (st.all.take k)) rfl (HO1.out.alloc _) ⟨w1.heap.size, 0, none⟩ 1 1 [.string x] rfl rfl (cell_one_new _ _ _) (by intro u hu; simp at hu; subst hu; rfl) (by simp only [maxLen]; omega) (by omega) (by simp; omega) ?_; intro v2 w2 hown2 hg2 _ _)
        obtain ⟨g, cap2, rfl, _, _⟩ := hown2.form (by omega)
        have HN : Hid (RSt w st (k + 1) (.slice (some ⟨g, 0, none⟩) (k + 1) cap2) w2) := ⟨hlt, by rw [HT.out]; exact hown2, (HB1.out.alloc hs1 (.cells #[.string x] 9)).grown hg2 (by simp; omega) fun j hj => (HO1.out.lt j hj).1⟩
        clear hown2 hg2
        go_wp2_with fail
        go_roundw
        case rel => exact ⟨k + 1, HN.out, cap2, _, rfl⟩
        case measure => show _ < _; simp only; omega
      · obtain rfl : k = st.all.length := by omega
        rw [read_past hof _ (Nat.le_refl _)] at hr
        go_wp2_with fail
        refine hr.mono ?_
        clear hr hrd
        rintro e w1 ⟨rfl, hb⟩
        have HB1 : Hid (Below w.heap.size w w1) := HR.out.be.trans (hb.mono HR.out.be.size)
        have HO1 : Hid (w1.ownsRow w.heap.size 9 1 (.slice A st.all.length cap) st.all.length (strs st.all)) := by
          have h := HR.out.own
          rw [List.take_length] at h
          exact own_same h fun j hj => hb.block j (h.lt j hj).2
        clear hb HR
        by_cases h3 : st.all.length < 3
        · have HO : Hid (st.openM = (st, none, 1)) := by show _ = _; unfold DS.openM; rw [if_neg (by simp [hof]), if_pos h3]
          have h3' : (st.all.length : Int) < 3 := by omega
          clear h3
          go_wp2_with fail
          go_ret3
          exact OpenOut.no HO.out (HD.out.below HB1.out) HB1.out
        · have h3' : ¬ (st.all.length : Int) < 3 := by omega
          have h3b : decide ((st.all.length : Int) < 3) = false := decide_eq_false h3'
          have hOM : Hid (st.openM = if countM st.all < 0 then (st, none, 27) else st.openRest) := by
            show _ = _
            unfold DS.openM
            rw [if_neg (by simp [hof]), if_neg h3]
          obtain ⟨g, cap2, hform, hgB, hgl⟩ := HO1.out.form (by omega)
          injection hform with hA hL2 hC2
          subst hA hC2
          have hTX := TextsAt.of_own HO1.out
          have h64a : ∀ k (hk : k < st.all.length), st.all[k].size = 64 := fun k hk => settle_64 _ _ HD.out.wf.s64 (fun x hx => (HD.out.wf.q64 x hx).2) _ (List.getElem_mem hk)
          have x0 : w1.cell? ⟨g, 0, none⟩ = some (.string st.all[0]) := by
            have := HO1.out.cellAt 0 (by omega)
            rw [this]; simp [strs, List.getElem?_eq_getElem (show 0 < st.all.length by omega)]
          have x1 : w1.cell? ⟨g, 1, none⟩ = some (.string st.all[1]) := by
            have := HO1.out.cellAt 1 (by omega)
            rw [this]; simp [strs, List.getElem?_eq_getElem (show 1 < st.all.length by omega)]
          obtain ⟨rm, hrm⟩ : ∃ rm : Nat, st.all.length - 2 = rm := ⟨_, rfl⟩
          have hwr : IntKind.i64.wrap ((st.all.length : Int) - 2) = (rm : Int) := by rw [IntWalk.i64_in _ (by omega)]; omega
          have hCM : Hid (countM st.all = mx (countB 0 st.all[0] rm) (countB 1 st.all[1] rm)) := by
            show _ = _
            unfold countM
            rw [hrm, List.getD_eq_getElem?_getD, List.getD_eq_getElem?_getD, List.getElem?_eq_getElem (show 0 < st.all.length by omega), List.getElem?_eq_getElem (show 1 < st.all.length by omega)]
            rfl
          have h640 := h64a 0 (by omega)
          have h641 := h64a 1 (by omega)
          have H64 := Lib.hid h64a
          clear h64a
          obtain ⟨a0, ha0⟩ : ∃ a, st.all[0] = a := ⟨_, rfl⟩
          obtain ⟨a1, ha1⟩ : ∃ a, st.all[1] = a := ⟨_, rfl⟩
          have HA01 := Lib.hid (show st.all[0] = a0 ∧ st.all[1] = a1 from ⟨ha0, ha1⟩)
          rw [ha0] at x0 h640 hCM
          rw [ha1] at x1 h641 hCM
          clear ha0 ha1 hL2
          have hrm4 : rm ≤ 1000000 := by omega
          have hc0 : ∀ W, LaidJ W → Calls Tryd.prog 28 #[.int .i64 0, .string a0, .int .i64 rm] W fun e w' => e = .returned (.int .i64 (countB 0 a0 rm)) ∧ Below W.heap.size W w' := fun W hW => jcount_calls W hW 0 rm (by omega) hrm4 a0 h640
          have hc1 : ∀ W, LaidJ W → Calls Tryd.prog 28 #[.int .i64 1, .string a1, .int .i64 rm] W fun e w' => e = .returned (.int .i64 (countB 1 a1 rm)) ∧ Below W.heap.size W w' := fun W hW => jcount_calls W hW 1 rm (by omega) hrm4 a1 h641
          have HRM := Lib.hid hrm
          clear hrm h640 h641
          have hcl0 := countB_le 0 a0 rm
          have hcl1 := countB_le 1 a1 rm
          generalize countB 0 a0 rm = k0 at hc0 hCM hcl0
          generalize countB 1 a1 rm = k1 at hc1 hCM hcl1
          go_wp2_with fail
          have hjb := heap_alloc_new w1 (.cells #[.pointer (some ⟨d, 0, none⟩), .int .i64 st.all.length, .int .i64 0, .slice none 0 0, .bool false] 50)
          have hO2 := HO1.out.alloc (.cells #[.pointer (some ⟨d, 0, none⟩), .int .i64 st.all.length, .int .i64 0, .slice none 0 0, .bool false] 50)
          have hB2 := HB1.out.alloc HB1.out.size (.cells #[.pointer (some ⟨d, 0, none⟩), .int .i64 st.all.length, .int .i64 0, .slice none 0 0, .bool false] 50)
          have y0 := (World.cell?_alloc_lt w1 (.cells #[.pointer (some ⟨d, 0, none⟩), .int .i64 st.all.length, .int .i64 0, .slice none 0 0, .bool false] 50) ⟨g, 0, none⟩ hgl).trans x0
          have y1 := (World.cell?_alloc_lt w1 (.cells #[.pointer (some ⟨d, 0, none⟩), .int .i64 st.all.length, .int .i64 0, .slice none 0 0, .bool false] 50) ⟨g, 1, none⟩ hgl).trans x1
          obtain ⟨j, hj⟩ : ∃ j, w1.heap.size = j := ⟨_, rfl⟩
          have hjw : w.heap.size ≤ j := by rw [← hj]; exact HB1.out.size
          generalize w1.alloc (.cells #[.pointer (some ⟨d, 0, none⟩), .int .i64 st.all.length, .int .i64 0, .slice none 0 0, .bool false] 50) = W2 at hjb hO2 hB2 y0 y1 ⊢
          simp only [hj] at hjb hgl ⊢
          have HJB := Lib.hid hjb
          have HO2 := Lib.hid hO2
          have HB2 := Lib.hid hB2
          have hgj : g ≠ j := by omega
          have hg2 := World.block_lt_of_cell? W2 _ y0
          have hj2 := blk_lt hjb
          clear hjb hO2 hB2 x0 x1 hj hTX
          go_cut [] from 44 to 61 (fun wx => wx.heap[j]? = some (.cells #[.pointer (some ⟨d, 0, none⟩), .int .i64 st.all.length, .int .i64 (mx k0 k1), .slice none 0 0, .bool false] 50 (0, 0)) ∧ wx.ownsRow w.heap.size 9 1 (.slice (some ⟨g, 0, none⟩) st.all.length cap) st.all.length (strs st.all) ∧ Below w.heap.size w wx)
          case first =>
            have p0 : (0 : Int) < (st.all.length : Int) := by omega
            have p1 : (1 : Int) < (st.all.length : Int) := by omega
            have p0b : decide ((0 : Int) < (st.all.length : Int)) = true := decide_eq_true p0
            have hidx := fun W => idx0 W g st.all.length cap p0
            have pne : ¬ st.all.length = 0 := by omega
            have p1b : decide ((1 : Int) < (st.all.length : Int)) = true := decide_eq_true p1
            clear hi hz0 hzz1 hz2 H64 HA01 hOM hCM
            have hLd : LaidJ W2.drew := (HL.out.below HB2.out).below ⟨rfl, rfl, rfl, Nat.le_refl _, fun _ _ => rfl⟩
            go_region_held3 (fun W => W.cell? ⟨g, 0, none⟩ = some (.string a0) ∧ W.cell? ⟨g, 1, none⟩ = some (.string a1))
              (first | exact ⟨nc0 _, nc1 _⟩ | exact ⟨nb0, nb1⟩ | exact ⟨na0, na1⟩ | exact ⟨y0, y1⟩)
              (first
                | (go_at_call 28; (with_reducible refine (hc0 _ hLd).mono ?_); rintro e wa ⟨rfl, hb⟩; have na0 := (hb.cell (p := ⟨g, 0, none⟩) hg2).trans y0; have na1 := (hb.cell (p := ⟨g, 1, none⟩) hg2).trans y1; have hLa := hLd.below hb; have hsa := hb.size; have HBa := Lib.hid hb; clear hb)
                | (go_at_call 28; (with_reducible refine (hc1 _ hLa).mono ?_); rintro e wb ⟨rfl, hb⟩; have nb0 := (hb.cell (p := ⟨g, 0, none⟩) (Nat.lt_of_lt_of_le hg2 hsa)).trans na0; have nb1 := (hb.cell (p := ⟨g, 1, none⟩) (Nat.lt_of_lt_of_le hg2 hsa)).trans na1; have HBb := Lib.hid (HBa.out.trans (hb.mono hsa)); have hjb := (HBb.out.block j hj2).trans HJB.out; have cj := cell_blk hjb 2; have fj := free_blk hjb 2; simp only [List.getElem?_toArray, List.getElem?_cons_zero, List.getElem?_cons_succ] at cj; have nc0 : ∀ x, (wb.setCell ⟨j, 2, none⟩ x).cell? ⟨g, 0, none⟩ = _ := fun x => (World.cell?_of_block (Below.heap_setCell wb ⟨j, 2, none⟩ x g hgj)).trans nb0; have nc1 : ∀ x, (wb.setCell ⟨j, 2, none⟩ x).cell? ⟨g, 1, none⟩ = _ := fun x => (World.cell?_of_block (Below.heap_setCell wb ⟨j, 2, none⟩ x g hgj)).trans nb1; have HJb := Lib.hid hjb; clear hb hjb))
            all_goals
              go_wp2_with fail
              go_meet
              refine ⟨?_, ?_, ?_⟩
              · have := Go.heap_setCell_same _ _ 2 _ _ (.int .i64 (mx k0 k1)) HJb.out
                exact this
              · exact own_same HO2.out fun i hi => (Below.heap_setCell _ _ _ _ (by (have hi2 : g = i := by simpa [Value.ownBlock] using hi); (subst hi2); exact hgj)).trans (HBb.out.block i (HO2.out.lt i hi).2)
              · exact (HB2.out.drew.trans (HBb.out.mono (Nat.le_trans HB2.out.size (Nat.le_refl _)))).setCell (p := ⟨j, 2, none⟩) hjw _
          case rest =>
            obtain ⟨hj3, hO3, hB3⟩ := hcut
            have HJ3 := Lib.hid hj3
            have HO3 := Lib.hid hO3
            have HB3 := Lib.hid hB3
            have cj2 := cell_blk hj3 2
            simp only [List.getElem?_toArray, List.getElem?_cons_zero, List.getElem?_cons_succ] at cj2
            have hgx : g < wc.heap.size := (hO3.lt g rfl).2
            have hjx : j < wc.heap.size := blk_lt hj3
            clear hj3 hO3 hB3 HJB HO2 HB2 y0 y1 hc0 hc1 hgl hg2 hj2 HO1 HB1 W2
            obtain ⟨mk, hmk⟩ : ∃ mk, mx k0 k1 = mk := ⟨_, rfl⟩
            simp only [hmk] at cj2 HJ3 hCM
            have hmb : -1 ≤ mk ∧ mk ≤ (rm : Int) := by rw [← hmk]; unfold mx; split <;> omega
            clear hmk hcl0 hcl1
            by_cases hneg : mk < 0
            · have HO : Hid (st.openM = (st, none, 27)) := by show _ = _; rw [hOM.out, hCM.out, if_pos hneg]
              clear hOM hCM
              go_wp2_with fail
              go_ret3
              exact OpenOut.no HO.out (HD.out.below HB3.out) HB3.out
            obtain ⟨c, rfl⟩ := Int.eq_ofNat_of_zero_le (show 0 ≤ mk by omega)
            have hc0b : decide ((c : Int) < 0) = false := decide_eq_false (by omega)
            have hHR : Hid (st.openM = st.openRest) := by show _ = _; rw [hOM.out, hCM.out, if_neg hneg]
            have hcr : c ≤ rm := by omega
            have hcn : c + 2 ≤ st.all.length := by have := HRM.out; omega
            clear hOM hneg hmb
            have hc2 : IntKind.i64.wrap (2 + (c : Int)) = 2 + (c : Int) := IntWalk.i64_in _ (by omega)
            have hsl1 : (0 : Int) ≤ 2 + (c : Int) := by omega
            have hsl2 : (2 : Int) ≤ 2 + (c : Int) := by omega
            have hcap := own_cap HO3.out
            have hsl3 : 2 + (c : Int) ≤ (cap : Int) := by omega
            go_wp2_with fail
            have h0 : Hid (Lib.IsBuilder 67 5 wc.heap.size wc.heap.size (Lib.byteCells []) (wc.alloc (.cells #[.pointer none, .slice none 0 0] 67)) ∧ Below wc.heap.size wc (wc.alloc (.cells #[.pointer none, .slice none 0 0] 67))) := by
              show _ ∧ _
              exact ⟨.inl ⟨Nat.le_refl _, _, heap_alloc_new _ _, World.ownsRow_nil _ _ _ _, by simp [Value.ownBlock]⟩, (Below.refl _ _).alloc (Nat.le_refl _) _⟩
            generalize wc.alloc (.cells #[.pointer none, .slice none 0 0] 67) = W3 at h0 ⊢
            obtain ⟨B, hB⟩ : ∃ B, wc.heap.size = B := ⟨_, rfl⟩
            have HBB := Lib.hid hB
            simp only [hB] at h0 hgx hjx ⊢
            clear hB cj2 hsl1 hsl2 hsl3 hwr h3' hi hz0 hzz1 hz2 HA01
            obtain ⟨S, hS⟩ : ∃ S, (st.all.drop 2).take c = S := ⟨_, rfl⟩
            have hSl : S.length = c := by rw [← hS, List.length_take, List.length_drop]; omega
            have HSE := Lib.hid hS
            have HSL := Lib.hid hSl
            clear hS hSl
            simp only [show 2 + c - 2 = c by omega]
            go_loopw [75] (fun iv wr => ∃ (k : Nat) (L : List UInt8), k ≤ c ∧ iv = .int .i64 k ∧ FSt B wc S L k wr) (fun iv _ => c - (Go.RowKit.intOf iv).toNat)
            case atStart => exact ⟨0, [], Nat.zero_le _, rfl, ⟨by rw [List.take_zero, foundB_nil], h0.out.1, h0.out.2, HBB.out ▸ h0.out.2.size⟩⟩
            case round =>
              obtain ⟨k, L, hk, rfl, hf⟩ := hrel
              have HF := Lib.hid hf
              have hsB2 := hf.sz
              have hbx : Below w.heap.size w wr := HB3.out.trans (hf.be_.mono (by rw [← HBB.out]; exact HB3.out.size))
              have HBX := Lib.hid hbx
              clear hf h0 hbx
              by_cases hlt : k < c
              · have hk2 : 2 + k < st.all.length := by omega
                have x0 : wr.cell? ⟨g, 2 + k, none⟩ = some (.string st.all[2 + k]) := by
                  rw [HF.out.be_.cell (p := ⟨g, 2 + k, none⟩) hgx, HO3.out.cellAt (2 + k) (by omega)]
                  simp [strs, List.getElem?_eq_getElem hk2]
                have HX : Hid (S[k]? = some st.all[2 + k]) := by
                  show _ = _
                  rw [← HSE.out, List.getElem?_take, if_pos hlt, List.getElem?_drop, List.getElem?_eq_getElem hk2]
                have hx64 := H64.out (2 + k) hk2
                obtain ⟨x, hx⟩ : ∃ x, st.all[2 + k] = x := ⟨_, rfl⟩
                rw [hx] at x0 HX hx64
                clear hx
                have hlt2 : (k : Int) < (c : Int) := by omega
                have hxi : (x.size : Int) = 64 := by omega
                have ca := atoiN_calls wr (HL.out.below HBX.out) (x.extract 16 18) (by rw [ByteArray.size_extract]; omega)
                obtain ⟨a, ha⟩ : ∃ a, atoiN (x.extract 16 18) = a := ⟨_, rfl⟩
                have HBAD : Hid (pieceB (2 + k) x = none → st.openM = (st, none, 27)) := by
                  show _ → _
                  intro hp
                  rw [hHR.out]
                  unfold DS.openRest
                  rw [hCM.out, Int.toNat_natCast, HSE.out, foundB_bad S k (by rw [HSL.out]; exact hlt) (by rw [List.getD_eq_getElem?_getD, HX.out]; exact hp)]
                have HPI : Hid (pieceB (2 + k) x = if 1 ≤ a ∧ a ≤ 46 ∧ sectorB (2 + k) (x.extract 18 (18 + a.toNat)) = x then some (x.extract 18 (18 + a.toNat)) else none) := by show _ = _; unfold pieceB; rw [ha]
                rw [ha] at ca
                clear ha
                go_wp2_with fail
                refine ca.mono ?_
                clear ca
                rintro e w1 ⟨⟨ev, rfl⟩, hb⟩
                have HBX1 : Hid (Below w.heap.size w w1) := HBX.out.trans (hb.mono HBX.out.size)
                have HF1 : Hid (FSt B wc S L k w1) := HF.out.draw hb
                clear hb HF
                by_cases c1 : a < 1
                · have HO := Lib.hid (HBAD.out (HPI.out.trans (if_neg (by omega))))
                  clear HBAD HPI
                  go_wp2_with fail
                  go_ret3
                  exact OpenOut.no HO.out (HD.out.below HBX1.out) HBX1.out
                by_cases c2 : 46 < a
                · have HO := Lib.hid (HBAD.out (HPI.out.trans (if_neg (by omega))))
                  clear HBAD HPI
                  go_wp2_with fail
                  go_ret3
                  exact OpenOut.no HO.out (HD.out.below HBX1.out) HBX1.out
                obtain ⟨m, rfl⟩ := Int.eq_ofNat_of_zero_le (show 0 ≤ a by omega)
                have HPI2 : Hid (pieceB (2 + k) x = if 1 ≤ (m : Int) ∧ (m : Int) ≤ 46 ∧ sectorB (2 + k) (x.extract 18 (18 + m)) = x then some (x.extract 18 (18 + m)) else none) := HPI.out
                have hm1 : 1 ≤ m := by omega
                have hm2 : m ≤ 46 := by omega
                have ce : (x.extract 18 (18 + m)).size = m := by rw [ByteArray.size_extract]; omega
                have cs := sector_calls w1 (HL.out.below HBX1.out) (2 + k) (by omega) (x.extract 18 (18 + m)) (by omega)
                have i1 : (18 : Int) ≤ 18 + (m : Int) := by omega
                have i2 : 18 + (m : Int) ≤ 64 := by omega
                have i3 : (0 : Int) ≤ 18 + (m : Int) := by omega
                clear HPI
                have hc18 : IntKind.i64.wrap (18 + (m : Int)) = 18 + (m : Int) := IntWalk.i64_in _ (by omega)
                have hc2k : IntKind.i64.wrap (2 + (k : Int)) = 2 + (k : Int) := IntWalk.i64_in _ (by omega)
                rw [show ((2 + k : Nat) : Int) = 2 + (k : Int) by omega] at cs
                have h18n : (18 + (m : Int)).toNat = 18 + m := by omega
                have c1b : decide ((m : Int) < 1) = false := decide_eq_false c1
                have c2b : decide ((46 : Int) < (m : Int)) = false := decide_eq_false c2
                clear c1 c2
                by_cases hsx : sectorB (2 + k) (x.extract 18 (18 + m)) = x
                · have HPS : Hid (pieceB (2 + k) x = some (x.extract 18 (18 + m))) := HPI2.out.trans (if_pos ⟨by omega, by omega, hsx⟩)
                  rw [hsx] at cs
                  have hqs : (x.extract 18 (18 + m)).size = m := ce
                  obtain ⟨q, hq⟩ : ∃ q, x.extract 18 (18 + m) = q := ⟨_, rfl⟩
                  rw [hq] at HPS hqs cs
                  have HQ := Lib.hid hq
                  have HLL := Lib.hid (foundB_len (S.take k) (fun s hs => by
                    have hs' := List.mem_of_mem_take hs
                    rw [← HSE.out] at hs'
                    obtain ⟨n, hn, rfl⟩ := List.getElem_of_mem (List.mem_of_mem_drop (List.mem_of_mem_take hs'))
                    exact H64.out n hn) 2 L HF1.out.eq)
                  clear HPI2 HBAD hsx hq
                  go_wp2_with fail
                  simp only [HQ.out]
                  refine cs.mono ?_
                  clear cs
                  rintro e w2 ⟨rfl, hb⟩
                  have HBX2 : Hid (Below w.heap.size w w2) := HBX1.out.trans (hb.mono HBX1.out.size)
                  have HF2 : Hid (FSt B wc S L k w2) := HF1.out.draw hb
                  clear hb HF1
                  go_wp2_with fail
                  simp only [HQ.out]
                  refine (wstr_calls B B (Lib.byteCells L) q w2 HF2.out.bu (by rw [byteCells_length]; have := HLL.out; rw [List.length_take, HSL.out] at this; omega) HF2.out.sz).mono ?_
                  rintro e w3 ⟨rfl, hbu3, hbe3⟩
                  have HN : Hid (FSt B wc S (L ++ q.data.toList) (k + 1) w3) := by
                    refine ⟨?_, .inr (by rw [byteCells_append]; exact hbu3), HF2.out.be_.trans hbe3, Nat.le_trans HF2.out.sz hbe3.size⟩
                    have e1 : S.take (k + 1) = S.take k ++ [x] := by
                      have hkS : k < S.length := by rw [HSL.out]; exact hlt
                      rw [List.take_succ_eq_append_getElem hkS]
                      have e2 := HX.out
                      rw [List.getElem?_eq_getElem hkS] at e2
                      rw [Option.some.inj e2]
                    have e3 : (S.take k).length = k := by rw [List.length_take, HSL.out]; omega
                    rw [e1, foundB_app, HF2.out.eq]
                    simp only
                    rw [e3, foundB_cons, HPS.out, foundB_nil]
                    simp
                  clear hbu3 hbe3
                  go_wp2_with fail
                  go_roundw
                  case rel => exact ⟨k + 1, _, by omega, by go_num, HN.out⟩
                  case measure => simp [Go.RowKit.intOf]; omega
                · have HO := Lib.hid (HBAD.out (HPI2.out.trans (if_neg (fun h => hsx h.2.2))))
                  have hne := str_ne hsx
                  clear HPI2 HBAD hsx
                  obtain ⟨q, hq⟩ : ∃ q, x.extract 18 (18 + m) = q := ⟨_, rfl⟩
                  rw [hq] at cs hne
                  have HQ := Lib.hid hq
                  obtain ⟨sx, hsx⟩ : ∃ sx, sectorB (2 + k) q = sx := ⟨_, rfl⟩
                  rw [hsx] at cs hne
                  clear hsx hq
                  go_wp2_with fail
                  simp only [HQ.out]
                  refine cs.mono ?_
                  clear cs
                  rintro e w2 ⟨rfl, hb⟩
                  have HBX2 : Hid (Below w.heap.size w w2) := HBX1.out.trans (hb.mono HBX1.out.size)
                  clear hb
                  go_wp2_with fail
                  go_ret3
                  exact OpenOut.no HO.out (HD.out.below HBX2.out) HBX2.out
              · have hkc : k = c := by omega
                subst hkc
                have HFE : Hid (foundB 2 S = some L) := by
                  have h := HF.out.eq
                  rw [List.take_of_length_le (by rw [HSL.out]; omega)] at h
                  exact h
                have HLL : Hid (L.length ≤ 184000) := by
                  have := foundB_len S (fun s hs => by
                    rw [← HSE.out] at hs
                    obtain ⟨n, hn, rfl⟩ := List.getElem_of_mem (List.mem_of_mem_drop (List.mem_of_mem_take hs))
                    exact H64.out n hn) 2 L HFE.out
                  rw [HSL.out] at this
                  show _ ≤ _
                  omega
                have HOR : Hid (st.openM = match parseJ (bytesB L) with
                    | none => (st, none, 27)
                    | some recs => if (st.repairs st.all k).2 = 0 then ((st.repairs st.all k).1, some ⟨st.all.length, k, recs, false⟩, 0) else ((st.repairs st.all k).1, none, (st.repairs st.all k).2)) := by
                  show _ = _
                  rw [hHR.out]
                  unfold DS.openRest
                  rw [hCM.out, Int.toNat_natCast, HSE.out, HFE.out]
                  rfl
                have hst := Tryd.Builder_String_any B B L wr HF.out.bu hsB2
                clear hHR hCM
                go_wp2_with fail
                refine hst.mono ?_
                clear hst
                rintro e w2 ⟨rfl, hb2⟩
                have HBE2 : Hid (Below B wc w2) := HF.out.be_.trans hb2
                have HBX2 : Hid (Below w.heap.size w w2) := HB3.out.trans (HBE2.out.mono (by rw [← HBB.out]; exact HB3.out.size))
                have hs2 : B ≤ w2.heap.size := Nat.le_trans hsB2 hb2.size
                clear hb2
                have cp := parse_calls w2 (HL.out.below HBX2.out) (bytesB L) (by rw [bytesB_size]; have := HLL.out; omega)
                go_wp2_with fail
                refine Calls.mono (R := ParseOut w2 (bytesB L)) cp ?_
                clear cp
                rintro e w3 hpo
                have hs3 : w2.heap.size ≤ w3.heap.size := by rcases hpo with ⟨_, _, _, _, _, hb⟩ | ⟨_, _, hb⟩ <;> exact hb.size
                have HB3' : Hid (Below w2.heap.size w2 w3) := by rcases hpo with ⟨_, _, _, _, _, hb⟩ | ⟨_, _, hb⟩ <;> exact hb
                have HBE3 : Hid (Below B wc w3) := HBE2.out.trans (HB3'.out.mono hs2)
                have HBX3 : Hid (Below w.heap.size w w3) := HBX2.out.trans (HB3'.out.mono HBX2.out.size)
                have hj3 : w3.heap[j]? = _ := (HBE3.out.block j hjx).trans HJ3.out
                have cj3 := cell_blk hj3 3
                have fj3 := free_blk hj3 3
                simp only [List.getElem?_toArray, List.getElem?_cons_zero, List.getElem?_cons_succ] at cj3
                have hj3l : j < w3.heap.size := by omega
                have HJ4 := Lib.hid hj3
                clear hj3
                rcases hpo with ⟨recs, v, hpj, rfl, hown, hb⟩ | ⟨hpj, rfl, hb⟩
                rotate_left
                · have HO : Hid (st.openM = (st, none, 27)) := by show _ = _; rw [HOR.out, hpj]
                  clear hb HOR hpj
                  go_wp2_with fail
                  go_ret3
                  have hbz : Below w.heap.size w (w3.setCell ⟨j, 3, none⟩ (.slice none 0 0)) := HBX3.out.setCell (by exact hjw) _
                  exact OpenOut.no HO.out (HD.out.below hbz) hbz
                have HOR2 : Hid (st.openM = if (st.repairs st.all k).2 = 0 then ((st.repairs st.all k).1, some ⟨st.all.length, k, recs, false⟩, 0) else ((st.repairs st.all k).1, none, (st.repairs st.all k).2)) := by show _ = _; rw [HOR.out, hpj]
                have HOWN := Lib.hid hown
                have hform : ∃ A cap, v = .slice A recs.length cap := by obtain ⟨A, cap, h, _⟩ := TextsAt.of_own hown; exact ⟨A, cap, h⟩
                obtain ⟨rA, rcap, rfl⟩ := hform
                have HRL : Hid (recs.length ≤ 1000000) := by
                  show _ ≤ _
                  have h1 := parseJ_len _ _ _ (Nat.le_refl _) hpj
                  rw [bytesB_size] at h1
                  have := HLL.out
                  omega
                clear hb hown HOR hpj
                go_wp2_with fail
                have hj5 : (w3.setCell ⟨j, 3, none⟩ (.slice rA recs.length rcap)).heap[j]? = some (.cells #[.pointer (some ⟨d, 0, none⟩), .int .i64 st.all.length, .int .i64 k, .slice rA recs.length rcap, .bool false] 50 (0, 0)) := Go.heap_setCell_same _ _ 3 _ _ (.slice rA recs.length rcap) HJ4.out
                have ho5 : (w3.setCell ⟨j, 3, none⟩ (.slice rA recs.length rcap)).ownsRow w.heap.size 9 1 (.slice rA recs.length rcap) recs.length (strs recs) := own_same (own_low HOWN.out HBX2.out.size) fun i hi => Below.heap_setCell _ _ _ _ (by have := (HOWN.out.lt i hi).1; show i ≠ j; omega)
                have hg5 : (w3.setCell ⟨j, 3, none⟩ (.slice rA recs.length rcap)).ownsRow w.heap.size 9 1 (.slice (some ⟨g, 0, none⟩) st.all.length cap) st.all.length (strs st.all) := own_same HO3.out fun i hi => by
                  have hi2 : g = i := by simpa [Value.ownBlock] using hi
                  subst hi2
                  exact (Below.heap_setCell _ _ _ _ hgj).trans (HBE3.out.block g hgx)
                have hb5 : Below w.heap.size w (w3.setCell ⟨j, 3, none⟩ (.slice rA recs.length rcap)) := HBX3.out.setCell (by exact hjw) _
                have hjl5 : j < (w3.setCell ⟨j, 3, none⟩ (.slice rA recs.length rcap)).heap.size := blk_lt hj5
                have HJ5 := Lib.hid hj5
                have HO5 := Lib.hid ho5
                have HG5 := Lib.hid hg5
                have HB5 := Lib.hid hb5
                clear hj5 ho5 hg5 hb5 cj3 fj3 hj3l HJ4 HOWN HBX3 HBE3 HB3' hs3 HBE2 HBX2 hs2 HLL HFE HF hsB2 HBX HSL HSE HJ3 hc2
                generalize w3.setCell ⟨j, 3, none⟩ (.slice rA recs.length rcap) = wy at HJ5 HO5 HG5 HB5 hjl5 ⊢
                clear w3 w2 wr HO3 HB3 HBB hgx hjx
                have hFw : ∀ i, F i → i < w.heap.size := by obtain ⟨s0, qv, av, hc, f1, f2, f3, f4, f5⟩ := HD.out; exact f5
                have HFW := Lib.hid hFw
                have hjF : ¬ F j := fun h => by have := hFw j h; omega
                have hgF : ¬ F g := fun h => by have := hFw g h; omega
                have hgl5 : g < wy.heap.size := (HG5.out.lt g rfl).2
                have HST : Hid (RP wy F d st st.all k 0 st F wy) := ⟨HD.out.below HB5.out, Upd.refl _ _, fun i hi => .inl hi, by omega, repairs_left _ _ _⟩
                clear hFw
                go_loopw [119] (fun iv wr => ∃ (p : Nat) (st' : DS) (F' : Nat → Prop), p ≤ 2 ∧ iv = .int .i64 p ∧ RP wy F d st st.all k p st' F' wr) (fun iv _ => 2 - (Go.RowKit.intOf iv).toNat)
                case atStart => exact ⟨0, st, F, by omega, rfl, HST.out⟩
                case round =>
                  obtain ⟨p, st', F', hp2, rfl, hrp⟩ := hrel
                  have HRP := Lib.hid hrp
                  have hq' := hrp.q
                  have hj6 : wr.heap[j]? = _ := (hrp.up.block j hjl5 hjF).trans HJ5.out
                  have cj0 := cell_blk hj6 0
                  have cj2 := cell_blk hj6 2
                  have cj3 := cell_blk hj6 3
                  simp only [List.getElem?_toArray, List.getElem?_cons_zero, List.getElem?_cons_succ] at cj0 cj2 cj3
                  have hjl6 : j < wr.heap.size := blk_lt hj6
                  have HJ6 := Lib.hid hj6
                  clear hrp hj6 HST
                  by_cases hlt : p < 2
                  · have hpn : p < st.all.length := by omega
                    have x0 : wr.cell? ⟨g, p, none⟩ = some (.string st.all[p]) := by
                      rw [HRP.out.up.cell (p := ⟨g, p, none⟩) hgl5 hgF, HG5.out.cellAt p (by omega)]
                      simp [strs, List.getElem?_eq_getElem hpn]
                    have HX : Hid (st.all.getD p emptyB = st.all[p]) := by show _ = _; rw [List.getD_eq_getElem?_getD, List.getElem?_eq_getElem hpn]; rfl
                    obtain ⟨x, hx⟩ : ∃ x, st.all[p] = x := ⟨_, rfl⟩
                    rw [hx] at x0 HX
                    clear hx
                    have hglr : g < wr.heap.size := Nat.lt_of_lt_of_le hgl5 HRP.out.up.size
                    have hLr : LaidJ wr := HLU.out wr ((Upd.of_below HB5.out F).trans HRP.out.up fun i hi => .inl hi)
                    have ch := headof_calls wr hLr p k (by omega) (by omega)
                    have HLR := Lib.hid hLr
                    obtain ⟨hB, hhB⟩ : ∃ y, headB p k = y := ⟨_, rfl⟩
                    have HHB := Lib.hid hhB
                    rw [hhB] at ch
                    clear hhB hLr
                    have hlt2 : (p : Int) < 2 := by omega
                    have hlt3 : (p : Int) < (st.all.length : Int) := by omega
                    have hltb : decide ((p : Int) < 2) = true := decide_eq_true hlt2
                    go_wp2_with fail
                    refine ch.mono ?_
                    clear ch
                    rintro e w1 ⟨rfl, hb⟩
                    have x1 := (hb.cell (p := ⟨g, p, none⟩) hglr).trans x0
                    have c10 := (hb.cell (p := ⟨j, 0, none⟩) hjl6).trans cj0
                    have c12 := (hb.cell (p := ⟨j, 2, none⟩) hjl6).trans cj2
                    have hgl1 : g < w1.heap.size := Nat.lt_of_lt_of_le hglr hb.size
                    have hjl1 : j < w1.heap.size := Nat.lt_of_lt_of_le hjl6 hb.size
                    have HRP1 : Hid (RP wy F d st st.all k p st' F' w1) := HRP.out.draw hb
                    have HLR1 : Hid (LaidJ w1) := HLR.out.below hb
                    clear hb x0 cj0 cj2 cj3 hglr hjl6 HRP HLR HJ6
                    obtain ⟨ok, hok⟩ : ∃ ok : Bool, ok = decide (x = hB ∨ (k = 0 ∧ x = zeroB)) := ⟨_, rfl⟩
                    have HOK := Lib.hid hok
                    clear hok
                    go_upto_region 32 with (fail)
                    go_cut [148] from 128 to 148 (fun v wx => v = .bool ok ∧ Below w1.heap.size w1 wx)
                    case first =>
                      have p0 : (0 : Int) ≤ (p : Int) := by omega
                      have hpt : (p : Int).toNat = p := by omega
                      by_cases c1 : x = hB
                      · have HT : Hid (ok = true) := HOK.out.trans (decide_eq_true (.inl c1))
                        subst c1
                        clear HOK
                        go_quiet (fail)
                        go_wp2_with fail
                        go_meet
                        rw [HT.out]
                        exact ⟨by simp, pw_below_drewN (Below.refl _ _) _⟩
                      have hne := str_ne c1
                      by_cases c2 : k = 0
                      · have hkb : ((k : Int) == 0) = true := by simp [c2]
                        have hki : (k : Int) = 0 := by omega
                        by_cases c3 : x = zeroB
                        · have HT : Hid (ok = true) := HOK.out.trans (decide_eq_true (.inr ⟨c2, c3⟩))
                          have hz := zero_calls w1.drew
                          rw [← c3] at hz
                          clear HOK c3 c2 c1 hki
                          go_region_held3 (fun W => W.cell? ⟨g, p, none⟩ = some (.string x) ∧ W.cell? ⟨j, 2, none⟩ = some (.int .i64 k))
                            (first | exact ⟨na0, na1⟩ | exact ⟨x1, c12⟩)
                            (first | (go_at_call 35; (with_reducible refine hz.mono ?_); rintro e wa ⟨rfl, hb⟩; have na0 := (hb.cell (p := ⟨g, p, none⟩) hgl1).trans x1; have na1 := (hb.cell (p := ⟨j, 2, none⟩) hjl1).trans c12; have HZ : Hid (Below w1.heap.size w1 wa) := (show Below w1.heap.size w1 w1.drew from ⟨rfl, rfl, rfl, Nat.le_refl _, fun _ _ => rfl⟩).trans hb; clear hb))
                          all_goals
                            go_wp2_with fail
                            go_meet
                            rw [HT.out]
                            exact ⟨by simp, HZ.out⟩
                        · have HT : Hid (ok = false) := HOK.out.trans (decide_eq_false (fun h => h.elim c1 fun h => c3 h.2))
                          have hne2 := str_ne c3
                          have hz := zero_calls w1.drew
                          generalize zeroB = zb at hz hne2
                          clear HOK c3 c2 c1 hki
                          go_region_held3 (fun W => W.cell? ⟨g, p, none⟩ = some (.string x) ∧ W.cell? ⟨j, 2, none⟩ = some (.int .i64 k))
                            (first | exact ⟨na0, na1⟩ | exact ⟨x1, c12⟩)
                            (first | (go_at_call 35; (with_reducible refine hz.mono ?_); rintro e wa ⟨rfl, hb⟩; have na0 := (hb.cell (p := ⟨g, p, none⟩) hgl1).trans x1; have na1 := (hb.cell (p := ⟨j, 2, none⟩) hjl1).trans c12; have HZ : Hid (Below w1.heap.size w1 wa) := (show Below w1.heap.size w1 w1.drew from ⟨rfl, rfl, rfl, Nat.le_refl _, fun _ _ => rfl⟩).trans hb; clear hb))
                          all_goals
                            go_wp2_with fail
                            go_meet
                            rw [HT.out]
                            exact ⟨by simp, HZ.out⟩
                      · have HT : Hid (ok = false) := HOK.out.trans (decide_eq_false (fun h => h.elim c1 fun h => c2 h.1))
                        have hkb : ((k : Int) == 0) = false := by simp [c2]
                        clear HOK c1
                        go_quiet (fail)
                        go_wp2_with fail
                        go_meet
                        rw [HT.out]
                        exact ⟨by simp, pw_below_drewN (Below.refl _ _) _⟩
                    case rest =>
                      obtain ⟨rfl, hbc⟩ := hcut
                      have c20 := (hbc.cell (p := ⟨j, 0, none⟩) hjl1).trans c10
                      have c22 := (hbc.cell (p := ⟨j, 2, none⟩) hjl1).trans c12
                      have hjl2 : j < wc.heap.size := Nat.lt_of_lt_of_le hjl1 hbc.size
                      have HRP2 : Hid (RP wy F d st st.all k p st' F' wc) := HRP1.out.draw hbc
                      have HLR2 : Hid (LaidJ wc) := HLR1.out.below hbc
                      have hFj : ¬ F' j := fun h => by
                        rcases HRP2.out.old j h with h1 | h1
                        · exact hjF h1
                        · omega
                      clear hbc x1 c10 c12 hgl1 hjl1 HRP1 HLR1
                      cases hok2 : ok with
                      | true =>
                        have HR0 : Hid (st'.repairM st.all k p = (st', 0)) := by
                          have h1 := HOK.out
                          rw [hok2] at h1
                          have h2 := of_decide_eq_true h1.symm
                          show _ = _
                          unfold DS.repairM
                          rw [HX.out, HHB.out]
                          exact if_pos h2
                        clear HOK hok2
                        go_wp2_with fail
                        go_roundw
                        case rel => exact ⟨p + 1, st', F', by omega, by go_num, HRP2.out.next hlt HR0.out HRP2.out.disk (Upd.refl _ _) (fun i hi => .inl hi) (by omega)⟩
                        case measure => simp [Go.RowKit.intOf]; omega
                      | false =>
                        have HR0 : Hid (st'.repairM st.all k p = if (st'.writeM p [zeroB]).2 = 0 ∧ 0 < k then (st'.writeM p [zeroB]).1.writeM p [hB] else st'.writeM p [zeroB]) := by
                          have h1 := HOK.out
                          rw [hok2] at h1
                          have h2 := of_decide_eq_false h1.symm
                          show _ = _
                          unfold DS.repairM
                          rw [HX.out, HHB.out]
                          exact if_neg h2
                        clear HOK hok2
                        have HQ1 := Lib.hid (DS.writeM_q st' p [zeroB])
                        have hz := zero_calls wc
                        have hw1 := fun W (hb : Below wc.heap.size wc W) => jwrite_one (HRP2.out.disk.below hb) j ((hb.cell (p := ⟨j, 0, none⟩) hjl2).trans c20) hFj p (by omega) zeroB (by omega)
                        obtain ⟨r1, hr1⟩ : ∃ r1, st'.writeM p [zeroB] = r1 := ⟨_, rfl⟩
                        rw [hr1] at HR0 HQ1
                        simp only [hr1] at hw1
                        obtain ⟨zb, hzb⟩ : ∃ zb, zeroB = zb := ⟨_, rfl⟩
                        rw [hzb] at hz
                        simp only [hzb] at hw1
                        obtain ⟨s1, e1⟩ := r1
                        clear hr1 hzb
                        go_wp2_with fail
                        refine hz.mono ?_
                        clear hz
                        rintro e w4 ⟨rfl, hb⟩
                        have hw1' := hw1 w4 hb
                        have HB4 := Lib.hid hb
                        clear hw1 hb
                        go_wp2_with fail
                        refine hw1'.mono ?_
                        clear hw1'
                        rintro e w5 ⟨rfl, F1, hd1, hu1, hF1⟩
                        have c50 := (hu1.cell (p := ⟨j, 0, none⟩) (Nat.lt_of_lt_of_le hjl2 HB4.out.size) hFj).trans ((HB4.out.cell (p := ⟨j, 0, none⟩) hjl2).trans c20)
                        have c52 := (hu1.cell (p := ⟨j, 2, none⟩) (Nat.lt_of_lt_of_le hjl2 HB4.out.size) hFj).trans ((HB4.out.cell (p := ⟨j, 2, none⟩) hjl2).trans c22)
                        have hF1j : ¬ F1 j := fun h => by
                          have h4 := HB4.out.size
                          rcases hF1 j h with h1 | h1
                          · exact hFj h1
                          · omega
                        have HD1 := Lib.hid hd1
                        have HU1 : Hid (Upd F' wc w5) := (Upd.of_below HB4.out F').trans hu1 fun i hi => .inl hi
                        have HF1 : Hid (∀ i, F1 i → F' i ∨ wc.heap.size ≤ i) := by
                          show ∀ i, _
                          intro i hi
                          exact (hF1 i hi).imp id fun h => Nat.le_trans HB4.out.size h
                        clear hd1 hu1 hF1 c20 c22
                        by_cases he1 : e1 = 0
                        · subst he1
                          by_cases hk0 : 0 < k
                          · have HR1 : Hid (st'.repairM st.all k p = s1.writeM p [hB]) := HR0.out.trans (if_pos ⟨rfl, hk0⟩)
                            have hk0b : decide ((0 : Int) < (k : Int)) = true := decide_eq_true (by omega)
                            have HQ2 := Lib.hid (DS.writeM_q s1 p [hB])
                            have hw2 := jwrite_one HD1.out j c50 hF1j p (by omega) hB (by have h1 := HQ1.out; simp only [List.length_cons, List.length_nil] at h1; omega)
                            obtain ⟨r2, hr2⟩ : ∃ r2, s1.writeM p [hB] = r2 := ⟨_, rfl⟩
                            rw [hr2] at HR1 HQ2 hw2
                            obtain ⟨s2, e2⟩ := r2
                            clear hr2 HR0
                            go_wp2_with fail
                            refine hw2.mono ?_
                            clear hw2
                            rintro e w6 ⟨rfl, F2, hd2, hu2, hF2⟩
                            have HD2 := Lib.hid hd2
                            have HU2 : Hid (Upd F' wc w6) := HU1.out.trans hu2 HF1.out
                            have HF2 : Hid (∀ i, F2 i → F' i ∨ wc.heap.size ≤ i) := by
                              show ∀ i, _
                              intro i hi
                              rcases hF2 i hi with h | h
                              · exact HF1.out i h
                              · exact .inr (Nat.le_trans HU1.out.size h)
                            clear hd2 hu2 hF2 c50 c52
                            by_cases he2 : e2 = 0
                            · subst he2
                              go_wp2_with fail
                              go_roundw
                              case rel => exact ⟨p + 1, s2, F2, by omega, by go_num, HRP2.out.next hlt HR1.out HD2.out HU2.out HF2.out (by have h1 := HQ1.out; have h2 := HQ2.out; simp only [List.length_cons, List.length_nil] at h1 h2; omega)⟩
                              case measure => simp [Go.RowKit.intOf]; omega
                            · have hb1 : (e2 == 0) = false := by simp [he2]
                              have hb2 : (e2 != 0) = true := by simp [he2]
                              have HRF := Lib.hid (HRP2.out.fail hlt HR1.out he2)
                              go_wp2_with fail
                              go_ret3
                              exact OpenOut.lost HOR2.out HRF.out he2 HD2.out HB5.out (HRP2.out.up.trans HU2.out HRP2.out.old) fun i hi => (HF2.out i hi).elim (HRP2.out.old i) fun h => .inr (Nat.le_trans HRP2.out.up.size h)
                          · have HR1 : Hid (st'.repairM st.all k p = (s1, 0)) := HR0.out.trans (if_neg (fun h => hk0 h.2))
                            have hk0b : decide ((0 : Int) < (k : Int)) = false := decide_eq_false (by omega)
                            clear HR0
                            go_wp2_with fail
                            go_roundw
                            case rel => exact ⟨p + 1, s1, F1, by omega, by go_num, HRP2.out.next hlt HR1.out HD1.out HU1.out HF1.out (by have h1 := HQ1.out; simp only [List.length_cons, List.length_nil] at h1; omega)⟩
                            case measure => simp [Go.RowKit.intOf]; omega
                        · have HR1 : Hid (st'.repairM st.all k p = (s1, e1)) := HR0.out.trans (if_neg (fun h => he1 h.1))
                          have hb1 : (e1 == 0) = false := by simp [he1]
                          have hb2 : (e1 != 0) = true := by simp [he1]
                          have HRF := Lib.hid (HRP2.out.fail hlt HR1.out he1)
                          clear HR0
                          go_wp2_with fail
                          go_ret3
                          exact OpenOut.lost HOR2.out HRF.out he1 HD1.out HB5.out (HRP2.out.up.trans HU1.out HRP2.out.old) fun i hi => (HF1.out i hi).elim (HRP2.out.old i) fun h => .inr (Nat.le_trans HRP2.out.up.size h)
                  · have hpe : p = 2 := by omega
                    have HRE : Hid (st.repairs st.all k = (st', 0)) := by
                      have h := HRP.out.eq
                      rw [hpe] at h
                      exact h
                    have hltb : decide ((p : Int) < 2) = false := decide_eq_false (by omega)
                    have hor : wr.ownsRow w.heap.size 9 1 (.slice rA recs.length rcap) recs.length (strs recs) := own_same HO5.out fun i hi => HRP.out.up.block i (HO5.out.lt i hi).2 fun h => by have := HFW.out i h; have := (HO5.out.lt i hi).1; omega
                    have HOR6 := Lib.hid hor
                    have cc := clone_calls wr (.slice rA recs.length rcap) recs (TextsAt.of_own hor) HRL.out
                    clear hor
                    go_wp2_with fail
                    refine cc.mono ?_
                    clear cc
                    rintro e w7 ⟨lv, rfl, hlo, hb7⟩
                    have HLO := Lib.hid hlo
                    have HB7 := Lib.hid hb7
                    clear hlo hb7
                    go_wp2_with fail
                    go_ret3
                    have hE : st.openM = (st', some ⟨st.all.length, k, recs, false⟩, 0) := by rw [HOR2.out, HRE.out]; exact if_pos rfl
                    have hFr : ∀ i, F' i → i < wr.heap.size := by obtain ⟨s0, qv, av, hc, f1, f2, f3, f4, f5⟩ := HRP.out.disk; exact f5
                    have hFo : ∀ i, w.heap.size ≤ i → i < wy.heap.size → ¬ F' i := fun i h1 h2 h => by
                      rcases HRP.out.old i h with h3 | h3
                      · have := HFW.out i h3; omega
                      · omega
                    have hru := HRP.out.up.size
                    refine ⟨.pointer (some ⟨j, 0, none⟩), lv, by rw [hE]; rfl, F', by rw [hE]; exact HRP.out.disk.below HB7.out, ((Upd.of_below HB5.out F).trans HRP.out.up fun i hi => .inl hi).trans (Upd.of_below HB7.out F) (fun i hi => .inl hi), fun i hi => (HRP.out.old i hi).imp id fun h => Nat.le_trans HB5.out.size h, ?_⟩
                    rw [hE]
                    refine ⟨j, fun i => i = j ∨ (Value.slice rA recs.length rcap).ownBlock = some i, rfl, ⟨.slice rA recs.length rcap, (HB7.out.block j hjl6).trans HJ6.out, own_low (own_same HOR6.out fun i hi => HB7.out.block i (HOR6.out.lt i hi).2) (Nat.zero_le _), .inl rfl, fun i hi => .inr hi, fun i hi => ?_⟩, fun i hi => ?_, fun i hi => ?_, own_low HLO.out (Nat.le_trans HB5.out.size hru), fun i hi => ⟨fun h => ?_, fun h => ?_⟩⟩
                    · rcases hi with rfl | hi
                      · exact Nat.lt_of_lt_of_le hjl6 HB7.out.size
                      · exact Nat.lt_of_lt_of_le (HOR6.out.lt i hi).2 HB7.out.size
                    · rcases hi with rfl | hi
                      · exact hjw
                      · exact (HOR6.out.lt i hi).1
                    · rcases hi with rfl | hi
                      · exact hFo _ hjw hjl5
                      · exact hFo _ (HO5.out.lt i hi).1 (HO5.out.lt i hi).2
                    · have := (HLO.out.lt i hi).1
                      have := hFr i h
                      omega
                    · have h8 := (HLO.out.lt i hi).1
                      rcases h with rfl | h
                      · omega
                      · have := (HO5.out.lt i h).2
                        omega
end Go.Proofs.YtpdhjfnddnoghaaDoor
