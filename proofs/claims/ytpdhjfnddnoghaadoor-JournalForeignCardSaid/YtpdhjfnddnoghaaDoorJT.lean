/- The closures of the journal's Append; slices.IndexFunc and ContainsFunc with the first of them.
   Conditions: the texts, the boxes that the closures captured and the disk lie in memory. -/
import Derived.Test.YtpdhjfnddnoghaaDoorPE
import Derived.Defers
import Derived.Deep.DeepCutAuto
import Derived.Deep.RegionHeld3
namespace Go.Proofs.YtpdhjfnddnoghaaDoor
open Go.RowKit Go.Lib
set_option linter.unusedVariables false
set_option linter.unusedSimpArgs false

set_option maxRecDepth 100000 in
theorem long_calls (w : World) (x : ByteArray) (hx : x.size ≤ 9223372036854775807) :
    Calls Tryd.prog 39 #[.string x] w fun e w' => e = .returned (.bool (decide (20000 < x.size))) ∧ w = w' := by
  have hb : decide (20000 < x.size) = decide ((20000 : Int) < (x.size : Int)) := decide_eq_decide.2 (by omega)
  by_cases h : (20000 : Int) < (x.size : Int)
  · have h2 : decide (20000 < x.size) = true := by rw [hb]; exact decide_eq_true h
    rw [h2]
    clear hb h2
    go_enter Tryd.func39, Tryd.ntmps39
    go_wp2_with fail
    go_ret
    exact ⟨by simp [h], rfl⟩
  · have h2 : decide (20000 < x.size) = false := by rw [hb]; exact decide_eq_false h
    rw [h2]
    clear hb h2
    go_enter Tryd.func39, Tryd.ntmps39
    go_wp2_with fail
    go_ret
    exact ⟨by simp [h], rfl⟩
def LongAt (xs : List ByteArray) (e : Ending) : Prop := ∃ r : Int, e = .returned (.int .i64 r) ∧ (tooLong xs = true → 0 ≤ r) ∧ (tooLong xs = false → r = -1) ∧ -1 ≤ r
theorem tooLong_take (xs : List ByteArray) (k : Nat) (hk : k < xs.length) (h : tooLong (xs.take k) = false) (hx : xs[k].size ≤ 20000) : tooLong (xs.take (k + 1)) = false := by
  unfold tooLong at *
  rw [List.take_succ_eq_append_getElem hk, List.any_append, h]
  simp
  exact hx
theorem tooLong_hit (xs : List ByteArray) (k : Nat) (hk : k < xs.length) (hx : 20000 < xs[k].size) : tooLong xs = true := by
  unfold tooLong
  rw [List.any_eq_true]
  exact ⟨xs[k], List.getElem_mem hk, by simpa using hx⟩
set_option maxRecDepth 100000 in
set_option maxHeartbeats 1000000 in
theorem ifun_calls (w : World) (v : Value) (xs : List ByteArray) (hv : TextsAt w v xs) (hl : xs.length ≤ 1000000) (hs : ∀ x ∈ xs, x.size ≤ 9223372036854775807) :
    Calls Tryd.prog 59 #[v, .func (.func 39) #[] #[]] w fun e w' => LongAt xs e ∧ w = w' := by
  obtain ⟨A, cap, rfl, hA⟩ := hv
  have HA := Lib.hid hA
  have HS := Lib.hid hs
  clear hA hs
  go_enter Tryd.func59, Tryd.ntmps59
  go_wp2_with fail
  go_loop [8] (fun i => ∃ k : Nat, k ≤ xs.length ∧ i = .int .i64 k ∧ tooLong (xs.take k) = false) (fun i => xs.length - (Go.RowKit.intOf i).toNat)
  case atStart => exact ⟨0, Nat.zero_le _, rfl, rfl⟩
  case round =>
    obtain ⟨k, hk, rfl, ht⟩ := hrel
    have HT := Lib.hid ht
    clear ht
    by_cases hlt : k < xs.length
    · obtain ⟨b, off, hAe, hbl, hc⟩ := HA.out (by omega)
      subst hAe
      have x0 := hc k hlt
      have hsz := HS.out _ (List.getElem_mem hlt)
      have hlt2 : (k : Int) < (xs.length : Int) := by omega
      by_cases h20 : 20000 < xs[k].size
      · have HX := Lib.hid (tooLong_hit xs k hlt h20)
        obtain ⟨x, hx⟩ : ∃ x, xs[k] = x := ⟨_, rfl⟩
        rw [hx] at x0 hsz h20
        have hcl := fun W => long_calls W x hsz
        rw [show decide (20000 < x.size) = true from decide_eq_true h20] at hcl
        clear hx hc
        go_wp2_with fail
        refine (hcl _).mono ?_
        rintro e w1 ⟨rfl, rfl⟩
        go_wp2_with fail
        go_ret
        exact ⟨⟨(k : Int), rfl, fun _ => by omega, (fun h => absurd (HX.out.symm.trans h) (by simp)), by omega⟩, rfl⟩
      · have HX := Lib.hid (tooLong_take xs k hlt HT.out (by omega))
        obtain ⟨x, hx⟩ : ∃ x, xs[k] = x := ⟨_, rfl⟩
        rw [hx] at x0 hsz h20
        have hcl := fun W => long_calls W x hsz
        rw [show decide (20000 < x.size) = false from decide_eq_false h20] at hcl
        clear hx hc
        go_wp2_with fail
        refine (hcl _).mono ?_
        rintro e w1 ⟨rfl, rfl⟩
        go_wp2_with fail
        go_round
        case rel => exact ⟨k + 1, by omega, by go_num, HX.out⟩
        case measure => simp [Go.RowKit.intOf]; omega
    · have HX : Hid (tooLong xs = false) := by
        have h := HT.out
        rw [List.take_of_length_le (by omega)] at h
        exact h
      go_wp2_with fail
      go_ret
      exact ⟨⟨-1, rfl, (fun h => absurd (HX.out.symm.trans h) (by simp)), fun _ => rfl, by omega⟩, rfl⟩
set_option maxRecDepth 100000 in
theorem contains_calls (w : World) (v : Value) (xs : List ByteArray) (hv : TextsAt w v xs) (hl : xs.length ≤ 1000000) (hs : ∀ x ∈ xs, x.size ≤ 9223372036854775807) :
    Calls Tryd.prog 38 #[v, .func (.func 39) #[] #[]] w fun e w' => e = .returned (.bool (tooLong xs)) ∧ w = w' := by
  have hi := ifun_calls w v xs hv hl hs
  cases ht : tooLong xs with
  | true =>
    go_enter Tryd.func38, Tryd.ntmps38
    go_wp2_with fail
    refine hi.mono ?_
    clear hi
    rintro e w1 ⟨⟨r, rfl, h1, h2, h3⟩, rfl⟩
    have h0 := h1 ht
    clear h1 h2 ht
    go_wp2_with fail
    go_ret
    exact ⟨by simp [h0], rfl⟩
  | false =>
    go_enter Tryd.func38, Tryd.ntmps38
    go_wp2_with fail
    refine hi.mono ?_
    clear hi
    rintro e w1 ⟨⟨r, rfl, h1, h2, h3⟩, rfl⟩
    have h0 := h2 ht
    subst h0
    clear h1 h2 ht h3
    go_wp2_with fail
    go_ret
    exact ⟨by simp, rfl⟩
/-- what the closures captured -/
def BoxIs (w : World) (F : Nat → Prop) (b : Nat) (v : Value) : Prop := b < w.heap.size ∧ ¬ F b ∧ w.cell? ⟨b, 0, none⟩ = some v
set_option maxRecDepth 100000 in
theorem app3_calls {w : World} {F : Nat → Prop} {d : Nat} {st : DS} (hd : DiskAt w F d st) (j bj b6 b8 : Nat) (hj : w.cell? ⟨j, 0, none⟩ = some (.pointer (some ⟨d, 0, none⟩))) (hjF : ¬ F j)
    (hbj : w.cell? ⟨bj, 0, none⟩ = some (.pointer (some ⟨j, 0, none⟩))) (p : Int) (hp : 0 ≤ p ∧ p ≤ 1000000) (hb6 : w.cell? ⟨b6, 0, none⟩ = some (.int .i64 p)) (v : Value) (hb8 : w.cell? ⟨b8, 0, none⟩ = some v)
    (xs : List ByteArray) (hv : TextsOut w F v xs) (hxl : xs.length ≤ 1000) (hql : st.queue.length ≤ 100000) :
    Calls Tryd.prog 43 #[.pointer (some ⟨bj, 0, none⟩), .pointer (some ⟨b6, 0, none⟩), .pointer (some ⟨b8, 0, none⟩)] w (Turns w F d (st.writeM p xs).1 (.int .i64 (st.writeM p xs).2)) := by
  have hw := jwrite_calls hd j hj hjF p hp v xs hv hxl hql
  obtain ⟨s2, hs2⟩ : ∃ s2, st.writeM p xs = s2 := ⟨_, rfl⟩
  rw [hs2] at hw ⊢
  obtain ⟨s2, er⟩ := s2
  clear hs2 hd hv hp hj
  go_enter Tryd.func43, Tryd.ntmps43
  go_wp2_with fail
  refine hw.mono ?_
  clear hw
  rintro e w1 ⟨rfl, F1, hd1, hu1, hF1⟩
  have HT : Hid (Turns w F d s2 (.int .i64 er) (.returned (.int .i64 er)) w1) := ⟨rfl, F1, hd1, hu1, hF1⟩
  clear hd1 hu1 hF1
  go_wp2_with fail
  go_ret
  exact HT.out
set_option maxRecDepth 100000 in
theorem app4_calls {w : World} {F : Nat → Prop} {d : Nat} {st : DS} (hd : DiskAt w F d st) (j bj b6 b8 : Nat) (hj : w.cell? ⟨j, 0, none⟩ = some (.pointer (some ⟨d, 0, none⟩))) (hjF : ¬ F j)
    (hbj : w.cell? ⟨bj, 0, none⟩ = some (.pointer (some ⟨j, 0, none⟩))) (p : Int) (hp : 0 ≤ p ∧ p ≤ 1000000) (hb6 : w.cell? ⟨b6, 0, none⟩ = some (.int .i64 p)) (v : Value) (hb8 : w.cell? ⟨b8, 0, none⟩ = some v)
    (xs : List ByteArray) (hv : TextsOut w F v xs) (hxl : xs.length ≤ 1000) (hql : st.queue.length ≤ 100000) :
    Calls Tryd.prog 44 #[.pointer (some ⟨bj, 0, none⟩), .pointer (some ⟨b6, 0, none⟩), .pointer (some ⟨b8, 0, none⟩)] w (Turns w F d (st.writeM p xs).1 (.int .i64 (st.writeM p xs).2)) := by
  have hw := jwrite_calls hd j hj hjF p hp v xs hv hxl hql
  obtain ⟨s2, hs2⟩ : ∃ s2, st.writeM p xs = s2 := ⟨_, rfl⟩
  rw [hs2] at hw ⊢
  obtain ⟨s2, er⟩ := s2
  clear hs2 hd hv hp hj
  go_enter Tryd.func44, Tryd.ntmps44
  go_wp2_with fail
  refine hw.mono ?_
  clear hw
  rintro e w1 ⟨rfl, F1, hd1, hu1, hF1⟩
  have HT : Hid (Turns w F d s2 (.int .i64 er) (.returned (.int .i64 er)) w1) := ⟨rfl, F1, hd1, hu1, hF1⟩
  clear hd1 hu1 hF1
  go_wp2_with fail
  go_ret
  exact HT.out
set_option maxRecDepth 100000 in
set_option maxHeartbeats 4000000 in
theorem app5_calls {w : World} (hl : LaidJ w) {F : Nat → Prop} {d : Nat} {st : DS} (hd : DiskAt w F d st) (j bj b7 : Nat) (hj : w.cell? ⟨j, 0, none⟩ = some (.pointer (some ⟨d, 0, none⟩))) (hjF : ¬ F j)
    (hbj : w.cell? ⟨bj, 0, none⟩ = some (.pointer (some ⟨j, 0, none⟩))) (hbjF : ¬ F bj) (m : Nat) (hm : m ≤ 99999999) (hb7 : w.cell? ⟨b7, 0, none⟩ = some (.int .i64 m)) (hb7F : ¬ F b7) (hql : st.queue.length ≤ 100000) :
    Calls Tryd.prog 45 #[.pointer (some ⟨bj, 0, none⟩), .pointer (some ⟨b7, 0, none⟩)] w (Turns w F d (st.writeM ((1 : Nat) : Int) [headB 1 m]).1 (.int .i64 (st.writeM ((1 : Nat) : Int) [headB 1 m]).2)) := by
  have HL := Lib.hid hl
  have HD := Lib.hid hd
  have HJ := Lib.hid hj
  have hjl := World.block_lt_of_cell? w _ hj
  have hbjl := World.block_lt_of_cell? w _ hbj
  have hb7l := World.block_lt_of_cell? w _ hb7
  have hDF : ∀ k, F k → k < w.heap.size := by obtain ⟨s, qv, av, hc, h1, h2, h3, h4, h5⟩ := hd; exact h5
  have hwr : ∀ W (hb : Below w.heap.size w W), Calls Tryd.prog 36 #[.pointer (some ⟨j, 0, none⟩), .int .i64 1, .slice (some ⟨W.heap.size, 0, none⟩) 1 1] (W.alloc (.cells #[.string (headB 1 m)] 9)) (Turns w F d (st.writeM ((1 : Nat) : Int) [headB 1 m]).1 (.int .i64 (st.writeM ((1 : Nat) : Int) [headB 1 m]).2)) := by
    intro W hb
    have hb2 : Below w.heap.size w (W.alloc (.cells #[.string (headB 1 m)] 9)) := hb.alloc hb.size _
    refine (jwrite_calls (HD.out.below hb2) j ((hb2.cell (p := ⟨j, 0, none⟩) hjl).trans HJ.out) hjF ((1 : Nat) : Int) (by omega) _ [headB 1 m] ⟨some ⟨W.heap.size, 0, none⟩, 1, rfl, fun _ => ⟨W.heap.size, 0, rfl, by simp, fun hF => absurd (hDF _ hF) (by have := hb.size; omega), fun k hk => ?_⟩⟩ (by simp) hql).mono fun e w' h => h.since (Upd.of_below hb2 F)
    obtain rfl : k = 0 := by simp at hk; omega
    exact cell_blk (heap_alloc_new W (.cells #[.string (headB 1 m)] 9)) 0
  clear hl hd hj hDF
  obtain ⟨hB, hhB⟩ : ∃ x, headB 1 m = x := ⟨_, rfl⟩
  have hhd := fun W (hW : LaidJ W) => headof_calls W hW 1 m (by omega) hm
  rw [hhB] at hwr ⊢
  simp only [hhB] at hhd
  clear hhB
  obtain ⟨s2, hs2⟩ : ∃ s2, st.writeM ((1 : Nat) : Int) [hB] = s2 := ⟨_, rfl⟩
  rw [hs2] at hwr ⊢
  obtain ⟨s2, er⟩ := s2
  clear hs2
  go_enter Tryd.func45, Tryd.ntmps45
  go_wp2_with fail
  have hLd : LaidJ w.drew := HL.out.below ⟨rfl, rfl, rfl, Nat.le_refl _, fun _ _ => rfl⟩
  go_region_held3 (fun W => W.cell? ⟨bj, 0, none⟩ = some (.pointer (some ⟨j, 0, none⟩)) ∧ W.cell? ⟨b7, 0, none⟩ = some (.int .i64 m))
    (first | exact ⟨nc0, nc1⟩ | exact ⟨nb0, nb1⟩ | exact ⟨na0, na1⟩ | exact ⟨hbj, hb7⟩)
    (first
      | (go_at_call 34; refine (hhd _ hLd).mono ?_; rintro e wa ⟨rfl, hb⟩; have HBa : Below w.heap.size w wa := (show Below w.heap.size w w.drew from ⟨rfl, rfl, rfl, Nat.le_refl _, fun _ _ => rfl⟩).trans hb; have na0 := (HBa.cell (p := ⟨bj, 0, none⟩) hbjl).trans hbj; have na1 := (HBa.cell (p := ⟨b7, 0, none⟩) hb7l).trans hb7; have HBa2 : Below w.heap.size w (wa.alloc (.cells #[.string hB] 9)) := HBa.alloc HBa.size _; have nb0 := (HBa2.cell (p := ⟨bj, 0, none⟩) hbjl).trans hbj; have nb1 := (HBa2.cell (p := ⟨b7, 0, none⟩) hb7l).trans hb7; have HBH := Lib.hid HBa; clear hb HBa HBa2)
      | (go_at_call 36; refine (hwr _ HBH.out).mono ?_; rintro e wb ⟨rfl, F1, hd1, hu1, hF1⟩; have nc0 := (hu1.cell (p := ⟨bj, 0, none⟩) hbjl hbjF).trans hbj; have nc1 := (hu1.cell (p := ⟨b7, 0, none⟩) hb7l hb7F).trans hb7; have HT : Hid (Turns w F d s2 (.int .i64 er) (.returned (.int .i64 er)) wb) := ⟨rfl, F1, hd1, hu1, hF1⟩; clear hd1 hu1 hF1))
  all_goals
    go_wp2_with fail
    go_ret
    exact HT.out
set_option maxRecDepth 100000 in
set_option maxHeartbeats 4000000 in
theorem app6_calls {w : World} (hl : LaidJ w) {F : Nat → Prop} {d : Nat} {st : DS} (hd : DiskAt w F d st) (j bj b7 : Nat) (hj : w.cell? ⟨j, 0, none⟩ = some (.pointer (some ⟨d, 0, none⟩))) (hjF : ¬ F j)
    (hbj : w.cell? ⟨bj, 0, none⟩ = some (.pointer (some ⟨j, 0, none⟩))) (hbjF : ¬ F bj) (m : Nat) (hm : m ≤ 99999999) (hb7 : w.cell? ⟨b7, 0, none⟩ = some (.int .i64 m)) (hb7F : ¬ F b7) (hql : st.queue.length ≤ 100000) :
    Calls Tryd.prog 46 #[.pointer (some ⟨bj, 0, none⟩), .pointer (some ⟨b7, 0, none⟩)] w (Turns w F d (st.writeM ((0 : Nat) : Int) [headB 0 m]).1 (.int .i64 (st.writeM ((0 : Nat) : Int) [headB 0 m]).2)) := by
  have HL := Lib.hid hl
  have HD := Lib.hid hd
  have HJ := Lib.hid hj
  have hjl := World.block_lt_of_cell? w _ hj
  have hbjl := World.block_lt_of_cell? w _ hbj
  have hb7l := World.block_lt_of_cell? w _ hb7
  have hDF : ∀ k, F k → k < w.heap.size := by obtain ⟨s, qv, av, hc, h1, h2, h3, h4, h5⟩ := hd; exact h5
  have hwr : ∀ W (hb : Below w.heap.size w W), Calls Tryd.prog 36 #[.pointer (some ⟨j, 0, none⟩), .int .i64 0, .slice (some ⟨W.heap.size, 0, none⟩) 1 1] (W.alloc (.cells #[.string (headB 0 m)] 9)) (Turns w F d (st.writeM ((0 : Nat) : Int) [headB 0 m]).1 (.int .i64 (st.writeM ((0 : Nat) : Int) [headB 0 m]).2)) := by
    intro W hb
    have hb2 : Below w.heap.size w (W.alloc (.cells #[.string (headB 0 m)] 9)) := hb.alloc hb.size _
    refine (jwrite_calls (HD.out.below hb2) j ((hb2.cell (p := ⟨j, 0, none⟩) hjl).trans HJ.out) hjF ((0 : Nat) : Int) (by omega) _ [headB 0 m] ⟨some ⟨W.heap.size, 0, none⟩, 1, rfl, fun _ => ⟨W.heap.size, 0, rfl, by simp, fun hF => absurd (hDF _ hF) (by have := hb.size; omega), fun k hk => ?_⟩⟩ (by simp) hql).mono fun e w' h => h.since (Upd.of_below hb2 F)
    obtain rfl : k = 0 := by simp at hk; omega
    exact cell_blk (heap_alloc_new W (.cells #[.string (headB 0 m)] 9)) 0
  clear hl hd hj hDF
  obtain ⟨hB, hhB⟩ : ∃ x, headB 0 m = x := ⟨_, rfl⟩
  have hhd := fun W (hW : LaidJ W) => headof_calls W hW 0 m (by omega) hm
  rw [hhB] at hwr ⊢
  simp only [hhB] at hhd
  clear hhB
  obtain ⟨s2, hs2⟩ : ∃ s2, st.writeM ((0 : Nat) : Int) [hB] = s2 := ⟨_, rfl⟩
  rw [hs2] at hwr ⊢
  obtain ⟨s2, er⟩ := s2
  clear hs2
  go_enter Tryd.func46, Tryd.ntmps46
  go_wp2_with fail
  have hLd : LaidJ w.drew := HL.out.below ⟨rfl, rfl, rfl, Nat.le_refl _, fun _ _ => rfl⟩
  go_region_held3 (fun W => W.cell? ⟨bj, 0, none⟩ = some (.pointer (some ⟨j, 0, none⟩)) ∧ W.cell? ⟨b7, 0, none⟩ = some (.int .i64 m))
    (first | exact ⟨nc0, nc1⟩ | exact ⟨nb0, nb1⟩ | exact ⟨na0, na1⟩ | exact ⟨hbj, hb7⟩)
    (first
      | (go_at_call 34; refine (hhd _ hLd).mono ?_; rintro e wa ⟨rfl, hb⟩; have HBa : Below w.heap.size w wa := (show Below w.heap.size w w.drew from ⟨rfl, rfl, rfl, Nat.le_refl _, fun _ _ => rfl⟩).trans hb; have na0 := (HBa.cell (p := ⟨bj, 0, none⟩) hbjl).trans hbj; have na1 := (HBa.cell (p := ⟨b7, 0, none⟩) hb7l).trans hb7; have HBa2 : Below w.heap.size w (wa.alloc (.cells #[.string hB] 9)) := HBa.alloc HBa.size _; have nb0 := (HBa2.cell (p := ⟨bj, 0, none⟩) hbjl).trans hbj; have nb1 := (HBa2.cell (p := ⟨b7, 0, none⟩) hb7l).trans hb7; have HBH := Lib.hid HBa; clear hb HBa HBa2)
      | (go_at_call 36; refine (hwr _ HBH.out).mono ?_; rintro e wb ⟨rfl, F1, hd1, hu1, hF1⟩; have nc0 := (hu1.cell (p := ⟨bj, 0, none⟩) hbjl hbjF).trans hbj; have nc1 := (hu1.cell (p := ⟨b7, 0, none⟩) hb7l hb7F).trans hb7; have HT : Hid (Turns w F d s2 (.int .i64 er) (.returned (.int .i64 er)) wb) := ⟨rfl, F1, hd1, hu1, hF1⟩; clear hd1 hu1 hF1))
  all_goals
    go_wp2_with fail
    go_ret
    exact HT.out
end Go.Proofs.YtpdhjfnddnoghaaDoor
