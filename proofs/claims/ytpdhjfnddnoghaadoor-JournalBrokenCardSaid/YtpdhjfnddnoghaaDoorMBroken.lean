/- The law JournalBroken: the walk.
   Conditions: the arguments lie in memory; the library's tables and sentinels are laid. -/
import Derived.Test.YtpdhjfnddnoghaaDoorJI2
namespace Go.Proofs.YtpdhjfnddnoghaaDoor
open Go.RowKit Go.Lib
set_option linter.unusedVariables false
set_option linter.unusedSimpArgs false

set_option maxRecDepth 100000 in
set_option maxHeartbeats 8000000 in
theorem broken_walk (W : World) (hl : LaidJ W) (sec : Int) (hsec : i64ok sec) (v : Value) (l : List Op0) (harg : OpsArg W.heap.size W v l) (wr by_ : Int) (hwr : i64ok wr) (hby : i64ok by_) :
    Calls Tryd.prog 5 #[.int .i64 sec, v, .int .i64 wr, .int .i64 by_] W fun e w' => e = .returned (.bool true) ∧ Below W.heap.size W w' := by
  have HL := Lib.hid hl
  have HARG := Lib.hid harg
  have hh := head_calls W fun X hX => hl.below hX
  clear hl harg
  go_enter Tryd.func5, Tryd.ntmps5
  go_wp2_with fail
  refine hh.mono ?_
  clear hh
  rintro e w1 ⟨rfl, hb1⟩
  have HB1 := Lib.hid hb1
  have HARG1 := Lib.hid ((HARG.out.below hb1).more hb1.size)
  clear hb1
  go_wp2_with fail
  refine (light_calls w1 sec hsec v l HARG1.out).mono ?_
  rintro e w2 ⟨b, rfl, hli, hww⟩
  have hww' : w2 = w1 := hww.symm
  subst hww'
  cases b with
  | false =>
    clear hli
    go_wp2_with fail
    go_ret
    exact ⟨rfl, HB1.out⟩
  | true =>
    have HLI := Lib.hid (hli rfl)
    clear hli hww
    have HLU : Hid (∀ X, Below w2.heap.size w2 X → LaidJ X) := by
      show ∀ X, _
      intro X hX
      exact (HL.out.below HB1.out).below hX
    by_cases h3 : sec < 3
    · go_wp2_with fail
      refine (filled_no w2 sec h3 (by unfold i64ok at hsec; omega) v HLU.out).mono ?_
      rintro e w3 ⟨⟨dv, rfl⟩, hb3⟩
      have HB3 : Hid (Below W.heap.size W w3) := HB1.out.trans (hb3.mono HB1.out.size)
      clear hb3
      go_wp2_with fail
      go_ret
      exact ⟨rfl, HB3.out⟩
    · obtain ⟨n, rfl⟩ := Int.eq_ofNat_of_zero_le (show 0 ≤ sec by omega)
      have hn3 : 3 ≤ n := by omega
      have hn40 : n ≤ 40 := by have := HLI.out.n40; omega
      have hl16 := HLI.out.l16
      have hf := filled_yes (w := w2) (B := w2.heap.size) rfl n hn3 v l HARG1.out HLI.out HLU.out
      clear h3
      go_wp2_with fail
      refine hf.mono ?_
      clear hf
      rintro e w3 ⟨d, j, F, G, st, c, recs, ov, rfl, hfl⟩
      have HFL := Lib.hid hfl
      have hrl : recs.length ≤ 320 := by have := hfl.len; omega
      have hcb := hfl.calm.bound
      have HOW3 := Lib.hid hfl.own
      have HJ3 : Hid (JAt w3 G j d ⟨n, c, recs, false⟩ ∧ ∀ k, G k → ¬ F k) := ⟨hfl.jn, hfl.gf⟩
      have HW3 : Hid (TextsOut w3 F ov recs) := TextsOut.of_own hfl.row fun g hg => (hfl.rf g hg).1
      have HC := Lib.hid hfl.calm
      obtain ⟨OA, ocap, hov, _⟩ := TextsAt.of_own hfl.row
      subst hov
      clear hfl
      have HGB3 : Hid (∀ k, G k → w2.heap.size ≤ k) := HFL.out.gb
      have HU3 : Hid (TextsOut w3 (fun k => F k ∨ G k) (.slice OA recs.length ocap) recs) := TextsOut.of_own HFL.out.row fun g hg h => h.elim (HFL.out.rf g hg).1 (HFL.out.rf g hg).2
      clear HW3 HFL
      obtain ⟨rm, hrm⟩ : ∃ rm : Int, (n : Int) - 2 - (c : Int) = rm := ⟨_, rfl⟩
      have hx := room_calls HJ3.out.1 (by show n ≤ _; omega) (by show c ≤ _; omega)
      rw [show (JSt.mk n c recs false).room = (n : Int) - 2 - (c : Int) from rfl, hrm] at hx
      go_wp2_with fail
      refine hx.mono ?_
      clear hx
      rintro e w4 ⟨rfl, hb⟩
      have HOW4 := Lib.hid (HOW3.out.below hb)
      have HJ4 := Lib.hid (HJ3.out.1.kept (Kept.below hb) HJ3.out.2)
      have HGB4 := HGB3
      have HU4 := Lib.hid (HU3.out.kept ((Kept.below hb)).union)
      clear HOW3 HJ3 HGB3 HU3
      clear hb
      have hx := fail_calls HOW4.out.dk wr by_ hwr hby (by rw [HC.out.q]; simp)
      go_wp2_with fail
      refine hx.mono ?_
      clear hx
      rintro e w5 ht
      obtain ⟨rfl, F5, hd5, hk5⟩ := Kept.turns ht
      have HOW5 := Lib.hid (HOW4.out.kept hk5 hd5)
      have HJ5 := Lib.hid (HJ4.out.1.kept hk5 HJ4.out.2)
      have HGB5 := HGB4
      have HU5 := Lib.hid (HU4.out.kept (hk5).union)
      clear ht hd5 hk5
      clear HOW4 HJ4 HGB4 HU4
      have hoff := (HC.out.fail wr by_).1
      by_cases hfull : n = c + 2
      · have hrb : (rm == 0) = true := by rw [← hrm]; simp; omega
        have HE1 : Hid (appendM (st.fail wr by_) ⟨n, c, recs, false⟩ [bA] = (st.fail wr by_, ⟨n, c, recs, false⟩, 28)) := full_append recs hfull bA rfl
        have HE2 : Hid (appendM st ⟨n, c, recs, false⟩ [bA] = (st, ⟨n, c, recs, false⟩, 28)) := full_append recs hfull bA rfl
        clear hfull hoff hrm
        have hba : Below w5.heap.size w5 (w5.alloc (.cells #[.string bA] 9)) := (Below.refl _ _).alloc (Nat.le_refl _) _
        have hOa := HOW5.out.below hba
        have hJa := HJ5.out.1.below hba
        have ha := append_calls (hOa.laid HLU.out) hOa.dk hJa HJ5.out.2 _ [bA] (textsOut_alloc w5 [bA] _ fun k hk => hk.elim (HOW5.out.lt k) (HJ5.out.1.lt k)) small_a (.inl len_a) (by show n ≤ 1000; omega) (by show c + 2 ≤ n; omega) (by rw [fail_q HC.out]; simp) (by show recs.length ≤ 100000; omega)
        rw [HE1.out] at ha
        have HBA := Lib.hid hba
        have HOA := Lib.hid hOa
        have HJA := Lib.hid hJa
        clear hba hOa hJa
        go_wp2_with fail
        refine ha.mono ?_
        clear ha
        rintro e w6 hao
        obtain ⟨rfl, F6, G6, hOw, hj, hgf, hgb, hk⟩ := HOA.out.app2 HJA.out HGB5.out hao
        have HOW6 := Lib.hid hOw
        have HJ6 : Hid (JAt w6 G6 j d ⟨n, c, recs, false⟩ ∧ ∀ k, G6 k → ¬ F6 k) := ⟨hj, hgf⟩
        have HGB6 := Lib.hid hgb
        have HU6 := Lib.hid ((HU5.out.kept (Kept.below HBA.out)).kept hk)
        clear hao hOw hj hgf hgb hk HBA HOA HJA HOW5 HJ5 HU5 HGB5
        have ho := open_calls (HOW6.out.laid HLU.out) HOW6.out.dk (by rw [fail_q HC.out]; simp)
        go_wp2_with fail
        refine ho.mono ?_
        clear ho
        rintro e w7 hoo
        obtain ⟨F7, hk, hOw, hc⟩ := HOW6.out.open hoo
        rw [open_off HC.out wr by_] at hc hOw
        rcases hc with ⟨_, rfl⟩ | ⟨js, jj, GG, vv, h9, _⟩
        rotate_left
        · cases h9
        have HOW7 := Lib.hid hOw
        have HJ7 := Lib.hid (HJ6.out.1.kept hk HJ6.out.2)
        have HU7 := Lib.hid (HU6.out.kept (hk).union)
        clear hoo hk hOw
        have HGB7 := HGB6
        clear HOW6 HJ6 HU6 HGB6
        have hx := start_calls HOW7.out.dk
        rw [(HC.out.fail wr by_).2] at hx
        go_wp2_with fail
        refine hx.mono ?_
        clear hx
        rintro e w8 ht
        obtain ⟨rfl, F8, hd8, hk8⟩ := Kept.turns ht
        have HOW8 := Lib.hid (HOW7.out.kept hk8 hd8)
        have HJ8 := Lib.hid (HJ7.out.1.kept hk8 HJ7.out.2)
        have HGB8 := HGB7
        have HU8 := Lib.hid (HU7.out.kept (hk8).union)
        clear ht hd8 hk8
        clear HOW7 HJ7 HGB7 HU7
        have hba : Below w8.heap.size w8 (w8.alloc (.cells #[.string bA] 9)) := (Below.refl _ _).alloc (Nat.le_refl _) _
        have hOa := HOW8.out.below hba
        have hJa := HJ8.out.1.below hba
        have ha := append_calls (hOa.laid HLU.out) hOa.dk hJa HJ8.out.2 _ [bA] (textsOut_alloc w8 [bA] _ fun k hk => hk.elim (HOW8.out.lt k) (HJ8.out.1.lt k)) small_a (.inl len_a) (by show n ≤ 1000; omega) (by show c + 2 ≤ n; omega) (by rw [HC.out.q]; simp) (by show recs.length ≤ 100000; omega)
        rw [HE2.out] at ha
        have HBA := Lib.hid hba
        have HOA := Lib.hid hOa
        have HJA := Lib.hid hJa
        clear hba hOa hJa
        go_wp2_with fail
        refine ha.mono ?_
        clear ha
        rintro e w9 hao
        obtain ⟨rfl, F9, G9, hOw, hj, hgf, hgb, hk⟩ := HOA.out.app2 HJA.out HGB8.out hao
        have HOW9 := Lib.hid hOw
        have HJ9 : Hid (JAt w9 G9 j d ⟨n, c, recs, false⟩ ∧ ∀ k, G9 k → ¬ F9 k) := ⟨hj, hgf⟩
        have HGB9 := Lib.hid hgb
        have HU9 := Lib.hid ((HU8.out.kept (Kept.below HBA.out)).kept hk)
        clear hao hOw hj hgf hgb hk HBA HOA HJA HOW8 HJ8 HU8 HGB8
        have HW9 : Hid (TextsOut w9 F9 (.slice OA recs.length ocap) recs) := HU9.out.weak fun k hk => .inl hk
        have ho := open_calls (HOW9.out.laid HLU.out) HOW9.out.dk (by rw [HC.out.q]; simp)
        go_wp2_with fail
        refine ho.mono ?_
        clear ho
        rintro e w10 hoo
        obtain ⟨F10, hk, hOw, hc⟩ := HOW9.out.open hoo
        rw [calm_open HC.out] at hc hOw
        rcases hc with ⟨h9, _⟩ | ⟨js, Kp, GK, Mv, h9, rfl, hja, hgf, hgn, hmt, _⟩
        · cases h9
        injection h9 with h9
        subst h9
        have HOW10 := Lib.hid hOw
        have HJ10 := Lib.hid (HJ9.out.1.kept hk HJ9.out.2)
        have HW10 := Lib.hid (HW9.out.kept hk)
        have HK10 : Hid (JAt w10 GK Kp d ⟨n, c, recs, false⟩ ∧ ∀ k, GK k → ¬ F10 k) := ⟨hja, hgf⟩
        have HM10 := Lib.hid hmt
        clear hoo hk hOw hja hgf hgn hmt
        clear HOW9 HJ9 HW9
        obtain ⟨MA, mcap, hmv, _⟩ := id HM10.out
        subst hmv
        have hx := rsame_calls w10 _ _ recs recs HM10.out.at_ HW10.out.at_ (by omega) (by omega)
        rw [decide_eq_true (rfl : recs = recs)] at hx
        go_wp2_with fail
        refine hx.mono ?_
        clear hx
        rintro e w11 ⟨rfl, hb⟩
        have HOW11 := Lib.hid (HOW10.out.below hb)
        clear HOW10
        clear hb
        go_wp2_with fail
        go_ret
        exact ⟨rfl, HB1.out.trans (HOW11.out.be.mono HB1.out.size)⟩
      · have hrb : (rm == 0) = false := by rw [← hrm]; simp; omega
        have HE1 : Hid (appendM (st.fail wr by_) ⟨n, c, recs, false⟩ [bA] = (st.fail wr by_, ⟨n, c, recs, true⟩, 26)) := (off_append hoff recs hcb.1 bA rfl).trans (if_neg hfull)
        have HE2 : Hid (appendM st ⟨n, c, recs, true⟩ [bA] = (st, ⟨n, c, recs, true⟩, 12)) := broken_append _ rfl _
        clear hfull hoff
        have hba : Below w5.heap.size w5 (w5.alloc (.cells #[.string bA] 9)) := (Below.refl _ _).alloc (Nat.le_refl _) _
        have hOa := HOW5.out.below hba
        have hJa := HJ5.out.1.below hba
        have ha := append_calls (hOa.laid HLU.out) hOa.dk hJa HJ5.out.2 _ [bA] (textsOut_alloc w5 [bA] _ fun k hk => hk.elim (HOW5.out.lt k) (HJ5.out.1.lt k)) small_a (.inl len_a) (by show n ≤ 1000; omega) (by show c + 2 ≤ n; omega) (by rw [fail_q HC.out]; simp) (by show recs.length ≤ 100000; omega)
        rw [HE1.out] at ha
        have HBA := Lib.hid hba
        have HOA := Lib.hid hOa
        have HJA := Lib.hid hJa
        clear hba hOa hJa
        go_wp2_with fail
        refine ha.mono ?_
        clear ha
        rintro e w6 hao
        obtain ⟨rfl, F6, G6, hOw, hj, hgf, hgb, hk⟩ := HOA.out.app2 HJA.out HGB5.out hao
        have HOW6 := Lib.hid hOw
        have HJ6 : Hid (JAt w6 G6 j d ⟨n, c, recs, true⟩ ∧ ∀ k, G6 k → ¬ F6 k) := ⟨hj, hgf⟩
        have HGB6 := Lib.hid hgb
        have HU6 := Lib.hid ((HU5.out.kept (Kept.below HBA.out)).kept hk)
        clear hao hOw hj hgf hgb hk HBA HOA HJA HOW5 HJ5 HU5 HGB5
        have ho := open_calls (HOW6.out.laid HLU.out) HOW6.out.dk (by rw [fail_q HC.out]; simp)
        go_wp2_with fail
        refine ho.mono ?_
        clear ho
        rintro e w7 hoo
        obtain ⟨F7, hk, hOw, hc⟩ := HOW6.out.open hoo
        rw [open_off HC.out wr by_] at hc hOw
        rcases hc with ⟨_, rfl⟩ | ⟨js, jj, GG, vv, h9, _⟩
        rotate_left
        · cases h9
        have HOW7 := Lib.hid hOw
        have HJ7 := Lib.hid (HJ6.out.1.kept hk HJ6.out.2)
        have HU7 := Lib.hid (HU6.out.kept (hk).union)
        clear hoo hk hOw
        have HGB7 := HGB6
        clear HOW6 HJ6 HU6 HGB6
        have hx := start_calls HOW7.out.dk
        rw [(HC.out.fail wr by_).2] at hx
        go_wp2_with fail
        refine hx.mono ?_
        clear hx
        rintro e w8 ht
        obtain ⟨rfl, F8, hd8, hk8⟩ := Kept.turns ht
        have HOW8 := Lib.hid (HOW7.out.kept hk8 hd8)
        have HJ8 := Lib.hid (HJ7.out.1.kept hk8 HJ7.out.2)
        have HGB8 := HGB7
        have HU8 := Lib.hid (HU7.out.kept (hk8).union)
        clear ht hd8 hk8
        clear HOW7 HJ7 HGB7 HU7
        have hba : Below w8.heap.size w8 (w8.alloc (.cells #[.string bA] 9)) := (Below.refl _ _).alloc (Nat.le_refl _) _
        have hOa := HOW8.out.below hba
        have hJa := HJ8.out.1.below hba
        have ha := append_calls (hOa.laid HLU.out) hOa.dk hJa HJ8.out.2 _ [bA] (textsOut_alloc w8 [bA] _ fun k hk => hk.elim (HOW8.out.lt k) (HJ8.out.1.lt k)) small_a (.inl len_a) (by show n ≤ 1000; omega) (by show c + 2 ≤ n; omega) (by rw [HC.out.q]; simp) (by show recs.length ≤ 100000; omega)
        rw [HE2.out] at ha
        have HBA := Lib.hid hba
        have HOA := Lib.hid hOa
        have HJA := Lib.hid hJa
        clear hba hOa hJa
        go_wp2_with fail
        refine ha.mono ?_
        clear ha
        rintro e w9 hao
        obtain ⟨rfl, F9, G9, hOw, hj, hgf, hgb, hk⟩ := HOA.out.app2 HJA.out HGB8.out hao
        have HOW9 := Lib.hid hOw
        have HJ9 : Hid (JAt w9 G9 j d ⟨n, c, recs, true⟩ ∧ ∀ k, G9 k → ¬ F9 k) := ⟨hj, hgf⟩
        have HGB9 := Lib.hid hgb
        have HU9 := Lib.hid ((HU8.out.kept (Kept.below HBA.out)).kept hk)
        clear hao hOw hj hgf hgb hk HBA HOA HJA HOW8 HJ8 HU8 HGB8
        have HW9 : Hid (TextsOut w9 F9 (.slice OA recs.length ocap) recs) := HU9.out.weak fun k hk => .inl hk
        have ho := open_calls (HOW9.out.laid HLU.out) HOW9.out.dk (by rw [HC.out.q]; simp)
        go_wp2_with fail
        refine ho.mono ?_
        clear ho
        rintro e w10 hoo
        obtain ⟨F10, hk, hOw, hc⟩ := HOW9.out.open hoo
        rw [calm_open HC.out] at hc hOw
        rcases hc with ⟨h9, _⟩ | ⟨js, Kp, GK, Mv, h9, rfl, hja, hgf, hgn, hmt, _⟩
        · cases h9
        injection h9 with h9
        subst h9
        have HOW10 := Lib.hid hOw
        have HJ10 := Lib.hid (HJ9.out.1.kept hk HJ9.out.2)
        have HW10 := Lib.hid (HW9.out.kept hk)
        have HK10 : Hid (JAt w10 GK Kp d ⟨n, c, recs, false⟩ ∧ ∀ k, GK k → ¬ F10 k) := ⟨hja, hgf⟩
        have HM10 := Lib.hid hmt
        clear hoo hk hOw hja hgf hgn hmt
        clear HOW9 HJ9 HW9
        obtain ⟨MA, mcap, hmv, _⟩ := id HM10.out
        subst hmv
        have hx := records_calls HJ10.out.1 (by show recs.length ≤ _; omega)
        go_wp2_with fail
        refine hx.mono ?_
        clear hx
        rintro e w11 ⟨Tv, rfl, hown, hb⟩
        have HT11 : Hid (TextsOut w11 F10 Tv recs) := TextsOut.new (w := w10) hown fun k hk => HOW10.out.lt k hk
        have HOW11 := Lib.hid (HOW10.out.below hb)
        have HJ11 := Lib.hid (HJ10.out.1.kept (Kept.below hb) HJ10.out.2)
        have HW11 := Lib.hid (HW10.out.kept (Kept.below hb))
        have HM11 := Lib.hid (HM10.out.kept (Kept.below hb))
        clear HOW10 HJ10 HW10 HM10
        clear hb hown
        have hx := rsame_calls w11 _ _ recs recs HT11.out.at_ HW11.out.at_ (by omega) (by omega)
        rw [decide_eq_true (rfl : recs = recs)] at hx
        go_wp2_with fail
        refine hx.mono ?_
        clear hx
        rintro e w12 ⟨rfl, hb⟩
        have HOW12 := Lib.hid (HOW11.out.below hb)
        have HJ12 := Lib.hid (HJ11.out.1.kept (Kept.below hb) HJ11.out.2)
        have HW12 := Lib.hid (HW11.out.kept (Kept.below hb))
        have HM12 := Lib.hid (HM11.out.kept (Kept.below hb))
        clear HOW11 HJ11 HW11 HM11 HT11
        clear hb
        have hx := room_calls HJ12.out.1 (by show n ≤ _; omega) (by show c ≤ _; omega)
        rw [show (JSt.mk n c recs true).room = (n : Int) - 2 - (c : Int) from rfl, hrm] at hx
        go_wp2_with fail
        refine hx.mono ?_
        clear hx
        rintro e w13 ⟨rfl, hb⟩
        have HOW13 := Lib.hid (HOW12.out.below hb)
        have HW13 := Lib.hid (HW12.out.kept (Kept.below hb))
        have HM13 := Lib.hid (HM12.out.kept (Kept.below hb))
        clear HOW12 HW12 HM12
        clear hb
        have hx := rsame_calls w13 _ _ recs recs HM13.out.at_ HW13.out.at_ (by omega) (by omega)
        rw [decide_eq_true (rfl : recs = recs)] at hx
        go_wp2_with fail
        refine hx.mono ?_
        clear hx
        rintro e w14 ⟨rfl, hb⟩
        have HOW14 := Lib.hid (HOW13.out.below hb)
        clear HOW13
        clear hb
        go_wp2_with fail
        go_ret
        exact ⟨rfl, HB1.out.trans (HOW14.out.be.mono HB1.out.size)⟩
end Go.Proofs.YtpdhjfnddnoghaaDoor
