/- The law JournalDurable: the walk.
   Conditions: the arguments lie in memory; the library's tables and sentinels are laid. -/
import Derived.Test.YtpdhjfnddnoghaaDoorJH2
namespace Go.Proofs.YtpdhjfnddnoghaaDoor
open Go.RowKit Go.Lib
set_option linter.unusedVariables false
set_option linter.unusedSimpArgs false

set_option maxRecDepth 100000 in
set_option maxHeartbeats 8000000 in
theorem durable_walk (W : World) (hl : LaidJ W) (sec : Int) (hsec : i64ok sec) (v : Value) (l : List Op0) (harg : OpsArg W.heap.size W v l) (wr by_ : Int) (hwr : i64ok wr) (hby : i64ok by_) :
    Calls Tryd.prog 3 #[.int .i64 sec, v, .int .i64 wr, .int .i64 by_] W fun e w' => e = .returned (.bool true) ∧ Below W.heap.size W w' := by
  have HL := Lib.hid hl
  have HARG := Lib.hid harg
  have hh := head_calls W fun X hX => hl.below hX
  clear hl harg
  go_enter Tryd.func3, Tryd.ntmps3
  go_wp2_with fail
  refine hh.mono ?_
  clear hh
  rintro e w1 ⟨rfl, hb1⟩
  have HB1 := Lib.hid hb1
  have HARG1 := Lib.hid ((HARG.out.below hb1).more hb1.size)
  clear hb1
  go_wp2_with fail
  refine (light_calls w1 sec hsec v l HARG1.out).mono ?_
  rintro e w2 ⟨b, rfl, hli, hww⟩
  have hww' : w2 = w1 := hww.symm
  subst hww'
  cases b with
  | false =>
    clear hli
    go_wp2_with fail
    go_ret
    exact ⟨rfl, HB1.out⟩
  | true =>
    have HLI := Lib.hid (hli rfl)
    clear hli hww
    have HLU : Hid (∀ X, Below w2.heap.size w2 X → LaidJ X) := by
      show ∀ X, _
      intro X hX
      exact (HL.out.below HB1.out).below hX
    by_cases h3 : sec < 3
    · go_wp2_with fail
      refine (filled_no w2 sec h3 (by unfold i64ok at hsec; omega) v HLU.out).mono ?_
      rintro e w3 ⟨⟨dv, rfl⟩, hb3⟩
      have HB3 : Hid (Below W.heap.size W w3) := HB1.out.trans (hb3.mono HB1.out.size)
      clear hb3
      go_wp2_with fail
      go_ret
      exact ⟨rfl, HB3.out⟩
    · obtain ⟨n, rfl⟩ := Int.eq_ofNat_of_zero_le (show 0 ≤ sec by omega)
      have hn3 : 3 ≤ n := by omega
      have hn40 : n ≤ 40 := by have := HLI.out.n40; omega
      have hl16 := HLI.out.l16
      have hf := filled_yes (w := w2) (B := w2.heap.size) rfl n hn3 v l HARG1.out HLI.out HLU.out
      clear h3
      go_wp2_with fail
      refine hf.mono ?_
      clear hf
      rintro e w3 ⟨d, j, F, G, st, c, recs, ov, rfl, hfl⟩
      have HFL := Lib.hid hfl
      have hrl : recs.length ≤ 320 := by have := hfl.len; omega
      have hcb := hfl.calm.bound
      have HOW3 := Lib.hid hfl.own
      have HJ3 : Hid (JAt w3 G j d ⟨n, c, recs, false⟩ ∧ ∀ k, G k → ¬ F k) := ⟨hfl.jn, hfl.gf⟩
      have HW3 : Hid (TextsOut w3 F ov recs) := TextsOut.of_own hfl.row fun g hg => (hfl.rf g hg).1
      have HC := Lib.hid hfl.calm
      obtain ⟨OA, ocap, hov, _⟩ := TextsAt.of_own hfl.row
      subst hov
      clear hfl
      have hx := records_calls HJ3.out.1 (by show recs.length ≤ _; omega)
      go_wp2_with fail
      refine hx.mono ?_
      clear hx
      rintro e w4 ⟨Tv, rfl, hown, hb⟩
      have HT4 : Hid (TextsOut w4 F Tv recs) := TextsOut.new (w := w3) hown fun k hk => HOW3.out.lt k hk
      have HOW4 := Lib.hid (HOW3.out.below hb)
      have HJ4 := Lib.hid (HJ3.out.1.kept (Kept.below hb) HJ3.out.2)
      have HW4 := Lib.hid (HW3.out.kept (Kept.below hb))
      clear HOW3 HJ3 HW3
      clear hb hown
      have hx := rsame_calls w4 _ _ recs recs HT4.out.at_ HW4.out.at_ (by omega) (by omega)
      rw [decide_eq_true (rfl : recs = recs)] at hx
      go_wp2_with fail
      refine hx.mono ?_
      clear hx
      rintro e w5 ⟨rfl, hb⟩
      have HOW5 := Lib.hid (HOW4.out.below hb)
      have HJ5 := Lib.hid (HJ4.out.1.kept (Kept.below hb) HJ4.out.2)
      have HW5 := Lib.hid (HW4.out.kept (Kept.below hb))
      clear HOW4 HJ4 HW4 HT4
      clear hb
      have hx := fail_calls HOW5.out.dk wr by_ hwr hby (by rw [HC.out.q]; simp)
      go_wp2_with fail
      refine hx.mono ?_
      clear hx
      rintro e w6 ht
      obtain ⟨rfl, F6, hd6, hk6⟩ := Kept.turns ht
      have HOW6 := Lib.hid (HOW5.out.kept hk6 hd6)
      have HJ6 := Lib.hid (HJ5.out.1.kept hk6 HJ5.out.2)
      have HW6 := Lib.hid (HW5.out.kept hk6)
      clear ht hd6 hk6
      clear HOW5 HJ5 HW5
      have hx := start_calls HOW6.out.dk
      rw [(HC.out.fail wr by_).2] at hx
      go_wp2_with fail
      refine hx.mono ?_
      clear hx
      rintro e w7 ht
      obtain ⟨rfl, F7, hd7, hk7⟩ := Kept.turns ht
      have HOW7 := Lib.hid (HOW6.out.kept hk7 hd7)
      have HJ7 := Lib.hid (HJ6.out.1.kept hk7 HJ6.out.2)
      have HW7 := Lib.hid (HW6.out.kept hk7)
      clear ht hd7 hk7
      clear HOW6 HJ6 HW6
      have ho := open_calls (HOW7.out.laid HLU.out) HOW7.out.dk (by rw [HC.out.q]; simp)
      go_wp2_with fail
      refine ho.mono ?_
      clear ho
      rintro e w8 hoo
      obtain ⟨F8, hk, hOw, hc⟩ := HOW7.out.open hoo
      rw [calm_open HC.out] at hc hOw
      rcases hc with ⟨h9, _⟩ | ⟨js, Kp, GK, Mv, h9, rfl, hja, hgf, hgn, hmt, _⟩
      · cases h9
      injection h9 with h9
      subst h9
      have HOW8 := Lib.hid hOw
      have HJ8 := Lib.hid (HJ7.out.1.kept hk HJ7.out.2)
      have HW8 := Lib.hid (HW7.out.kept hk)
      have HK8 : Hid (JAt w8 GK Kp d ⟨n, c, recs, false⟩ ∧ ∀ k, GK k → ¬ F8 k) := ⟨hja, hgf⟩
      have HM8 := Lib.hid hmt
      clear hoo hk hOw hja hgf hgn hmt
      clear HOW7 HJ7 HW7
      have ho := open_calls (HOW8.out.laid HLU.out) HOW8.out.dk (by rw [HC.out.q]; simp)
      go_wp2_with fail
      refine ho.mono ?_
      clear ho
      rintro e w9 hoo
      obtain ⟨F9, hk, hOw, hc⟩ := HOW8.out.open hoo
      rw [calm_open HC.out] at hc hOw
      rcases hc with ⟨h9, _⟩ | ⟨js, Lp, GL, Nv, h9, rfl, hja, hgf, hgn, hmt, _⟩
      · cases h9
      injection h9 with h9
      subst h9
      have HOW9 := Lib.hid hOw
      have HJ9 := Lib.hid (HJ8.out.1.kept hk HJ8.out.2)
      have HW9 := Lib.hid (HW8.out.kept hk)
      have HK9 := Lib.hid (HK8.out.1.kept hk HK8.out.2)
      have HM9 := Lib.hid (HM8.out.kept hk)
      have HL9 : Hid (JAt w9 GL Lp d ⟨n, c, recs, false⟩ ∧ ∀ k, GL k → ¬ F9 k) := ⟨hja, hgf⟩
      have HN9 := Lib.hid hmt
      clear hoo hk hOw hja hgf hgn hmt
      clear HOW8 HJ8 HW8 HK8 HM8
      obtain ⟨MA, mcap, hmv, _⟩ := id HM9.out
      subst hmv
      obtain ⟨NA, ncap, hnv, _⟩ := id HN9.out
      subst hnv
      have hx := rsame_calls w9 _ _ recs recs HM9.out.at_ HW9.out.at_ (by omega) (by omega)
      rw [decide_eq_true (rfl : recs = recs)] at hx
      go_wp2_with fail
      refine hx.mono ?_
      clear hx
      rintro e w10 ⟨rfl, hb⟩
      have HOW10 := Lib.hid (HOW9.out.below hb)
      have HJ10 := Lib.hid (HJ9.out.1.kept (Kept.below hb) HJ9.out.2)
      have HW10 := Lib.hid (HW9.out.kept (Kept.below hb))
      have HK10 := Lib.hid (HK9.out.1.kept (Kept.below hb) HK9.out.2)
      have HN10 := Lib.hid (HN9.out.kept (Kept.below hb))
      clear HOW9 HJ9 HW9 HK9 HN9
      clear hb
      have hx := rsame_calls w10 _ _ recs recs HN10.out.at_ HW10.out.at_ (by omega) (by omega)
      rw [decide_eq_true (rfl : recs = recs)] at hx
      go_wp2_with fail
      refine hx.mono ?_
      clear hx
      rintro e w11 ⟨rfl, hb⟩
      have HOW11 := Lib.hid (HOW10.out.below hb)
      have HJ11 := Lib.hid (HJ10.out.1.kept (Kept.below hb) HJ10.out.2)
      have HW11 := Lib.hid (HW10.out.kept (Kept.below hb))
      have HK11 := Lib.hid (HK10.out.1.kept (Kept.below hb) HK10.out.2)
      clear HOW10 HJ10 HW10 HK10
      clear hb
      have hx := records_calls HK11.out.1 (by show recs.length ≤ _; omega)
      go_wp2_with fail
      refine hx.mono ?_
      clear hx
      rintro e w12 ⟨Tv, rfl, hown, hb⟩
      have HT12 : Hid (TextsOut w12 F9 Tv recs) := TextsOut.new (w := w11) hown fun k hk => HOW11.out.lt k hk
      have HOW12 := Lib.hid (HOW11.out.below hb)
      have HJ12 := Lib.hid (HJ11.out.1.kept (Kept.below hb) HJ11.out.2)
      have HW12 := Lib.hid (HW11.out.kept (Kept.below hb))
      have HK12 := Lib.hid (HK11.out.1.kept (Kept.below hb) HK11.out.2)
      clear HOW11 HJ11 HW11 HK11
      clear hb hown
      have hx := rsame_calls w12 _ _ recs recs HT12.out.at_ HW12.out.at_ (by omega) (by omega)
      rw [decide_eq_true (rfl : recs = recs)] at hx
      go_wp2_with fail
      refine hx.mono ?_
      clear hx
      rintro e w13 ⟨rfl, hb⟩
      have HOW13 := Lib.hid (HOW12.out.below hb)
      have HJ13 := Lib.hid (HJ12.out.1.kept (Kept.below hb) HJ12.out.2)
      have HK13 := Lib.hid (HK12.out.1.kept (Kept.below hb) HK12.out.2)
      clear HOW12 HJ12 HK12 HT12
      clear hb
      have hx := room_calls HK13.out.1 (by show n ≤ _; omega) (by show c ≤ _; omega)
      rw [show (JSt.mk n c recs false).room = (n : Int) - 2 - (c : Int) from rfl] at hx
      go_wp2_with fail
      refine hx.mono ?_
      clear hx
      rintro e w14 ⟨rfl, hb⟩
      have HOW14 := Lib.hid (HOW13.out.below hb)
      have HJ14 := Lib.hid (HJ13.out.1.kept (Kept.below hb) HJ13.out.2)
      clear HOW13 HJ13
      clear hb
      have hx := room_calls HJ14.out.1 (by show n ≤ _; omega) (by show c ≤ _; omega)
      rw [show (JSt.mk n c recs false).room = (n : Int) - 2 - (c : Int) from rfl] at hx
      go_wp2_with fail
      refine hx.mono ?_
      clear hx
      rintro e w15 ⟨rfl, hb⟩
      have HOW15 := Lib.hid (HOW14.out.below hb)
      clear HOW14
      clear hb
      go_wp2_with fail
      go_ret
      exact ⟨rfl, HB1.out.trans (HOW15.out.be.mono HB1.out.size)⟩
end Go.Proofs.YtpdhjfnddnoghaaDoor
