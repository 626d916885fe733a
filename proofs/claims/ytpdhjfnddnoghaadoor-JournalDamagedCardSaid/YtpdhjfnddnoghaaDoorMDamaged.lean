/- The law JournalDamaged: the walk.
   Conditions: the arguments lie in memory; the library's tables and sentinels are laid. -/
import Derived.Test.YtpdhjfnddnoghaaDoorJI2
namespace Go.Proofs.YtpdhjfnddnoghaaDoor
open Go.RowKit Go.Lib
set_option linter.unusedVariables false
set_option linter.unusedSimpArgs false

set_option maxRecDepth 100000 in
set_option maxHeartbeats 8000000 in
theorem damaged_walk (W : World) (hl : LaidJ W) (sec : Int) (hsec : i64ok sec) (v : Value) (l : List Op0) (harg : OpsArg W.heap.size W v l) (s0 a0 m0 : Int) (hs0 : 0 ≤ s0 ∧ s0 ≤ 255) (ha0 : 0 ≤ a0 ∧ a0 ≤ 255) (hm0 : 0 ≤ m0 ∧ m0 ≤ 255) :
    Calls Tryd.prog 4 #[.int .i64 sec, v, .int .u8 s0, .int .u8 a0, .int .u8 m0] W fun e w' => e = .returned (.bool true) ∧ Below W.heap.size W w' := by
  have HL := Lib.hid hl
  have HARG := Lib.hid harg
  have hh := head_calls W fun X hX => hl.below hX
  clear hl harg
  go_enter Tryd.func4, Tryd.ntmps4
  go_wp2_with fail
  refine hh.mono ?_
  clear hh
  rintro e w1 ⟨rfl, hb1⟩
  have HB1 := Lib.hid hb1
  have HARG1 := Lib.hid ((HARG.out.below hb1).more hb1.size)
  clear hb1
  go_wp2_with fail
  refine (light_calls w1 sec hsec v l HARG1.out).mono ?_
  rintro e w2 ⟨b, rfl, hli, hww⟩
  have hww' : w2 = w1 := hww.symm
  subst hww'
  cases b with
  | false =>
    clear hli
    go_wp2_with fail
    go_ret
    exact ⟨rfl, HB1.out⟩
  | true =>
    have HLI := Lib.hid (hli rfl)
    clear hli hww
    have HLU : Hid (∀ X, Below w2.heap.size w2 X → LaidJ X) := by
      show ∀ X, _
      intro X hX
      exact (HL.out.below HB1.out).below hX
    by_cases h3 : sec < 3
    · go_wp2_with fail
      refine (filled_no w2 sec h3 (by unfold i64ok at hsec; omega) v HLU.out).mono ?_
      rintro e w3 ⟨⟨dv, rfl⟩, hb3⟩
      have HB3 : Hid (Below W.heap.size W w3) := HB1.out.trans (hb3.mono HB1.out.size)
      clear hb3
      go_wp2_with fail
      go_ret
      exact ⟨rfl, HB3.out⟩
    · obtain ⟨n, rfl⟩ := Int.eq_ofNat_of_zero_le (show 0 ≤ sec by omega)
      have hn3 : 3 ≤ n := by omega
      have hn40 : n ≤ 40 := by have := HLI.out.n40; omega
      have hl16 := HLI.out.l16
      have hf := filled_yes (w := w2) (B := w2.heap.size) rfl n hn3 v l HARG1.out HLI.out HLU.out
      clear h3
      go_wp2_with fail
      refine hf.mono ?_
      clear hf
      rintro e w3 ⟨d, j, F, G, st, c, recs, ov, rfl, hfl⟩
      have HFL := Lib.hid hfl
      have hrl : recs.length ≤ 320 := by have := hfl.len; omega
      have hcb := hfl.calm.bound
      have HOW3 := Lib.hid hfl.own
      have HJ3 : Hid (JAt w3 G j d ⟨n, c, recs, false⟩ ∧ ∀ k, G k → ¬ F k) := ⟨hfl.jn, hfl.gf⟩
      have HW3 : Hid (TextsOut w3 F ov recs) := TextsOut.of_own hfl.row fun g hg => (hfl.rf g hg).1
      have HC := Lib.hid hfl.calm
      obtain ⟨OA, ocap, hov, _⟩ := TextsAt.of_own hfl.row
      subst hov
      clear hfl
      obtain ⟨s1, rfl⟩ := Int.eq_ofNat_of_zero_le hs0.1
      obtain ⟨a1, rfl⟩ := Int.eq_ofNat_of_zero_le ha0.1
      obtain ⟨m1, rfl⟩ := Int.eq_ofNat_of_zero_le hm0.1
      have hR := rot_open HC.out (x := s1 % n) (a := a1 % 64) (m := m1) (Nat.mod_lt _ (by omega)) (Nat.mod_lt _ (by omega)) (by omega)
      have HR := Lib.hid hR
      have q1 : (0 : Int) ≤ (s1 : Int) := by omega
      have q2 : (s1 : Int) ≤ 255 := by omega
      have q3 : (0 : Int) ≤ (a1 : Int) := by omega
      have q4 : (a1 : Int) ≤ 255 := by omega
      have q5 : (0 : Int) ≤ (m1 : Int) := by omega
      have q6 : (m1 : Int) ≤ 255 := by omega
      have q7 : (0 : Int) < (n : Int) := by omega
      have q8 : ¬ (n : Int) = 0 := by omega
      clear hR HFL HJ3
      go_wp2_with fail
      refine (rot_calls HOW3.out.dk _ _ _).mono ?_
      rintro e w4 ht
      obtain ⟨rfl, F4, hd4, hk4⟩ := Kept.turns ht
      have e1 : ((s1 : Int) % (n : Int)) = ((s1 % n : Nat) : Int) := by omega
      have e2 : ((a1 : Int) % 64) = ((a1 % 64 : Nat) : Int) := by omega
      try rw [e1] at hd4
      try rw [e2] at hd4
      have HOW4 := Lib.hid (HOW3.out.kept hk4 hd4)
      have HW4 := Lib.hid (HW3.out.kept hk4)
      clear ht hd4 hk4 HOW3 HW3 e1 e2
      rcases HR.out with ⟨st', hR1⟩ | hR1
      · have HR1 := Lib.hid hR1
        clear hR1 HR
        have ho := open_calls (HOW4.out.laid HLU.out) HOW4.out.dk (by rw [rot_queue, HC.out.q]; simp)
        go_wp2_with fail
        refine ho.mono ?_
        clear ho
        rintro e w5 hoo
        obtain ⟨F5, hk, hOw, hc⟩ := HOW4.out.open hoo
        rw [HR1.out] at hc hOw
        rcases hc with ⟨h9, _⟩ | ⟨js, Kp, GK, Mv, h9, rfl, hja, hgf, hgn, hmt, _⟩
        · cases h9
        injection h9 with h9
        subst h9
        have HOW5 := Lib.hid hOw
        have HW5 := Lib.hid (HW4.out.kept hk)
        have HK5 : Hid (JAt w5 GK Kp d ⟨n, c, recs, false⟩ ∧ ∀ k, GK k → ¬ F5 k) := ⟨hja, hgf⟩
        have HM5 := Lib.hid hmt
        clear hoo hk hOw hja hgf hgn hmt
        clear HOW4 HW4
        obtain ⟨MA, mcap, hmv, _⟩ := id HM5.out
        subst hmv
        have hx := rsame_calls w5 _ _ recs recs HM5.out.at_ HW5.out.at_ (by omega) (by omega)
        rw [decide_eq_true (rfl : recs = recs)] at hx
        go_wp2_with fail
        refine hx.mono ?_
        clear hx
        rintro e w6 ⟨rfl, hb⟩
        have HOW6 := Lib.hid (HOW5.out.below hb)
        clear HOW5
        clear hb
        go_wp2_with fail
        go_ret
        exact ⟨rfl, HB1.out.trans (HOW6.out.be.mono HB1.out.size)⟩
      · have HR1 := Lib.hid hR1
        clear hR1 HR
        have ho := open_calls (HOW4.out.laid HLU.out) HOW4.out.dk (by rw [rot_queue, HC.out.q]; simp)
        go_wp2_with fail
        refine ho.mono ?_
        clear ho
        rintro e w5 hoo
        obtain ⟨F5, hk, hOw, hc⟩ := HOW4.out.open hoo
        rw [HR1.out] at hc hOw
        rcases hc with ⟨_, rfl⟩ | ⟨js, jj, GG, vv, h9, _⟩
        rotate_left
        · cases h9
        have HOW5 := Lib.hid hOw
        have HW5 := Lib.hid (HW4.out.kept hk)
        clear hoo hk hOw
        clear HOW4 HW4
        go_wp2_with fail
        go_ret
        exact ⟨rfl, HB1.out.trans (HOW5.out.be.mono HB1.out.size)⟩
end Go.Proofs.YtpdhjfnddnoghaaDoor
