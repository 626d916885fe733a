/- The law's head: the fixed examples come out as they should.
   Conditions: none. -/
import Derived.Test.YtbjomjlchafkfaaDN
namespace Go.Proofs.Ytbjomjlchafkfaa
open Go.RowKit Go.Lib
set_option linter.unusedVariables false

/-- A disk of the call's own: its blocks are from B on, and nothing below B has changed since w0. -/
structure Mine (B : Nat) (w0 w : World) (F : Nat → Prop) (p : Nat) (st : DS) : Prop where
  d : DiskAt w F p st
  lo : ∀ k, F k → B ≤ k
  be : Below B w0 w
  sz : B ≤ w.heap.size
theorem Mine.turn {B : Nat} {w0 w w' : World} {F : Nat → Prop} {p : Nat} {st st' : DS} {v : Value} {e : Ending} (h : Mine B w0 w F p st) (t : Turns w F p st' v e w') : e = .returned v ∧ ∃ F', Mine B w0 w' F' p st' := by
  obtain ⟨he, F', hd, hu, hF⟩ := t
  refine ⟨he, F', hd, fun k hk => ?_, h.be.trans (hu.below h.lo h.sz), Nat.le_trans h.sz hu.size⟩
  rcases hF k hk with h1 | h1
  · exact h.lo k h1
  · exact Nat.le_trans h.sz h1
theorem Mine.below {B : Nat} {w0 w w' : World} {F : Nat → Prop} {p : Nat} {st : DS} (h : Mine B w0 w F p st) (hb : Below w.heap.size w w') : Mine B w0 w' F p st :=
  ⟨h.d.below hb, h.lo, h.be.trans (hb.mono h.sz), Nat.le_trans h.sz hb.size⟩
theorem Mine.fresh {B : Nat} {w0 w w' : World} {n : Nat} {e : Ending} (hb : Below B w0 w) (hs : B ≤ w.heap.size) (h : Fresh w n e w') : ∃ p F, e = .returned (.pointer (some ⟨p, 0, none⟩)) ∧ Mine B w0 w' F p (DS.new n) := by
  obtain ⟨p, F, he, hd, hbe, hF⟩ := h
  exact ⟨p, F, he, hd, fun k hk => Nat.le_trans hs (hF k hk), hb.trans (hbe.mono hs), Nat.le_trans hs hbe.size⟩

def tA : ByteArray := ⟨#[97]⟩
def fA : ByteArray := fillT ⟨#[97]⟩
def fB : ByteArray := fillT ⟨#[98]⟩
def f0 : ByteArray := fillT ⟨#[0]⟩
def hs1 : DS := ((DS.new 2).write 0 fA).1
def hs2 : DS := hs1.sync.1
def hs3 : DS := (hs2.write 0 fB).1
def hs4 : DS := hs3.fail 0 2
def hs6 : DS := hs4.start
theorem hr1 : ((DS.new 2).write 0 fA) = (hs1, 0) := by kernel_rfl
theorem hr2 : hs1.sync = (hs2, 0) := by kernel_rfl
theorem hr3 : hs2.write 0 fB = (hs3, 0) := by kernel_rfl
theorem hr4 : hs3.read 0 = (fB, 0) := by kernel_rfl
theorem hr5 : hs4.sync = (hs4, 26) := by kernel_rfl
def hT : ByteArray := ⟨#[98, 98]⟩ ++ fA.extract 2 fA.size
theorem hr6 : hs6.read 0 = (hT, 0) := by kernel_rfl
theorem hr7 : hs6.read 1 = (f0, 0) := by kernel_rfl
theorem hr8 : hs6.read 2 = (emptyB, 1) := by kernel_rfl
theorem hr9 : hs6.write 1 ⟨#[115, 104, 111, 114, 116]⟩ = (hs6, 1) := by kernel_rfl
def xs1 : DS := ((DS.new 1).write 0 fA).1
def xs2 : DS := xs1.sync.1
def xs3 : DS := xs2.rot 0 1 3
def xs4 : DS := (xs3.write 0 fB).1
def xT : ByteArray := ⟨#[97, 98]⟩ ++ fA.extract 2 fA.size
theorem xr1 : ((DS.new 1).write 0 fA) = (xs1, 0) := by kernel_rfl
theorem xr2 : xs1.sync = (xs2, 0) := by kernel_rfl
theorem xr3 : xs3.read 0 = (xT, 0) := by kernel_rfl
theorem xr4 : xs3.write 0 fB = (xs4, 0) := by kernel_rfl
theorem xr5 : xs4.raw = xT := by kernel_rfl
def ks1 : DS := (DS.new 1).arm 1 1 2
def ks2 : DS := (ks1.write 0 fA).1
def ks3 : DS := (ks2.write 0 fB).1
def ks4 : DS := ks3.start
theorem kr1 : ks1.write 0 fA = (ks2, 0) := by kernel_rfl
theorem kr2 : ks2.write 0 fB = (ks3, 26) := by kernel_rfl
theorem kr3 : ks4.read 0 = (hT, 0) := by kernel_rfl
theorem fA_size : fA.size = 64 := by kernel_rfl
-- THE WALK (printed by gen_head.py)
theorem fill_A (w : World) : Calls Try.prog 28 #[.string ⟨#[97]⟩] w fun e w' => e = .returned (.string fA) ∧ Below w.heap.size w w' := fill_calls ⟨#[97]⟩ (by decide) w
theorem fill_B (w : World) : Calls Try.prog 28 #[.string ⟨#[98]⟩] w fun e w' => e = .returned (.string fB) ∧ Below w.heap.size w w' := fill_calls ⟨#[98]⟩ (by decide) w
theorem fill_0 (w : World) : Calls Try.prog 28 #[.string ⟨#[0]⟩] w fun e w' => e = .returned (.string f0) ∧ Below w.heap.size w w' := fill_calls ⟨#[0]⟩ (by decide) w

set_option maxRecDepth 100000 in
set_option maxHeartbeats 4000000 in
theorem head_calls (w : World) : Calls Try.prog 11 #[] w fun e w' => e = .returned (.bool true) ∧ Below w.heap.size w w' := by
  have q1 : (2 : Int) ≤ (fA.size : Int) := by rw [fA_size]; omega
  have q2 : 2 ≤ fA.size := by rw [fA_size]; omega
  have g1 : (xT.toList == (⟨#[97, 98]⟩ ++ fA.extract 2 fA.size : ByteArray).toList) = true := by simp [xT]
  have g2 : (hT.toList == (⟨#[98, 98]⟩ ++ fA.extract 2 fA.size : ByteArray).toList) = true := by simp [hT]
  have g3 : (fB.toList == fB.toList) = true := by simp
  have g4 : (f0.toList == f0.toList) = true := by simp
  have g5 : (xT.toList == xT.toList) = true := by simp
  have g6 : emptyB.toList = [] := by rw [ByteArray.toList_eq]; rfl
  have q3 : fA.size ≤ 9223372036854775807 := by rw [fA_size]; omega
  go_enter Try.func11, Try.ntmps11
  go_wp2_with fail
  refine (new_ok _ 2 (by omega) (by omega)).mono ?_
  rintro e w1 hf; obtain ⟨p2, F, rfl, m1⟩ := Mine.fresh (Below.refl w.heap.size w) (Nat.le_refl _) hf; clear hf
  go_wp2_with fail
  refine (fill_A _).mono ?_
  rintro e w2 ⟨rfl, hb⟩; have m2 := m1.below hb; clear hb m1
  go_wp2_with fail
  have hc := write_calls m2.d (of_decide_eq_true (by kernel_rfl)) 0 fA
  rw [hr1] at hc
  refine hc.mono ?_; clear hc
  rintro e w3 ht; obtain ⟨rfl, F, m3⟩ := m2.turn ht; clear ht m2
  go_wp2_with fail
  have hc := sync_calls m3.d (of_decide_eq_true (by kernel_rfl))
  rw [hr2] at hc
  refine hc.mono ?_; clear hc
  rintro e w4 ht; obtain ⟨rfl, F, m4⟩ := m3.turn ht; clear ht m3
  go_wp2_with fail
  refine (fill_B _).mono ?_
  rintro e w5 ⟨rfl, hb⟩; have m5 := m4.below hb; clear hb m4
  go_wp2_with fail
  have hc := write_calls m5.d (of_decide_eq_true (by kernel_rfl)) 0 fB
  rw [hr3] at hc
  refine hc.mono ?_; clear hc
  rintro e w6 ht; obtain ⟨rfl, F, m6⟩ := m5.turn ht; clear ht m5
  go_wp2_with fail
  have hc := read_calls m6.d (of_decide_eq_true (by kernel_rfl)) 0
  rw [hr4] at hc
  refine hc.mono ?_; clear hc
  rintro e w7 ⟨rfl, hb⟩; have m7 := m6.below hb; clear hb m6
  go_wp2_with fail
  have hc := fail_calls m7.d 0 2 (by unfold i64ok; omega) (by unfold i64ok; omega) (of_decide_eq_true (by kernel_rfl))
  rw [show hs3.fail 0 2 = hs4 from rfl] at hc
  refine hc.mono ?_; clear hc
  rintro e w8 ht; obtain ⟨rfl, F, m8⟩ := m7.turn ht; clear ht m7
  go_wp2_with fail
  have hc := sync_calls m8.d (of_decide_eq_true (by kernel_rfl))
  rw [hr5] at hc
  refine hc.mono ?_; clear hc
  rintro e w9 ht; obtain ⟨rfl, F, m9⟩ := m8.turn ht; clear ht m8
  go_wp2_with fail
  have hc := start_calls m9.d
  rw [show hs4.start = hs6 from rfl] at hc
  refine hc.mono ?_; clear hc
  rintro e w10 ht; obtain ⟨rfl, F, m10⟩ := m9.turn ht; clear ht m9
  go_wp2_with fail
  have hc := read_calls m10.d (of_decide_eq_true (by kernel_rfl)) 0
  rw [hr6] at hc
  refine hc.mono ?_; clear hc
  rintro e w11 ⟨rfl, hb⟩; have m11 := m10.below hb; clear hb m10
  go_wp2_with fail
  have hc := read_calls m11.d (of_decide_eq_true (by kernel_rfl)) 1
  rw [hr7] at hc
  refine hc.mono ?_; clear hc
  rintro e w12 ⟨rfl, hb⟩; have m12 := m11.below hb; clear hb m11
  go_wp2_with fail
  have hc := read_calls m12.d (of_decide_eq_true (by kernel_rfl)) 2
  rw [hr8] at hc
  refine hc.mono ?_; clear hc
  rintro e w13 ⟨rfl, hb⟩; have m13 := m12.below hb; clear hb m12
  go_wp2_with fail
  have hc := write_calls m13.d (of_decide_eq_true (by kernel_rfl)) 1 ⟨#[115, 104, 111, 114, 116]⟩
  rw [hr9] at hc
  refine hc.mono ?_; clear hc
  rintro e w14 ht; obtain ⟨rfl, F, m14⟩ := m13.turn ht; clear ht m13
  go_wp2_with fail
  refine (fail_nil _ 1 1).mono ?_
  rintro e w15 ⟨rfl, rfl⟩
  go_wp2_with fail
  refine (start_nil _).mono ?_
  rintro e w15 ⟨rfl, rfl⟩
  go_wp2_with fail
  refine (arm_nil _ 0 1 1).mono ?_
  rintro e w15 ⟨rfl, rfl⟩
  go_wp2_with fail
  refine (rot_nil _ 0 0 1).mono ?_
  rintro e w15 ⟨rfl, hb⟩; have m15 := m14.below hb; clear hb m14
  go_wp2_with fail
  refine (new_ok _ 1 (by omega) (by omega)).mono ?_
  rintro e w16 hf; obtain ⟨px, F, rfl, m16⟩ := Mine.fresh m15.be m15.sz hf; clear hf m15
  go_wp2_with fail
  refine (fill_A _).mono ?_
  rintro e w17 ⟨rfl, hb⟩; have m17 := m16.below hb; clear hb m16
  go_wp2_with fail
  have hc := write_calls m17.d (of_decide_eq_true (by kernel_rfl)) 0 fA
  rw [xr1] at hc
  refine hc.mono ?_; clear hc
  rintro e w18 ht; obtain ⟨rfl, F, m18⟩ := m17.turn ht; clear ht m17
  go_wp2_with fail
  have hc := sync_calls m18.d (of_decide_eq_true (by kernel_rfl))
  rw [xr2] at hc
  refine hc.mono ?_; clear hc
  rintro e w19 ht; obtain ⟨rfl, F, m19⟩ := m18.turn ht; clear ht m18
  go_wp2_with fail
  have hc := rot_calls m19.d 0 1 3
  rw [show xs2.rot 0 1 3 = xs3 from rfl] at hc
  refine hc.mono ?_; clear hc
  rintro e w20 ht; obtain ⟨rfl, F, m20⟩ := m19.turn ht; clear ht m19
  go_wp2_with fail
  have hc := read_calls m20.d (of_decide_eq_true (by kernel_rfl)) 0
  rw [xr3] at hc
  refine hc.mono ?_; clear hc
  rintro e w21 ⟨rfl, hb⟩; have m21 := m20.below hb; clear hb m20
  go_wp2_with fail
  refine (fill_B _).mono ?_
  rintro e w22 ⟨rfl, hb⟩; have m22 := m21.below hb; clear hb m21
  go_wp2_with fail
  have hc := write_calls m22.d (of_decide_eq_true (by kernel_rfl)) 0 fB
  rw [xr4] at hc
  refine hc.mono ?_; clear hc
  rintro e w23 ht; obtain ⟨rfl, F, m23⟩ := m22.turn ht; clear ht m22
  go_wp2_with fail
  refine (fill_A _).mono ?_
  rintro e w24 ⟨rfl, hb⟩; have m24 := m23.below hb; clear hb m23
  go_wp2_with fail
  have hc := raw_calls m24.d
  rw [xr5] at hc
  refine hc.mono ?_; clear hc
  rintro e w25 ⟨rfl, rfl⟩
  go_wp2_with fail
  refine (raw_nil _).mono ?_
  rintro e w25 ⟨rfl, rfl⟩
  go_wp2_with fail
  refine (new_ok _ 1 (by omega) (by omega)).mono ?_
  rintro e w25 hf; obtain ⟨pk, F, rfl, m25⟩ := Mine.fresh m24.be m24.sz hf; clear hf m24
  go_wp2_with fail
  have hc := arm_calls m25.d 1 1 2 (by unfold i64ok; omega) (by unfold i64ok; omega) (by unfold i64ok; omega)
  rw [show (DS.new 1).arm 1 1 2 = ks1 from rfl] at hc
  refine hc.mono ?_; clear hc
  rintro e w26 ht; obtain ⟨rfl, F, m26⟩ := m25.turn ht; clear ht m25
  go_wp2_with fail
  refine (fill_A _).mono ?_
  rintro e w27 ⟨rfl, hb⟩; have m27 := m26.below hb; clear hb m26
  go_wp2_with fail
  have hc := write_calls m27.d (of_decide_eq_true (by kernel_rfl)) 0 fA
  rw [kr1] at hc
  refine hc.mono ?_; clear hc
  rintro e w28 ht; obtain ⟨rfl, F, m28⟩ := m27.turn ht; clear ht m27
  go_wp2_with fail
  refine (fill_B _).mono ?_
  rintro e w29 ⟨rfl, hb⟩; have m29 := m28.below hb; clear hb m28
  go_wp2_with fail
  have hc := write_calls m29.d (of_decide_eq_true (by kernel_rfl)) 0 fB
  rw [kr2] at hc
  refine hc.mono ?_; clear hc
  rintro e w30 ht; obtain ⟨rfl, F, m30⟩ := m29.turn ht; clear ht m29
  go_wp2_with fail
  have hc := start_calls m30.d
  rw [show ks3.start = ks4 from rfl] at hc
  refine hc.mono ?_; clear hc
  rintro e w31 ht; obtain ⟨rfl, F, m31⟩ := m30.turn ht; clear ht m30
  go_wp2_with fail
  have hc := read_calls m31.d (of_decide_eq_true (by kernel_rfl)) 0
  rw [kr3] at hc
  refine hc.mono ?_; clear hc
  rintro e w32 ⟨rfl, hb⟩; have m32 := m31.below hb; clear hb m31
  go_wp2_with fail
  refine (fill_A _).mono ?_
  rintro e w33 ⟨rfl, hb⟩; have m33 := m32.below hb; clear hb m32
  go_wp2_with fail
  refine (fill_B _).mono ?_
  rintro e w34 ⟨rfl, hb⟩; have m34 := m33.below hb; clear hb m33
  go_wp2_with fail
  refine (fill_A _).mono ?_
  rintro e w35 ⟨rfl, hb⟩; have m35 := m34.below hb; clear hb m34
  go_wp2_with fail
  refine (fill_0 _).mono ?_
  rintro e w36 ⟨rfl, hb⟩; have m36 := m35.below hb; clear hb m35
  go_wp2_with fail
  refine (sync_nil _).mono ?_
  rintro e w37 ⟨rfl, rfl⟩
  go_wp2_with fail
  refine (fill_A _).mono ?_
  rintro e w37 ⟨rfl, hb⟩; have m37 := m36.below hb; clear hb m36
  go_wp2_with fail
  refine (write_nil _ 0 fA).mono ?_
  rintro e w38 ⟨rfl, hb⟩; have m38 := m37.below hb; clear hb m37
  go_wp2_with fail
  refine (new_no _ 0 (.inl (by omega))).mono ?_
  rintro e w39 ⟨rfl, rfl⟩
  go_wp2_with fail
  refine (new_no _ 4001 (.inr (by omega))).mono ?_
  rintro e w39 ⟨rfl, rfl⟩
  go_wp2_with fail
  go_ret
  exact ⟨rfl, m38.be⟩
end Go.Proofs.Ytbjomjlchafkfaa
