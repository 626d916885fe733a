/- An armed disk beside one that is not, as plain data.
   Conditions: none. -/
import Derived.Test.YtbjomjlchafkfaaDU
namespace Go.Proofs.Ytbjomjlchafkfaa
open Go.RowKit Go.Lib
set_option linter.unusedVariables false
/-- The armed disk beside the one that is not. -/
structure Beside (left wr by_ : Int) (sa sb : DS) : Prop where
  off : sb.off = false
  arm : sb.armed = none
  eq : sa = { sb with armed := if 0 ≤ left then some (left, wr, by_) else none }
def nextLeft (left : Int) : Int := if 0 < left then left - 1 else left
theorem start_eq {s t : DS} (h1 : s.sect = t.sect) (h2 : s.queue = t.queue) : s.start = t.start := by
  unfold DS.start
  rw [h1, h2]
theorem fail_same {s t : DS} (h1 : s.sect = t.sect) (h2 : s.queue = t.queue) (h3 : s.off = t.off) (h4 : s.off = false) (a b : Int) : (s.fail a b).start = (t.fail a b).start := by
  have e1 : s.fail a b = ⟨s.failSect a b, [], true, none⟩ := by unfold DS.fail; rw [h4]; rfl
  have e2 : t.fail a b = ⟨t.failSect a b, [], true, none⟩ := by unfold DS.fail; rw [← h3, h4]; rfl
  rw [e1, e2]
  unfold DS.failSect
  rw [h1, h2]
theorem count_armed {s : DS} {l a b : Int} (h : s.armed = some (l, a, b)) (h0 : 0 < l) : s.count = ({ s with armed := some (l - 1, a, b) }, 0) := by
  unfold DS.count; rw [h]; simp [h0]
theorem count_now {s : DS} {a b : Int} (h : s.armed = some (0, a, b)) : s.count = (s.fail a b, 26) := by
  unfold DS.count; rw [h]; simp
theorem count_no {s : DS} (h : s.armed = none) : s.count = (s, 0) := by unfold DS.count; rw [h]
theorem write_count {s : DS} (ho : s.off = false) (i : Int) (t : ByteArray) (hv : s.valid i = true) (ht : t.size = 64) : s.write i t = DS.count { s with queue := s.queue ++ [(i.toNat, t)] } := by
  unfold DS.write
  rw [if_neg (by rw [ho]; decide), if_neg (by rw [hv]; decide), if_neg (by simpa using ht)]
theorem write_bad {s : DS} (ho : s.off = false) (i : Int) (t : ByteArray) (h : ¬ (s.valid i = true ∧ t.size = 64)) : s.write i t = (s, 1) := by
  unfold DS.write
  rw [if_neg (by rw [ho]; decide)]
  by_cases hv : s.valid i = true
  · rw [if_neg (by rw [hv]; decide), if_pos (fun e => h ⟨hv, e⟩)]
  · rw [if_pos (by simpa using hv)]
theorem Beside.write {left wr by_ : Int} {sa sb : DS} (h : Beside left wr by_ sa sb) (i : Int) (t : ByteArray) :
    ((sb.write i t).2 = 1 ∧ (sb.write i t).1 = sb ∧ sa.write i t = (sa, 1)) ∨
    ((sb.write i t).2 = 0 ∧ (sb.write i t).1.off = false ∧ (sb.write i t).1.armed = none ∧
      (left = 0 → (sa.write i t).2 = 26 ∧ (sa.write i t).1.start = ((sb.write i t).1.fail wr by_).start) ∧
      (left ≠ 0 → (sa.write i t).2 = 0 ∧ Beside (nextLeft left) wr by_ (sa.write i t).1 (sb.write i t).1)) := by
  have ho : sa.off = false := by rw [h.eq]; exact h.off
  have hva : sa.valid i = sb.valid i := by rw [h.eq]; rfl
  by_cases hc : sb.valid i = true ∧ t.size = 64
  · right
    have eb : sb.write i t = ({ sb with queue := sb.queue ++ [(i.toNat, t)] }, 0) := by
      rw [write_count h.off i t hc.1 hc.2, count_no (by exact h.arm)]
    have ea := write_count ho i t (by rw [hva]; exact hc.1) hc.2
    rw [eb]
    refine ⟨rfl, h.off, h.arm, fun hl => ?_, fun hl => ?_⟩
    · have harm : sa.armed = some (0, wr, by_) := by rw [h.eq]; simp [hl]
      rw [ea, count_now (s := { sa with queue := sa.queue ++ [(i.toNat, t)] }) harm]
      refine ⟨rfl, fail_same (s := { sa with queue := sa.queue ++ [(i.toNat, t)] }) (t := { sb with queue := sb.queue ++ [(i.toNat, t)] }) ?_ ?_ ?_ ho _ _⟩
      · show sa.sect = sb.sect; rw [h.eq]
      · show sa.queue ++ _ = sb.queue ++ _; rw [h.eq]
      · show sa.off = sb.off; rw [h.eq]
    · rcases Int.lt_trichotomy left 0 with h0 | h0 | h0
      · have harm : sa.armed = none := by rw [h.eq]; simp; omega
        rw [ea, count_no (s := { sa with queue := sa.queue ++ [(i.toNat, t)] }) harm]
        refine ⟨rfl, h.off, h.arm, ?_⟩
        have : nextLeft left = left := by unfold nextLeft; rw [if_neg (by omega)]
        rw [this, h.eq]
      · exact absurd h0 hl
      · have harm : sa.armed = some (left, wr, by_) := by rw [h.eq]; simp; omega
        rw [ea, count_armed (s := { sa with queue := sa.queue ++ [(i.toNat, t)] }) harm h0]
        refine ⟨rfl, h.off, h.arm, ?_⟩
        have : nextLeft left = left - 1 := by unfold nextLeft; rw [if_pos h0]
        rw [this, h.eq, if_pos (by omega), if_pos (by omega)]
  · left
    rw [write_bad h.off i t hc]
    exact ⟨rfl, rfl, write_bad ho i t (by rw [hva]; exact hc)⟩
theorem Beside.sync {left wr by_ : Int} {sa sb : DS} (h : Beside left wr by_ sa sb) :
    sb.sync = (sb.syncNow, 0) ∧
    (left = 0 → sa.sync.2 = 26 ∧ sa.sync.1.start = (sb.fail wr by_).start) ∧
    (left ≠ 0 → sa.sync.2 = 0 ∧ Beside (nextLeft left) wr by_ sa.sync.1 sb.syncNow) := by
  have ho : sa.off = false := by rw [h.eq]; exact h.off
  refine ⟨sync_plain h.off h.arm, fun hl => ?_, fun hl => ?_⟩
  · have harm : sa.armed = some (0, wr, by_) := by rw [h.eq]; simp [hl]
    have e : sa.sync = (sa.fail wr by_, 26) := by
      unfold DS.sync
      rw [ho, count_now harm]
      simp
    rw [e]
    refine ⟨rfl, fail_same ?_ ?_ ?_ ho _ _⟩ <;> rw [h.eq]
  · rcases Int.lt_trichotomy left 0 with h0 | h0 | h0
    · have harm : sa.armed = none := by rw [h.eq]; simp; omega
      rw [sync_plain ho harm]
      refine ⟨rfl, h.off, h.arm, ?_⟩
      have : nextLeft left = left := by unfold nextLeft; rw [if_neg (by omega)]
      rw [this, h.eq]
      rfl
    · exact absurd h0 hl
    · have harm : sa.armed = some (left, wr, by_) := by rw [h.eq]; simp; omega
      have e : sa.sync = ((DS.syncNow { sa with armed := some (left - 1, wr, by_) }), 0) := by
        unfold DS.sync
        rw [if_neg (by rw [ho]; decide), count_armed harm h0]
        rfl
      rw [e]
      refine ⟨rfl, h.off, h.arm, ?_⟩
      have : nextLeft left = left - 1 := by unfold nextLeft; rw [if_pos h0]
      rw [this, h.eq, if_pos (by omega), if_pos (by omega)]
      rfl
theorem Beside.starts {left wr by_ : Int} {sa sb : DS} (h : Beside left wr by_ sa sb) : sa.start = sb.start := by rw [h.eq]; rfl
theorem beside_arm (st : DS) (a b c : Int) : Beside a b c (st.start.arm a b c) st.start := by
  refine ⟨rfl, rfl, ?_⟩
  unfold DS.arm
  rfl
theorem Beside.qlen {left wr by_ : Int} {sa sb : DS} (h : Beside left wr by_ sa sb) : sa.queue = sb.queue ∧ sa.sect = sb.sect := by rw [h.eq]; exact ⟨rfl, rfl⟩
end Go.Proofs.Ytbjomjlchafkfaa
