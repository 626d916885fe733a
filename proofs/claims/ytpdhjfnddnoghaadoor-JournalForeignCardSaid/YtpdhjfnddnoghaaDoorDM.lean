/- The disk as plain data: what each operation of the disk makes of it. No program is in sight here.
   Conditions: none; every function is total. -/
import Derived.Lib.UnsafeStr
import Derived.Laws.CopyOwn
namespace Go.Proofs.YtpdhjfnddnoghaaDoor
open Go.Lib

structure DS where
  sect : List ByteArray
  queue : List (Nat × ByteArray)
  off : Bool
  armed : Option (Int × Int × Int)

def i64ok (n : Int) : Prop := -9223372036854775808 ≤ n ∧ n ≤ 9223372036854775807

structure DS.WF (st : DS) : Prop where
  n1 : 1 ≤ st.sect.length
  n2 : st.sect.length ≤ 4000
  s64 : ∀ s ∈ st.sect, s.size = 64
  q64 : ∀ x ∈ st.queue, x.1 < st.sect.length ∧ x.2.size = 64
  ar : ∀ a b c, st.armed = some (a, b, c) → 0 ≤ a ∧ i64ok a ∧ i64ok b ∧ i64ok c

def emptyB : ByteArray := ⟨#[]⟩
def zeroB : ByteArray := ⟨(List.replicate 64 (0 : UInt8)).toArray⟩
def clamp (x : Int) (m : Nat) : Nat := (min (max x 0) (m : Int)).toNat
def settle (s : List ByteArray) (q : List (Nat × ByteArray)) : List ByteArray := q.foldl (fun s x => s.set x.1 x.2) s
/-- the first k bytes of the new text, the others of the old one -/
def tear (old new : ByteArray) (k : Nat) : ByteArray := ⟨(new.data.toList.take k ++ old.data.toList.drop k).toArray⟩
def tearAt (s : List ByteArray) (x : Nat × ByteArray) (k : Nat) : List ByteArray := s.set x.1 (tear (s.getD x.1 emptyB) x.2 k)

def DS.new (n : Nat) : DS := ⟨List.replicate n zeroB, [], false, none⟩
def DS.failSect (st : DS) (writes bytes : Int) : List ByteArray :=
  match st.queue[clamp writes st.queue.length]? with
  | none => settle st.sect st.queue
  | some x => tearAt (settle st.sect (st.queue.take (clamp writes st.queue.length))) x (clamp bytes 64)
def DS.fail (st : DS) (writes bytes : Int) : DS := if st.off then st else ⟨st.failSect writes bytes, [], true, none⟩
def DS.count (st : DS) : DS × Int :=
  match st.armed with
  | none => (st, 0)
  | some (a, w, b) => if 0 < a then ({ st with armed := some (a - 1, w, b) }, 0) else (st.fail w b, 26)
def DS.valid (st : DS) (sec : Int) : Bool := decide (0 ≤ sec) && decide (sec < st.sect.length)
def DS.write (st : DS) (sec : Int) (t : ByteArray) : DS × Int :=
  if st.off then (st, 26) else if st.valid sec = false then (st, 1) else if t.size ≠ 64 then (st, 1)
  else DS.count { st with queue := st.queue ++ [(sec.toNat, t)] }
def DS.all (st : DS) : List ByteArray := settle st.sect st.queue
def DS.read (st : DS) (sec : Int) : ByteArray × Int :=
  if st.off then (emptyB, 26) else if st.valid sec then (st.all.getD sec.toNat emptyB, 0) else (emptyB, 1)
def DS.syncNow (st : DS) : DS := { st with sect := st.all, queue := [] }
def DS.sync (st : DS) : DS × Int :=
  if st.off then (st, 26) else if st.count.2 = 0 then (st.count.1.syncNow, 0) else st.count
def DS.start (st : DS) : DS := { st with off := false, armed := none }
def DS.arm (st : DS) (a w b : Int) : DS := if st.off then st else { st with armed := if 0 ≤ a then some (a, w, b) else none }
def flipAt (s : ByteArray) (at_ mask : Nat) : ByteArray := ⟨(s.data.toList.modify at_ (· ^^^ UInt8.ofNat mask)).toArray⟩
def DS.rot (st : DS) (sec at_ mask : Int) : DS :=
  if st.valid sec && (decide (0 ≤ at_) && decide (at_ < 64) && decide (0 < mask) && decide (mask < 256)) then
    { st with sect := st.sect.modify sec.toNat (flipAt · at_.toNat mask.toNat) } else st
def rawOf (s : List ByteArray) : ByteArray := ⟨(s.flatMap fun x => x.data.toList).toArray⟩
def DS.raw (st : DS) : ByteArray := rawOf st.sect

/-! ### cells -/
def stCells (s : List ByteArray) : List Value := s.flatMap fun x => byteCells x.data.toList
def qCell (x : Nat × ByteArray) : List Value := [.int .i64 ((x.1 : Int) * 64), .int .i64 (((x.1 : Int) + 1) * 64), .string x.2]
def qCells (q : List (Nat × ByteArray)) : List Value := q.flatMap qCell

theorem bsize (s : ByteArray) : s.data.toList.length = s.size := by rw [Array.length_toList]; rfl
theorem byteCells_len (s : ByteArray) : (byteCells s.data.toList).length = s.size := by rw [byteCells_length, bsize]

theorem stCells_length (s : List ByteArray) (h : ∀ x ∈ s, x.size = 64) : (stCells s).length = 64 * s.length := by
  induction s with
  | nil => rfl
  | cons a s ih =>
    have := ih fun x hx => h x (by simp [hx])
    have ha := h a (by simp)
    simp only [stCells, List.flatMap_cons, List.length_append, byteCells_len, List.length_cons] at *
    omega
theorem qCells_length (q : List (Nat × ByteArray)) : (qCells q).length = q.length * 3 := by
  induction q with
  | nil => rfl
  | cons a q ih => simp only [qCells, List.flatMap_cons, List.length_append, List.length_cons, qCell, List.length_nil] at *; omega
theorem qCells_append (a b : List (Nat × ByteArray)) : qCells (a ++ b) = qCells a ++ qCells b := by simp [qCells]
theorem stCells_append (a b : List ByteArray) : stCells (a ++ b) = stCells a ++ stCells b := by simp [stCells]

theorem tear_size (old new : ByteArray) (k : Nat) (h1 : old.size = 64) (h2 : new.size = 64) : (tear old new k).size = 64 := by
  have := bsize old
  have := bsize new
  show (List.toArray _).size = 64
  simp
  omega
theorem tear_all (old new : ByteArray) (h1 : old.size = 64) (h2 : new.size = 64) : tear old new 64 = new := by
  have a := bsize old
  have b := bsize new
  unfold tear
  rw [List.take_of_length_le (by omega), List.drop_eq_nil_of_le (by omega), List.append_nil]
theorem tear_none (old new : ByteArray) : tear old new 0 = old := by simp [tear]

theorem list_split {α : Type} (l : List α) (i : Nat) (h : i < l.length) : l = l.take i ++ (l[i] :: l.drop (i + 1)) := by
  rw [List.getElem_cons_drop, List.take_append_drop]

/-- laying the first bytes of a text over a sector -/
theorem splice_tear (s : List ByteArray) (h : ∀ x ∈ s, x.size = 64) (i : Nat) (hi : i < s.length) (t : ByteArray) (ht : t.size = 64) (k : Nat) (hk : k ≤ 64) :
    splice (stCells s) (64 * i) (byteCells (t.data.toList.take k)) = stCells (tearAt s (i, t) k) := by
  have hb := bsize t
  have ho : s[i].size = 64 := h _ (List.getElem_mem hi)
  have hob := bsize s[i]
  have hl : (stCells (s.take i)).length = 64 * i := by
    rw [stCells_length _ fun x hx => h x (List.mem_of_mem_take hx), List.length_take]; omega
  have e : stCells s = stCells (s.take i) ++ (byteCells s[i].data.toList ++ stCells (s.drop (i + 1))) := by
    refine (congrArg stCells (list_split s i hi)).trans ?_
    rw [stCells_append]
    rfl
  have e2 : tearAt s (i, t) k = s.take i ++ (tear s[i] t k :: s.drop (i + 1)) := by
    unfold tearAt
    rw [List.set_eq_take_append_cons_drop, if_pos hi, List.getD_eq_getElem?_getD, List.getElem?_eq_getElem hi]
    rfl
  have e3 : stCells (tearAt s (i, t) k) = stCells (s.take i) ++ ((byteCells (t.data.toList.take k) ++ byteCells (s[i].data.toList.drop k)) ++ stCells (s.drop (i + 1))) := by
    rw [e2]; simp [stCells, tear, byteCells_append]
  have hbl : (byteCells (t.data.toList.take k)).length = k := by rw [byteCells_length, List.length_take]; omega
  rw [e3, splice, e, hbl]
  rw [List.take_append_of_le_length (by omega), List.take_of_length_le (by omega), List.append_assoc]
  congr 2
  rw [List.drop_append, hl, List.drop_eq_nil_of_le (by omega), List.nil_append, show 64 * i + k - 64 * i = k from by omega]
  rw [List.drop_append_of_le_length (by rw [byteCells_length]; omega)]
  simp [byteCells]

theorem tearAt_all (s : List ByteArray) (h : ∀ x ∈ s, x.size = 64) (x : Nat × ByteArray) (hi : x.1 < s.length) (hx : x.2.size = 64) : tearAt s x 64 = s.set x.1 x.2 := by
  unfold tearAt
  rw [tear_all _ _ ?_ hx]
  rw [List.getD_eq_getElem?_getD, List.getElem?_eq_getElem hi]
  exact h _ (List.getElem_mem hi)

theorem tearAt_none (s : List ByteArray) (x : Nat × ByteArray) : tearAt s x 0 = s := by
  unfold tearAt
  rw [tear_none]
  apply List.ext_getElem?
  intro j
  rw [List.getElem?_set]
  split
  · rename_i e; subst e
    split
    · rename_i h; simp [List.getD_eq_getElem?_getD, List.getElem?_eq_getElem h]
    · rename_i h; rw [List.getElem?_eq_none (by omega)]
  · rfl

theorem settle_length (s : List ByteArray) (q : List (Nat × ByteArray)) : (settle s q).length = s.length := by
  induction q generalizing s with
  | nil => rfl
  | cons x q ih => simp only [settle, List.foldl_cons] at *; rw [ih]; simp
theorem settle_append (s : List ByteArray) (a b : List (Nat × ByteArray)) : settle s (a ++ b) = settle (settle s a) b := by simp [settle]
theorem settle_64 (s : List ByteArray) (q : List (Nat × ByteArray)) (h : ∀ x ∈ s, x.size = 64) (hq : ∀ x ∈ q, x.2.size = 64) : ∀ x ∈ settle s q, x.size = 64 := by
  induction q generalizing s with
  | nil => exact h
  | cons y q ih =>
    refine ih (s.set y.1 y.2) ?_ fun x hx => hq x (by simp [hx])
    intro x hx
    rcases List.mem_or_eq_of_mem_set hx with h' | rfl
    · exact h x h'
    · exact hq _ (by simp)
theorem tearAt_length (s : List ByteArray) (x : Nat × ByteArray) (k : Nat) : (tearAt s x k).length = s.length := by simp [tearAt]
theorem tearAt_64 (s : List ByteArray) (x : Nat × ByteArray) (k : Nat) (h : ∀ x ∈ s, x.size = 64) (hi : x.1 < s.length) (hx : x.2.size = 64) : ∀ y ∈ tearAt s x k, y.size = 64 := by
  intro y hy
  rcases List.mem_or_eq_of_mem_set hy with h' | rfl
  · exact h y h'
  · refine tear_size _ _ _ ?_ hx
    rw [List.getD_eq_getElem?_getD, List.getElem?_eq_getElem hi]
    exact h _ (List.getElem_mem hi)
theorem clamp_le (x : Int) (m : Nat) : clamp x m ≤ m := by unfold clamp; omega

theorem DS.failSect_length (st : DS) (w b : Int) : (st.failSect w b).length = st.sect.length := by
  unfold DS.failSect; split
  · exact settle_length _ _
  · rw [tearAt_length, settle_length]
theorem DS.failSect_64 (st : DS) (h : st.WF) (w b : Int) : ∀ y ∈ st.failSect w b, y.size = 64 := by
  unfold DS.failSect; split
  · exact settle_64 _ _ h.s64 fun x hx => (h.q64 x hx).2
  · rename_i x hx
    have hm := h.q64 x (List.mem_of_getElem? hx)
    refine tearAt_64 _ _ _ (settle_64 _ _ h.s64 fun x hx => (h.q64 x (List.mem_of_mem_take hx)).2) ?_ hm.2
    rw [settle_length]; exact hm.1
theorem DS.WF.fail {st : DS} (h : st.WF) (w b : Int) : (st.fail w b).WF := by
  unfold DS.fail
  split
  · exact h
  · exact ⟨by rw [DS.failSect_length]; exact h.n1, by rw [DS.failSect_length]; exact h.n2, st.failSect_64 h w b, fun x hx => by simp at hx, fun a b c hh => by simp at hh⟩
theorem DS.fail_length (st : DS) (w b : Int) : (st.fail w b).sect.length = st.sect.length := by
  unfold DS.fail; split
  · rfl
  · exact st.failSect_length w b
theorem DS.WF.count {st : DS} (h : st.WF) : st.count.1.WF := by
  unfold DS.count
  split
  · exact h
  · rename_i a w b e
    have := h.ar _ _ _ e
    split
    · refine ⟨h.n1, h.n2, h.s64, h.q64, fun a' b' c' hh => ?_⟩
      simp only [Option.some.injEq, Prod.mk.injEq] at hh
      obtain ⟨rfl, rfl, rfl⟩ := hh
      simp only [i64ok] at *
      omega
    · exact h.fail w b
theorem DS.count_length (st : DS) : st.count.1.sect.length = st.sect.length := by
  unfold DS.count
  split
  · rfl
  · split
    · rfl
    · exact st.fail_length _ _
theorem DS.WF.push {st : DS} (h : st.WF) (sec : Int) (t : ByteArray) (hv : st.valid sec = true) (ht : t.size = 64) : DS.WF { st with queue := st.queue ++ [(sec.toNat, t)] } := by
  refine ⟨h.n1, h.n2, h.s64, fun x hx => ?_, h.ar⟩
  simp only [List.mem_append, List.mem_singleton] at hx
  simp only [DS.valid, Bool.and_eq_true, decide_eq_true_eq] at hv
  rcases hx with hx | rfl
  · exact h.q64 x hx
  · exact ⟨by show sec.toNat < st.sect.length; omega, ht⟩
theorem DS.WF.write {st : DS} (h : st.WF) (sec : Int) (t : ByteArray) : (st.write sec t).1.WF := by
  unfold DS.write
  split
  · exact h
  · split
    · exact h
    · rename_i hv
      split
      · exact h
      · rename_i ht
        exact (h.push sec t (by simpa using hv) (by simpa using ht)).count
theorem DS.write_length (st : DS) (sec : Int) (t : ByteArray) : (st.write sec t).1.sect.length = st.sect.length := by
  unfold DS.write
  split
  · rfl
  · split
    · rfl
    · split
      · rfl
      · exact DS.count_length _
theorem DS.WF.syncNow {st : DS} (h : st.WF) : st.syncNow.WF :=
  ⟨by show 1 ≤ (settle _ _).length; rw [settle_length]; exact h.n1, by show (settle _ _).length ≤ 4000; rw [settle_length]; exact h.n2, settle_64 _ _ h.s64 fun x hx => (h.q64 x hx).2, fun x hx => by simp [DS.syncNow] at hx, h.ar⟩
theorem DS.WF.sync {st : DS} (h : st.WF) : st.sync.1.WF := by
  unfold DS.sync
  split
  · exact h
  · split
    · exact h.count.syncNow
    · exact h.count
theorem DS.sync_length (st : DS) : st.sync.1.sect.length = st.sect.length := by
  unfold DS.sync
  split
  · rfl
  · split
    · show (settle _ _).length = _; rw [settle_length]; exact st.count_length
    · exact st.count_length
theorem DS.WF.start {st : DS} (h : st.WF) : st.start.WF := ⟨h.n1, h.n2, h.s64, h.q64, fun a b c hh => by simp [DS.start] at hh⟩
theorem DS.WF.arm {st : DS} (h : st.WF) (a w b : Int) (ha : i64ok a) (hw : i64ok w) (hb : i64ok b) : (st.arm a w b).WF := by
  unfold DS.arm
  split
  · exact h
  · refine ⟨h.n1, h.n2, h.s64, h.q64, fun a' b' c' hh => ?_⟩
    simp only at hh
    split at hh
    · simp only [Option.some.injEq, Prod.mk.injEq] at hh
      obtain ⟨rfl, rfl, rfl⟩ := hh
      exact ⟨by assumption, ha, hw, hb⟩
    · simp at hh
theorem flipAt_size (s : ByteArray) (a m : Nat) : (flipAt s a m).size = s.size := by
  have := bsize s
  show (List.toArray _).size = _
  simp
theorem DS.WF.rot {st : DS} (h : st.WF) (sec a m : Int) : (st.rot sec a m).WF := by
  unfold DS.rot
  split
  · refine ⟨by simpa using h.n1, by simpa using h.n2, fun x hx => ?_, fun x hx => by simpa using h.q64 x hx, h.ar⟩
    obtain ⟨j, hj, rfl⟩ := List.getElem_of_mem hx
    simp only [List.getElem_modify]
    split
    · rw [flipAt_size]; exact h.s64 _ (List.getElem_mem _)
    · exact h.s64 _ (List.getElem_mem _)
  · exact h
theorem DS.rot_length (st : DS) (sec a m : Int) : (st.rot sec a m).sect.length = st.sect.length := by
  unfold DS.rot; split <;> simp
theorem DS.arm_length (st : DS) (a w b : Int) : (st.arm a w b).sect.length = st.sect.length := by
  unfold DS.arm; split <;> rfl
theorem DS.start_length (st : DS) : st.start.sect.length = st.sect.length := rfl
theorem zeroB_size : zeroB.size = 64 := by decide
theorem DS.WF.new (n : Nat) (h1 : 1 ≤ n) (h2 : n ≤ 4000) : (DS.new n).WF :=
  ⟨by simpa [DS.new] using h1, by simpa [DS.new] using h2, fun s hs => by rw [(List.mem_replicate.1 hs).2]; exact zeroB_size, fun x hx => by simp [DS.new] at hx, fun a b c hh => by simp [DS.new] at hh⟩

end Go.Proofs.YtpdhjfnddnoghaaDoor
