/- Plain laws of the disk's writes: what a row of writes and a Sync leave. No program is in sight here.
   Conditions: none. -/
import Derived.Test.YtpdhjfnddnoghaaDoorPB
namespace Go.Proofs.YtpdhjfnddnoghaaDoor
open Go.RowKit Go.Lib
set_option linter.unusedVariables false
set_option linter.unusedSimpArgs false
attribute [local irreducible] sumB stateN hexW

def putAll (s : List ByteArray) (p : Nat) : List ByteArray → List ByteArray
  | [] => s
  | x :: r => putAll (s.set p x) (p + 1) r
def pend (p : Nat) : List ByteArray → List (Nat × ByteArray)
  | [] => []
  | x :: r => (p, x) :: pend (p + 1) r
theorem settle_pend (xs : List ByteArray) : ∀ (s : List ByteArray) (p : Nat), settle s (pend p xs) = putAll s p xs := by
  induction xs with
  | nil => intro s p; rfl
  | cons x xs ih => intro s p; exact ih (s.set p x) (p + 1)
theorem pend_take (xs : List ByteArray) : ∀ (p k : Nat), (pend p xs).take k = pend p (xs.take k) := by
  induction xs with
  | nil => intro p k; simp [pend]
  | cons x xs ih =>
    intro p k
    cases k with
    | zero => rfl
    | succ k => rw [pend, List.take_succ_cons, List.take_succ_cons, pend, ih]
theorem pend_len (xs : List ByteArray) : ∀ p, (pend p xs).length = xs.length := by
  induction xs with
  | nil => intro p; rfl
  | cons x xs ih => intro p; rw [pend, List.length_cons, ih, List.length_cons]
theorem pend_get (xs : List ByteArray) : ∀ (p k : Nat), (pend p xs)[k]? = xs[k]?.map fun x => (p + k, x) := by
  induction xs with
  | nil => intro p k; simp [pend]
  | cons x xs ih =>
    intro p k
    cases k with
    | zero => simp [pend]
    | succ k =>
      rw [pend, List.getElem?_cons_succ, List.getElem?_cons_succ, ih]
      congr 1
      funext y
      rw [show p + 1 + k = p + (k + 1) by omega]
theorem putAll_len (xs : List ByteArray) : ∀ (s : List ByteArray) (p : Nat), (putAll s p xs).length = s.length := by
  induction xs with
  | nil => intro s p; rfl
  | cons x xs ih => intro s p; rw [putAll, ih, List.length_set]
theorem set_getD (s : List ByteArray) (p i : Nat) (x : ByteArray) (hp : p < s.length) : (s.set p x).getD i emptyB = if i = p then x else s.getD i emptyB := by
  rw [List.getD_eq_getElem?_getD, List.getD_eq_getElem?_getD, List.getElem?_set]
  by_cases h : i = p
  · subst h; rw [if_pos rfl, if_pos hp, if_pos rfl]; rfl
  · rw [if_neg (fun e => h e.symm), if_neg h]
theorem putAll_at (xs : List ByteArray) : ∀ (s : List ByteArray) (p i : Nat), p + xs.length ≤ s.length → (putAll s p xs).getD i emptyB = if p ≤ i ∧ i < p + xs.length then xs.getD (i - p) emptyB else s.getD i emptyB := by
  induction xs with
  | nil => intro s p i h; rw [if_neg (by simp)]; rfl
  | cons x xs ih =>
    intro s p i h
    rw [List.length_cons] at h ⊢
    rw [putAll, ih (s.set p x) (p + 1) i (by rw [List.length_set]; omega), set_getD _ _ _ _ (by omega)]
    by_cases h1 : i = p
    · subst h1
      rw [if_neg (by omega), if_pos rfl, if_pos (by omega), Nat.sub_self]
      rfl
    · by_cases h2 : p + 1 ≤ i ∧ i < p + 1 + xs.length
      · rw [if_pos h2, if_pos (by omega), show i - p = (i - (p + 1)) + 1 by omega, List.getD_cons_succ]
      · rw [if_neg h2, if_neg h1, if_neg (by omega)]
/-- what a row of writes leaves of which any may be lost and any may be torn -/
structure Part (s : List ByteArray) (p : Nat) (xs : List ByteArray) (s' : List ByteArray) : Prop where
  len : s'.length = s.length
  out : ∀ i, i < p ∨ p + xs.length ≤ i → s'.getD i emptyB = s.getD i emptyB
  inn : ∀ j, j < xs.length → ∃ t, t ≤ 64 ∧ s'.getD (p + j) emptyB = tear (s.getD (p + j) emptyB) (xs.getD j emptyB) t
theorem getD_64 {s : List ByteArray} (h : ∀ x ∈ s, x.size = 64) (i : Nat) (hi : i < s.length) : (s.getD i emptyB).size = 64 := by
  rw [List.getD_eq_getElem?_getD, List.getElem?_eq_getElem hi]
  exact h _ (List.getElem_mem hi)
theorem take_getD (xs : List ByteArray) (k j : Nat) (h : j < k) : (xs.take k).getD j emptyB = xs.getD j emptyB := by
  rw [List.getD_eq_getElem?_getD, List.getD_eq_getElem?_getD, List.getElem?_take, if_pos h]
theorem part_put {s xs : List ByteArray} (h1 : ∀ x ∈ s, x.size = 64) (h2 : ∀ x ∈ xs, x.size = 64) (p k : Nat) (hp : p + xs.length ≤ s.length) : Part s p xs (putAll s p (xs.take k)) := by
  have hl : (xs.take k).length = min k xs.length := List.length_take
  refine ⟨putAll_len _ _ _, fun i hi => ?_, fun j hj => ?_⟩
  · rw [putAll_at _ _ _ _ (by omega), if_neg (by omega)]
  · rw [putAll_at _ _ _ _ (by omega)]
    by_cases hk : j < k
    · refine ⟨64, Nat.le_refl _, ?_⟩
      rw [if_pos (by omega), show p + j - p = j by omega, take_getD _ _ _ hk, tear_all _ _ (getD_64 h1 _ (by omega)) (getD_64 h2 _ hj)]
    · refine ⟨0, by omega, ?_⟩
      rw [if_neg (by omega), tear_none]
theorem tearAt_getD (s : List ByteArray) (x : Nat × ByteArray) (t i : Nat) (h : x.1 < s.length) : (tearAt s x t).getD i emptyB = if i = x.1 then tear (s.getD i emptyB) x.2 t else s.getD i emptyB := by
  unfold tearAt
  rw [set_getD _ _ _ _ h]
  split
  · rename_i e; rw [e]
  · rfl
theorem part_tear {s xs : List ByteArray} (h1 : ∀ x ∈ s, x.size = 64) (h2 : ∀ x ∈ xs, x.size = 64) (p k t : Nat) (ht : t ≤ 64) (hk : k < xs.length) (hp : p + xs.length ≤ s.length) :
    Part s p xs (tearAt (putAll s p (xs.take k)) (p + k, xs.getD k emptyB) t) := by
  have hP := part_put h1 h2 p k hp
  have hl : (xs.take k).length = k := by rw [List.length_take]; omega
  have hlt : p + k < (putAll s p (xs.take k)).length := by rw [putAll_len]; omega
  refine ⟨by rw [tearAt_length, putAll_len], fun i hi => ?_, fun j hj => ?_⟩
  · rw [tearAt_getD _ _ _ _ hlt, if_neg (by simp only; omega)]
    exact hP.out i hi
  · rw [tearAt_getD _ _ _ _ hlt]
    by_cases h : j = k
    · subst h
      refine ⟨t, ht, ?_⟩
      rw [if_pos rfl, putAll_at _ _ _ _ (by omega), if_neg (by omega)]
    · rw [if_neg (by simp only; omega)]
      exact hP.inn j hj
theorem part_fail {s xs : List ByteArray} (h1 : ∀ x ∈ s, x.size = 64) (h2 : ∀ x ∈ xs, x.size = 64) (p k : Nat) (hp : p + xs.length ≤ s.length) (o : Bool) (ar : Option (Int × Int × Int)) (w b : Int) :
    Part s p xs ((DS.mk s (pend p (xs.take k)) o ar).failSect w b) := by
  unfold DS.failSect
  simp only
  generalize clamp w (pend p (xs.take k)).length = c
  have hb := clamp_le b 64
  generalize clamp b 64 = t at *
  rw [pend_get, List.getElem?_take]
  by_cases hc : c < k ∧ c < xs.length
  · rw [if_pos hc.1, List.getElem?_eq_getElem hc.2]
    simp only [Option.map_some]
    rw [pend_take, List.take_take, Nat.min_eq_left (by omega), settle_pend]
    have e : xs[c] = xs.getD c emptyB := by rw [List.getD_eq_getElem?_getD, List.getElem?_eq_getElem hc.2]; rfl
    rw [e]
    exact part_tear h1 h2 p c t hb hc.2 hp
  · have e : (if c < k then xs[c]? else none) = none := by
      split
      · exact List.getElem?_eq_none (by omega)
      · rfl
    rw [e]
    simp only [Option.map_none]
    rw [settle_pend]
    exact part_put h1 h2 p k hp
theorem write_on {st : DS} (ho : st.off = false) {p : Nat} (hp : p < st.sect.length) {x : ByteArray} (hx : x.size = 64) : st.write (p : Int) x = DS.count { st with queue := st.queue ++ [(p, x)] } := by
  unfold DS.write
  rw [if_neg (by simp [ho]), if_neg (by unfold DS.valid; simp; omega), if_neg (by omega), Int.toNat_natCast]
theorem writes_none (xs : List ByteArray) : ∀ (st : DS) (p : Nat), st.off = false → st.armed = none → p + xs.length ≤ st.sect.length → (∀ x ∈ xs, x.size = 64) → st.writesFrom p xs = ({ st with queue := st.queue ++ pend p xs }, 0) := by
  induction xs with
  | nil => intro st p _ _ _ _; simp [DS.writesFrom, pend]
  | cons x xs ih =>
    intro st p ho ha hp hx
    rw [List.length_cons] at hp
    have hw := write_on ho (show p < st.sect.length by omega) (hx x (by simp))
    have hc : DS.count { st with queue := st.queue ++ [(p, x)] } = ({ st with queue := st.queue ++ [(p, x)] }, 0) := by
      unfold DS.count
      simp only [ha]
    rw [hc] at hw
    rw [DS.writesFrom, hw, if_pos rfl, show (p : Int) + 1 = ((p + 1 : Nat) : Int) by omega, ih { st with queue := st.queue ++ [(p, x)] } (p + 1) ho ha (by simp only; omega) (fun y hy => hx y (by simp [hy]))]
    simp only [pend, List.append_assoc, List.singleton_append]
theorem writes_some (xs : List ByteArray) : ∀ (st : DS) (p : Nat) (a w b : Int), st.off = false → st.armed = some (a, w, b) → 0 ≤ a → p + xs.length ≤ st.sect.length → (∀ x ∈ xs, x.size = 64) →
    (((xs.length : Int) ≤ a ∧ st.writesFrom p xs = ({ st with queue := st.queue ++ pend p xs, armed := some (a - xs.length, w, b) }, 0)) ∨
    ∃ k, k ≤ xs.length ∧ st.writesFrom p xs = (⟨(DS.mk st.sect (st.queue ++ pend p (xs.take k)) false st.armed).failSect w b, [], true, none⟩, 26)) := by
  induction xs with
  | nil =>
    intro st p a w b ho ha h0 hp hx
    left
    refine ⟨by simpa using h0, ?_⟩
    simp [DS.writesFrom, pend, ← ha]
  | cons x xs ih =>
    intro st p a w b ho ha h0 hp hx
    rw [List.length_cons] at hp
    have hw := write_on ho (show p < st.sect.length by omega) (hx x (by simp))
    by_cases h1 : 0 < a
    · have hc : DS.count { st with queue := st.queue ++ [(p, x)] } = ({ st with queue := st.queue ++ [(p, x)], armed := some (a - 1, w, b) }, 0) := by
        unfold DS.count
        simp only [ha, if_pos h1]
      rw [hc] at hw
      have key : st.writesFrom p (x :: xs) = ({ st with queue := st.queue ++ [(p, x)], armed := some (a - 1, w, b) } : DS).writesFrom ((p + 1 : Nat) : Int) xs := by
        rw [DS.writesFrom, hw, if_pos rfl, show (p : Int) + 1 = ((p + 1 : Nat) : Int) by omega]
      rw [key]
      rcases ih { st with queue := st.queue ++ [(p, x)], armed := some (a - 1, w, b) } (p + 1) (a - 1) w b ho rfl (by omega) (by simp only; omega) (fun y hy => hx y (by simp [hy])) with ⟨hl, h⟩ | ⟨k, hk, h⟩
      · left
        refine ⟨by rw [List.length_cons]; omega, ?_⟩
        rw [h]
        simp only [pend, List.append_assoc, List.singleton_append, List.length_cons]
        rw [show a - 1 - (xs.length : Int) = a - ((xs.length + 1 : Nat) : Int) by omega]
      · right
        refine ⟨k + 1, by rw [List.length_cons]; omega, ?_⟩
        rw [h]
        simp only [List.take_succ_cons, pend, List.append_assoc, List.singleton_append]
        unfold DS.failSect
        simp only
    · right
      refine ⟨1, by rw [List.length_cons]; omega, ?_⟩
      have hc : DS.count { st with queue := st.queue ++ [(p, x)] } = (⟨(DS.mk st.sect (st.queue ++ [(p, x)]) false st.armed).failSect w b, [], true, none⟩, 26) := by
        unfold DS.count
        simp only [ha, if_neg h1]
        unfold DS.fail
        simp only [ho]
        unfold DS.failSect
        simp
      rw [DS.writesFrom, hw, hc, if_neg (by simp)]
      simp [pend]
theorem DS.WF.writesFrom (xs : List ByteArray) : ∀ {st : DS} (h : st.WF) (p : Int), (st.writesFrom p xs).1.WF := by
  induction xs with
  | nil => intro st h p; exact h
  | cons x xs ih =>
    intro st h p
    rw [DS.writesFrom]
    split
    · exact ih (h.write p x) _
    · exact h.write p x
theorem DS.WF.writeM {st : DS} (h : st.WF) (p : Int) (xs : List ByteArray) : (st.writeM p xs).1.WF := by
  unfold DS.writeM
  split
  · exact (DS.WF.writesFrom xs h p).sync
  · exact DS.WF.writesFrom xs h p
/-- on, and either nothing is pending or the power does not fail -/
structure Ready (st : DS) : Prop where
  wf : st.WF
  on : st.off = false
  q : st.queue = [] ∨ st.armed = none
theorem Ready.all64 {st : DS} (h : Ready st) : ∀ x ∈ st.all, x.size = 64 := settle_64 _ _ h.wf.s64 fun x hx => (h.wf.q64 x hx).2
theorem all_empty {st : DS} (h : st.queue = []) : st.all = st.sect := by unfold DS.all; rw [h]; rfl
theorem sync_some {s : List ByteArray} {q : List (Nat × ByteArray)} {a w b : Int} : (DS.mk s q false (some (a, w, b))).sync = if 0 < a then (⟨settle s q, [], false, some (a - 1, w, b)⟩, 0) else (⟨(DS.mk s q false (some (a, w, b))).failSect w b, [], true, none⟩, 26) := by
  unfold DS.sync DS.count
  by_cases h : 0 < a
  · simp [h, DS.syncNow, DS.all]
  · simp [h, DS.fail]
theorem sync_none {s : List ByteArray} {q : List (Nat × ByteArray)} : (DS.mk s q false none).sync = (⟨settle s q, [], false, none⟩, 0) := by
  unfold DS.sync DS.count
  simp [DS.syncNow, DS.all]
/-- what a row of writes and a Sync leave -/
theorem writeM_cases {st : DS} (h : Ready st) (p : Nat) (xs : List ByteArray) (hp : p + xs.length ≤ st.sect.length) (hx : ∀ x ∈ xs, x.size = 64) :
    (∃ ar, st.writeM p xs = (⟨putAll st.all p xs, [], false, ar⟩, 0) ∧ Ready ⟨putAll st.all p xs, [], false, ar⟩ ∧ (st.armed = none → ar = none)) ∨
    (∃ s', st.writeM p xs = (⟨s', [], true, none⟩, 26) ∧ Part st.all p xs s' ∧ DS.WF ⟨s', [], true, none⟩ ∧ st.armed ≠ none) := by
  have hwf := h.wf.writeM (p : Int) xs
  have done : ∀ ar, st.writeM p xs = (⟨putAll st.all p xs, [], false, ar⟩, 0) → (st.armed = none → ar = none) →
      (∃ ar, st.writeM p xs = (⟨putAll st.all p xs, [], false, ar⟩, 0) ∧ Ready ⟨putAll st.all p xs, [], false, ar⟩ ∧ (st.armed = none → ar = none)) := by
    intro ar he ha
    refine ⟨ar, he, ⟨?_, rfl, .inl rfl⟩, ha⟩
    rw [he] at hwf
    exact hwf
  have lost : ∀ s', st.writeM p xs = (⟨s', [], true, none⟩, 26) → Part st.all p xs s' → st.armed ≠ none →
      (∃ s', st.writeM p xs = (⟨s', [], true, none⟩, 26) ∧ Part st.all p xs s' ∧ DS.WF ⟨s', [], true, none⟩ ∧ st.armed ≠ none) := by
    intro s' he hP ha
    refine ⟨s', he, hP, ?_, ha⟩
    rw [he] at hwf
    exact hwf
  cases ha : st.armed with
  | none =>
    left
    rw [ha] at done
    refine done none ?_ fun _ => rfl
    unfold DS.writeM
    rw [writes_none xs st p h.on ha hp hx]
    simp only [if_true]
    have e : ({ st with queue := st.queue ++ pend p xs } : DS) = ⟨st.sect, st.queue ++ pend p xs, false, none⟩ := by rw [← h.on, ← ha]
    rw [e, sync_none, settle_append, settle_pend]
    rfl
  | some t =>
    obtain ⟨a, w, b⟩ := t
    have hq : st.queue = [] := by
      rcases h.q with h | h
      · exact h
      · rw [ha] at h; cases h
    have ha0 := (h.wf.ar a w b ha).1
    rw [all_empty hq] at *
    rcases writes_some xs st p a w b h.on ha ha0 hp hx with ⟨hl, he⟩ | ⟨k, hk, he⟩
    · have e : ({ st with queue := st.queue ++ pend p xs, armed := some (a - xs.length, w, b) } : DS) = ⟨st.sect, pend p xs, false, some (a - xs.length, w, b)⟩ := by rw [← h.on, hq, List.nil_append]
      have he2 : st.writeM p xs = (DS.mk st.sect (pend p xs) false (some (a - xs.length, w, b))).sync := by
        unfold DS.writeM
        rw [he]
        simp only [if_true]
        rw [e]
      rw [sync_some, settle_pend] at he2
      split at he2
      · left
        rw [ha] at done
        exact done _ he2 fun h => by cases h
      · right
        rw [ha] at lost
        refine lost _ he2 ?_ (by simp)
        have := part_fail h.wf.s64 hx p xs.length hp false (some (a - xs.length, w, b)) w b
        rw [List.take_length] at this
        exact this
    · right
      rw [ha] at lost
      rw [hq, List.nil_append] at he
      have he2 : st.writeM p xs = (⟨(DS.mk st.sect (pend p (xs.take k)) false st.armed).failSect w b, [], true, none⟩, 26) := by
        unfold DS.writeM
        rw [he, if_neg (by simp)]
      exact lost _ he2 (part_fail h.wf.s64 hx p k hp false st.armed w b) (by simp)
end Go.Proofs.YtpdhjfnddnoghaaDoor
