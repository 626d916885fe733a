/- Plain laws behind the journal's statements. No program is in sight here.
   Conditions: none. -/
import Derived.Test.YtpdhjfnddnoghaaDoorPD
namespace Go.Proofs.YtpdhjfnddnoghaaDoor
open Go.RowKit Go.Lib
set_option linter.unusedVariables false
set_option linter.unusedSimpArgs false
attribute [local irreducible] sumB stateN hexW pieceB sectorB foundB

/-- a disk that is on, with nothing pending, that holds a journal -/
structure Calm (n c : Nat) (recs : List ByteArray) (st : DS) : Prop where
  rd : Ready st
  q : st.queue = []
  ar : st.armed = none
  inv : Inv st.all c recs
  len : st.all.length = n
theorem Calm.eta {n c : Nat} {recs : List ByteArray} {st : DS} (h : Calm n c recs st) : st = ⟨st.sect, [], false, none⟩ := by
  have h1 := h.q
  have h2 := h.ar
  have h3 := h.rd.on
  cases st
  simp only at h1 h2 h3
  subst h1 h2 h3
  rfl
theorem Calm.bound {n c : Nat} {recs : List ByteArray} {st : DS} (h : Calm n c recs st) : c + 2 ≤ n ∧ 3 ≤ n ∧ n ≤ 4000 := by
  have h1 := h.inv.fnd.le
  have h2 := h.inv.n3
  have h3 := h.rd.wf.n2
  have h4 := h.len
  rw [DS.all_len] at *
  omega
theorem ready_eta {s : List ByteArray} {o : Bool} {ar : Option (Int × Int × Int)} (h : DS.WF ⟨s, [], o, ar⟩) : Ready ⟨s, [], false, none⟩ :=
  ⟨⟨h.n1, h.n2, h.s64, fun x hx => by simp at hx, fun a b c hh => by simp at hh⟩, rfl, .inl rfl⟩
theorem calm_new (n : Nat) (h3 : 3 ≤ n) (hn : n ≤ 4000) : Calm n 0 [] (DS.new n) := by
  have hl : (DS.new n).all.length = n := by rw [DS.all_len]; simp [DS.new]
  have hz : ∀ i, i < n → (DS.new n).all.getD i emptyB = zeroB := by
    intro i hi
    show (List.replicate n zeroB).getD i emptyB = zeroB
    rw [List.getD_eq_getElem?_getD, List.getElem?_replicate, if_pos hi]
    rfl
  refine ⟨⟨DS.WF.new n (by omega) hn, rfl, .inl rfl⟩, rfl, rfl, ⟨by omega, ⟨by omega, [], ?_, parseJ_nil (by rw [bytesB_size]; rfl)⟩, .inr ⟨rfl, hz 0 (by omega)⟩, .inr ⟨rfl, hz 1 (by omega)⟩⟩, hl⟩
  rw [List.take_zero, foundB_nil]
theorem calm_open {n c : Nat} {recs : List ByteArray} {st : DS} (h : Calm n c recs st) : st.openM = (st, some ⟨n, c, recs, false⟩, 0) := by rw [open_inv h.rd h.inv, h.len]
theorem calm_append {n c : Nat} {recs : List ByteArray} {st : DS} (h : Calm n c recs st) (xs : List ByteArray) :
    ((tooLong xs = true ∧ appendM st ⟨n, c, recs, false⟩ xs = (st, ⟨n, c, recs, false⟩, 2)) ∨
    (tooLong xs = false ∧ n < c + 2 + (piecesL (textL xs)).length ∧ appendM st ⟨n, c, recs, false⟩ xs = (st, ⟨n, c, recs, false⟩, 28)) ∨
    (tooLong xs = false ∧ c + 2 + (piecesL (textL xs)).length ≤ n ∧ ∃ st', appendM st ⟨n, c, recs, false⟩ xs = (st', ⟨n, c + (piecesL (textL xs)).length, recs ++ xs, false⟩, 0) ∧ Calm n (c + (piecesL (textL xs)).length) (recs ++ xs) st')) := by
  rcases append_cases h.rd h.inv h.len xs with h1 | h1 | ⟨h1, h2, st', e, r, q, I, l, a⟩ | ⟨h1, h2, s', e, o, l, w, a⟩
  · exact .inl h1
  · exact .inr (.inl h1)
  · exact .inr (.inr ⟨h1, h2, st', e, r, q h.q, a h.ar, I, l⟩)
  · exact absurd h.ar a
theorem fail_calm {st : DS} (ho : st.off = false) (hq : st.queue = []) (w b : Int) : st.fail w b = ⟨st.sect, [], true, none⟩ := by
  unfold DS.fail
  rw [if_neg (by simp [ho])]
  have e : st.failSect w b = st.sect := by
    unfold DS.failSect
    rw [hq]
    simp [settle]
  rw [e]
theorem Calm.fail {n c : Nat} {recs : List ByteArray} {st : DS} (h : Calm n c recs st) (w b : Int) : (st.fail w b).off = true ∧ (st.fail w b).start = st := by
  rw [fail_calm h.rd.on h.q]
  exact ⟨rfl, h.eta.symm⟩

/-! ### a byte that rots -/
theorem rot_sect {n c : Nat} {recs : List ByteArray} {st : DS} (h : Calm n c recs st) {x a m : Nat} (hx : x < n) (ha : a < 64) (h0 : 0 < m) (h1 : m < 256) : st.rot x a m = ⟨st.sect.modify x (flipAt · a m), [], false, none⟩ := by
  have hl := h.len
  rw [DS.all_len] at hl
  unfold DS.rot DS.valid
  rw [if_pos (by simp; omega)]
  have e := h.eta
  rw [e]
  simp
theorem rot_none {st : DS} (x a : Int) : st.rot x a 0 = st := by
  unfold DS.rot
  rw [if_neg (by simp)]
theorem modify_getD (s : List ByteArray) (x i : Nat) (f : ByteArray → ByteArray) (hx : x < s.length) : (s.modify x f).getD i emptyB = if i = x then f (s.getD i emptyB) else s.getD i emptyB := by
  rw [List.getD_eq_getElem?_getD, List.getD_eq_getElem?_getD, List.getElem?_modify]
  by_cases h : i = x
  · subst h
    rw [if_pos rfl, List.getElem?_eq_getElem hx]
    simp
  · rw [if_neg h]
    have h2 : ¬ x = i := fun e => h e.symm
    simp only [if_neg h2]
    cases s[i]? <;> rfl
structure Rotten (n : Nat) (s : List ByteArray) (x a m : Nat) (st' : DS) : Prop where
  rd : Ready st'
  q : st'.queue = []
  ar : st'.armed = none
  len : st'.all.length = n
  at_ : st'.all.getD x emptyB = flipAt (s.getD x emptyB) a m
  out : ∀ i, i ≠ x → st'.all.getD i emptyB = s.getD i emptyB
theorem rotten {n c : Nat} {recs : List ByteArray} {st : DS} (h : Calm n c recs st) {x a m : Nat} (hx : x < n) (ha : a < 64) (h0 : 0 < m) (h1 : m < 256) : Rotten n st.all x a m (st.rot x a m) := by
  have hl := h.len
  rw [DS.all_len] at hl
  have hw := h.rd.wf.rot x a m
  rw [all_empty h.q]
  have hm : ∀ i, (st.sect.modify x (flipAt · a m)).getD i emptyB = if i = x then flipAt (st.sect.getD i emptyB) a m else st.sect.getD i emptyB := fun i => modify_getD _ _ _ _ (by omega)
  rw [rot_sect h hx ha h0 h1] at hw ⊢
  exact ⟨⟨hw, rfl, .inl rfl⟩, rfl, rfl, by rw [DS.all_len]; simp [hl], (hm x).trans (if_pos rfl), fun i hi => (hm i).trans (if_neg hi)⟩
/-- in a head: the other one serves -/
theorem rot_head {n c : Nat} {recs : List ByteArray} {st : DS} (h : Calm n c recs st) {x a m : Nat} (hx : x < 2) (ha : a < 64) (h0 : 0 < m) (h1 : m < 256) : ∃ st', (st.rot x a m).openM = (st', some ⟨n, c, recs, false⟩, 0) ∧ Calm n c recs st' := by
  obtain ⟨hb1, hb2, hb3⟩ := h.bound
  have hR := rotten h (show x < n by omega) ha h0 h1
  have hl := h.len
  have hl' := hR.len
  have hk : ∀ p, p < 2 → HeadOK p st.all c := fun p hp => by
    have : p = 0 ∨ p = 1 := by omega
    rcases this with rfl | rfl
    · exact h.inv.h0
    · exact h.inv.h1
  have hO : OpenOK (st.rot x a m).all c recs := by
    refine ⟨by omega, count_kept (s := st.all) hx (by omega) (hR.out (1 - x) (by omega)) (headOK_count (hk (1 - x) (by omega)) (by omega) (by omega)) ?_, h.inv.fnd.same (by omega) fun i hi _ => hR.out i (by omega)⟩
    rw [hR.at_, flip_head (by omega) (by omega) (hk x hx) ha h0 h1 (by omega)]
    omega
  rcases open_cases hR.rd hO with ⟨st', e, r, I, l, q, a'⟩ | ⟨s', _, _, _, _, a'⟩
  · rw [hl'] at e
    exact ⟨st', e, r, q hR.q, a' hR.ar, I, l.trans hl'⟩
  · exact absurd hR.ar a'
theorem foundB_bad {p : Nat} : ∀ (l : List ByteArray) (i : Nat), i < l.length → pieceB (p + i) (l.getD i emptyB) = none → foundB p l = none := by
  intro l
  induction l generalizing p with
  | nil => intro i hi; simp at hi
  | cons s l ih =>
    intro i hi h
    rw [foundB_cons]
    cases i with
    | zero =>
      rw [Nat.add_zero] at h
      have h' : pieceB p s = none := h
      rw [h']
      rfl
    | succ i =>
      have := ih (p := p + 1) i (by simpa using hi) (by rw [show p + 1 + i = p + (i + 1) by omega]; simpa using h)
      rw [this]
      cases pieceB p s <;> rfl
theorem foundB_good {p : Nat} : ∀ (l : List ByteArray) (L : List UInt8), foundB p l = some L → ∀ i, i < l.length → ∃ q, pieceB (p + i) (l.getD i emptyB) = some q := by
  intro l L h i hi
  cases e : pieceB (p + i) (l.getD i emptyB) with
  | some q => exact ⟨q, rfl⟩
  | none =>
    rw [foundB_bad l i hi e] at h
    exact absurd h (by simp)
theorem drop_getD (s : List ByteArray) (c i : Nat) (hi : i < c) : ((s.drop 2).take c).getD i emptyB = s.getD (2 + i) emptyB := by
  rw [List.getD_eq_getElem?_getD, List.getD_eq_getElem?_getD, List.getElem?_take, if_pos hi, List.getElem?_drop]
/-- in a piece: it is found -/
theorem rot_piece {n c : Nat} {recs : List ByteArray} {st : DS} (h : Calm n c recs st) {x a m : Nat} (hx2 : 2 ≤ x) (hx : x < 2 + c) (ha : a < 64) (h0 : 0 < m) (h1 : m < 256) : (st.rot x a m).openM = (st.rot x a m, none, 27) := by
  obtain ⟨hb1, hb2, hb3⟩ := h.bound
  have hR := rotten h (show x < n by omega) ha h0 h1
  have hl := h.len
  have hl' := hR.len
  have hcnt : countM (st.rot x a m).all = c := by
    have h2 := (h.inv.open (by omega)).cnt
    unfold countM at h2 ⊢
    rw [hR.out 0 (by omega), hR.out 1 (by omega), hl', ← hl]
    exact h2
  obtain ⟨L, hf, _⟩ := h.inv.fnd.ex
  have hlen : ((st.all.drop 2).take c).length = c := by rw [List.length_take, List.length_drop]; omega
  obtain ⟨q, hq⟩ := foundB_good _ _ hf (x - 2) (by omega)
  rw [drop_getD _ _ _ (by omega), show 2 + (x - 2) = x by omega] at hq
  have hbad : foundB 2 (((st.rot x a m).all.drop 2).take c) = none := by
    refine foundB_bad _ (x - 2) (by rw [List.length_take, List.length_drop]; omega) ?_
    rw [drop_getD _ _ _ (by omega), show 2 + (x - 2) = x by omega, hR.at_]
    exact pieceB_flip (by omega) hq ha h0 h1
  unfold DS.openM
  rw [if_neg (by simp [hR.rd.on]), if_neg (by omega), if_neg (by omega)]
  unfold DS.openRest
  rw [hcnt, Int.toNat_natCast, hbad]
/-- behind the pieces: nothing turns -/
theorem rot_rest {n c : Nat} {recs : List ByteArray} {st : DS} (h : Calm n c recs st) {x a m : Nat} (hx2 : 2 + c ≤ x) (hx : x < n) (ha : a < 64) (h0 : 0 < m) (h1 : m < 256) : Calm n c recs (st.rot x a m) := by
  have hR := rotten h hx ha h0 h1
  have hl := h.len
  have hl' := hR.len
  exact ⟨hR.rd, hR.q, hR.ar, h.inv.same (by omega) fun i hi => hR.out i (by omega), hl'⟩
theorem rot_open {n c : Nat} {recs : List ByteArray} {st : DS} (h : Calm n c recs st) {x a m : Nat} (hx : x < n) (ha : a < 64) (h1 : m < 256) :
    (∃ st', (st.rot x a m).openM = (st', some ⟨n, c, recs, false⟩, 0)) ∨ (st.rot x a m).openM = (st.rot x a m, none, 27) := by
  rcases Nat.eq_zero_or_pos m with h0 | h0
  · subst h0
    left
    rw [show ((0 : Nat) : Int) = 0 from rfl, rot_none]
    exact ⟨_, calm_open h⟩
  · by_cases h2 : x < 2
    · obtain ⟨st', e, _⟩ := rot_head h h2 ha h0 h1
      exact .inl ⟨st', e⟩
    · by_cases h3 : x < 2 + c
      · exact .inr (rot_piece h (by omega) h3 ha h0 h1)
      · exact .inl ⟨_, calm_open (rot_rest h (by omega) hx ha h0 h1)⟩

/-! ### a disk that is off -/
theorem off_writeM {st : DS} (ho : st.off = true) (p : Int) (x : ByteArray) (xs : List ByteArray) : st.writeM p (x :: xs) = (st, 26) := by
  have hw : st.write p x = (st, 26) := by unfold DS.write; rw [if_pos ho]
  unfold DS.writeM
  rw [DS.writesFrom, hw, if_neg (by simp), if_neg (by simp)]
theorem off_steps {st : DS} (ho : st.off = true) (c : Nat) (ps : List ByteArray) (hp : 1 ≤ ps.length) : st.steps c ps = (st, 26) := by
  obtain ⟨k, hk⟩ : ∃ k, ps.length = k + 1 := ⟨ps.length - 1, by omega⟩
  have hw : st.writeM ((2 + c : Nat) : Int) (List.replicate ps.length zeroB) = (st, 26) := by
    rw [hk, List.replicate_succ]
    exact off_writeM ho _ _ _
  unfold DS.steps
  rw [hw, if_neg (by simp)]
theorem one_piece (x : ByteArray) (h : x.size = 1) : (piecesL (textL [x])).length = 1 := by
  rw [piecesL_length]
  have h1 : (textL [x]).length = 3 := by
    have e : textL [x] = recL x ++ [] := rfl
    rw [e, List.append_nil]
    unfold recL
    have hb := bsize x
    rw [h, decDigits_one (by omega)]
    simp only [List.length_append, List.length_cons, List.length_nil]
    omega
  omega
theorem one_short (x : ByteArray) (h : x.size = 1) : tooLong [x] = false := by
  unfold tooLong
  simp [h]
/-- a record of one byte is added to a disk that is off -/
theorem off_append {st : DS} (ho : st.off = true) {n c : Nat} (recs : List ByteArray) (hcn : c + 2 ≤ n) (x : ByteArray) (hx : x.size = 1) :
    appendM st ⟨n, c, recs, false⟩ [x] = if n = c + 2 then (st, ⟨n, c, recs, false⟩, 28) else (st, ⟨n, c, recs, true⟩, 26) := by
  have h1 := one_piece x hx
  unfold appendM
  simp only [Bool.false_eq_true, if_false]
  rw [one_short x hx, if_neg (by simp), h1]
  have hr : (JSt.mk n c recs false).room = (n : Int) - 2 - c := rfl
  rw [hr]
  by_cases hn : n = c + 2
  · rw [if_pos (by omega), if_pos hn]
  · rw [if_neg (by omega), if_neg hn, if_neg (by simp), off_steps ho _ _ (by omega), if_neg (by simp)]
theorem full_append {st : DS} {n c : Nat} (recs : List ByteArray) (hcn : n = c + 2) (x : ByteArray) (hx : x.size = 1) : appendM st ⟨n, c, recs, false⟩ [x] = (st, ⟨n, c, recs, false⟩, 28) := by
  have h1 := one_piece x hx
  unfold appendM
  simp only [Bool.false_eq_true, if_false]
  rw [one_short x hx, if_neg (by simp), h1]
  have hr : (JSt.mk n c recs false).room = (n : Int) - 2 - c := rfl
  rw [hr, if_pos (by omega)]
theorem broken_append {st : DS} (js : JSt) (h : js.broken = true) (xs : List ByteArray) : appendM st js xs = (st, js, 12) := by
  unfold appendM
  rw [if_pos h]
theorem off_open {st : DS} (ho : st.off = true) : st.openM = (st, none, 26) := by unfold DS.openM; rw [if_pos ho]

/-! ### a power that fails -/
theorem arm_ready {st : DS} {n c : Nat} {recs : List ByteArray} (h : Calm n c recs st) {a w b : Int} (h0 : 0 ≤ a) (ha : i64ok a) (hw : i64ok w) (hb : i64ok b) : Ready (st.arm a w b) ∧ (st.arm a w b).queue = [] ∧ Inv (st.arm a w b).all c recs ∧ (st.arm a w b).all.length = n := by
  have hwf := h.rd.wf.arm a w b ha hw hb
  have e : st.arm a w b = { st with armed := some (a, w, b) } := by
    unfold DS.arm
    rw [if_neg (by simp [h.rd.on]), if_pos h0]
  have hq := h.q
  refine ⟨⟨hwf, by rw [e]; exact h.rd.on, .inl (by rw [e]; exact hq)⟩, by rw [e]; exact hq, ?_, ?_⟩
  · rw [e]; exact h.inv
  · rw [e]; exact h.len
/-- a disk that has been turned off and on, or has not failed -/
structure Back (n c : Nat) (recs : List ByteArray) (st : DS) : Prop where
  rd : Ready st
  q : st.queue = []
  ar : st.armed = none
  ok : OpenOK st.all c recs
  len : st.all.length = n
theorem back_off {s : List ByteArray} {n c : Nat} {recs : List ByteArray} (hw : DS.WF ⟨s, [], true, none⟩) (ho : OpenOK s c recs) (hl : s.length = n) : Back n c recs (((DS.mk s [] true none).fail 0 0).start) := by
  have e : ((DS.mk s [] true none).fail 0 0).start = ⟨s, [], false, none⟩ := by unfold DS.fail; simp [DS.start]
  rw [e]
  exact ⟨ready_eta hw, rfl, rfl, ho, hl⟩
theorem back_on {st : DS} {n c : Nat} {recs : List ByteArray} (hr : Ready st) (hq : st.queue = []) (hi : Inv st.all c recs) (hl : st.all.length = n) : Back n c recs ((st.fail 0 0).start) ∧ Calm n c recs ((st.fail 0 0).start) := by
  have hn := hr.wf.n2
  have e : (st.fail 0 0).start = ⟨st.sect, [], false, none⟩ := by rw [fail_calm hr.on hq]; rfl
  have ha := all_empty hq
  rw [e]
  have hw : DS.WF ⟨st.sect, [], st.off, st.armed⟩ := by rw [← hq]; exact hr.wf
  rw [ha] at hi hl
  refine ⟨⟨ready_eta hw, rfl, rfl, hi.open (by omega), hl⟩, ready_eta hw, rfl, rfl, hi, hl⟩
/-- Open, which the power may cut, behind which the disk is turned on -/
theorem back_open {n c : Nat} {recs : List ByteArray} {st : DS} (h : Back n c recs st) {a w b : Int} (h0 : 0 ≤ a) (ha : i64ok a) (hw : i64ok w) (hb : i64ok b) :
    ∃ st5 jo g, (st.arm a w b).openM = (st5, jo, g) ∧ ((g = 0 ∧ jo = some ⟨n, c, recs, false⟩) ∨ (g = 26 ∧ jo = none)) ∧ Back n c recs ((st5.fail 0 0).start) := by
  have hwf := h.rd.wf.arm a w b ha hw hb
  have hq := h.q
  have e : st.arm a w b = { st with armed := some (a, w, b) } := by
    unfold DS.arm
    rw [if_neg (by simp [h.rd.on]), if_pos h0]
  have hR : Ready (st.arm a w b) := ⟨hwf, by rw [e]; exact h.rd.on, .inl (by rw [e]; exact hq)⟩
  have hO : OpenOK (st.arm a w b).all c recs := by rw [e]; exact h.ok
  have hl : (st.arm a w b).all.length = n := by rw [e]; exact h.len
  rcases open_cases hR hO with ⟨st', e', r, I, l, q, a'⟩ | ⟨s', e', o, l, wf, a'⟩
  · rw [hl] at e'
    exact ⟨st', _, _, e', .inl ⟨rfl, rfl⟩, (back_on r (q (by rw [e]; exact hq)) I (l.trans hl)).1⟩
  · exact ⟨_, _, _, e', .inr ⟨rfl, rfl⟩, back_off wf o (l.trans hl)⟩
/-- and opened again -/
theorem back_last {n c : Nat} {recs : List ByteArray} {st : DS} (h : Back n c recs st) : ∃ st', st.openM = (st', some ⟨n, c, recs, false⟩, 0) ∧ Calm n c recs st' := by
  rcases open_cases h.rd h.ok with ⟨st', e, r, I, l, q, a⟩ | ⟨s', _, _, _, _, a⟩
  · rw [h.len] at e
    exact ⟨st', e, r, q h.q, a h.ar, I, l.trans h.len⟩
  · exact absurd h.ar a
/-- Append, which the power may cut, behind which the disk is turned on -/
theorem atomic_append {n c : Nat} {recs : List ByteArray} {st : DS} (h : Calm n c recs st) (xs : List ByteArray) {a w b : Int} (h0 : 0 ≤ a) (ha : i64ok a) (hw : i64ok w) (hb : i64ok b) :
    ∃ st2 js f, appendM (st.arm a w b) ⟨n, c, recs, false⟩ xs = (st2, js, f) ∧ js.sectors = n ∧ ∃ c' recs', Back n c' recs' ((st2.fail 0 0).start) ∧ (recs' = recs ∨ recs' = recs ++ xs) ∧ (f = 0 → recs' = recs ++ xs) ∧ (f ≠ 0 → f ≠ 26 → recs' = recs) := by
  obtain ⟨hR, hq, hI, hl⟩ := arm_ready h h0 ha hw hb
  rcases append_cases hR hI hl xs with ⟨h1, e⟩ | ⟨h1, h2, e⟩ | ⟨h1, h2, st', e, r, q, I, l, _⟩ | ⟨h1, h2, s', e, o, l, wf, _⟩
  · exact ⟨_, _, _, e, rfl, c, recs, (back_on hR hq hI hl).1, .inl rfl, fun h => by simp at h, fun _ _ => rfl⟩
  · exact ⟨_, _, _, e, rfl, c, recs, (back_on hR hq hI hl).1, .inl rfl, fun h => by simp at h, fun _ _ => rfl⟩
  · exact ⟨_, _, _, e, rfl, _, recs ++ xs, (back_on r (q hq) I l).1, .inr rfl, fun _ => rfl, fun h => absurd rfl h⟩
  · rcases o with o | o
    · exact ⟨_, _, _, e, rfl, c, recs, back_off wf o l, .inl rfl, fun h => by simp at h, fun _ h => absurd rfl h⟩
    · exact ⟨_, _, _, e, rfl, _, recs ++ xs, back_off wf o l, .inr rfl, fun h => by simp at h, fun _ h => absurd rfl h⟩

/-! ### whatever the sectors hold -/
theorem foreign_open {st : DS} (hr : Ready st) (ha : st.armed = none) (hn : 3 ≤ st.all.length) :
    st.openM = (st, none, 27) ∨ ∃ st' c recs, st.openM = (st', some ⟨st.all.length, c, recs, false⟩, 0) ∧ Ready st' ∧ st'.armed = none ∧ Inv st'.all c recs ∧ st'.all.length = st.all.length := by
  rcases open_total hr.on hn with ⟨c, recs, hO⟩ | h
  · right
    rcases open_cases hr hO with ⟨st', e, r, I, l, q, a⟩ | ⟨s', _, _, _, _, a⟩
    · exact ⟨st', c, recs, e, r, a ha, I, l⟩
    · exact absurd ha a
  · exact .inl h
theorem foreign_append {st : DS} (hr : Ready st) (ha : st.armed = none) {c : Nat} {recs : List ByteArray} (hI : Inv st.all c recs) (x : ByteArray) (hx : x.size = 1) :
    (st.all.length = c + 2 ∧ appendM st ⟨st.all.length, c, recs, false⟩ [x] = (st, ⟨st.all.length, c, recs, false⟩, 28)) ∨
    (c + 2 < st.all.length ∧ ∃ st', appendM st ⟨st.all.length, c, recs, false⟩ [x] = (st', ⟨st.all.length, c + 1, recs ++ [x], false⟩, 0) ∧ Ready st' ∧ Inv st'.all (c + 1) (recs ++ [x]) ∧ st'.all.length = st.all.length) := by
  have h1 := one_piece x hx
  have hle := hI.fnd.le
  rcases append_cases hr hI rfl [x] with ⟨h2, _⟩ | ⟨_, h3, e⟩ | ⟨_, h3, st', e, r, q, I, l, _⟩ | ⟨_, _, s', _, _, _, _, a⟩
  · rw [one_short x hx] at h2; simp at h2
  · rw [h1] at h3; exact .inl ⟨by omega, e⟩
  · rw [h1] at h3 e I; exact .inr ⟨by omega, st', e, r, I, l⟩
  · exact absurd ha a
theorem write_ready {st : DS} (hr : Ready st) (ha : st.armed = none) {p : Nat} (hp : p < st.sect.length) {x : ByteArray} (hx : x.size = 64) : (st.write p x).2 = 0 ∧ Ready (st.write p x).1 ∧ (st.write p x).1.armed = none ∧ (st.write p x).1.sect.length = st.sect.length ∧ (st.write p x).1.queue.length = st.queue.length + 1 := by
  have hw := hr.wf.write p x
  have e : st.write p x = ({ st with queue := st.queue ++ [(p, x)] }, 0) := by
    rw [write_on hr.on hp hx]
    unfold DS.count
    simp only [ha]
  rw [e] at hw ⊢
  exact ⟨rfl, ⟨hw, hr.on, .inr ha⟩, ha, rfl, by simp⟩
theorem parseJ_len : ∀ (n : Nat) (t : ByteArray) (xs : List ByteArray), t.size ≤ n → parseJ t = some xs → xs.length ≤ t.size := by
  intro n
  induction n with
  | zero =>
    intro t xs hn h
    rw [parseJ_nil (by omega)] at h
    rw [← Option.some.inj h]
    simp
  | succ n ih =>
    intro t xs hn h
    by_cases h0 : t.size = 0
    · rw [parseJ_nil h0] at h
      rw [← Option.some.inj h]
      simp
    · cases hs : stepB t with
      | none => rw [parseJ_none h0 hs] at h; exact absurd h (by simp)
      | some xr =>
        obtain ⟨x, r⟩ := xr
        have hl := stepB_less hs
        rw [parseJ_some h0 hs hl] at h
        cases hr : parseJ r with
        | none => rw [hr] at h; exact absurd h (by simp)
        | some ys =>
          rw [hr] at h
          rw [← Option.some.inj h, List.length_cons]
          have := ih r ys (by omega) hr
          omega
end Go.Proofs.YtpdhjfnddnoghaaDoor
