/- Plain laws of the journal's Open and Append. No program is in sight here.
   Conditions: none. -/
import Derived.Test.YtpdhjfnddnoghaaDoorPC
namespace Go.Proofs.YtpdhjfnddnoghaaDoor
open Go.RowKit Go.Lib
set_option linter.unusedVariables false
set_option linter.unusedSimpArgs false
attribute [local irreducible] sumB stateN hexW

/-! ### what the sectors hold -/
structure Found (s : List ByteArray) (c : Nat) (recs : List ByteArray) : Prop where
  le : c + 2 ≤ s.length
  ex : ∃ L, foundB 2 ((s.drop 2).take c) = some L ∧ parseJ (bytesB L) = some recs
def HeadOK (p : Nat) (s : List ByteArray) (c : Nat) : Prop := OldHead p (s.getD p emptyB) c
/-- the journal that Open finds -/
structure OpenOK (s : List ByteArray) (c : Nat) (recs : List ByteArray) : Prop where
  n3 : 3 ≤ s.length
  cnt : countM s = c
  fnd : Found s c recs
/-- with both heads as they should be -/
structure Inv (s : List ByteArray) (c : Nat) (recs : List ByteArray) : Prop where
  n3 : 3 ≤ s.length
  fnd : Found s c recs
  h0 : HeadOK 0 s c
  h1 : HeadOK 1 s c
theorem headOK_count {p c room : Nat} {s : List ByteArray} (h : HeadOK p s c) (hc : c ≤ room) (hr : room < 100000000) : countB p (s.getD p emptyB) room = c := by
  rcases h with h | ⟨h0, h⟩
  · rw [h]; exact countB_head hc hr
  · rw [h, h0]; exact countB_zero _ _
theorem count_headOK {p c room : Nat} {s : List ByteArray} (h : countB p (s.getD p emptyB) room = c) : HeadOK p s c := by
  rcases countB_cases p (s.getD p emptyB) room with h1 | ⟨h1, h2⟩ | ⟨n, _, h1, h2⟩
  · omega
  · exact .inr ⟨by omega, h1⟩
  · have : n = c := by omega
    subst this
    exact .inl h1
theorem mx_eq {a b c : Int} (ha : a ≤ c) (hb : b ≤ c) (h : a = c ∨ b = c) : mx a b = c := by unfold mx; split <;> omega
theorem mx_out {a b c : Int} (h : mx a b = c) : a ≤ c ∧ b ≤ c ∧ (a = c ∨ b = c) := by unfold mx at h; split at h <;> omega
theorem Inv.open {s : List ByteArray} {c : Nat} {recs : List ByteArray} (h : Inv s c recs) (hl : s.length ≤ 4000) : OpenOK s c recs := by
  have hle := h.fnd.le
  refine ⟨h.n3, ?_, h.fnd⟩
  unfold countM
  exact mx_eq (by rw [headOK_count h.h0 (by omega) (by omega)]; omega) (by rw [headOK_count h.h1 (by omega) (by omega)]; omega) (.inl (headOK_count h.h0 (by omega) (by omega)))
theorem drop2_eq {s s' : List ByteArray} (hl : s'.length = s.length) (c : Nat) (h : ∀ i, 2 ≤ i → i < 2 + c → s'.getD i emptyB = s.getD i emptyB) (hc : c + 2 ≤ s.length) : (s'.drop 2).take c = (s.drop 2).take c := by
  apply List.ext_getElem?
  intro i
  rw [List.getElem?_take, List.getElem?_take]
  split
  · rename_i hi
    have := h (2 + i) (by omega) (by omega)
    rw [List.getD_eq_getElem?_getD, List.getD_eq_getElem?_getD, List.getElem?_eq_getElem (show 2 + i < s'.length by omega), List.getElem?_eq_getElem (show 2 + i < s.length by omega)] at this
    rw [List.getElem?_drop, List.getElem?_drop, List.getElem?_eq_getElem (show 2 + i < s'.length by omega), List.getElem?_eq_getElem (show 2 + i < s.length by omega)]
    exact congrArg some this
  · rfl
theorem Found.same {s s' : List ByteArray} {c : Nat} {recs : List ByteArray} (h : Found s c recs) (hl : s'.length = s.length) (he : ∀ i, 2 ≤ i → i < 2 + c → s'.getD i emptyB = s.getD i emptyB) : Found s' c recs := by
  refine ⟨by rw [hl]; exact h.le, ?_⟩
  obtain ⟨L, h1, h2⟩ := h.ex
  exact ⟨L, by rw [drop2_eq hl c he h.le]; exact h1, h2⟩
theorem HeadOK.same {p c : Nat} {s s' : List ByteArray} (h : HeadOK p s c) (he : s'.getD p emptyB = s.getD p emptyB) : HeadOK p s' c := by unfold HeadOK; rw [he]; exact h
theorem Inv.same {s s' : List ByteArray} {c : Nat} {recs : List ByteArray} (h : Inv s c recs) (hl : s'.length = s.length) (he : ∀ i, i < 2 + c → s'.getD i emptyB = s.getD i emptyB) : Inv s' c recs :=
  ⟨by rw [hl]; exact h.n3, h.fnd.same hl fun i _ hi => he i hi, h.h0.same (he 0 (by omega)), h.h1.same (he 1 (by omega))⟩

/-! ### Open's repairs -/
/-- the sectors while a head is being repaired: the other head has the count -/
theorem count_kept {s s' : List ByteArray} {c p : Nat} (hp : p < 2) (hl : s'.length = s.length) (ho : s'.getD (1 - p) emptyB = s.getD (1 - p) emptyB) (hc : countB (1 - p) (s.getD (1 - p) emptyB) (s.length - 2) = c)
    (hx : countB p (s'.getD p emptyB) (s.length - 2) ≤ c) : countM s' = c := by
  unfold countM
  rw [hl]
  have hp2 : p = 0 ∨ p = 1 := by omega
  rcases hp2 with rfl | rfl
  · exact mx_eq hx (by rw [show (1 : Nat) = 1 - 0 from rfl, ho, hc]; omega) (.inr (by rw [show (1 : Nat) = 1 - 0 from rfl, ho, hc]))
  · exact mx_eq (by rw [show (0 : Nat) = 1 - 1 from rfl, ho, hc]; omega) hx (.inl (by rw [show (0 : Nat) = 1 - 1 from rfl, ho, hc]))
theorem other_count {s : List ByteArray} {c p : Nat} (hp : p < 2) (h : countM s = c) (hn : ¬ HeadOK p s c) : countB (1 - p) (s.getD (1 - p) emptyB) (s.length - 2) = c ∧ countB p (s.getD p emptyB) (s.length - 2) ≤ c := by
  obtain ⟨h1, h2, h3⟩ := mx_out h
  have hp2 : p = 0 ∨ p = 1 := by omega
  rcases hp2 with rfl | rfl
  · rcases h3 with h3 | h3
    · exact absurd (count_headOK h3) hn
    · exact ⟨h3, h1⟩
  · rcases h3 with h3 | h3
    · exact ⟨h3, h2⟩
    · exact absurd (count_headOK h3) hn
theorem part_one {s s' : List ByteArray} {p : Nat} {x : ByteArray} (h : Part s p [x] s') : (∀ i, i ≠ p → s'.getD i emptyB = s.getD i emptyB) ∧ ∃ t, t ≤ 64 ∧ s'.getD p emptyB = tear (s.getD p emptyB) x t := by
  refine ⟨fun i hi => h.out i (by simp; omega), ?_⟩
  obtain ⟨t, ht, e⟩ := h.inn 0 (by simp)
  exact ⟨t, ht, e⟩
theorem put_one (s : List ByteArray) (p i : Nat) (x : ByteArray) (hp : p < s.length) : (putAll s p [x]).getD i emptyB = if i = p then x else s.getD i emptyB := set_getD s p i x hp
theorem repair_cases {st : DS} (h : Ready st) {s0 : List ByteArray} {c p : Nat} {recs : List ByteArray} (hp : p < 2) (hO : OpenOK st.all c recs) (hs0 : s0.getD p emptyB = st.all.getD p emptyB) :
    (∃ st', st.repairM s0 c p = (st', 0) ∧ Ready st' ∧ OpenOK st'.all c recs ∧ HeadOK p st'.all c ∧ st'.all.length = st.all.length ∧ (∀ i, i ≠ p → st'.all.getD i emptyB = st.all.getD i emptyB) ∧ (st.queue = [] → st'.queue = []) ∧ (st.armed = none → st'.armed = none)) ∨
    (∃ s', st.repairM s0 c p = (⟨s', [], true, none⟩, 26) ∧ OpenOK s' c recs ∧ s'.length = st.all.length ∧ DS.WF ⟨s', [], true, none⟩ ∧ st.armed ≠ none) := by
  have hl := h.wf.n2
  have hal : st.all.length = st.sect.length := DS.all_len st
  have hn3 := hO.n3
  have hle := hO.fnd.le
  by_cases hk : HeadOK p st.all c
  · left
    refine ⟨st, ?_, h, hO, hk, rfl, fun i _ => rfl, id, id⟩
    unfold DS.repairM
    rw [hs0]
    exact if_pos hk
  obtain ⟨hoc, hpc⟩ := other_count hp hO.cnt hk
  have hR : st.repairM s0 c p = if (st.writeM p [zeroB]).2 = 0 ∧ 0 < c then (st.writeM p [zeroB]).1.writeM p [headB p c] else st.writeM p [zeroB] := by
    unfold DS.repairM
    rw [hs0]
    exact if_neg hk
  -- what stands beside the head
  have keep : ∀ s' : List ByteArray, s'.length = st.all.length → (∀ i, i ≠ p → s'.getD i emptyB = st.all.getD i emptyB) → countB p (s'.getD p emptyB) (st.all.length - 2) ≤ c → OpenOK s' c recs := by
    intro s' h1 h2 h3
    exact ⟨by omega, count_kept hp h1 (h2 (1 - p) (by omega)) hoc h3, hO.fnd.same h1 fun i hi _ => h2 i (by omega)⟩
  rcases writeM_cases h p [zeroB] (by simp; omega) (by intro x hx; simp at hx; subst hx; exact zeroB_size) with ⟨ar, he, hr, har⟩ | ⟨s', he, hP, hwf, har⟩
  · have hz : ∀ i, (putAll st.all p [zeroB]).getD i emptyB = if i = p then zeroB else st.all.getD i emptyB := fun i => put_one _ _ _ _ (by omega)
    have hzl : (putAll st.all p [zeroB]).length = st.all.length := putAll_len _ _ _
    generalize putAll st.all p [zeroB] = s1 at he hr hz hzl
    have hO1 : OpenOK s1 c recs := keep s1 hzl (fun i hi => by rw [hz, if_neg hi]) (by rw [hz, if_pos rfl, countB_zero]; omega)
    rw [he] at hR
    by_cases hc0 : 0 < c
    · rw [if_pos ⟨rfl, hc0⟩] at hR
      have hz2 : s1.getD p emptyB = zeroB := by rw [hz, if_pos rfl]
      have hl1 : (DS.mk s1 [] false ar).sect.length = s1.length := rfl
      rcases writeM_cases hr p [headB p c] (by simp; omega) (by intro x hx; simp at hx; subst hx; exact headB_size _ _) with ⟨ar2, he2, hr2, har2⟩ | ⟨s', he2, hP, hwf, har2⟩
      · left
        have hall : (DS.mk s1 [] false ar).all = s1 := rfl
        rw [hall] at he2 hr2
        have hy : ∀ i, (putAll s1 p [headB p c]).getD i emptyB = if i = p then headB p c else s1.getD i emptyB := fun i => put_one _ _ _ _ (by omega)
        have hyl : (putAll s1 p [headB p c]).length = s1.length := putAll_len _ _ _
        generalize putAll s1 p [headB p c] = s2 at he2 hr2 hy hyl
        have hs2 : ∀ i, i ≠ p → s2.getD i emptyB = st.all.getD i emptyB := fun i hi => by rw [hy, if_neg hi, hz, if_neg hi]
        refine ⟨_, hR.trans he2, hr2, ?_, .inl (by show s2.getD p emptyB = _; rw [hy, if_pos rfl]), by show s2.length = _; omega, hs2, fun _ => rfl, fun h => ?_⟩
        · exact keep s2 (by omega) hs2 (by rw [hy, if_pos rfl, countB_head (by omega) (by omega)]; omega)
        · exact har2 (har h)
      · right
        have hall : (DS.mk s1 [] false ar).all = s1 := rfl
        rw [hall] at hP
        obtain ⟨hout, t, ht, e⟩ := part_one hP
        have hpl := hP.len
        refine ⟨s', hR.trans he2, ?_, by omega, hwf, fun h => har2 (har h)⟩
        refine keep s' (by omega) (fun i hi => by rw [hout i hi, hz, if_neg hi]) ?_
        rw [hz2] at e
        rw [e]
        rcases tear_head (p := p) (a := 0) (b := c) (by omega) (by omega) (by omega) (old := zeroB) (.inr ⟨rfl, rfl⟩) t (st.all.length - 2) (by omega) with h | h | h
        · rw [h, countB_zero]; omega
        · rw [h, countB_head (by omega) (by omega)]; omega
        · rw [h]; omega
    · rw [if_neg (fun h => hc0 h.2)] at hR
      left
      refine ⟨_, hR, hr, hO1, .inr ⟨by omega, by show s1.getD p emptyB = _; rw [hz, if_pos rfl]⟩, hzl, fun i hi => by show s1.getD i emptyB = _; rw [hz, if_neg hi], fun _ => rfl, har⟩
  · right
    obtain ⟨hout, t, ht, e⟩ := part_one hP
    have hpl := hP.len
    rw [he, if_neg (by simp)] at hR
    refine ⟨s', hR, keep s' (by omega) hout ?_, by omega, hwf, har⟩
    rw [e]
    rcases tear_zero (p := p) (old := st.all.getD p emptyB) t (st.all.length - 2) ht (by omega) with h | h | h
    · rw [h]; exact hpc
    · rw [h, countB_zero]; omega
    · rw [h]; omega
/-- Open on a disk that holds a journal -/
theorem open_cases {st : DS} (h : Ready st) {c : Nat} {recs : List ByteArray} (hO : OpenOK st.all c recs) :
    (∃ st', st.openM = (st', some ⟨st.all.length, c, recs, false⟩, 0) ∧ Ready st' ∧ Inv st'.all c recs ∧ st'.all.length = st.all.length ∧ (st.queue = [] → st'.queue = []) ∧ (st.armed = none → st'.armed = none)) ∨
    (∃ s', st.openM = (⟨s', [], true, none⟩, none, 26) ∧ OpenOK s' c recs ∧ s'.length = st.all.length ∧ DS.WF ⟨s', [], true, none⟩ ∧ st.armed ≠ none) := by
  obtain ⟨L, hf, hpj⟩ := hO.fnd.ex
  have hn3 := hO.n3
  have hcn : (countM st.all).toNat = c := by rw [hO.cnt]; rfl
  have hM : st.openM = if (st.repairs st.all c).2 = 0 then ((st.repairs st.all c).1, some ⟨st.all.length, c, recs, false⟩, 0) else ((st.repairs st.all c).1, none, (st.repairs st.all c).2) := by
    unfold DS.openM
    rw [if_neg (by simp [h.on]), if_neg (by omega), if_neg (by rw [hO.cnt]; omega)]
    unfold DS.openRest
    rw [hcn, hf]
    simp only
    rw [hpj]
  rcases repair_cases h (p := 0) (by omega) hO (s0 := st.all) rfl with ⟨st1, he1, hr1, hO1, hk1, hl1, hsame1, hq1, ha1⟩ | ⟨s', he1, hO1, hl1, hwf, ha1⟩
  · have hR : st.repairs st.all c = st1.repairM st.all c 1 := by unfold DS.repairs; rw [he1]; exact if_pos rfl
    rcases repair_cases hr1 (p := 1) (by omega) hO1 (s0 := st.all) (hsame1 1 (by omega)).symm with ⟨st2, he2, hr2, hO2, hk2, hl2, hsame2, hq2, ha2⟩ | ⟨s', he2, hO2, hl2, hwf, ha2⟩
    · left
      rw [hR, he2] at hM
      refine ⟨st2, hM.trans (if_pos rfl), hr2, ⟨hO2.n3, hO2.fnd, hk1.same (hsame2 0 (by omega)), hk2⟩, hl2.trans hl1, fun h => hq2 (hq1 h), fun h => ha2 (ha1 h)⟩
    · right
      rw [hR, he2] at hM
      refine ⟨s', hM.trans (if_neg (by simp)), hO2, hl2.trans hl1, hwf, fun h => ha2 (ha1 h)⟩
  · right
    have hR : st.repairs st.all c = (⟨s', [], true, none⟩, 26) := by unfold DS.repairs; rw [he1]; exact if_neg (by simp)
    rw [hR] at hM
    exact ⟨s', hM.trans (if_neg (by simp)), hO1, hl1, hwf, ha1⟩
/-- where both heads are as they should be, Open turns nothing -/
theorem open_inv {st : DS} (h : Ready st) {c : Nat} {recs : List ByteArray} (hI : Inv st.all c recs) : st.openM = (st, some ⟨st.all.length, c, recs, false⟩, 0) := by
  have hl := h.wf.n2
  have hal : st.all.length = st.sect.length := DS.all_len st
  have hO := hI.open (by omega)
  obtain ⟨L, hf, hpj⟩ := hO.fnd.ex
  have hn3 := hO.n3
  have hcn : (countM st.all).toNat = c := by rw [hO.cnt]; rfl
  have hR : st.repairs st.all c = (st, 0) := by
    have r0 : st.repairM st.all c 0 = (st, 0) := by unfold DS.repairM; exact if_pos hI.h0
    have r1 : st.repairM st.all c 1 = (st, 0) := by unfold DS.repairM; exact if_pos hI.h1
    unfold DS.repairs
    rw [r0, if_pos rfl]
    exact r1
  unfold DS.openM
  rw [if_neg (by simp [h.on]), if_neg (by omega), if_neg (by rw [hO.cnt]; omega)]
  unfold DS.openRest
  rw [hcn, hf]
  simp only
  rw [hpj]
  simp only
  rw [hR, if_pos rfl]
/-- Open finds a journal, or says that there is none -/
theorem open_total {st : DS} (ho : st.off = false) (hn : 3 ≤ st.all.length) : (∃ c recs, OpenOK st.all c recs) ∨ st.openM = (st, none, 27) := by
  unfold DS.openM
  rw [if_neg (by simp [ho]), if_neg (by omega)]
  have hle := countM_le st.all
  by_cases hc : countM st.all < 0
  · right; rw [if_pos hc]
  · rw [if_neg hc]
    unfold DS.openRest
    cases hf : foundB 2 ((st.all.drop 2).take (countM st.all).toNat) with
    | none => exact .inr rfl
    | some L =>
      simp only
      cases hp : parseJ (bytesB L) with
      | none => exact .inr rfl
      | some recs => exact .inl ⟨(countM st.all).toNat, recs, hn, by omega, by omega, L, hf, hp⟩

/-! ### Append -/
def tooLong (xs : List ByteArray) : Bool := xs.any fun x => decide (20000 < x.size)
def DS.steps (st : DS) (c : Nat) (ps : List ByteArray) : DS × Int :=
  if (st.writeM ((2 + c : Nat) : Int) (List.replicate ps.length zeroB)).2 = 0 then
    if ((st.writeM ((2 + c : Nat) : Int) (List.replicate ps.length zeroB)).1.writeM ((2 + c : Nat) : Int) (fulls (2 + c) ps)).2 = 0 then
      if (((st.writeM ((2 + c : Nat) : Int) (List.replicate ps.length zeroB)).1.writeM ((2 + c : Nat) : Int) (fulls (2 + c) ps)).1.writeM ((1 : Nat) : Int) [headB 1 (c + ps.length)]).2 = 0 then
        (((st.writeM ((2 + c : Nat) : Int) (List.replicate ps.length zeroB)).1.writeM ((2 + c : Nat) : Int) (fulls (2 + c) ps)).1.writeM ((1 : Nat) : Int) [headB 1 (c + ps.length)]).1.writeM ((0 : Nat) : Int) [headB 0 (c + ps.length)]
      else ((st.writeM ((2 + c : Nat) : Int) (List.replicate ps.length zeroB)).1.writeM ((2 + c : Nat) : Int) (fulls (2 + c) ps)).1.writeM ((1 : Nat) : Int) [headB 1 (c + ps.length)]
    else (st.writeM ((2 + c : Nat) : Int) (List.replicate ps.length zeroB)).1.writeM ((2 + c : Nat) : Int) (fulls (2 + c) ps)
  else st.writeM ((2 + c : Nat) : Int) (List.replicate ps.length zeroB)
def appendM (st : DS) (js : JSt) (xs : List ByteArray) : DS × JSt × Int :=
  if js.broken then (st, js, 12)
  else if tooLong xs then (st, js, 2)
  else if js.room < ((piecesL (textL xs)).length : Int) then (st, js, 28)
  else if xs = [] then (st, js, 0)
  else if (st.steps js.count (piecesL (textL xs))).2 = 0 then ((st.steps js.count (piecesL (textL xs))).1, ⟨js.sectors, js.count + (piecesL (textL xs)).length, js.recs ++ xs, false⟩, 0)
  else ((st.steps js.count (piecesL (textL xs))).1, ⟨js.sectors, js.count, js.recs, true⟩, (st.steps js.count (piecesL (textL xs))).2)
theorem tooLong_no {xs : List ByteArray} (h : tooLong xs = false) : ∀ x ∈ xs, x.size ≤ 20000 := by
  intro x hx
  unfold tooLong at h
  have := List.any_eq_false.1 h x hx
  simpa using this
theorem Found.more {s : List ByteArray} {c : Nat} {recs xs : List ByteArray} (h : Found s c recs) (hx : ∀ x ∈ xs, x.size ≤ 20000) (hn : c + 2 + (piecesL (textL xs)).length ≤ s.length)
    (he : ∀ j, j < (piecesL (textL xs)).length → s.getD (2 + c + j) emptyB = (fulls (2 + c) (piecesL (textL xs))).getD j emptyB) : Found s (c + (piecesL (textL xs)).length) (recs ++ xs) := by
  obtain ⟨L, h1, h2⟩ := h.ex
  have hfl := fulls_len (piecesL (textL xs)) (2 + c)
  refine ⟨by omega, L ++ textL xs, ?_, parseJ_more h2 hx⟩
  have e1 : (s.drop 2).take (c + (piecesL (textL xs)).length) = (s.drop 2).take c ++ fulls (2 + c) (piecesL (textL xs)) := by
    rw [List.take_add]
    congr 1
    apply List.ext_getElem?
    intro i
    rw [List.getElem?_take]
    split
    · rename_i hi
      have := he i hi
      rw [List.getD_eq_getElem?_getD, List.getD_eq_getElem?_getD, List.getElem?_eq_getElem (show 2 + c + i < s.length by omega), List.getElem?_eq_getElem (show i < (fulls (2 + c) (piecesL (textL xs))).length by omega)] at this
      rw [List.drop_drop, List.getElem?_drop, List.getElem?_eq_getElem (show 2 + c + i < s.length by omega), List.getElem?_eq_getElem (show i < (fulls (2 + c) (piecesL (textL xs))).length by omega)]
      exact congrArg some this
    · rw [List.getElem?_eq_none (by omega)]
  have hlen : ((s.drop 2).take c).length = c := by rw [List.length_take, List.length_drop]; have := h.le; omega
  rw [e1, foundB_app, h1]
  simp only
  rw [hlen, foundB_fulls _ (pieces_sizes _), pieces_flat]
  rfl
theorem part_rep {k : Nat} : ∀ x ∈ List.replicate k zeroB, x.size = 64 := fun x hx => by rw [(List.mem_replicate.1 hx).2]; exact zeroB_size
/-- Append's four steps -/
theorem steps_cases {st : DS} (h : Ready st) {c : Nat} {recs xs : List ByteArray} (hI : Inv st.all c recs) (hx : ∀ x ∈ xs, x.size ≤ 20000) (hroom : c + 2 + (piecesL (textL xs)).length ≤ st.all.length) :
    (∃ st', st.steps c (piecesL (textL xs)) = (st', 0) ∧ Ready st' ∧ st'.queue = [] ∧ Inv st'.all (c + (piecesL (textL xs)).length) (recs ++ xs) ∧ st'.all.length = st.all.length ∧ (st.armed = none → st'.armed = none)) ∨
    (∃ s', st.steps c (piecesL (textL xs)) = (⟨s', [], true, none⟩, 26) ∧ (OpenOK s' c recs ∨ OpenOK s' (c + (piecesL (textL xs)).length) (recs ++ xs)) ∧ s'.length = st.all.length ∧ DS.WF ⟨s', [], true, none⟩ ∧ st.armed ≠ none) := by
  have hl := h.wf.n2
  have hal : st.all.length = st.sect.length := DS.all_len st
  have hmore : ∀ s : List ByteArray, Found s c recs → c + 2 + (piecesL (textL xs)).length ≤ s.length → (∀ j, j < (piecesL (textL xs)).length → s.getD (2 + c + j) emptyB = (fulls (2 + c) (piecesL (textL xs))).getD j emptyB) → Found s (c + (piecesL (textL xs)).length) (recs ++ xs) := fun s h1 h2 h3 => h1.more hx h2 h3
  have hfl := fulls_len (piecesL (textL xs)) (2 + c)
  have hf64 := fulls_64 (piecesL (textL xs)) (2 + c)
  unfold DS.steps
  generalize piecesL (textL xs) = ps at *
  have hrl : (List.replicate ps.length zeroB).length = ps.length := List.length_replicate
  rcases writeM_cases h (2 + c) (List.replicate ps.length zeroB) (by omega) part_rep with ⟨ar1, e1, r1, a1⟩ | ⟨s', e1, P1, wf1, a1⟩
  rotate_left
  · right
    rw [e1]
    refine ⟨s', if_neg (by simp), .inl ((hI.same P1.len fun i hi => P1.out i (.inl hi)).open (by rw [P1.len]; omega)), P1.len, wf1, a1⟩
  rw [e1]
  simp only [if_true]
  have k1 : ∀ i, i < 2 + c → (putAll st.all (2 + c) (List.replicate ps.length zeroB)).getD i emptyB = st.all.getD i emptyB := fun i hi => by rw [putAll_at _ _ _ _ (by omega), if_neg (by omega)]
  have l1 : (putAll st.all (2 + c) (List.replicate ps.length zeroB)).length = st.all.length := putAll_len _ _ _
  generalize putAll st.all (2 + c) (List.replicate ps.length zeroB) = s1 at *
  have I1 : Inv s1 c recs := hI.same l1 k1
  have all1 : (DS.mk s1 [] false ar1).all = s1 := rfl
  rcases writeM_cases r1 (2 + c) (fulls (2 + c) ps) (by show _ ≤ s1.length; omega) hf64 with ⟨ar2, e2, r2, a2⟩ | ⟨s', e2, P2, wf2, a2⟩
  rotate_left
  · right
    rw [all1] at P2
    rw [e2]
    refine ⟨s', if_neg (by simp), .inl ((I1.same P2.len fun i hi => P2.out i (.inl hi)).open (by rw [P2.len]; omega)), by rw [P2.len]; exact l1, wf2, fun h => a2 (a1 h)⟩
  rw [all1] at e2 r2
  rw [e2]
  simp only [if_true]
  have k2 : ∀ i, i < 2 + c → (putAll s1 (2 + c) (fulls (2 + c) ps)).getD i emptyB = s1.getD i emptyB := fun i hi => by rw [putAll_at _ _ _ _ (by omega), if_neg (by omega)]
  have l2 : (putAll s1 (2 + c) (fulls (2 + c) ps)).length = s1.length := putAll_len _ _ _
  have f2 : ∀ j, j < ps.length → (putAll s1 (2 + c) (fulls (2 + c) ps)).getD (2 + c + j) emptyB = (fulls (2 + c) ps).getD j emptyB := fun j hj => by rw [putAll_at _ _ _ _ (by omega), if_pos (by omega), show 2 + c + j - (2 + c) = j by omega]
  generalize putAll s1 (2 + c) (fulls (2 + c) ps) = s2 at *
  have I2 : Inv s2 c recs := I1.same l2 k2
  have F2 : Found s2 (c + ps.length) (recs ++ xs) := hmore s2 I2.fnd (by omega) f2
  have all2 : (DS.mk s2 [] false ar2).all = s2 := rfl
  rcases writeM_cases r2 1 [headB 1 (c + ps.length)] (by show _ ≤ s2.length; simp; omega) (by intro x hx; simp at hx; subst hx; exact headB_size _ _) with ⟨ar3, e3, r3, a3⟩ | ⟨s', e3, P3, wf3, a3⟩
  rotate_left
  · right
    rw [all2] at P3
    rw [e3]
    obtain ⟨hout, t, ht, e⟩ := part_one P3
    have pl := P3.len
    refine ⟨s', if_neg (by simp), ?_, by omega, wf3, fun h => a3 (a2 (a1 h))⟩
    have c0 : countB 0 (s'.getD 0 emptyB) (s'.length - 2) = c := by
      rw [hout 0 (by omega)]
      exact headOK_count I2.h0 (by omega) (by omega)
    have hold : countB 1 (s'.getD 1 emptyB) (s'.length - 2) = c ∨ countB 1 (s'.getD 1 emptyB) (s'.length - 2) = ((c + ps.length : Nat) : Int) ∨ countB 1 (s'.getD 1 emptyB) (s'.length - 2) = -1 := by
      rw [e]
      rcases tear_head (p := 1) (a := c) (b := c + ps.length) (by omega) (by omega) (by omega) (old := s2.getD 1 emptyB) I2.h1 t (s'.length - 2) (by omega) with h | h | h
      · left
        rw [h]
        exact headOK_count I2.h1 (by omega) (by omega)
      · right; left
        rw [h]
        exact countB_head (by omega) (by omega)
      · exact .inr (.inr h)
    have fold : Found s' c recs := I2.fnd.same pl fun i hi _ => hout i (by omega)
    rcases hold with h | h | h
    · left
      exact ⟨by have := I2.n3; omega, by unfold countM; exact mx_eq (by omega) (by omega) (.inl c0), fold⟩
    · right
      exact ⟨by have := I2.n3; omega, by unfold countM; exact mx_eq (by omega) (by omega) (.inr h), F2.same pl fun i hi _ => hout i (by omega)⟩
    · left
      exact ⟨by have := I2.n3; omega, by unfold countM; exact mx_eq (by omega) (by omega) (.inl c0), fold⟩
  rw [all2] at e3 r3
  rw [e3]
  simp only [if_true]
  have k3 : ∀ i, (putAll s2 1 [headB 1 (c + ps.length)]).getD i emptyB = if i = 1 then headB 1 (c + ps.length) else s2.getD i emptyB := fun i => put_one _ _ _ _ (by have := I2.n3; omega)
  have l3 : (putAll s2 1 [headB 1 (c + ps.length)]).length = s2.length := putAll_len _ _ _
  generalize putAll s2 1 [headB 1 (c + ps.length)] = s3 at *
  have F3 : Found s3 (c + ps.length) (recs ++ xs) := F2.same l3 fun i hi _ => by rw [k3, if_neg (by omega)]
  have H3 : HeadOK 1 s3 (c + ps.length) := .inl (by rw [k3, if_pos rfl])
  have O3 : HeadOK 0 s3 c := I2.h0.same (by rw [k3, if_neg (by omega)])
  have all3 : (DS.mk s3 [] false ar3).all = s3 := rfl
  rcases writeM_cases r3 0 [headB 0 (c + ps.length)] (by show _ ≤ s3.length; simp; have := I2.n3; omega) (by intro x hx; simp at hx; subst hx; exact headB_size _ _) with ⟨ar4, e4, r4, a4⟩ | ⟨s', e4, P4, wf4, a4⟩
  · left
    rw [all3] at e4 r4
    have k4 : ∀ i, (putAll s3 0 [headB 0 (c + ps.length)]).getD i emptyB = if i = 0 then headB 0 (c + ps.length) else s3.getD i emptyB := fun i => put_one _ _ _ _ (by have := I2.n3; omega)
    have l4 : (putAll s3 0 [headB 0 (c + ps.length)]).length = s3.length := putAll_len _ _ _
    generalize putAll s3 0 [headB 0 (c + ps.length)] = s4 at *
    refine ⟨_, e4, r4, rfl, ⟨by show 3 ≤ s4.length; have := I2.n3; omega, F3.same l4 fun i hi _ => by show s4.getD i emptyB = _; rw [k4, if_neg (by omega)], .inl (by show s4.getD 0 emptyB = _; rw [k4, if_pos rfl]), H3.same (by show s4.getD 1 emptyB = _; rw [k4, if_neg (by omega)])⟩, by show s4.length = _; omega, fun h => a4 (a3 (a2 (a1 h)))⟩
  · right
    rw [all3] at P4
    obtain ⟨hout, t, ht, e⟩ := part_one P4
    have pl := P4.len
    refine ⟨s', e4, .inr ⟨by have := I2.n3; omega, ?_, F3.same pl fun i hi _ => hout i (by omega)⟩, by omega, wf4, fun h => a4 (a3 (a2 (a1 h)))⟩
    have c1 : countB 1 (s'.getD 1 emptyB) (s'.length - 2) = ((c + ps.length : Nat) : Int) := by
      rw [hout 1 (by omega)]
      exact headOK_count H3 (by omega) (by omega)
    have c0 : countB 0 (s'.getD 0 emptyB) (s'.length - 2) ≤ ((c + ps.length : Nat) : Int) := by
      rw [e]
      rcases tear_head (p := 0) (a := c) (b := c + ps.length) (by omega) (by omega) (by omega) (old := s3.getD 0 emptyB) O3 t (s'.length - 2) (by omega) with h | h | h
      · rw [h, headOK_count O3 (by omega) (by omega)]; omega
      · rw [h, countB_head (by omega) (by omega)]; omega
      · rw [h]; omega
    unfold countM
    exact mx_eq c0 (by omega) (.inr c1)
/-- Append on a disk that is on -/
theorem append_cases {st : DS} (h : Ready st) {c n : Nat} {recs : List ByteArray} (hI : Inv st.all c recs) (hn : st.all.length = n) (xs : List ByteArray) :
    ((tooLong xs = true ∧ appendM st ⟨n, c, recs, false⟩ xs = (st, ⟨n, c, recs, false⟩, 2)) ∨
    (tooLong xs = false ∧ n < c + 2 + (piecesL (textL xs)).length ∧ appendM st ⟨n, c, recs, false⟩ xs = (st, ⟨n, c, recs, false⟩, 28)) ∨
    (tooLong xs = false ∧ c + 2 + (piecesL (textL xs)).length ≤ n ∧ ∃ st', appendM st ⟨n, c, recs, false⟩ xs = (st', ⟨n, c + (piecesL (textL xs)).length, recs ++ xs, false⟩, 0) ∧ Ready st' ∧ (st.queue = [] → st'.queue = []) ∧ Inv st'.all (c + (piecesL (textL xs)).length) (recs ++ xs) ∧ st'.all.length = n ∧ (st.armed = none → st'.armed = none)) ∨
    (tooLong xs = false ∧ c + 2 + (piecesL (textL xs)).length ≤ n ∧ ∃ s', appendM st ⟨n, c, recs, false⟩ xs = (⟨s', [], true, none⟩, ⟨n, c, recs, true⟩, 26) ∧ (OpenOK s' c recs ∨ OpenOK s' (c + (piecesL (textL xs)).length) (recs ++ xs)) ∧ s'.length = n ∧ DS.WF ⟨s', [], true, none⟩ ∧ st.armed ≠ none)) := by
  have hle := hI.fnd.le
  unfold appendM
  simp only [Bool.false_eq_true, if_false]
  cases hl : tooLong xs with
  | true => left; exact ⟨rfl, if_pos rfl⟩
  | false =>
    right
    rw [if_neg (by simp)]
    have hr : (JSt.mk n c recs false).room = (n : Int) - 2 - c := rfl
    rw [hr]
    by_cases hf : (n : Int) - 2 - c < ((piecesL (textL xs)).length : Int)
    · left; exact ⟨rfl, by omega, if_pos hf⟩
    · right
      rw [if_neg hf]
      by_cases h0 : xs = []
      · left
        subst h0
        have e : (piecesL (textL [])).length = 0 := rfl
        rw [if_pos rfl, e]
        refine ⟨rfl, by omega, st, ?_, h, id, ?_, hn, id⟩
        · simp
        · simpa using hI
      · rw [if_neg h0]
        rcases steps_cases h hI (tooLong_no hl) (by omega) with ⟨st', e, r, q, I, l, a⟩ | ⟨s', e, o, l, w, a⟩
        · left
          refine ⟨rfl, by omega, st', ?_, r, fun _ => q, I, l.trans hn, a⟩
          rw [e, if_pos rfl]
        · right
          refine ⟨rfl, by omega, s', ?_, o, l.trans hn, w, a⟩
          rw [e, if_neg (by simp)]
end Go.Proofs.YtpdhjfnddnoghaaDoor
