/- The plain model of the journal's Open.
   Conditions: none. -/
import Derived.Test.YtpdhjfnddnoghaaDoorJQ
namespace Go.Proofs.YtpdhjfnddnoghaaDoor
open Go.RowKit Go.Lib
set_option linter.unusedVariables false
set_option linter.unusedSimpArgs false

def pieceB (place : Nat) (s : ByteArray) : Option ByteArray :=
  if 1 ≤ atoiN (s.extract 16 18) ∧ atoiN (s.extract 16 18) ≤ 46 ∧ sectorB place (s.extract 18 (18 + (atoiN (s.extract 16 18)).toNat)) = s then some (s.extract 18 (18 + (atoiN (s.extract 16 18)).toNat)) else none
/-- the text of the sectors from a place on -/
def foundB (place : Nat) : List ByteArray → Option (List UInt8)
  | [] => some []
  | s :: r => (pieceB place s).bind fun p => (foundB (place + 1) r).map (p.data.toList ++ ·)
def countM (all : List ByteArray) : Int := mx (countB 0 (all.getD 0 emptyB) (all.length - 2)) (countB 1 (all.getD 1 emptyB) (all.length - 2))
def DS.repairM (st : DS) (all : List ByteArray) (c place : Nat) : DS × Int :=
  if all.getD place emptyB = headB place c ∨ (c = 0 ∧ all.getD place emptyB = zeroB) then (st, 0)
  else if (st.writeM place [zeroB]).2 = 0 ∧ 0 < c then (st.writeM place [zeroB]).1.writeM place [headB place c] else st.writeM place [zeroB]
def DS.repairs (st : DS) (all : List ByteArray) (c : Nat) : DS × Int :=
  if (st.repairM all c 0).2 = 0 then (st.repairM all c 0).1.repairM all c 1 else st.repairM all c 0
/-- behind a valid head -/
def DS.openRest (st : DS) : DS × Option JSt × Int :=
  match foundB 2 ((st.all.drop 2).take (countM st.all).toNat) with
  | none => (st, none, 27)
  | some L => match parseJ (bytesB L) with
    | none => (st, none, 27)
    | some recs =>
      if (st.repairs st.all (countM st.all).toNat).2 = 0 then ((st.repairs st.all (countM st.all).toNat).1, some ⟨st.all.length, (countM st.all).toNat, recs, false⟩, 0)
      else ((st.repairs st.all (countM st.all).toNat).1, none, (st.repairs st.all (countM st.all).toNat).2)
def DS.openM (st : DS) : DS × Option JSt × Int :=
  if st.off then (st, none, 26)
  else if st.all.length < 3 then (st, none, 1)
  else if countM st.all < 0 then (st, none, 27)
  else st.openRest
theorem countB_le (place : Nat) (s : ByteArray) (room : Nat) : -1 ≤ countB place s room ∧ countB place s room ≤ room := by
  unfold countB
  split
  · omega
  · split
    · split <;> omega
    · omega
theorem countM_le (all : List ByteArray) : -1 ≤ countM all ∧ countM all ≤ (all.length - 2 : Nat) := by
  have h1 := countB_le 0 (all.getD 0 emptyB) (all.length - 2)
  have h2 := countB_le 1 (all.getD 1 emptyB) (all.length - 2)
  unfold countM mx
  split <;> omega
theorem pieceB_size {place : Nat} {s p : ByteArray} (h : pieceB place s = some p) (hs : s.size = 64) : 1 ≤ p.size ∧ p.size ≤ 46 := by
  unfold pieceB at h
  split at h
  · rename_i hc
    injection h with h
    subst h
    rw [ByteArray.size_extract]
    omega
  · cases h
theorem DS.all_len (st : DS) : st.all.length = st.sect.length := settle_length _ _
theorem read_off {st : DS} (h : st.off = true) (k : Int) : st.read k = (emptyB, 26) := by unfold DS.read; rw [if_pos h]
theorem read_in {st : DS} (h : st.off = false) (k : Nat) (hk : k < st.all.length) : st.read k = (st.all[k], 0) := by
  unfold DS.read
  rw [if_neg (by simp [h]), if_pos (by unfold DS.valid; rw [DS.all_len] at hk; simp; omega), Int.toNat_natCast, List.getD_eq_getElem?_getD, List.getElem?_eq_getElem hk]
  rfl
theorem read_past {st : DS} (h : st.off = false) (k : Nat) (hk : st.all.length ≤ k) : st.read k = (emptyB, 1) := by
  unfold DS.read
  rw [if_neg (by simp [h]), if_neg (by unfold DS.valid; rw [DS.all_len] at hk; simp; omega)]
/-- what the reading loop holds -/
structure RSt (w : World) (st : DS) (k : Nat) (v : Value) (wr : World) : Prop where
  le : k ≤ st.all.length
  own : wr.ownsRow w.heap.size 9 1 v k (strs (st.all.take k))
  be : Below w.heap.size w wr
end Go.Proofs.YtpdhjfnddnoghaaDoor
