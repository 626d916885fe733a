/- The journal's split.
   Conditions: the text is of moderate size. -/
import Derived.Test.YtpdhjfnddnoghaaDoorJH
import Derived.Maps.AppendAt
import Derived.OwnWalk
namespace Go.Proofs.YtpdhjfnddnoghaaDoor
open Go.RowKit Go.Lib
set_option linter.unusedVariables false
set_option linter.unusedSimpArgs false
attribute [local go_sem high] max2_num max_of_two min2_num min_of_two

theorem Tryd.infoStr : (Tryd.prog.info? 9).map (fun i => (i.zero, i.size, i.bytes)) = some (some (.string ByteArray.empty), 1, 16) := by kernel_rfl
def strs (xs : List ByteArray) : List Value := xs.map Value.string
def pieceAt (L : List UInt8) (i : Nat) : ByteArray := bytesB ((L.drop (46 * i)).take 46)
def piecesL (L : List UInt8) : List ByteArray := (List.range ((L.length + 45) / 46)).map (pieceAt L)
theorem piecesL_length (L : List UInt8) : (piecesL L).length = (L.length + 45) / 46 := by simp [piecesL]
theorem bytes_ext {a b : ByteArray} (h : a.data.toList = b.data.toList) : a = b := by
  cases a; cases b
  simpa using h
theorem extract_list (s : ByteArray) (a b : Nat) : (s.extract a b).data.toList = (s.data.toList.drop a).take (b - a) := by
  rw [ByteArray.data_extract, Array.toList_extract, List.extract_eq_take_drop]
/-- what the loop holds -/
structure PSt (L : List UInt8) (base : Nat) (w : World) (k : Nat) (t : ByteArray) (v : Value) (wr : World) : Prop where
  le : k ≤ (L.length + 45) / 46
  rest : t.data.toList = L.drop (46 * k)
  own : wr.ownsRow base 9 1 v k (strs ((List.range k).map (pieceAt L)))
  be : Below base w wr
set_option maxRecDepth 100000 in
set_option maxHeartbeats 4000000 in
theorem split_calls (w : World) (s : ByteArray) (hs : s.size ≤ 1000000) :
    Calls Tryd.prog 40 #[.string s] w fun e w' => ∃ v, e = .returned v ∧ w'.ownsRow w.heap.size 9 1 v (piecesL s.data.toList).length (strs (piecesL s.data.toList)) ∧ Below w.heap.size w w' := by
  obtain ⟨i0, hi, hz0, hzz1, hz2⟩ := info_parts Tryd.infoStr
  have hbs := bsize s
  have HBS := Lib.hid hbs
  clear hbs
  obtain ⟨L, hL⟩ : ∃ L, s.data.toList = L := ⟨_, rfl⟩
  rw [hL]
  have hLs : L.length ≤ 1000000 := by rw [← hL]; have := HBS.out; omega
  have H0 : Hid (PSt L w.heap.size w 0 s (.slice none 0 0) w) := ⟨Nat.zero_le _, by rw [hL]; rfl, World.ownsRow_nil _ _ _ _, Below.refl _ _⟩
  clear hL HBS
  obtain ⟨B, hB⟩ : ∃ B, w.heap.size = B := ⟨_, rfl⟩
  have HB := Lib.hid hB
  simp only [hB] at H0 ⊢
  clear hB
  go_enter Tryd.func40, Tryd.ntmps40
  go_wp2_with fail
  go_loopw [0, 3] (fun tv v wr => ∃ (k : Nat) (t : ByteArray), tv = .string t ∧ PSt L B w k t v wr) (fun tv _ _ => match tv with | .string t => t.size | _ => 0)
  case atStart => exact ⟨0, s, rfl, H0.out⟩
  case round =>
    obtain ⟨k, t, rfl, hp⟩ := hrel
    have HP := Lib.hid hp
    have htl : t.size = L.length - 46 * k := by rw [← bsize, hp.rest, List.length_drop]
    have hts : t.size ≤ 1000000 := by omega
    have HTL := Lib.hid htl
    have hkl := hp.le
    have hk1 : k ≤ 30000 := by omega
    have hsB : B ≤ wr.heap.size := by rw [← HB.out]; exact hp.be.size
    clear hp H0 htl
    by_cases ht : t.size = 0
    · have h0 : t.data.toList.length = 0 := by rw [bsize]; exact ht
      have hte : t = ⟨#[]⟩ := bytes_ext (by rw [List.length_eq_zero_iff.1 h0])
      have HK : Hid (k = (L.length + 45) / 46) := by
        show _ = _
        have := HP.out.le
        have := HTL.out
        omega
      subst hte
      clear h0 ht
      go_wp2_with fail
      go_ret
      refine ⟨_, rfl, ?_, HP.out.be⟩
      have ho := HP.out.own
      rw [HK.out] at ho
      rw [piecesL_length]
      exact ho
    · have hne : t.toList.isEmpty = false := by
        rw [ByteArray.toList_eq]
        cases h : t.data.toList with
        | nil => exact absurd (by rw [← bsize, h]; rfl) ht
        | cons a l => rfl
      obtain ⟨n, hn⟩ : ∃ n : Nat, Nat.min 46 t.size = n := ⟨_, rfl⟩
      have hn' : n = min 46 t.size := hn.symm
      have hmn : mn 46 (t.size : Int) = (n : Int) := by unfold mn; split <;> omega
      have hnt : (n : Int) ≤ (t.size : Int) := by omega
      have hn1 : 1 ≤ n := by omega
      have HPI : Hid (t.extract 0 n = pieceAt L k) := by
        show _ = _
        refine bytes_ext ?_
        rw [extract_list, HP.out.rest]
        show ((L.drop (46 * k)).drop 0).take (n - 0) = ((L.drop (46 * k)).take 46)
        have hl : (L.drop (46 * k)).length = t.size := by rw [← HP.out.rest, bsize]
        rcases Nat.le_total t.size 46 with h | h
        · rw [List.drop_zero, List.take_of_length_le (by omega), List.take_of_length_le (by omega)]
        · rw [List.drop_zero, show n - 0 = 46 by omega]
      have HRE : Hid ((t.extract n t.size).data.toList = L.drop (46 * (k + 1))) := by
        show _ = _
        rw [extract_list, HP.out.rest, List.drop_drop]
        have hl : (L.drop (46 * k)).length = t.size := by rw [← HP.out.rest, bsize]
        rcases Nat.le_total t.size 46 with h | h
        · have h2 := HTL.out
          rw [List.drop_of_length_le (by omega), List.drop_of_length_le (by omega)]
          simp
        · rw [show n = 46 by omega, show 46 * k + 46 = 46 * (k + 1) by omega, List.take_of_length_le (by rw [List.length_drop]; have := HTL.out; omega)]
      have HLE : Hid (k + 1 ≤ (L.length + 45) / 46) := by
        show _ ≤ _
        have := HTL.out
        omega
      have hsx : (t.extract n t.size).size < t.size := by rw [ByteArray.size_extract]; omega
      clear hn hn' ht hkl
      go_wp2_with (at_builtin; refine wpList_append_own_at _ rfl _ _ 27 rfl B 9 i0 _ 1 16 Tryd.underlying27 hi hz0 hzz1 hz2 rfl (by omega) _ k (strs ((List.range k).map (pieceAt L))) rfl (HP.out.own.alloc _) ⟨wr.heap.size, 0, none⟩ 1 1 [.string (t.extract 0 n)] rfl rfl (cell_one_new _ _ _) (by intro u hu; simp at hu; subst hu; rfl) (by simp only [maxLen]; omega) (by omega) (by simp; omega) ?_; intro v2 w2 hown2 hg2 _ _)
      have HN : Hid (PSt L B w (k + 1) (t.extract n t.size) v2 w2) := by
        refine ⟨HLE.out, HRE.out, ?_, (HP.out.be.alloc hsB (.cells #[.string (t.extract 0 n)] 9)).grown hg2 (by simp; omega) fun j hj => (HP.out.own.lt j hj).1⟩
        have e : strs ((List.range (k + 1)).map (pieceAt L)) = strs ((List.range k).map (pieceAt L)) ++ [.string (t.extract 0 n)] := by
          unfold strs; rw [List.range_succ, List.map_append, List.map_append, HPI.out]; rfl
        rw [e]
        exact hown2
      clear hown2 hg2
      go_wp2_with fail
      go_roundw
      case rel => exact ⟨k + 1, _, rfl, HN.out⟩
      case measure => exact hsx
end Go.Proofs.YtpdhjfnddnoghaaDoor
