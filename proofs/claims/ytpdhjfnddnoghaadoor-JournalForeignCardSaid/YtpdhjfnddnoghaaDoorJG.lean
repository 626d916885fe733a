/- strings.Cut at one byte, at a text of whatever length; strconv.Atoi at every text.
   Conditions: the library's sentinels are laid (Atoi). -/
import Derived.Test.YtpdhjfnddnoghaaDoorJF
import Derived.Lib.IndexLaws
namespace Go.Proofs.YtpdhjfnddnoghaaDoor
open Go.RowKit Go.Lib
set_option linter.unusedVariables false

def cutB (s : ByteArray) (c : UInt8) : ByteArray × ByteArray × Bool :=
  if 0 ≤ indexByte s.data.toList c then (s.extract 0 (indexByte s.data.toList c).toNat, s.extract ((indexByte s.data.toList c).toNat + 1) s.size, true) else (s, ⟨#[]⟩, false)
theorem lite_cut_calls (w : World) (s : ByteArray) (hs : s.size ≤ 9223372036854775807) (c : UInt8) :
    Calls Tryd.prog 67 #[.string s, .string ⟨#[c]⟩] w fun e w' => e = .returned (.tuple #[.string (cutB s c).1, .string (cutB s c).2.1, .bool (cutB s c).2.2]) ∧ Below w.heap.size w w' := by
  have h1 := Tryd.stringslite_Index_one s c w
  change Calls Tryd.prog 79 _ _ _ at h1
  by_cases h0 : 0 ≤ indexByte s.data.toList c
  · obtain ⟨k, hk⟩ := Int.eq_ofNat_of_zero_le h0
    have hks := (indexByte_some hk).1
    have hkl : k < s.size := by
      rcases Nat.lt_or_ge k s.data.toList.length with h | h
      · simpa using h
      · rw [List.getElem?_eq_none h] at hks; cases hks
    have HE : Hid (cutB s c = (s.extract 0 k, s.extract (k + 1) s.size, true)) := by show _ = _; unfold cutB; rw [if_pos h0, hk]; rfl
    rw [hk] at h1
    have k1 : (k : Int) ≤ (s.size : Int) := by omega
    have k2 : (k : Int) + 1 ≤ (s.size : Int) := by omega
    clear hk h0 hks
    go_enter Tryd.func67, Tryd.ntmps67
    go_wp2_with fail
    refine h1.mono ?_
    rintro e w1 ⟨rfl, rfl⟩
    go_wp2_with fail
    go_quiet (fail)
    go_wp2_with fail
    go_ret3
    rw [HE.out]
    exact ⟨rfl, ⟨rfl, rfl, rfl, Nat.le_refl _, fun _ _ => rfl⟩⟩
  · have HE : Hid (cutB s c = (s, ⟨#[]⟩, false)) := by show _ = _; unfold cutB; rw [if_neg h0]
    have hk : indexByte s.data.toList c = -1 := by have := indexByte_ge s.data.toList c; omega
    rw [hk] at h1
    clear hk h0
    go_enter Tryd.func67, Tryd.ntmps67
    go_wp2_with fail
    refine h1.mono ?_
    rintro e w1 ⟨rfl, rfl⟩
    go_wp2_with fail
    go_ret3
    rw [HE.out]
    exact ⟨rfl, Below.refl _ _⟩
theorem cut_calls (w : World) (s : ByteArray) (hs : s.size ≤ 9223372036854775807) (c : UInt8) :
    Calls Tryd.prog 55 #[.string s, .string ⟨#[c]⟩] w fun e w' => e = .returned (.tuple #[.string (cutB s c).1, .string (cutB s c).2.1, .bool (cutB s c).2.2]) ∧ Below w.heap.size w w' := by
  have h1 := lite_cut_calls w s hs c
  go_enter Tryd.func55, Tryd.ntmps55
  go_wp2_with fail
  refine h1.mono ?_
  rintro e w1 ⟨rfl, hb⟩
  have HB := Lib.hid hb
  clear hb h1
  go_wp2_with fail
  go_ret3
  exact ⟨rfl, HB.out⟩

/-! ### Atoi at every text: the number and whether there is an error -/
def atoiR (s : ByteArray) : Option Int := match atoiAll s.data.toList with | .ok v => some v | _ => none
theorem atoi_calls (w : World) (hl : LaidJ w) (s : ByteArray) (hs : s.size ≤ 281474976710656) :
    Calls Tryd.prog 29 #[.string s] w fun e w' => (∃ n ev, e = .returned (.tuple #[.int .i64 n, ev]) ∧ ((ev = .nilIface ∧ atoiR s = some n ∧ -9223372036854775808 ≤ n ∧ n ≤ 9223372036854775807) ∨ (∃ T N, ev = .iface T (.pointer (some ⟨N, 0, none⟩)) ∧ atoiR s = none))) ∧ Below w.heap.size w w' := by
  obtain ⟨tp, p, hsyn⟩ := hl.syn
  obtain ⟨tp2, p2, hrng⟩ := hl.rng
  cases h : atoiAll s.data.toList with
  | ok v =>
    refine (Tryd.strconv_Atoi_ok s (by omega) v h w).mono ?_
    rintro e w1 ⟨rfl, hw⟩
    have hb := atoiAll_bounds h
    refine ⟨⟨v, _, rfl, .inl ⟨rfl, by unfold atoiR; rw [h], hb.1, hb.2⟩⟩, ?_⟩
    rcases hw with rfl | ⟨t, rfl⟩
    · exact Below.refl _ _
    · exact bytesWorld_below _ _ _
  | «syntax» =>
    refine (Tryd.strconv_Atoi_syntax_var s hs h tp p w hsyn).mono ?_
    rintro e w1 ⟨N, rfl, _, _, hb⟩
    exact ⟨⟨_, _, rfl, .inr ⟨_, N, rfl, by unfold atoiR; rw [h]⟩⟩, hb⟩
  | range =>
    refine (Tryd.strconv_Atoi_range_var s hs h tp2 p2 w hrng).mono ?_
    rintro e w1 ⟨N, rfl, _, _, hb⟩
    exact ⟨⟨_, _, rfl, .inr ⟨_, N, rfl, by unfold atoiR; rw [h]⟩⟩, hb⟩
end Go.Proofs.YtpdhjfnddnoghaaDoor
