/- The journal's count.
   Conditions: the library's tables and sentinels are laid; the sector has 64 bytes. -/
import Derived.Test.YtpdhjfnddnoghaaDoorJG
namespace Go.Proofs.YtpdhjfnddnoghaaDoor
open Go.RowKit Go.Lib
set_option linter.unusedVariables false
set_option linter.unusedSimpArgs false

theorem str_ne {a b : ByteArray} (h : ¬ a = b) : (a.toList == b.toList) = false := beq_eq_false_iff_ne.2 fun e => h (WideShapes.bytes_inj (by rwa [ByteArray.toList_eq, ByteArray.toList_eq] at e))
/-- the count of a head; -1 if it is not valid -/
def countB (place : Nat) (s : ByteArray) (room : Nat) : Int :=
  if s = zeroB then 0 else match atoiR (s.extract 16 24) with
    | some n => if 0 ≤ n ∧ n ≤ (room : Int) ∧ headB place n.toNat = s then n else -1
    | none => -1
set_option maxRecDepth 100000 in
set_option maxHeartbeats 2000000 in
theorem jcount_calls (w : World) (hl : LaidJ w) (place room : Nat) (hp : place ≤ 99999999) (hr : room ≤ 1000000) (s : ByteArray) (hs : s.size = 64) :
    Calls Tryd.prog 28 #[.int .i64 place, .string s, .int .i64 room] w fun e w' => e = .returned (.int .i64 (countB place s room)) ∧ Below w.heap.size w w' := by
  have HL := Lib.hid hl
  have cz := zero_calls w
  have ch := fun W (hW : Below w.heap.size w W) n hn => headof_calls W (HL.out.below hW) place n hp hn
  have ca := fun W (hW : Below w.heap.size w W) => atoi_calls W (HL.out.below hW) (s.extract 16 24) (by rw [ByteArray.size_extract]; omega)
  have hsz : (s.size : Int) = 64 := by omega
  clear hl
  by_cases hz : s = zeroB
  · have HC : Hid (countB place s room = 0) := by show _ = _; unfold countB; rw [if_pos hz]
    rw [← hz] at cz
    clear hz ca ch
    go_enter Tryd.func28, Tryd.ntmps28
    go_wp2_with fail
    refine cz.mono ?_
    rintro e w1 ⟨rfl, hb⟩
    have HB := Lib.hid hb
    clear hb cz
    go_wp2_with fail
    go_ret
    rw [HC.out]
    exact ⟨rfl, HB.out⟩
  · have hne := str_ne hz
    have HC : Hid (countB place s room = match atoiR (s.extract 16 24) with | some n => if 0 ≤ n ∧ n ≤ (room : Int) ∧ headB place n.toNat = s then n else -1 | none => -1) := by show _ = _; unfold countB; rw [if_neg hz]
    generalize zeroB = zb at cz hne hz
    clear hz
    go_enter Tryd.func28, Tryd.ntmps28
    go_wp2_with fail
    refine cz.mono ?_
    rintro e w1 ⟨rfl, hb⟩
    have HB := Lib.hid hb
    clear hb cz
    go_wp2_with fail
    refine (ca _ HB.out).mono ?_
    rintro e w2 ⟨⟨n, ev, rfl, hev⟩, hb⟩
    have HB2 := Lib.hid (HB.out.trans (hb.mono HB.out.size))
    clear hb ca
    rcases hev with ⟨rfl, hat, hn0, hn2⟩ | ⟨T, N, rfl, hat⟩
    · rw [hat] at HC
      clear hat
      by_cases c1 : n < 0
      · have HR : Hid (countB place s room = -1) := HC.out.trans (if_neg (by omega))
        go_wp2_with fail
        go_ret
        rw [HR.out]
        exact ⟨rfl, HB2.out⟩
      by_cases c2 : (room : Int) < n
      · have HR : Hid (countB place s room = -1) := HC.out.trans (if_neg (by omega))
        have c3 : 0 ≤ n := by omega
        clear c1
        go_wp2_with fail
        go_ret
        rw [HR.out]
        exact ⟨rfl, HB2.out⟩
      obtain ⟨k, rfl⟩ := Int.eq_ofNat_of_zero_le (show 0 ≤ n by omega)
      have hk : k ≤ room := by omega
      have hk2 : (k : Int) ≤ (room : Int) := by omega
      have c3 : (0 : Int) ≤ (k : Int) := by omega
      clear c1 c2
      have HC2 : Hid (countB place s room = if (0 : Int) ≤ (k : Int) ∧ (k : Int) ≤ (room : Int) ∧ headB place k = s then (k : Int) else -1) := HC.out
      clear HC
      have cc := ch w2 HB2.out k (by omega)
      by_cases hh : headB place k = s
      · have HR : Hid (countB place s room = (k : Int)) := HC2.out.trans (if_pos ⟨by omega, by omega, hh⟩)
        rw [hh] at cc
        clear hh ch
        go_wp2_with fail
        refine cc.mono ?_
        rintro e w3 ⟨rfl, hb⟩
        have HB3 := Lib.hid (HB2.out.trans (hb.mono HB2.out.size))
        clear hb cc
        go_wp2_with fail
        go_ret
        rw [HR.out]
        exact ⟨rfl, HB3.out⟩
      · have HR : Hid (countB place s room = -1) := HC2.out.trans (if_neg (fun h => hh h.2.2))
        have hh2 := str_ne hh
        generalize headB place k = hd at cc hh hh2 HC2
        clear hh ch
        go_wp2_with fail
        refine cc.mono ?_
        rintro e w3 ⟨rfl, hb⟩
        have HB3 := Lib.hid (HB2.out.trans (hb.mono HB2.out.size))
        clear hb cc
        go_wp2_with fail
        go_ret
        rw [HR.out]
        exact ⟨rfl, HB3.out⟩
    · rw [hat] at HC
      have HR := Lib.hid HC.out
      clear hat
      go_wp2_with fail
      go_ret
      rw [HR.out]
      exact ⟨rfl, HB2.out⟩
end Go.Proofs.YtpdhjfnddnoghaaDoor
