/- The law's operations on a disk: Act.text, fill, do.
   Conditions: the disk lies in memory as DiskAt says; an operation's text has at most 100 bytes. -/
import Derived.Test.YtbjomjlchafkfaaDI
namespace Go.Proofs.Ytbjomjlchafkfaa
open Go.RowKit Go.Lib
set_option linter.unusedVariables false

structure Act0 where
  kind : Int
  sector : Int
  bytes : Int
  text : ByteArray
  odd : Bool
  after : Int

def Act0.cells (a : Act0) : List Value := [.int .i64 a.kind, .int .i64 a.sector, .int .i64 a.bytes, .string a.text, .bool a.odd, .int .i64 a.after]
def Act0.val (a : Act0) : Value := .agg #[.int .i64 a.kind, .int .i64 a.sector, .int .i64 a.bytes, .string a.text, .bool a.odd, .int .i64 a.after]
structure Act0.Ok (a : Act0) : Prop where
  k : i64ok a.kind
  s : i64ok a.sector
  b : i64ok a.bytes
  f : i64ok a.after
  t : a.text.size ≤ 100

def growT : Nat → ByteArray → ByteArray → ByteArray
  | 0, s, _ => s
  | n + 1, s, t => if s.size < 64 then growT n (s ++ t) t else s
def Act0.txt (a : Act0) : ByteArray := if a.odd || a.text.data.toList.isEmpty then a.text else (growT 64 emptyB a.text).extract 0 64

theorem growT_ge (n : Nat) (s t : ByteArray) (ht : 0 < t.size) (h : 64 ≤ s.size + n) : 64 ≤ (growT n s t).size := by
  induction n generalizing s with
  | zero => simpa [growT] using h
  | succ n ih =>
    unfold growT
    split
    · exact ih _ (by rw [ByteArray.size_append]; omega)
    · omega

theorem text_calls (a : Act0) (h : a.text.size ≤ 100) (w : World) :
    Calls Try.prog 24 #[a.val] w fun e w' => e = .returned (.string a.txt) ∧ w.alloc (.cells a.cells.toArray 34) = w' := by
  obtain ⟨kind, sector, bytes, text, odd, after⟩ := a
  simp only at h
  simp only [Act0.val, Act0.cells]
  cases odd with
  | true =>
    go_enter Try.func24, Try.ntmps24
    go_wp2
    go_ret
    exact ⟨rfl, rfl⟩
  | false =>
    by_cases he : text.data.toList.isEmpty = true
    · have he2 := he
      have he3 : text.toList.isEmpty = true := by rw [ByteArray.toList_eq]; exact he
      have HT : Hid ((⟨kind, sector, bytes, text, false, after⟩ : Act0).txt = text) := by show _ = _; unfold Act0.txt; simp only [he]; rfl
      clear he
      go_enter Try.func24, Try.ntmps24
      go_wp2
      go_ret
      rw [HT.out]
      exact ⟨rfl, rfl⟩
    · have he2 : text.data.toList.isEmpty = false := by simpa using he
      have he3 : text.toList.isEmpty = false := by rw [ByteArray.toList_eq]; exact he2
      have hpos : 0 < text.size := by
        rcases Nat.eq_zero_or_pos text.size with h0 | h0
        · rw [← bsize] at h0
          exact absurd (by rw [List.eq_nil_of_length_eq_zero h0]; rfl) he
        · exact h0
      have HT : Hid ((⟨kind, sector, bytes, text, false, after⟩ : Act0).txt = (growT 64 emptyB text).extract 0 64) := by show _ = _; unfold Act0.txt; simp only [he2]; rfl
      clear he
      go_enter Try.func24, Try.ntmps24
      go_wp2
      go_loop [3] (fun v => ∃ (s : ByteArray) (n : Nat), v = .string s ∧ growT n s text = growT 64 emptyB text ∧ 64 ≤ s.size + n ∧ s.size ≤ 200) (fun v => match v with | .string s => 200 - s.size | _ => 0)
      case atStart => exact ⟨emptyB, 64, rfl, rfl, by decide, by decide⟩
      case round =>
        obtain ⟨s, n, rfl, hg, hn, hs⟩ := hrel
        have HG := Lib.hid hg
        clear hg
        by_cases hlt : s.size < 64
        · have HG2 : Hid (growT (n - 1) (s ++ text) text = growT 64 emptyB text) := by
            show _ = _
            rw [← HG.out]
            obtain ⟨m, rfl⟩ : ∃ m, n = m + 1 := ⟨n - 1, by omega⟩
            conv => rhs; unfold growT
            rw [if_pos hlt]
            rfl
          go_wp2
          go_round
          case rel => exact ⟨s ++ text, n - 1, rfl, HG2.out, by rw [ByteArray.size_append]; omega, by rw [ByteArray.size_append]; omega⟩
          case measure => simp [ByteArray.size_append]; omega
        · have HG2 : Hid (growT 64 emptyB text = s) := by
            show _ = _
            rw [← HG.out]
            cases n with
            | zero => rfl
            | succ n => unfold growT; rw [if_neg hlt]
          have h64 : 64 ≤ s.size := by omega
          go_wp2
          go_ret
          rw [HT.out, HG2.out]
          exact ⟨rfl, rfl⟩

def fillT (t : ByteArray) : ByteArray := (⟨0, 0, 0, t, false, 0⟩ : Act0).txt
theorem fill_calls (t : ByteArray) (h : t.size ≤ 100) (w : World) :
    Calls Try.prog 28 #[.string t] w fun e w' => e = .returned (.string (fillT t)) ∧ Below w.heap.size w w' := by
  have HC := Lib.hid (text_calls ⟨0, 0, 0, t, false, 0⟩ h w)
  go_enter Try.func28, Try.ntmps28
  go_wp2_with fail
  refine (HC.out).mono ?_
  rintro e w1 ⟨rfl, hw⟩
  have HW := Lib.hid hw
  clear hw
  go_wp2_with fail
  go_ret
  exact ⟨rfl, by rw [← HW.out]; exact (Below.refl _ _).alloc (Nat.le_refl _) _⟩
end Go.Proofs.Ytbjomjlchafkfaa
