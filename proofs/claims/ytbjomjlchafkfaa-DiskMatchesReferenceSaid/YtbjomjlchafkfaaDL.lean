/- The law's ok, size, contents, same.
   Conditions: lists lie in memory as ActsAt, StrsAt say. -/
import Derived.Test.YtbjomjlchafkfaaDK
namespace Go.Proofs.Ytbjomjlchafkfaa
open Go.RowKit Go.Lib
set_option linter.unusedVariables false

/-- Operations that lie in memory one after the other. -/
def ActsAt (w : World) (A : Option Addr) (l : List Act0) : Prop :=
  0 < l.length → ∃ b off, A = some ⟨b, off, none⟩ ∧ b < w.heap.size ∧ ∀ k (h : k < l.length) j v, l[k].cells[j]? = some v → w.cell? ⟨b, off + k * 6 + j, none⟩ = some v
theorem ActsAt.below {w w' : World} {A : Option Addr} {l : List Act0} {B : Nat} (h : ActsAt w A l) (hb : Below B w w') (hB : 0 < l.length → ∀ a, A = some a → a.block < B) : ActsAt w' A l := fun hl => by
  obtain ⟨b, off, rfl, hlt, hc⟩ := h hl
  exact ⟨b, off, rfl, Nat.lt_of_lt_of_le hlt hb.size, fun k hk j v hv => (hb.cell (p := ⟨b, off + k * 6 + j, none⟩) (hB hl ⟨b, off, none⟩ rfl)).trans (hc k hk j v hv)⟩
theorem ActsAt.six {w : World} {b off : Nat} {l : List Act0} (hc : ∀ k (h : k < l.length) j v, l[k].cells[j]? = some v → w.cell? ⟨b, off + k * 6 + j, none⟩ = some v) (k : Nat) (h : k < l.length) :
    w.cell? ⟨b, off + k * 6, none⟩ = some (.int .i64 l[k].kind) ∧ w.cell? ⟨b, off + k * 6 + 1, none⟩ = some (.int .i64 l[k].sector) ∧ w.cell? ⟨b, off + k * 6 + 2, none⟩ = some (.int .i64 l[k].bytes) ∧
    w.cell? ⟨b, off + k * 6 + 3, none⟩ = some (.string l[k].text) ∧ w.cell? ⟨b, off + k * 6 + 4, none⟩ = some (.bool l[k].odd) ∧ w.cell? ⟨b, off + k * 6 + 5, none⟩ = some (.int .i64 l[k].after) :=
  ⟨hc k h 0 _ rfl, hc k h 1 _ rfl, hc k h 2 _ rfl, hc k h 3 _ rfl, hc k h 4 _ rfl, hc k h 5 _ rfl⟩

def okB (l : List Act0) : Bool := l.all (fun a => decide (a.text.size ≤ 100)) && decide (l.length ≤ 60)

theorem ok_calls (w : World) (A : Option Addr) (cap : Nat) (l : List Act0) (h : ActsAt w A l) (hl : l.length ≤ 9223372036854775807) (hs : ∀ a ∈ l, a.text.size ≤ 9223372036854775807) :
    Calls Try.prog 12 #[.slice A l.length cap] w fun e w' => e = .returned (.bool (okB l)) ∧ w = w' := by
  go_enter Try.func12, Try.ntmps12
  go_wp2
  go_loop [3] (fun i => ∃ k : Nat, k ≤ l.length ∧ i = .int .i64 k ∧ (l.take k).all (fun a => decide (a.text.size ≤ 100)) = true) (fun i => l.length - (intOf i).toNat)
  case atStart => exact ⟨0, Nat.zero_le _, rfl, rfl⟩
  case round =>
    obtain ⟨k, hk, rfl, hall⟩ := hrel
    have HALL := Lib.hid hall
    clear hall
    by_cases hlt : k < l.length
    · obtain ⟨b, off, rfl, hb, hc⟩ := h (by omega)
      have hc3 := (ActsAt.six hc k hlt).2.2.2.1
      have hsk := hs _ (List.getElem_mem hlt)
      have HC := Lib.hid hc
      clear hc hs h
      by_cases hsz : l[k].text.size ≤ 100
      · have HA2 : Hid ((l.take (k + 1)).all (fun a => decide (a.text.size ≤ 100)) = true) := by
          show _ = _
          rw [List.take_succ_eq_append_getElem hlt, List.all_append, HALL.out]
          simp [hsz]
        go_wp2
        go_round
        case rel => exact ⟨k + 1, by omega, by go_num, HA2.out⟩
        case measure => simp [intOf]; omega
      · have HO : Hid (okB l = false) := by
          show _ = _
          unfold okB
          have : l.all (fun a => decide (a.text.size ≤ 100)) = false := by
            rw [List.all_eq_false]
            exact ⟨l[k], List.getElem_mem hlt, by simpa using hsz⟩
          rw [this]; rfl
        go_wp2
        go_ret
        rw [HO.out]
        exact ⟨rfl, rfl⟩
    · obtain rfl : k = l.length := by omega
      have HO : Hid (okB l = decide (l.length ≤ 60)) := by
        show _ = _
        unfold okB
        have := HALL.out
        rw [List.take_of_length_le (Nat.le_refl _)] at this
        rw [this]; rfl
      clear h hs
      go_wp2
      go_ret
      rw [HO.out]
      exact ⟨by simp; omega, rfl⟩

def sizeN (raw : Int) : Nat := (1 + raw % 12).toNat
theorem size_calls (w : World) (raw : Int) (h0 : 0 ≤ raw) (h1 : raw ≤ 255) : Calls Try.prog 14 #[.int .u8 raw] w fun e w' => e = .returned (.int .i64 (sizeN raw : Nat)) ∧ w = w' := by
  have HS : Hid (((sizeN raw : Nat) : Int) = 1 + raw % 12) := by show _ = _; unfold sizeN; omega
  go_enter Try.func14, Try.ntmps14
  go_wp2
  go_ret
  rw [HS.out]
  exact ⟨rfl, rfl⟩

/-- Texts that a slice holds. -/
def strs (xs : List ByteArray) : List Value := xs.map Value.string
def StrsAt (w : World) (v : Value) (xs : List ByteArray) : Prop :=
  ∃ A cap, v = .slice A xs.length cap ∧ (0 < xs.length → ∃ b, A = some ⟨b, 0, none⟩ ∧ b < w.heap.size ∧ ∀ k (h : k < xs.length), w.cell? ⟨b, k, none⟩ = some (.string xs[k]))
theorem StrsAt.of_own {w : World} {base n : Nat} {v : Value} {xs : List ByteArray} (h : w.ownsRow base 9 1 v n (strs xs)) : StrsAt w v xs := by
  have hl : xs.length = n := by have := h.1; simp [strs] at this; exact this
  subst hl
  rcases h.2 with ⟨rfl, h0⟩ | ⟨g, cap, cur, rfl, _⟩
  · refine ⟨none, 0, by rw [h0], fun hp => ?_⟩
    omega
  · refine ⟨_, cap, rfl, fun hp => ⟨g, rfl, (h.lt g rfl).2, fun k hk => ?_⟩⟩
    rw [h.cellAt k (by omega)]
    simp [strs, hk]
theorem StrsAt.below {w w' : World} {v : Value} {xs : List ByteArray} (h : StrsAt w v xs) (hb : Below w.heap.size w w') : StrsAt w' v xs := by
  obtain ⟨A, cap, rfl, h⟩ := h
  refine ⟨A, cap, rfl, fun hp => ?_⟩
  obtain ⟨b, rfl, hlt, hc⟩ := h hp
  exact ⟨b, rfl, Nat.lt_of_lt_of_le hlt hb.size, fun k hk => (hb.cell (p := ⟨b, k, none⟩) hlt).trans (hc k hk)⟩

theorem same_calls (w : World) (u v : Value) (xs ys : List ByteArray) (hu : StrsAt w u xs) (hv : StrsAt w v ys) (hl : xs.length ≤ 1000000000) (hl2 : ys.length ≤ 1000000000) :
    Calls Try.prog 27 #[u, v] w fun e w' => e = .returned (.bool (decide (xs = ys))) ∧ Below w.heap.size w w' := by
  obtain ⟨A, cap, rfl, ha⟩ := hu
  obtain ⟨A', cap', rfl, ha'⟩ := hv
  by_cases hxy : xs.length = ys.length
  · have e0 : ((xs.length : Int) == (ys.length : Int)) = true := by simp [hxy]
    have e1 : ((xs.length : Int) != (ys.length : Int)) = false := by simp [hxy]
    have HL := Lib.hid hxy
    clear hxy
    go_enter Try.func27, Try.ntmps27
    go_wp2
    go_loopw [5] (fun i wr => ∃ k m : Nat, k ≤ xs.length ∧ i = .int .i64 k ∧ xs.take k = ys.take k ∧ wr = w.drewN m) (fun i _ => xs.length - (intOf i).toNat)
    case atStart => exact ⟨0, 0, Nat.zero_le _, rfl, rfl, rfl⟩
    case round =>
      obtain ⟨k, m, hk, rfl, ht, rfl⟩ := hrel
      have HT := Lib.hid ht
      clear ht
      by_cases hlt : k < xs.length
      · have hlt' : k < ys.length := by have := HL.out; omega
        obtain ⟨b, rfl, hb, hc⟩ := ha (by omega)
        obtain ⟨b', rfl, hb', hc'⟩ := ha' (by omega)
        have x1 := hc k hlt
        have x2 := hc' k hlt'
        clear hc hc' ha ha'
        by_cases hq : xs[k] = ys[k]
        · have f1 : (xs[k].toList == ys[k].toList) = true := by rw [hq]; simp
          have f2 : (xs[k].toList != ys[k].toList) = false := by rw [hq]; simp
          have HT2 : Hid (xs.take (k + 1) = ys.take (k + 1)) := by
            show _ = _
            rw [List.take_succ_eq_append_getElem hlt, List.take_succ_eq_append_getElem hlt', HT.out, hq]
          clear hq
          go_wp2_with fail
          go_quiet (fail)
          go_wp2_with fail
          go_roundw
          case rel => exact ⟨k + 1, m + nq, by omega, by go_num, HT2.out, rfl⟩
          case measure => simp [intOf]; omega
        · have f0 : xs[k].toList ≠ ys[k].toList := by
            rw [ByteArray.toList_eq, ByteArray.toList_eq]
            exact fun h => hq (WideShapes.bytes_inj h)
          have f1 : (xs[k].toList == ys[k].toList) = false := by simpa using f0
          have f2 : (xs[k].toList != ys[k].toList) = true := by simpa using f0
          have HN : Hid (decide (xs = ys) = false) := by
            show _ = _
            rw [decide_eq_false_iff_not]
            rintro rfl
            exact hq rfl
          clear hq f0
          go_wp2_with fail
          go_quiet (fail)
          go_wp2_with fail
          go_ret
          rw [HN.out]
          exact ⟨rfl, pw_below_drewN (pw_below_drewN (Below.refl _ _) _) _⟩
      · obtain rfl : k = xs.length := by omega
        have HN : Hid (decide (xs = ys) = true) := by
          show _ = _
          have := HT.out
          rw [List.take_of_length_le (Nat.le_refl _), List.take_of_length_le (by have := HL.out; omega)] at this
          simp [this]
        clear ha ha'
        go_wp2_with fail
        go_ret
        rw [HN.out]
        exact ⟨rfl, pw_below_drewN (Below.refl _ _) _⟩
  · have e0 : ((xs.length : Int) == (ys.length : Int)) = false := by simp; omega
    have e1 : ((xs.length : Int) != (ys.length : Int)) = true := by simp; omega
    have HN : Hid (decide (xs = ys) = false) := by
      show _ = _
      rw [decide_eq_false_iff_not]
      rintro rfl
      exact hxy rfl
    clear hxy ha ha'
    go_enter Try.func27, Try.ntmps27
    go_wp2
    go_ret
    rw [HN.out]
    exact ⟨rfl, Below.refl _ _⟩
end Go.Proofs.Ytbjomjlchafkfaa
