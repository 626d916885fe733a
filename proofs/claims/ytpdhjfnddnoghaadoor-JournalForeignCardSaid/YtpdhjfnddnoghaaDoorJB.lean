/- digest's take and blocks.
   Conditions: the state's cell lies in memory. -/
import Derived.Test.YtpdhjfnddnoghaaDoorJA
import Derived.Test.YtpdhjfnddnoghaaDoorDW
import Derived.Laws.BitsAllLaws
import Derived.IntWalk
namespace Go.Proofs.YtpdhjfnddnoghaaDoor
open Go.RowKit Go.Lib
set_option linter.unusedVariables false
set_option linter.unusedSimpArgs false

theorem or_byte (n b : Nat) (hb : b < 256) : n * 256 ||| b = n * 256 + b := by
  have := Nat.shiftLeft_add_eq_or_of_lt (i := 8) (b := b) (by omega) n
  rw [Nat.shiftLeft_eq] at this
  exact this.symm
def byteVals (l : List UInt8) : List Value := l.map fun b => .int .u8 (b.toNat : Int)
set_option maxRecDepth 100000 in
set_option maxHeartbeats 4000000 in
theorem take_calls (w : World) (q S : Nat) (hS : S < 18446744073709551616) (l : List UInt8) (hl : l.length = 8) (hq : w.heap[q]? = some (.cells #[.int .u64 S] 116 (0, 0))) :
    Calls Tryd.prog 77 #[.pointer (some ⟨q, 0, none⟩), .agg (byteVals l).toArray] w fun e w' => e = .returned (.tuple #[]) ∧ w'.heap[q]? = some (.cells #[.int .u64 (mixN (S ^^^ beN l) : Nat)] 116 (0, 0)) ∧ Upd (fun k => k = q) w w' := by
  have hb : ∃ blk, blk = (byteVals l).toArray := ⟨_, rfl⟩
  obtain ⟨blk, hblk⟩ := hb
  have HB := Lib.hid hblk
  have hql := blk_lt hq
  have hsz : blk.size = 8 := by rw [hblk]; simp [byteVals, hl]
  rw [← hblk]
  clear hblk
  go_enter Tryd.func77, Tryd.ntmps77
  go_wp2_with fail
  have hbW : (w.alloc (.cells blk 131)).heap[w.heap.size]? = some (.cells blk 131 (0, 0)) := heap_alloc_new w _
  have hqW : (w.alloc (.cells blk 131)).heap[q]? = some (.cells #[.int .u64 S] 116 (0, 0)) := (Below.heap_alloc w _ _ hql).trans hq
  have hU : Upd (fun k => k = q) w (w.alloc (.cells blk 131)) := (Upd.refl _ w).alloc _
  have HBW := Lib.hid hbW
  have HQW := Lib.hid hqW
  have HU := Lib.hid hU
  clear hbW hqW hU hq
  generalize w.alloc (.cells blk 131) = W at HBW HQW HU ⊢
  generalize w.heap.size = B at HBW ⊢
  go_loopw [4, 7] (fun nv iv wr => ∃ k n : Nat, k ≤ 8 ∧ iv = .int .i64 k ∧ nv = .int .u64 n ∧ n = beN (l.take k) ∧ n < 256 ^ k ∧ wr = W) (fun _ iv _ => 8 - (Go.RowKit.intOf iv).toNat)
  case atStart => exact ⟨0, 0, by omega, rfl, rfl, rfl, by simp, rfl⟩
  case round =>
    obtain ⟨k, n, hk, rfl, rfl, hn, hn2, rfl⟩ := hrel
    have HN := Lib.hid hn
    clear hn
    by_cases hlt : k < 8
    · obtain ⟨x, hx⟩ : ∃ x, l[k]'(by omega) = x := ⟨_, rfl⟩
      have hxl := x.toNat_lt
      have hc : wr.cell? ⟨B, k, none⟩ = some (.int .u8 (x.toNat : Int)) := by
        rw [cell_blk HBW.out, HB.out]
        simp [byteVals, hx, List.getElem?_eq_getElem (show k < l.length by omega)]
      have hnl : n < 72057594037927936 := by
        have : 256 ^ k ≤ 256 ^ 7 := Nat.pow_le_pow_right (by omega) (by omega)
        omega
      have e2 : bits .or .u64 ((n : Int) * 256) (x.toNat : Int) = ((n * 256 + x.toNat : Nat) : Int) := by
        rw [show (n : Int) * 256 = ((n * 256 : Nat) : Int) by omega, u64_or_nat _ _ (by omega) (by omega), or_byte _ _ hxl]
      have HN2 : Hid (n * 256 + x.toNat = beN (l.take (k + 1))) := by
        show _ = _
        rw [List.take_succ_eq_append_getElem (by omega), beN_snoc, ← HN.out, hx]
      have HN3 : Hid (n * 256 + x.toNat < 256 ^ (k + 1)) := by
        show _ < _
        rw [Nat.pow_succ]
        omega
      clear hx hn2
      go_wp2_with fail
      go_roundw
      case rel => exact ⟨k + 1, n * 256 + x.toNat, by omega, by go_num, rfl, HN2.out, HN3.out, by first | rfl | trivial⟩
      case measure => simp [Go.RowKit.intOf]; omega
    · obtain rfl : k = 8 := by omega
      have hNl : n < 18446744073709551616 := hn2
      have HNE : Hid (n = beN l) := by
        have := HN.out
        rw [List.take_of_length_le (by omega)] at this
        exact this
      obtain ⟨X, hX⟩ : ∃ X, S ^^^ n = X := ⟨_, rfl⟩
      have lX : X < 18446744073709551616 := by rw [← hX]; exact xor_lt hS hNl
      obtain ⟨Y, hY⟩ : ∃ Y, mul1 X = Y := ⟨_, rfl⟩
      have lY : Y < 18446744073709551616 := by rw [← hY]; exact mul1_lt _
      obtain ⟨Z, hZ⟩ : ∃ Z, sh32 Y = Z := ⟨_, rfl⟩
      have lZ : Z < 18446744073709551616 := by rw [← hZ]; exact sh32_lt lY
      obtain ⟨V, hV⟩ : ∃ V, mul2 Z = V := ⟨_, rfl⟩
      have lV : V < 18446744073709551616 := by rw [← hV]; exact mul2_lt _
      obtain ⟨R, hR⟩ : ∃ R, sh29 V = R := ⟨_, rfl⟩
      have HE : Hid (mixN (S ^^^ beN l) = R) := by show _ = _; rw [← HNE.out, ← hR, ← hV, ← hZ, ← hY, ← hX]; rfl
      have e1 : bits .xor .u64 (S : Int) (n : Int) = (X : Int) := by rw [u64_xor_nat _ _ hS hNl, hX]
      have e2 : IntKind.u64.wrap ((X : Int) * 2862933555777941757) = (Y : Int) := by rw [IntKind.wrap_u64, ← hY]; unfold mul1; omega
      have e3 : bits .xor .u64 (Y : Int) ((Y : Int) / 4294967296) = (Z : Int) := by rw [show (Y : Int) / 4294967296 = ((Y / 4294967296 : Nat) : Int) by omega, u64_xor_nat _ _ lY (by omega), ← hZ]; rfl
      have e4 : IntKind.u64.wrap ((Z : Int) * 3935559000370003845) = (V : Int) := by rw [IntKind.wrap_u64, ← hV]; unfold mul2; omega
      have e5 : bits .xor .u64 (V : Int) ((V : Int) / 536870912) = (R : Int) := by rw [show (V : Int) / 536870912 = ((V / 536870912 : Nat) : Int) by omega, u64_xor_nat _ _ lV (by omega), ← hR]; rfl
      have hc := cell_blk HQW.out 0
      simp only [List.getElem?_toArray, List.getElem?_cons_zero] at hc
      have hfr := free_blk HQW.out 0
      have hset := Go.heap_setCell_same _ _ 0 _ _ (.int .u64 R) HQW.out
      have HSET := Lib.hid hset
      clear hX hY hZ hV hR hn2 hlt hset
      go_wp2_with fail
      go_end0
      refine ⟨rfl, ?_, HU.out.setCell ⟨q, 0, none⟩ (.inl rfl) _⟩
      rw [HE.out]
      exact HSET.out
end Go.Proofs.YtpdhjfnddnoghaaDoor
