/- strconv.FormatUint at base 16; digest.Sum.
   Conditions: none. -/
import Derived.Test.YtpdhjfnddnoghaaDoorJC
import Derived.Test.YtpdhjfnddnoghaaDoorDH
namespace Go.Proofs.YtpdhjfnddnoghaaDoor
open Go.RowKit Go.Lib
set_option linter.unusedVariables false
set_option linter.unusedSimpArgs false

/-- the hexadecimal digits, the first ahead; "0" for 0 -/
def hexDigits (u : Nat) : List UInt8 :=
  if h : u < 16 then [hexD u] else hexDigits (u / 16) ++ [hexD (u % 16)]
termination_by u
decreasing_by omega
theorem idx36all (W : World) : (Instr.index 9 (.string ⟨#[48, 49, 50, 51, 52, 53, 54, 55, 56, 57, 97, 98, 99, 100, 101, 102, 103, 104, 105, 106, 107, 108, 109, 110, 111, 112, 113, 114, 115, 116, 117, 118, 119, 120, 121, 122]⟩) (.int .u64 ((0 : Nat) : Int))).run Tryd.prog W = .ok (.int .u8 ((hexD 0).toNat : Int)) W ∧ (Instr.index 9 (.string ⟨#[48, 49, 50, 51, 52, 53, 54, 55, 56, 57, 97, 98, 99, 100, 101, 102, 103, 104, 105, 106, 107, 108, 109, 110, 111, 112, 113, 114, 115, 116, 117, 118, 119, 120, 121, 122]⟩) (.int .u64 ((1 : Nat) : Int))).run Tryd.prog W = .ok (.int .u8 ((hexD 1).toNat : Int)) W ∧ (Instr.index 9 (.string ⟨#[48, 49, 50, 51, 52, 53, 54, 55, 56, 57, 97, 98, 99, 100, 101, 102, 103, 104, 105, 106, 107, 108, 109, 110, 111, 112, 113, 114, 115, 116, 117, 118, 119, 120, 121, 122]⟩) (.int .u64 ((2 : Nat) : Int))).run Tryd.prog W = .ok (.int .u8 ((hexD 2).toNat : Int)) W ∧ (Instr.index 9 (.string ⟨#[48, 49, 50, 51, 52, 53, 54, 55, 56, 57, 97, 98, 99, 100, 101, 102, 103, 104, 105, 106, 107, 108, 109, 110, 111, 112, 113, 114, 115, 116, 117, 118, 119, 120, 121, 122]⟩) (.int .u64 ((3 : Nat) : Int))).run Tryd.prog W = .ok (.int .u8 ((hexD 3).toNat : Int)) W ∧ (Instr.index 9 (.string ⟨#[48, 49, 50, 51, 52, 53, 54, 55, 56, 57, 97, 98, 99, 100, 101, 102, 103, 104, 105, 106, 107, 108, 109, 110, 111, 112, 113, 114, 115, 116, 117, 118, 119, 120, 121, 122]⟩) (.int .u64 ((4 : Nat) : Int))).run Tryd.prog W = .ok (.int .u8 ((hexD 4).toNat : Int)) W ∧ (Instr.index 9 (.string ⟨#[48, 49, 50, 51, 52, 53, 54, 55, 56, 57, 97, 98, 99, 100, 101, 102, 103, 104, 105, 106, 107, 108, 109, 110, 111, 112, 113, 114, 115, 116, 117, 118, 119, 120, 121, 122]⟩) (.int .u64 ((5 : Nat) : Int))).run Tryd.prog W = .ok (.int .u8 ((hexD 5).toNat : Int)) W ∧ (Instr.index 9 (.string ⟨#[48, 49, 50, 51, 52, 53, 54, 55, 56, 57, 97, 98, 99, 100, 101, 102, 103, 104, 105, 106, 107, 108, 109, 110, 111, 112, 113, 114, 115, 116, 117, 118, 119, 120, 121, 122]⟩) (.int .u64 ((6 : Nat) : Int))).run Tryd.prog W = .ok (.int .u8 ((hexD 6).toNat : Int)) W ∧ (Instr.index 9 (.string ⟨#[48, 49, 50, 51, 52, 53, 54, 55, 56, 57, 97, 98, 99, 100, 101, 102, 103, 104, 105, 106, 107, 108, 109, 110, 111, 112, 113, 114, 115, 116, 117, 118, 119, 120, 121, 122]⟩) (.int .u64 ((7 : Nat) : Int))).run Tryd.prog W = .ok (.int .u8 ((hexD 7).toNat : Int)) W ∧ (Instr.index 9 (.string ⟨#[48, 49, 50, 51, 52, 53, 54, 55, 56, 57, 97, 98, 99, 100, 101, 102, 103, 104, 105, 106, 107, 108, 109, 110, 111, 112, 113, 114, 115, 116, 117, 118, 119, 120, 121, 122]⟩) (.int .u64 ((8 : Nat) : Int))).run Tryd.prog W = .ok (.int .u8 ((hexD 8).toNat : Int)) W ∧ (Instr.index 9 (.string ⟨#[48, 49, 50, 51, 52, 53, 54, 55, 56, 57, 97, 98, 99, 100, 101, 102, 103, 104, 105, 106, 107, 108, 109, 110, 111, 112, 113, 114, 115, 116, 117, 118, 119, 120, 121, 122]⟩) (.int .u64 ((9 : Nat) : Int))).run Tryd.prog W = .ok (.int .u8 ((hexD 9).toNat : Int)) W ∧ (Instr.index 9 (.string ⟨#[48, 49, 50, 51, 52, 53, 54, 55, 56, 57, 97, 98, 99, 100, 101, 102, 103, 104, 105, 106, 107, 108, 109, 110, 111, 112, 113, 114, 115, 116, 117, 118, 119, 120, 121, 122]⟩) (.int .u64 ((10 : Nat) : Int))).run Tryd.prog W = .ok (.int .u8 ((hexD 10).toNat : Int)) W ∧ (Instr.index 9 (.string ⟨#[48, 49, 50, 51, 52, 53, 54, 55, 56, 57, 97, 98, 99, 100, 101, 102, 103, 104, 105, 106, 107, 108, 109, 110, 111, 112, 113, 114, 115, 116, 117, 118, 119, 120, 121, 122]⟩) (.int .u64 ((11 : Nat) : Int))).run Tryd.prog W = .ok (.int .u8 ((hexD 11).toNat : Int)) W ∧ (Instr.index 9 (.string ⟨#[48, 49, 50, 51, 52, 53, 54, 55, 56, 57, 97, 98, 99, 100, 101, 102, 103, 104, 105, 106, 107, 108, 109, 110, 111, 112, 113, 114, 115, 116, 117, 118, 119, 120, 121, 122]⟩) (.int .u64 ((12 : Nat) : Int))).run Tryd.prog W = .ok (.int .u8 ((hexD 12).toNat : Int)) W ∧ (Instr.index 9 (.string ⟨#[48, 49, 50, 51, 52, 53, 54, 55, 56, 57, 97, 98, 99, 100, 101, 102, 103, 104, 105, 106, 107, 108, 109, 110, 111, 112, 113, 114, 115, 116, 117, 118, 119, 120, 121, 122]⟩) (.int .u64 ((13 : Nat) : Int))).run Tryd.prog W = .ok (.int .u8 ((hexD 13).toNat : Int)) W ∧ (Instr.index 9 (.string ⟨#[48, 49, 50, 51, 52, 53, 54, 55, 56, 57, 97, 98, 99, 100, 101, 102, 103, 104, 105, 106, 107, 108, 109, 110, 111, 112, 113, 114, 115, 116, 117, 118, 119, 120, 121, 122]⟩) (.int .u64 ((14 : Nat) : Int))).run Tryd.prog W = .ok (.int .u8 ((hexD 14).toNat : Int)) W ∧ (Instr.index 9 (.string ⟨#[48, 49, 50, 51, 52, 53, 54, 55, 56, 57, 97, 98, 99, 100, 101, 102, 103, 104, 105, 106, 107, 108, 109, 110, 111, 112, 113, 114, 115, 116, 117, 118, 119, 120, 121, 122]⟩) (.int .u64 ((15 : Nat) : Int))).run Tryd.prog W = .ok (.int .u8 ((hexD 15).toNat : Int)) W :=
  ⟨by kernel_rfl, by kernel_rfl, by kernel_rfl, by kernel_rfl, by kernel_rfl, by kernel_rfl, by kernel_rfl, by kernel_rfl, by kernel_rfl, by kernel_rfl, by kernel_rfl, by kernel_rfl, by kernel_rfl, by kernel_rfl, by kernel_rfl, by kernel_rfl⟩
set_option maxRecDepth 100000 in
theorem idx36 (d : Nat) (h : d < 16) (W : World) : (Instr.index 9 (.string ⟨#[48, 49, 50, 51, 52, 53, 54, 55, 56, 57, 97, 98, 99, 100, 101, 102, 103, 104, 105, 106, 107, 108, 109, 110, 111, 112, 113, 114, 115, 116, 117, 118, 119, 120, 121, 122]⟩) (.int .u64 d)).run Tryd.prog W = .ok (.int .u8 ((hexD d).toNat : Int)) W := by
  have h16 : d = 0 ∨ d = 1 ∨ d = 2 ∨ d = 3 ∨ d = 4 ∨ d = 5 ∨ d = 6 ∨ d = 7 ∨ d = 8 ∨ d = 9 ∨ d = 10 ∨ d = 11 ∨ d = 12 ∨ d = 13 ∨ d = 14 ∨ d = 15 := by omega
  obtain ⟨h0, h1, h2, h3, h4, h5, h6, h7, h8, h9, h10, h11, h12, h13, h14, h15⟩ := idx36all W
  rcases h16 with rfl | rfl | rfl | rfl | rfl | rfl | rfl | rfl | rfl | rfl | rfl | rfl | rfl | rfl | rfl | rfl
  · exact h0
  · exact h1
  · exact h2
  · exact h3
  · exact h4
  · exact h5
  · exact h6
  · exact h7
  · exact h8
  · exact h9
  · exact h10
  · exact h11
  · exact h12
  · exact h13
  · exact h14
  · exact h15
theorem hexDigits_small (u : Nat) (h : u < 16) : hexDigits u = [hexD u] := by rw [hexDigits, dif_pos h]
theorem hexDigits_big (u : Nat) (h : ¬ u < 16) : hexDigits u = hexDigits (u / 16) ++ [hexD (u % 16)] := by rw [hexDigits, dif_neg h]
theorem hexDigits_len : ∀ (k u : Nat), 1 ≤ k → u < 16 ^ k → (hexDigits u).length ≤ k := by
  intro k
  induction k with
  | zero => intro u h; omega
  | succ k ih =>
    intro u _ hu
    by_cases h : u < 16
    · rw [hexDigits_small u h]; simp
    · rw [hexDigits_big u h, List.length_append, List.length_singleton]
      have hk : 1 ≤ k := by
        rcases Nat.eq_zero_or_pos k with h0 | h0
        · subst h0; simp at hu; omega
        · exact h0
      have := ih (u / 16) hk (by rw [Nat.pow_succ] at hu; omega)
      omega
theorem set_rep (p : Nat) (v : Value) (D : List Value) : (List.replicate (p + 1) (Value.int .u8 0) ++ D).set p v = List.replicate p (Value.int .u8 0) ++ v :: D := by
  rw [List.set_append, if_pos (by simp), List.replicate_succ', List.set_append, if_neg (by simp)]
  simp
theorem pow2_calls (w : World) : Calls Tryd.prog 102 #[.int .i64 16] w fun e w' => e = .returned (.bool true) ∧ w = w' := by
  have e1 : bits .and .i64 16 15 = 0 := by decide
  go_enter Tryd.func102, Tryd.ntmps102
  go_wp2_with fail
  go_ret
  exact ⟨rfl, rfl⟩
theorem tz64_calls (w : World) (hT : w.cell? ⟨5, 15, none⟩ = some (.int .u8 4)) : Calls Tryd.prog 105 #[.int .u64 16] w fun e w' => e = .returned (.int .i64 4) ∧ w = w' := by
  have key : IntKind.u64.wrap (bits BinOp.and IntKind.u64 16 (IntKind.u64.wrap (-16)) * 285870213051353865) / 288230376151711744 = 15 := by decide +kernel
  go_enter Tryd.func105, Tryd.ntmps105
  go_wp2_with (simp only [key])
  go_ret
  exact ⟨rfl, rfl⟩
theorem tz_calls (w : World) (hT : w.cell? ⟨5, 15, none⟩ = some (.int .u8 4)) : Calls Tryd.prog 103 #[.int .u64 16] w fun e w' => e = .returned (.int .i64 4) ∧ w = w' := by
  have cc := tz64_calls w hT
  go_enter Tryd.func103, Tryd.ntmps103
  go_wp2_with fail
  refine cc.mono ?_
  rintro e w1 ⟨rfl, rfl⟩
  go_wp2_with fail
  go_ret
  exact ⟨rfl, rfl⟩
/-- what the loop holds: the digits behind, and the cells -/
structure HSt (U B : Nat) (w : World) (i u : Nat) (D : List UInt8) (wr : World) : Prop where
  len : D.length + i = 65
  dig : hexDigits U = hexDigits u ++ D
  lt : u < 16 ^ (i - 49)
  lo : 50 ≤ i
  cells : wr.heap[B]? = some (.cells (List.replicate i (Value.int .u8 0) ++ byteVals D).toArray 144 (0, 0))
  be : Below B w wr
theorem HSt.put {U B : Nat} {w : World} {p u : Nat} {D : List UInt8} {wr : World} (h : HSt U B w (p + 1) u D wr) (b : UInt8) :
    (wr.setCell ⟨B, p, none⟩ (.int .u8 (b.toNat : Int))).heap[B]? = some (.cells (List.replicate p (Value.int .u8 0) ++ byteVals (b :: D)).toArray 144 (0, 0)) := by
  have := Go.heap_setCell_same _ _ p _ _ (.int .u8 (b.toNat : Int)) h.cells
  rw [List.setIfInBounds_toArray, set_rep] at this
  exact this
theorem rep_cell {wr : World} {B p : Nat} {D : List Value} {T : TypeId} (h : wr.heap[B]? = some (.cells (List.replicate (p + 1) (Value.int .u8 0) ++ D).toArray T (0, 0))) : wr.cell? ⟨B, p, none⟩ = some (.int .u8 0) := by
  rw [cell_blk h, List.getElem?_toArray, List.getElem?_append_left (by simp), List.getElem?_replicate, if_pos (by omega)]
theorem and15 (u : Nat) (hu : u < 18446744073709551616) : bits .and .u64 (u : Int) 15 = ((u % 16 : Nat) : Int) := by
  have := u64_and_nat u 15 hu (by omega)
  rw [show ((15 : Nat) : Int) = 15 from rfl] at this
  rw [this, show (15 : Nat) = 2 ^ 4 - 1 from rfl, Nat.and_two_pow_sub_one_eq_mod]
theorem conv_tail {wr : World} {B p : Nat} {D : List UInt8} (h : wr.heap[B]? = some (.cells (List.replicate p (Value.int .u8 0) ++ byteVals D).toArray 144 (0, 0))) (hl : D.length + p = 65) :
    (convert 51 9 (.slice (some ⟨B, p, none⟩) (65 - p) (65 - p))).run Tryd.prog wr = .ok (.string ⟨D.toArray⟩) wr := by
  have hd : D.length = 65 - p := by omega
  have hs := run_convert_bytes_arg (P := Tryd.prog) wr 51 5 Tryd.underlying51 Tryd.underlying5 B p (65 - p) (65 - p) (D.map fun b => (b.toNat : Int)) (by rw [List.length_map]; omega) (fun j hj => ?_) 9 Tryd.underlying9
  · have e := strOfNums_byte (⟨D.toArray⟩ : ByteArray)
    simp only [List.toList_toArray] at e
    rw [e] at hs
    exact hs
  · have hj' : j < D.length := by simpa [hd] using hj
    rw [cell_blk h, List.getElem?_toArray, List.getElem?_append_right (by simp), List.length_replicate, Nat.add_sub_cancel_left]
    simp [byteVals, List.getElem?_eq_getElem hj', List.getD_eq_getElem?_getD]
set_option maxRecDepth 100000 in
theorem slice65 (W : World) (B p : Nat) (hp : p < 65) : (Instr.sliceAt 144 (.pointer (some ⟨B, 0, none⟩)) (some (.int .i64 p)) none none).run Tryd.prog W = .ok (.slice (some ⟨B, p, none⟩) (65 - p) (65 - p)) W := by
  have hl : Tryd.prog.arrayLen 144 = 65 := by kernel_rfl
  have he : Tryd.prog.elem 144 = 5 := by kernel_rfl
  have hu : Tryd.prog.underlying 144 = some (.array (Tryd.prog.arrayLen 144) (Tryd.prog.elem 144)) := by kernel_rfl
  have h := run_sliceAt_array_l (P := Tryd.prog) W 144 ⟨B, 0, none⟩ hu .i64 (p : Int) (by omega) (by rw [hl]; omega)
  have hs : (sizeOf 5).run Tryd.prog W = .ok 1 W := by kernel_rfl
  rw [h, he, hs, hl]
  simp only [Result.andThen, slicedAt, Int.toNat_natCast, Nat.mul_one]
  rw [if_neg (by omega)]
  congr 2
  simp only [Addr.add, Nat.zero_add]
  split <;> simp_all
set_option maxRecDepth 100000 in
set_option maxHeartbeats 8000000 in
theorem bits16_calls (w : World) (hT : w.cell? ⟨5, 15, none⟩ = some (.int .u8 4)) (U : Nat) (hu : U < 18446744073709551616) :
    Calls Tryd.prog 95 #[.slice none 0 0, .int .u64 U, .int .i64 16, .bool false, .bool false] w fun e w' => e = .returned (.tuple #[.slice none 0 0, .string ⟨(hexDigits U).toArray⟩]) ∧ Below w.heap.size w w' := by
  have hT1 : ∀ o, (w.alloc o).cell? ⟨5, 15, none⟩ = some (.int .u8 4) := fun o => (World.cell?_alloc_lt _ _ _ (World.block_lt_of_cell? w _ hT)).trans hT
  have h1 := fun o => pow2_calls (w.alloc o)
  have h2 := fun o => tz_calls (w.alloc o) (hT1 o)
  have hz : Hid ((w.alloc (.cells Tryd.zeroCells144 144)).heap[w.heap.size]? = some (.cells (List.replicate 65 (Value.int .u8 0) ++ byteVals []).toArray 144 (0, 0))) := by
    show _ = _
    rw [heap_alloc_new]
    congr 2
  have hbe : Hid (Below w.heap.size w (w.alloc (.cells Tryd.zeroCells144 144))) := (Below.refl _ _).alloc (Nat.le_refl _) _
  have H0 : Hid (HSt U w.heap.size w 65 U [] (w.alloc (.cells Tryd.zeroCells144 144))) := ⟨rfl, by simp, hu, by omega, hz.out, hbe.out⟩
  clear hT hT1 hz hbe
  go_enter Tryd.func95, Tryd.ntmps95
  go_wp2_with fail
  refine (h1 _).mono ?_
  clear h1
  rintro e w1 ⟨rfl, rfl⟩
  go_wp2_with fail
  refine (h2 _).mono ?_
  clear h2
  rintro e w1 ⟨rfl, rfl⟩
  go_wp2_with fail
  generalize w.alloc (.cells Tryd.zeroCells144 144) = W at H0 ⊢
  obtain ⟨B, hB⟩ : ∃ B, w.heap.size = B := ⟨_, rfl⟩
  simp only [hB] at H0 ⊢
  go_loopw [1, 13] (fun uv iv wr => ∃ (i u : Nat) (D : List UInt8), uv = .int .u64 u ∧ iv = .int .i64 i ∧ HSt U B w i u D wr) (fun _ iv _ => (Go.RowKit.intOf iv).toNat)
  case atStart => exact ⟨65, U, [], rfl, rfl, H0.out⟩
  case round =>
    obtain ⟨i, u, D, rfl, rfl, hs⟩ := hrel
    have HS := Lib.hid hs
    have h65 := hs.len
    have h50 := hs.lo
    obtain ⟨p, rfl⟩ : ∃ p, i = p + 1 := ⟨i - 1, by omega⟩
    have hc := rep_cell hs.cells
    have hfr := free_blk hs.cells p
    have hul : u < 18446744073709551616 := Nat.lt_of_lt_of_le hs.lt (by
      have : 16 ^ (p + 1 - 49) ≤ 16 ^ 16 := Nat.pow_le_pow_right (by omega) (by omega)
      exact this)
    have hp65 : p < 65 := by omega
    clear hs H0
    by_cases hge : 16 ≤ u
    · obtain ⟨d, hd⟩ : ∃ d, u % 16 = d := ⟨_, rfl⟩
      obtain ⟨v, hv⟩ : ∃ v, u / 16 = v := ⟨_, rfl⟩
      have hd16 : d < 16 := by omega
      have e1 := and15 u hul
      rw [hd] at e1
      have e2 : (u : Int) / 16 = (v : Int) := by omega
      have e3 := idx36 d hd16
      have hp51 : 50 ≤ p := by
        rcases Nat.lt_or_ge p 50 with h | h
        · have h49 : p = 49 := by omega
          have := HS.out.lt
          rw [h49] at this
          simp at this
          omega
        · exact h
      have HN : Hid (HSt U B w p v (hexD d :: D) (wr.setCell ⟨B, p, none⟩ (.int .u8 ((hexD d).toNat : Int)))) := by
        refine ⟨by simp; omega, ?_, ?_, hp51, HS.out.put _, HS.out.be.setCell (p := ⟨B, p, none⟩) (Nat.le_refl _) _⟩
        · rw [HS.out.dig, hexDigits_big u (by omega), hd, hv]
          simp
        · have := HS.out.lt
          rw [← hv]
          have e : p + 1 - 49 = (p - 49) + 1 := by omega
          rw [e, Nat.pow_succ] at this
          omega
      have hge2 : (16 : Int) ≤ (u : Int) := by omega
      clear hd hv
      go_wp2_with fail
      go_roundw
      case rel => exact ⟨p, v, _, rfl, by go_num, HN.out⟩
      case measure => simp [Go.RowKit.intOf]
    · have hlt2 : ¬ (16 : Int) ≤ (u : Int) := by omega
      have e3 := idx36 u (by omega)
      have HD : Hid (hexDigits U = hexD u :: D) := by show _ = _; rw [HS.out.dig, hexDigits_small u (by omega)]; rfl
      have hput := HS.out.put (hexD u)
      have hcv := conv_tail hput (by simp; omega)
      have HBE : Hid (Below B w (wr.setCell ⟨B, p, none⟩ (.int .u8 ((hexD u).toNat : Int)))) := HS.out.be.setCell (p := ⟨B, p, none⟩) (Nat.le_refl _) _
      have hsl := slice65 (wr.setCell ⟨B, p, none⟩ (.int .u8 ((hexD u).toNat : Int))) B p hp65
      clear hput
      go_wp2_with fail
      go_ret2
      rw [HD.out]
      exact ⟨rfl, hB ▸ HBE.out⟩
set_option maxRecDepth 100000 in
theorem ifmt_calls (w : World) (hT : w.cell? ⟨5, 15, none⟩ = some (.int .u8 4)) (U : Nat) (hu : U < 18446744073709551616) :
    Calls Tryd.prog 87 #[.int .u64 U, .int .i64 16] w fun e w' => e = .returned (.string ⟨(hexDigits U).toArray⟩) ∧ Below w.heap.size w w' := by
  have cc := bits16_calls w hT U hu
  go_enter Tryd.func87, Tryd.ntmps87
  go_wp2_with fail
  refine cc.mono ?_
  rintro e w1 ⟨rfl, hb⟩
  have HB := Lib.hid hb
  clear hb cc
  go_wp2_with fail
  go_ret
  exact ⟨rfl, HB.out⟩
set_option maxRecDepth 100000 in
theorem fmt_calls (w : World) (hT : w.cell? ⟨5, 15, none⟩ = some (.int .u8 4)) (U : Nat) (hu : U < 18446744073709551616) :
    Calls Tryd.prog 78 #[.int .u64 U, .int .i64 16] w fun e w' => e = .returned (.string ⟨(hexDigits U).toArray⟩) ∧ Below w.heap.size w w' := by
  have cc := ifmt_calls w hT U hu
  go_enter Tryd.func78, Tryd.ntmps78
  go_wp2_with fail
  refine cc.mono ?_
  rintro e w1 ⟨rfl, hb⟩
  have HB := Lib.hid hb
  clear hb cc
  go_wp2_with fail
  go_ret
  exact ⟨rfl, HB.out⟩
end Go.Proofs.YtpdhjfnddnoghaaDoor
