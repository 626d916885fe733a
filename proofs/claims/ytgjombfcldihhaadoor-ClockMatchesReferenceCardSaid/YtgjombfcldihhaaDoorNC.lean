/- The reference's digits, Decimal, two, Text.
   Conditions: none. -/
import Derived.Test.YtgjombfcldihhaaDoorKT
import Derived.Deep.DeepCutAuto
namespace Go.Proofs.YtgjombfcldihhaaDoor
open Go.RowKit Go.Lib
set_option linter.unusedVariables false
set_option linter.unusedSimpArgs false

def digB (d : Nat) : ByteArray := bytesB [UInt8.ofNat (48 + d)]
def ten : ByteArray := ⟨#[48, 49, 50, 51, 52, 53, 54, 55, 56, 57]⟩
theorem slice10all (W : World) : (Instr.slice 9 (.string ⟨#[48, 49, 50, 51, 52, 53, 54, 55, 56, 57]⟩) (some (.int .u64 (((0 : Nat)) : Int))) (some (.int .u64 (((0 : Nat) : Int) + 1))) none).run Tryd.prog W = .ok (.string (digB 0)) W ∧ (Instr.slice 9 (.string ⟨#[48, 49, 50, 51, 52, 53, 54, 55, 56, 57]⟩) (some (.int .u64 (((1 : Nat)) : Int))) (some (.int .u64 (((1 : Nat) : Int) + 1))) none).run Tryd.prog W = .ok (.string (digB 1)) W ∧ (Instr.slice 9 (.string ⟨#[48, 49, 50, 51, 52, 53, 54, 55, 56, 57]⟩) (some (.int .u64 (((2 : Nat)) : Int))) (some (.int .u64 (((2 : Nat) : Int) + 1))) none).run Tryd.prog W = .ok (.string (digB 2)) W ∧ (Instr.slice 9 (.string ⟨#[48, 49, 50, 51, 52, 53, 54, 55, 56, 57]⟩) (some (.int .u64 (((3 : Nat)) : Int))) (some (.int .u64 (((3 : Nat) : Int) + 1))) none).run Tryd.prog W = .ok (.string (digB 3)) W ∧ (Instr.slice 9 (.string ⟨#[48, 49, 50, 51, 52, 53, 54, 55, 56, 57]⟩) (some (.int .u64 (((4 : Nat)) : Int))) (some (.int .u64 (((4 : Nat) : Int) + 1))) none).run Tryd.prog W = .ok (.string (digB 4)) W ∧ (Instr.slice 9 (.string ⟨#[48, 49, 50, 51, 52, 53, 54, 55, 56, 57]⟩) (some (.int .u64 (((5 : Nat)) : Int))) (some (.int .u64 (((5 : Nat) : Int) + 1))) none).run Tryd.prog W = .ok (.string (digB 5)) W ∧ (Instr.slice 9 (.string ⟨#[48, 49, 50, 51, 52, 53, 54, 55, 56, 57]⟩) (some (.int .u64 (((6 : Nat)) : Int))) (some (.int .u64 (((6 : Nat) : Int) + 1))) none).run Tryd.prog W = .ok (.string (digB 6)) W ∧ (Instr.slice 9 (.string ⟨#[48, 49, 50, 51, 52, 53, 54, 55, 56, 57]⟩) (some (.int .u64 (((7 : Nat)) : Int))) (some (.int .u64 (((7 : Nat) : Int) + 1))) none).run Tryd.prog W = .ok (.string (digB 7)) W ∧ (Instr.slice 9 (.string ⟨#[48, 49, 50, 51, 52, 53, 54, 55, 56, 57]⟩) (some (.int .u64 (((8 : Nat)) : Int))) (some (.int .u64 (((8 : Nat) : Int) + 1))) none).run Tryd.prog W = .ok (.string (digB 8)) W ∧ (Instr.slice 9 (.string ⟨#[48, 49, 50, 51, 52, 53, 54, 55, 56, 57]⟩) (some (.int .u64 (((9 : Nat)) : Int))) (some (.int .u64 (((9 : Nat) : Int) + 1))) none).run Tryd.prog W = .ok (.string (digB 9)) W :=
  ⟨by kernel_rfl, by kernel_rfl, by kernel_rfl, by kernel_rfl, by kernel_rfl, by kernel_rfl, by kernel_rfl, by kernel_rfl, by kernel_rfl, by kernel_rfl⟩
set_option maxRecDepth 100000 in
theorem slice10 (d : Nat) (h : d < 10) (W : World) : (Instr.slice 9 (.string ⟨#[48, 49, 50, 51, 52, 53, 54, 55, 56, 57]⟩) (some (.int .u64 d)) (some (.int .u64 ((d : Int) + 1))) none).run Tryd.prog W = .ok (.string (digB d)) W := by
  have h10 : d = 0 ∨ d = 1 ∨ d = 2 ∨ d = 3 ∨ d = 4 ∨ d = 5 ∨ d = 6 ∨ d = 7 ∨ d = 8 ∨ d = 9 := by omega
  obtain ⟨h0, h1, h2, h3, h4, h5, h6, h7, h8, h9⟩ := slice10all W
  rcases h10 with rfl | rfl | rfl | rfl | rfl | rfl | rfl | rfl | rfl | rfl
  · exact h0
  · exact h1
  · exact h2
  · exact h3
  · exact h4
  · exact h5
  · exact h6
  · exact h7
  · exact h8
  · exact h9
/-- what the loop of digits holds -/
def DigIs (N n : Nat) (s : List UInt8) : Prop := (n = 0 ∧ decDigits N = s) ∨ (0 < n ∧ decDigits N = decDigits n ++ s)
theorem DigIs.step {N n : Nat} {s : List UInt8} (h : DigIs N n s) (h0 : 0 < n) : DigIs N (n / 10) (UInt8.ofNat (48 + n % 10) :: s) := by
  rcases h with ⟨h1, _⟩ | ⟨_, h2⟩
  · omega
  · by_cases h3 : n < 10
    · left
      rw [h2, decDigits, dif_pos h3]
      refine ⟨by omega, ?_⟩
      rw [show n % 10 = n by omega]
      rfl
    · right
      rw [h2, decDigits, dif_neg h3]
      exact ⟨by omega, by simp⟩
theorem DigIs.len {N n : Nat} {s : List UInt8} (h : DigIs N n s) (hN : N ≤ 1000000) : s.length ≤ 7 := by
  have h1 : (decDigits N).length ≤ 7 := by rw [decDigits_length]; exact nDigits_le (by omega) (by omega)
  rcases h with ⟨_, h2⟩ | ⟨_, h2⟩
  · rw [← h2]; exact h1
  · rw [h2, List.length_append] at h1; omega
theorem DigIs.start (N : Nat) : DigIs N (N / 10) [UInt8.ofNat (48 + N % 10)] := by
  by_cases h3 : N < 10
  · left
    rw [decDigits, dif_pos h3]
    exact ⟨by omega, by rw [show N % 10 = N by omega]⟩
  · right
    conv => rhs; lhs; rw [decDigits, dif_neg h3]
    exact ⟨by omega, rfl⟩
set_option maxRecDepth 100000 in
set_option maxHeartbeats 2000000 in
theorem rdigits_calls (w : World) (N : Nat) (hN : N ≤ 1000000) :
    Calls Tryd.prog 38 #[.int .u64 N] w fun e w' => e = .returned (.string (bytesB (decDigits N))) ∧ w = w' := by
  obtain ⟨d0, hd0⟩ : ∃ d : Nat, N % 10 = d := ⟨_, rfl⟩
  obtain ⟨n0, hn0⟩ : ∃ d : Nat, N / 10 = d := ⟨_, rfl⟩
  have e1 : (N : Int).tmod 10 = (d0 : Int) := by rw [Int.tmod_eq_emod_of_nonneg (by omega)]; omega
  have e2 : (N : Int).tdiv 10 = (n0 : Int) := by rw [Int.tdiv_eq_ediv_of_nonneg (by omega)]; omega
  have hd10 : d0 < 10 := by omega
  have hn1 : n0 ≤ 100000 := by omega
  have HS := Lib.hid (DigIs.start N)
  rw [hd0, hn0] at HS
  have hs0 := slice10 d0 hd10
  clear hd0 hn0
  go_enter Tryd.func38, Tryd.ntmps38
  go_wp2_with fail
  clear hs0 e1 e2
  go_loopw [0, 3] (fun nv s wr => ∃ (n : Nat) (L : List UInt8), n ≤ 100000 ∧ nv = .int .u64 n ∧ s = .string (bytesB L) ∧ DigIs N n L ∧ wr = w) (fun nv _ _ => (Go.RowKit.intOf nv).toNat)
  case atStart => exact ⟨n0, _, hn1, rfl, rfl, HS.out, rfl⟩
  case round =>
    obtain ⟨n, L, hn, rfl, rfl, hds, rfl⟩ := hrel
    by_cases h0 : 0 < n
    · obtain ⟨d, hd⟩ : ∃ d : Nat, n % 10 = d := ⟨_, rfl⟩
      obtain ⟨m, hm⟩ : ∃ d : Nat, n / 10 = d := ⟨_, rfl⟩
      have e1 : (n : Int).tmod 10 = (d : Int) := by rw [Int.tmod_eq_emod_of_nonneg (by omega)]; omega
      have e2 : (n : Int).tdiv 10 = (m : Int) := by rw [Int.tdiv_eq_ediv_of_nonneg (by omega)]; omega
      have hd10 : d < 10 := by omega
      have HN := Lib.hid (hds.step h0)
      rw [hd, hm] at HN
      have hs0 := slice10 d hd10
      have hL := hds.len hN
      have HE : Hid (digB d ++ bytesB L = bytesB (UInt8.ofNat (48 + d) :: L)) := by show _ = _; unfold digB; rw [bytesB_app]; rfl
      have hz1 : (digB d).size = 1 := rfl
      have hz2 : (bytesB L).size ≤ 10 := by rw [bytesB_size]; omega
      have hmn : m < n := by omega
      have hmn2 : m ≤ 100000 := by omega
      have h0' : (0 : Int) < (n : Int) := by omega
      clear hd hm hds h0
      go_wp2_with fail
      go_roundw
      case rel => exact ⟨m, _, hmn2, rfl, by rw [HE.out], HN.out, by first | rfl | trivial⟩
      case measure => simp [Go.RowKit.intOf]; omega
    · obtain rfl : n = 0 := by omega
      have HR : Hid (decDigits N = L) := by
        show _ = _
        rcases hds with ⟨_, h⟩ | ⟨h, _⟩
        · exact h
        · omega
      clear hds
      go_wp2_with fail
      go_ret
      rw [HR.out]
      exact ⟨rfl, rfl⟩
set_option maxRecDepth 100000 in
theorem rdec_calls (w : World) (N : Nat) (hN : N ≤ 1000000) :
    Calls Tryd.prog 32 #[.int .i64 N] w fun e w' => e = .returned (.string (bytesB (decDigits N))) ∧ w = w' := by
  have cc := rdigits_calls w N hN
  go_enter Tryd.func32, Tryd.ntmps32
  go_wp2_with fail
  refine cc.mono ?_
  rintro e w1 ⟨rfl, rfl⟩
  go_wp2_with fail
  go_ret
  exact ⟨rfl, rfl⟩
set_option maxRecDepth 100000 in
theorem rtwo_calls (w : World) (n : Nat) (hn : n < 100) :
    Calls Tryd.prog 33 #[.int .i64 n] w fun e w' => e = .returned (.string (twoB n)) ∧ w = w' := by
  have cc := rdec_calls w n (by omega)
  have hz : (bytesB (decDigits n)).size ≤ 10 := by rw [bytesB_size, decDigits_length]; have := nDigits_le (u := n) (k := 6) (by omega) (by omega); omega
  by_cases h : n < 10
  · have HE : Hid ((⟨#[48]⟩ : ByteArray) ++ bytesB (decDigits n) = twoB n) := by
      show _ = _
      rw [twoB_eq, show (⟨#[48]⟩ : ByteArray) = bytesB [48] from rfl, bytesB_app]
      unfold twoL
      rw [show n / 10 = 0 by omega, show n % 10 = n by omega, dec_small 0 (by omega)]
      rfl
    have h' : (n : Int) < 10 := by omega
    clear h
    generalize bytesB (decDigits n) = bs at cc hz HE
    go_enter Tryd.func33, Tryd.ntmps33
    go_wp2_with fail
    refine cc.mono ?_
    rintro e w1 ⟨rfl, rfl⟩
    go_wp2_with fail
    go_ret
    rw [← HE.out]
    exact ⟨rfl, rfl⟩
  · have HE : Hid (bytesB (decDigits n) = twoB n) := by
      show _ = _
      rw [twoB_eq]
      unfold twoL
      rw [decDigits, dif_neg h]
      conv => rhs; rw [dec_small (n % 10) (by omega)]
    have h' : ¬ (n : Int) < 10 := by omega
    clear h
    generalize bytesB (decDigits n) = bs at cc hz HE
    go_enter Tryd.func33, Tryd.ntmps33
    go_wp2_with fail
    refine cc.mono ?_
    rintro e w1 ⟨rfl, rfl⟩
    go_wp2_with fail
    go_ret
    rw [← HE.out]
    exact ⟨rfl, rfl⟩
set_option maxRecDepth 100000 in
set_option maxHeartbeats 2000000 in
theorem rtext_calls (w : World) (t : Int) : Calls Tryd.prog 19 #[.int .i64 t] w fun e w' => e = .returned (.tuple #[.string (textR t).1, .int .i64 (textR t).2]) ∧ Below w.heap.size w w' := by
  by_cases ht : isB t = true
  · have hb := ht
    simp only [isB, Bool.and_eq_true, decide_eq_true_eq] at hb
    obtain ⟨n, rfl⟩ := Int.eq_ofNat_of_zero_le hb.1
    have hn : n ≤ 144001439 := by omega
    have HE : Hid (textR n = (bytesB (decDigits (n / 1440)) ++ slashB ++ twoB (n % 1440 / 60) ++ colonB ++ twoB (n % 60), 0)) := by show _ = _; unfold textR; rw [if_pos ht]; show (textB _, _) = _; unfold textB; rw [itoa_nonneg]; rfl
    have hi0 := fun W => is_calls W (n : Int)
    rw [ht] at hi0
    obtain ⟨d, hd⟩ : ∃ d : Nat, n / 1440 = d := ⟨_, rfl⟩
    obtain ⟨h, hh⟩ : ∃ h : Nat, n % 1440 / 60 = h := ⟨_, rfl⟩
    obtain ⟨m, hm⟩ : ∃ m : Nat, n % 60 = m := ⟨_, rfl⟩
    obtain ⟨x, hx⟩ : ∃ x : Nat, n % 1440 = x := ⟨_, rfl⟩
    have e1 : (n : Int).tdiv 1440 = (d : Int) := by rw [Int.tdiv_eq_ediv_of_nonneg (by omega)]; omega
    have e2 : (n : Int).tmod 1440 = (x : Int) := by rw [Int.tmod_eq_emod_of_nonneg (by omega)]; omega
    have e3 : (x : Int).tdiv 60 = (h : Int) := by rw [Int.tdiv_eq_ediv_of_nonneg (by omega)]; omega
    have e4 : (n : Int).tmod 60 = (m : Int) := by rw [Int.tmod_eq_emod_of_nonneg (by omega)]; omega
    have hdl : d ≤ 200000 := by omega
    have hhl : h < 100 := by omega
    have hml : m < 100 := by omega
    have hxl : x ≤ 1440 := by omega
    rw [hd, hh, hm] at HE
    have s1 : (bytesB (decDigits d)).size ≤ 21 := by rw [bytesB_size, decDigits_length]; have := nDigits_le (u := d) (k := 6) (by omega) (by omega); omega
    have s2 := twoB_size h hhl
    have s3 := twoB_size m hml
    have s4 : slashB.size = 1 := rfl
    have s5 : colonB.size = 1 := rfl
    have h1 := fun W => rdec_calls W d (by omega)
    have h2 := fun W => rtwo_calls W h hhl
    have h3 := fun W => rtwo_calls W m hml
    clear hd hh hm hx hb ht
    generalize bytesB (decDigits d) = bd at *
    generalize twoB h = bh at *
    generalize twoB m = bm at *
    have HS : Hid (({ data := #[47] } : ByteArray) = slashB ∧ ({ data := #[58] } : ByteArray) = colonB) := by show _ ∧ _; exact ⟨rfl, rfl⟩
    go_enter Tryd.func19, Tryd.ntmps19
    go_wp2_with (first
      | (go_at_call 28; refine (hi0 _).mono ?_; rintro e w1 ⟨rfl, rfl⟩)
      | (go_at_call 32; refine (h1 _).mono ?_; clear h1; rintro e w2 ⟨rfl, rfl⟩)
      | (go_at_call 33; refine (h2 _).mono ?_; clear h2; rintro e w3 ⟨rfl, rfl⟩)
      | (go_at_call 33; refine (h3 _).mono ?_; clear h3; rintro e w3 ⟨rfl, rfl⟩))
    go_ret2
    rw [HE.out]
    exact ⟨rfl, Below.refl _ _⟩
  · have ht' : isB t = false := by simpa using ht
    have HE : Hid (textR t = (⟨#[]⟩, 1)) := by show _ = _; unfold textR; rw [if_neg ht]
    have hi0 := fun W => is_calls W t
    rw [ht'] at hi0
    clear ht ht'
    go_enter Tryd.func19, Tryd.ntmps19
    go_wp2_with (go_at_call 28; refine (hi0 _).mono ?_; rintro e w1 ⟨rfl, rfl⟩)
    go_ret2
    rw [HE.out]
    exact ⟨rfl, Below.refl _ _⟩
end Go.Proofs.YtgjombfcldihhaaDoor
