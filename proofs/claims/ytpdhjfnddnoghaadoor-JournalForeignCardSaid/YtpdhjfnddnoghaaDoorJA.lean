/- The digest as a plain function over bytes; texts that differ in one block have different digests.
   Conditions: none. No program is in sight here. -/
import Derived.Lib.UnsafeStr
import Derived.Laws.CopyOwn
namespace Go.Proofs.YtpdhjfnddnoghaaDoor
open Go.Lib
set_option linter.unusedVariables false
set_option linter.unusedSimpArgs false

def W64 : Nat := 18446744073709551616
def mul1 (X : Nat) : Nat := X * 2862933555777941757 % 18446744073709551616
def mul2 (X : Nat) : Nat := X * 3935559000370003845 % 18446744073709551616
def sh32 (X : Nat) : Nat := X ^^^ X / 4294967296
def sh29 (X : Nat) : Nat := X ^^^ X / 536870912
def mixN (X : Nat) : Nat := sh29 (mul2 (sh32 (mul1 X)))
def beN (l : List UInt8) : Nat := l.foldl (fun n b => n * 256 + b.toNat) 0
/-- the first n bytes, filled up with zeros -/
def padTo (n : Nat) (l : List UInt8) : List UInt8 := l.take n ++ List.replicate (n - l.length) 0
def takeN (S : Nat) (l : List UInt8) : Nat := mixN (S ^^^ beN (padTo 8 l))
def stateFrom (S : Nat) (s : List UInt8) (k : Nat) : Nat := (List.range k).foldl (fun S i => takeN S (s.drop (8 * i))) S
def stateN (s : List UInt8) : Nat := stateFrom (2611923443488327891 ^^^ s.length) s (s.length / 8 + 1)
def hexD (d : Nat) : UInt8 := if d < 10 then UInt8.ofNat (48 + d) else UInt8.ofNat (87 + d)
def hexW (w n : Nat) : List UInt8 := (List.range w).map fun i => hexD (n / 16 ^ (w - 1 - i) % 16)
def sumB (s : ByteArray) : ByteArray := ⟨(hexW 16 (stateN s.data.toList)).toArray⟩

/-! ### each step is injective -/
theorem mul1_inj {a b : Nat} (ha : a < 18446744073709551616) (hb : b < 18446744073709551616) (h : mul1 a = mul1 b) : a = b := by
  have key : ∀ x, x < 18446744073709551616 → mul1 x * 16133697096952638549 % 18446744073709551616 = x := by
    intro x hx
    unfold mul1
    rw [Nat.mod_mul_mod, Nat.mul_assoc, show 2862933555777941757 * 16133697096952638549 = 18446744073709551616 * 2503948805982125087 + 1 by decide]
    rw [Nat.mul_add, ← Nat.mul_assoc, Nat.mul_comm x 18446744073709551616, Nat.mul_assoc, Nat.mul_one, Nat.mul_add_mod]
    exact Nat.mod_eq_of_lt hx
  rw [← key a ha, ← key b hb, h]
theorem mul2_inj {a b : Nat} (ha : a < 18446744073709551616) (hb : b < 18446744073709551616) (h : mul2 a = mul2 b) : a = b := by
  have key : ∀ x, x < 18446744073709551616 → mul2 x * 13700500150304694605 % 18446744073709551616 = x := by
    intro x hx
    unfold mul2
    rw [Nat.mod_mul_mod, Nat.mul_assoc, show 3935559000370003845 * 13700500150304694605 = 18446744073709551616 * 2922961714037557739 + 1 by decide]
    rw [Nat.mul_add, ← Nat.mul_assoc, Nat.mul_comm x 18446744073709551616, Nat.mul_assoc, Nat.mul_one, Nat.mul_add_mod]
    exact Nat.mod_eq_of_lt hx
  rw [← key a ha, ← key b hb, h]
theorem bit_out {x i : Nat} (h : x < 18446744073709551616) (hi : 64 ≤ i) : x.testBit i = false :=
  Nat.testBit_lt_two_pow (Nat.lt_of_lt_of_le (show x < 2 ^ 64 from h) (Nat.pow_le_pow_right (by omega) hi))
theorem sh32_bit (x i : Nat) : (sh32 x).testBit i = (x.testBit i ^^ x.testBit (i + 32)) := by
  unfold sh32
  rw [Nat.testBit_xor, show (4294967296 : Nat) = 2 ^ 32 from rfl, Nat.testBit_div_two_pow]
theorem sh29_bit (x i : Nat) : (sh29 x).testBit i = (x.testBit i ^^ x.testBit (i + 29)) := by
  unfold sh29
  rw [Nat.testBit_xor, show (536870912 : Nat) = 2 ^ 29 from rfl, Nat.testBit_div_two_pow]
theorem sh32_inj {a b : Nat} (ha : a < 18446744073709551616) (hb : b < 18446744073709551616) (h : sh32 a = sh32 b) : a = b := by
  have hi : ∀ i, 32 ≤ i → a.testBit i = b.testBit i := fun i hi => by
    have e := congrArg (fun n => n.testBit i) h
    simp only [sh32_bit, bit_out ha (show 64 ≤ i + 32 by omega), bit_out hb (show 64 ≤ i + 32 by omega), Bool.xor_false] at e
    exact e
  refine Nat.eq_of_testBit_eq fun i => ?_
  have e := congrArg (fun n => n.testBit i) h
  simp only [sh32_bit] at e
  rw [hi (i + 32) (by omega)] at e
  exact (Bool.xor_left_inj).1 e
theorem sh29_inj {a b : Nat} (ha : a < 18446744073709551616) (hb : b < 18446744073709551616) (h : sh29 a = sh29 b) : a = b := by
  have step : ∀ k i, 64 ≤ i + 29 * k → a.testBit i = b.testBit i := by
    intro k
    induction k with
    | zero => intro i hi; rw [bit_out ha (by omega), bit_out hb (by omega)]
    | succ k ih =>
      intro i hi
      have e := congrArg (fun n => n.testBit i) h
      simp only [sh29_bit] at e
      rw [ih (i + 29) (by omega)] at e
      exact (Bool.xor_left_inj).1 e
  exact Nat.eq_of_testBit_eq fun i => step 3 i (by omega)
theorem mul1_lt (x : Nat) : mul1 x < 18446744073709551616 := Nat.mod_lt _ (by omega)
theorem mul2_lt (x : Nat) : mul2 x < 18446744073709551616 := Nat.mod_lt _ (by omega)
theorem xor_lt {a b : Nat} (ha : a < 18446744073709551616) (hb : b < 18446744073709551616) : a ^^^ b < 18446744073709551616 := Nat.xor_lt_two_pow (n := 64) ha hb
theorem sh32_lt {x : Nat} (h : x < 18446744073709551616) : sh32 x < 18446744073709551616 := xor_lt h (Nat.lt_of_le_of_lt (Nat.div_le_self _ _) h)
theorem sh29_lt {x : Nat} (h : x < 18446744073709551616) : sh29 x < 18446744073709551616 := xor_lt h (Nat.lt_of_le_of_lt (Nat.div_le_self _ _) h)
theorem mixN_lt (x : Nat) : mixN x < 18446744073709551616 := sh29_lt (mul2_lt _)
theorem mixN_inj {a b : Nat} (ha : a < 18446744073709551616) (hb : b < 18446744073709551616) (h : mixN a = mixN b) : a = b :=
  mul1_inj ha hb (sh32_inj (mul1_lt a) (mul1_lt b) (mul2_inj (sh32_lt (mul1_lt a)) (sh32_lt (mul1_lt b)) (sh29_inj (mul2_lt _) (mul2_lt _) h)))

/-! ### blocks -/
theorem padTo_length (n : Nat) (l : List UInt8) : (padTo n l).length = n := by simp [padTo]; omega
theorem beN_snoc (l : List UInt8) (b : UInt8) : beN (l ++ [b]) = beN l * 256 + b.toNat := by simp [beN]
theorem beN_facts : ∀ (n : Nat) (l : List UInt8), l.length = n → beN l < 256 ^ n := by
  intro n
  induction n with
  | zero => intro l hl; have : l = [] := List.length_eq_zero_iff.1 hl; subst this; simp [beN]
  | succ n ih =>
    intro l hl
    have hne : l ≠ [] := by intro e; subst e; simp at hl
    have e : l = l.dropLast ++ [l.getLast hne] := (List.dropLast_concat_getLast hne).symm
    have h1 := ih l.dropLast (by rw [List.length_dropLast]; omega)
    have h2 := (l.getLast hne).toNat_lt
    rw [e, beN_snoc, Nat.pow_succ]
    omega
theorem beN_inj : ∀ (n : Nat) (l m : List UInt8), l.length = n → m.length = n → beN l = beN m → l = m := by
  intro n
  induction n with
  | zero => intro l m hl hm _; rw [List.length_eq_zero_iff.1 hl, List.length_eq_zero_iff.1 hm]
  | succ n ih =>
    intro l m hl hm h
    have hne : l ≠ [] := by intro e; subst e; simp at hl
    have hme : m ≠ [] := by intro e; subst e; simp at hm
    have e : l = l.dropLast ++ [l.getLast hne] := (List.dropLast_concat_getLast hne).symm
    have e' : m = m.dropLast ++ [m.getLast hme] := (List.dropLast_concat_getLast hme).symm
    have h2 := (l.getLast hne).toNat_lt
    have h3 := (m.getLast hme).toNat_lt
    rw [e, e', beN_snoc, beN_snoc] at h
    have hq : beN l.dropLast = beN m.dropLast := by omega
    have hr : (l.getLast hne).toNat = (m.getLast hme).toNat := by omega
    rw [e, e', ih l.dropLast m.dropLast (by rw [List.length_dropLast]; omega) (by rw [List.length_dropLast]; omega) hq, UInt8.toNat_inj.1 hr]
theorem beN8_lt (l : List UInt8) : beN (padTo 8 l) < 18446744073709551616 := beN_facts 8 _ (padTo_length 8 l)
theorem takeN_lt (S : Nat) (l : List UInt8) : takeN S l < 18446744073709551616 := mixN_lt _
theorem xor_cancel {a b c : Nat} (h : a ^^^ b = a ^^^ c) : b = c := by
  have := congrArg (fun n => a ^^^ n) h
  simpa [← Nat.xor_assoc, Nat.xor_self] using this
theorem takeN_inj_block {S : Nat} {l m : List UInt8} (hS : S < 18446744073709551616) (h : takeN S l = takeN S m) : padTo 8 l = padTo 8 m :=
  beN_inj 8 _ _ (padTo_length 8 l) (padTo_length 8 m) (xor_cancel (mixN_inj (xor_lt hS (beN8_lt l)) (xor_lt hS (beN8_lt m)) h))
theorem takeN_inj_state {S T : Nat} {l m : List UInt8} (hS : S < 18446744073709551616) (hT : T < 18446744073709551616) (hl : padTo 8 l = padTo 8 m) (h : takeN S l = takeN T m) : S = T := by
  unfold takeN at h
  rw [hl] at h
  have := mixN_inj (xor_lt hS (beN8_lt m)) (xor_lt hT (beN8_lt m)) h
  rw [Nat.xor_comm S, Nat.xor_comm T] at this
  exact xor_cancel this
theorem stateFrom_succ (S : Nat) (s : List UInt8) (k : Nat) : stateFrom S s (k + 1) = takeN (stateFrom S s k) (s.drop (8 * k)) := by
  unfold stateFrom
  rw [List.range_succ, List.foldl_append, List.foldl_cons, List.foldl_nil]
theorem stateFrom_zero (S : Nat) (s : List UInt8) : stateFrom S s 0 = S := by unfold stateFrom; rw [List.range_zero, List.foldl_nil]
theorem stateFrom_lt {S : Nat} (hS : S < 18446744073709551616) (s : List UInt8) (k : Nat) : stateFrom S s k < 18446744073709551616 := by
  cases k with
  | zero => rw [stateFrom_zero]; exact hS
  | succ k => rw [stateFrom_succ]; exact takeN_lt _ _
/-- texts of one length that differ in one block alone: that block is equal if the states are -/
theorem state_block {S : Nat} (hS : S < 18446744073709551616) {s t : List UInt8} (j : Nat) : ∀ k, j < k → (∀ i, i < k → i ≠ j → padTo 8 (s.drop (8 * i)) = padTo 8 (t.drop (8 * i))) → stateFrom S s k = stateFrom S t k → padTo 8 (s.drop (8 * j)) = padTo 8 (t.drop (8 * j)) := by
  have before : ∀ k, k ≤ j → (∀ i, i < k → i ≠ j → padTo 8 (s.drop (8 * i)) = padTo 8 (t.drop (8 * i))) → stateFrom S s k = stateFrom S t k := by
    intro k
    induction k with
    | zero => intro _ _; rw [stateFrom_zero, stateFrom_zero]
    | succ k ih =>
      intro hk h
      rw [stateFrom_succ, stateFrom_succ, ih (by omega) fun i hi hij => h i (by omega) hij]
      unfold takeN
      rw [h k (by omega) (by omega)]
  intro k
  induction k with
  | zero => intro h; omega
  | succ k ih =>
    intro hjk h he
    rw [stateFrom_succ, stateFrom_succ] at he
    rcases Nat.lt_or_ge j k with h1 | h1
    · exact ih h1 (fun i hi hij => h i (by omega) hij) (takeN_inj_state (stateFrom_lt hS s k) (stateFrom_lt hS t k) (h k (by omega) (by omega)) he)
    · obtain rfl : j = k := by omega
      rw [before j (Nat.le_refl _) fun i hi hij => h i (by omega) hij] at he
      exact takeN_inj_block (stateFrom_lt hS t j) he

/-! ### the text of the state -/
theorem hexD_inj {a b : Nat} (ha : a < 16) (hb : b < 16) (h : hexD a = hexD b) : a = b := by
  have : ∀ a b : Fin 16, hexD a.val = hexD b.val → a = b := by decide
  exact congrArg Fin.val (this ⟨a, ha⟩ ⟨b, hb⟩ h)
theorem hexW_length (w n : Nat) : (hexW w n).length = w := by simp [hexW]
theorem hexW_succ (w n : Nat) : hexW (w + 1) n = hexW w (n / 16) ++ [hexD (n % 16)] := by
  unfold hexW
  rw [List.range_succ, List.map_append, List.map_singleton]
  congr 1
  · refine List.map_congr_left fun i hi => ?_
    have hi' := List.mem_range.1 hi
    rw [Nat.div_div_eq_div_mul, Nat.mul_comm 16, ← Nat.pow_succ]
    congr 4
    omega
  · simp
theorem hexW_inj : ∀ (w m n : Nat), m < 16 ^ w → n < 16 ^ w → hexW w m = hexW w n → m = n := by
  intro w
  induction w with
  | zero => intro m n hm hn _; simp at hm hn; omega
  | succ w ih =>
    intro m n hm hn h
    rw [hexW_succ, hexW_succ] at h
    have hl : (hexW w (m / 16)).length = (hexW w (n / 16)).length := by rw [hexW_length, hexW_length]
    obtain ⟨h1, h2⟩ := List.append_inj h hl
    rw [Nat.pow_succ] at hm hn
    have e1 := ih (m / 16) (n / 16) (by omega) (by omega) h1
    have e2 := hexD_inj (Nat.mod_lt _ (by omega)) (Nat.mod_lt _ (by omega)) (by simpa using h2)
    omega
theorem sumB_size (s : ByteArray) : (sumB s).size = 16 := by
  show (List.toArray _).size = 16
  simp [hexW_length]
theorem stateN_lt {s : List UInt8} (h : s.length < 18446744073709551616) : stateN s < 18446744073709551616 := stateFrom_lt (xor_lt (by omega) h) _ _
theorem sumB_state {s t : ByteArray} (hs : s.size < 18446744073709551616) (ht : t.size < 18446744073709551616) (h : sumB s = sumB t) : stateN s.data.toList = stateN t.data.toList := by
  have e : hexW 16 (stateN s.data.toList) = hexW 16 (stateN t.data.toList) := by
    have := congrArg (fun b : ByteArray => b.data.toList) h
    simpa [sumB] using this
  exact hexW_inj 16 _ _ (stateN_lt (by simpa using hs)) (stateN_lt (by simpa using ht)) e
end Go.Proofs.YtpdhjfnddnoghaaDoor
