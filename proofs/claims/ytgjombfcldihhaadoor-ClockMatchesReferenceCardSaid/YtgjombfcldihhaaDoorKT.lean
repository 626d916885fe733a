/- Plain laws of texts: Parse reads what Text writes; what Parse accepts is what Text writes.
   Conditions: none. -/
import Derived.Test.YtgjombfcldihhaaDoorKJ
import Derived.Lib.IndexLaws
namespace Go.Proofs.YtgjombfcldihhaaDoor
open Go.RowKit Go.Lib
set_option linter.unusedVariables false
set_option linter.unusedSimpArgs false

theorem bytesB_eq (s : ByteArray) : s = bytesB s.data.toList := by
  unfold bytesB
  cases s with
  | mk d => simp
theorem bytesB_app (a b : List UInt8) : bytesB a ++ bytesB b = bytesB (a ++ b) := by
  apply ByteArray.ext
  simp [bytesB]
theorem bytesB_extract (l : List UInt8) (a b : Nat) : (bytesB l).extract a b = bytesB ((l.drop a).take (b - a)) := by
  apply ByteArray.ext
  simp [bytesB, ByteArray.data_extract, List.extract_eq_take_drop]
theorem bytesB_size (l : List UInt8) : (bytesB l).size = l.length := by
  show l.toArray.size = _
  simp
theorem indexByte_at (c : UInt8) (R : List UInt8) : ∀ D : List UInt8, (∀ b ∈ D, b ≠ c) → indexByte (D ++ c :: R) c = D.length := by
  intro D
  induction D with
  | nil => intro _; simp [indexByte]
  | cons b D ih =>
    intro h
    have hb : (b == c) = false := by simpa using h b (by simp)
    have e := ih fun x hx => h x (by simp [hx])
    show (if b == c then (0 : Int) else if indexByte (D ++ c :: R) c == -1 then -1 else indexByte (D ++ c :: R) c + 1) = _
    rw [hb, e]
    have h1 : (((D.length : Nat) : Int) == -1) = false := by
      have : ((D.length : Nat) : Int) ≠ -1 := by omega
      exact beq_false_of_ne this
    rw [h1]
    simp
theorem cutB_at (c : UInt8) (D R : List UInt8) (h : ∀ b ∈ D, b ≠ c) : cutB (bytesB (D ++ c :: R)) c = (bytesB D, bytesB R, true) := by
  have e : (bytesB (D ++ c :: R)).data.toList = D ++ c :: R := rfl
  unfold cutB
  rw [e, indexByte_at c R D h, if_pos (by omega), Int.toNat_natCast, bytesB_extract, bytesB_extract, bytesB_size]
  have e1 : ((D ++ c :: R).drop 0).take (D.length - 0) = D := by simp
  have e2 : ((D ++ c :: R).drop (D.length + 1)).take ((D ++ c :: R).length - (D.length + 1)) = R := by
    rw [show (D ++ c :: R).drop (D.length + 1) = R by rw [show D ++ c :: R = (D ++ [c]) ++ R by simp, List.drop_append_of_le_length (by simp)]; simp]
    rw [List.take_of_length_le (by simp; omega)]
  rw [e1, e2]
/-- digits only -/
def Digs (l : List UInt8) : Prop := ∀ b ∈ l, 48 ≤ b.toNat ∧ b.toNat ≤ 57
theorem digit_nat (d : Nat) (h : d < 10) : (UInt8.ofNat (48 + d)).toNat = 48 + d := by
  rw [UInt8.toNat_ofNat']; omega
theorem digs_dec (u : Nat) : Digs (decDigits u) := by
  induction u using Nat.strongRecOn with
  | _ u ih =>
    by_cases h : u < 10
    · rw [decDigits, dif_pos h]
      intro b hb
      simp only [List.mem_singleton] at hb
      subst hb
      rw [digit_nat u h]; omega
    · rw [decDigits, dif_neg h]
      intro b hb
      rcases List.mem_append.1 hb with hb | hb
      · exact ih (u / 10) (by omega) b hb
      · simp only [List.mem_singleton] at hb
        subst hb
        rw [digit_nat _ (by omega)]; omega
theorem digs_ne {l : List UInt8} (h : Digs l) {c : UInt8} (hc : c.toNat < 48 ∨ 57 < c.toNat) : ∀ b ∈ l, b ≠ c := by
  intro b hb e
  subst e
  have := h b hb
  omega
theorem parse_snoc (c : UInt8) (h1 : 48 ≤ c.toNat) (h2 : c.toNat ≤ 57) : ∀ (l : List UInt8) (acc a : Nat), parseUint10 acc l = .ok a → a < 1000000000000000000 → parseUint10 acc (l ++ [c]) = .ok (a * 10 + (c.toNat - 48)) := by
  intro l
  induction l with
  | nil =>
    intro acc a h ha
    simp only [parseUint10, NumEnd.ok.injEq] at h
    subst h
    rw [List.nil_append, parseUint10, if_pos ⟨h1, h2⟩, if_neg (by omega), if_neg (by omega), parseUint10]
  | cons b l ih =>
    intro acc a h ha
    simp only [parseUint10] at h
    rw [List.cons_append, parseUint10]
    split at h
    · rename_i hb
      rw [if_pos hb]
      split at h
      · cases h
      · rename_i hq
        rw [if_neg hq]
        split at h
        · cases h
        · rename_i hq2
          rw [if_neg hq2]
          exact ih _ _ h ha
    · cases h
theorem parse_dec (u : Nat) (hu : u < 1000000000000000000) : parseUint10 0 (decDigits u) = .ok u := by
  induction u using Nat.strongRecOn with
  | _ u ih =>
    by_cases h : u < 10
    · rw [decDigits, dif_pos h]
      have e := digit_nat u h
      rw [parseUint10, if_pos (by omega), if_neg (by omega), if_neg (by omega), parseUint10, e]
      congr 1
      omega
    · rw [decDigits, dif_neg h]
      have e := digit_nat (u % 10) (by omega)
      rw [parse_snoc _ (by omega) (by omega) _ _ _ (ih (u / 10) (by omega) (by omega)) (by omega), e]
      congr 1
      omega
theorem atoi_digs {l : List UInt8} (hd : Digs l) (h0 : l ≠ []) {u : Nat} (h : parseUint10 0 l = .ok u) (hu : u ≤ 1000000000000000000) : atoiAll l = .ok (u : Int) := by
  cases l with
  | nil => exact absurd rfl h0
  | cons c r =>
    have hc := hd c (by simp)
    have e1 : ¬ c.toNat = 43 := by omega
    have e2 : ¬ c.toNat = 45 := by omega
    have e3 : parseMag (c :: r) = .ok u := by unfold parseMag; rw [if_neg (by simp)]; exact h
    unfold atoiAll
    simp only [e1, e2, or_self, not_false_eq_true, true_and, false_and, if_false]
    rw [e3]
    simp only
    rw [if_neg (by omega)]
theorem decDigits_ne (u : Nat) : decDigits u ≠ [] := by
  intro h
  have := nDigits_pos u
  rw [← decDigits_length, h] at this
  simp at this
theorem numR_dec (u : Nat) (hu : u ≤ 100000) : numR (bytesB (decDigits u)) = some (u : Int) := by
  have h : atoiR (bytesB (decDigits u)) = some (u : Int) := by
    unfold atoiR
    rw [show (bytesB (decDigits u)).data.toList = decDigits u from rfl, atoi_digs (digs_dec u) (decDigits_ne u) (parse_dec u (by omega)) (by omega)]
  exact numR_some h (by omega) (by omega)
def twoL (n : Nat) : List UInt8 := decDigits (n / 10) ++ decDigits (n % 10)
theorem twoB_eq (n : Nat) : twoB n = bytesB (twoL n) := by unfold twoB twoL; rw [bytesB_app]
theorem digs_two (n : Nat) : Digs (twoL n) := fun b hb => by
  rcases List.mem_append.1 hb with hb | hb
  · exact digs_dec _ b hb
  · exact digs_dec _ b hb
theorem numR_two (n : Nat) (hn : n < 100) : numR (bytesB (twoL n)) = some (n : Int) := by
  have e : decDigits (n % 10) = [UInt8.ofNat (48 + n % 10)] := by rw [decDigits, dif_pos (by omega)]
  have ed := digit_nat (n % 10) (by omega)
  have h : atoiR (bytesB (twoL n)) = some (n : Int) := by
    unfold atoiR
    rw [show (bytesB (twoL n)).data.toList = twoL n from rfl]
    have hp : parseUint10 0 (twoL n) = .ok n := by
      unfold twoL
      rw [e, parse_snoc _ (by omega) (by omega) _ _ _ (parse_dec (n / 10) (by omega)) (by omega), ed]
      congr 1
      omega
    rw [atoi_digs (digs_two n) (by unfold twoL; simp [decDigits_ne]) hp (by omega)]
  exact numR_some h (by omega) (by omega)
def textL (t : Nat) : List UInt8 := decDigits (t / 1440) ++ 47 :: (twoL (t % 1440 / 60) ++ 58 :: twoL (t % 60))
theorem textB_eq (t : Nat) : textB t = bytesB (textL t) := by
  unfold textB textL
  rw [itoa_nonneg, twoB_eq, twoB_eq, show slashB = bytesB [47] from rfl, show colonB = bytesB [58] from rfl, bytesB_app, bytesB_app, bytesB_app, bytesB_app]
  simp
theorem twoL_length (n : Nat) (hn : n < 100) : (twoL n).length = 2 := by
  unfold twoL
  rw [List.length_append, dec1 _ (by omega), dec1 _ (by omega)]
theorem nDigits_le {u k : Nat} (hk : 1 ≤ k) (h : u < 10 ^ k) : nDigits u ≤ k := by
  induction k generalizing u with
  | zero => omega
  | succ k ih =>
    by_cases h1 : u < 10
    · rw [nDigits_small h1]; omega
    · rw [nDigits_big h1]
      rcases Nat.eq_zero_or_pos k with h2 | h2
      · subst h2; simp at h; omega
      · have := ih (u := u / 10) h2 (by rw [Nat.pow_succ] at h; omega)
        omega
theorem text_parts (t : Nat) : part0 (textB t) = bytesB (decDigits (t / 1440)) ∧ part1 (textB t) = bytesB (twoL (t % 1440 / 60)) ∧ part2 (textB t) = bytesB (twoL (t % 60)) := by
  have c1 : cutB (textB t) 47 = (bytesB (decDigits (t / 1440)), bytesB (twoL (t % 1440 / 60) ++ 58 :: twoL (t % 60)), true) := by
    rw [textB_eq]
    exact cutB_at 47 _ _ (digs_ne (digs_dec _) (by decide))
  have c2 : cutB (bytesB (twoL (t % 1440 / 60) ++ 58 :: twoL (t % 60))) 58 = (bytesB (twoL (t % 1440 / 60)), bytesB (twoL (t % 60)), true) := cutB_at 58 _ _ (digs_ne (digs_two _) (by decide))
  unfold part0 part1 part2
  rw [c1]
  simp only
  rw [c2]
  simp
theorem textR_of {t : Int} (h0 : 0 ≤ t) (h1 : t ≤ 144001439) : textR t = (textB t.toNat, 0) := by
  unfold textR; rw [if_pos (by simp [isB, h0, h1])]
theorem parse_text (t : Nat) (h : t ≤ 144001439) : parseR (textB t) = ((t : Int), 0) := by
  obtain ⟨p0, p1, p2⟩ := text_parts t
  unfold parseR
  rw [p0, p1, p2, numR_dec _ (by omega), numR_two _ (by omega), numR_two _ (by omega)]
  simp only
  have e : ((t / 1440 : Nat) : Int) * 1440 + ((t % 1440 / 60 : Nat) : Int) * 60 + ((t % 60 : Nat) : Int) = (t : Int) := by omega
  rw [e, if_pos (by rw [textR_of (by omega) (by omega)]; rfl)]
theorem textR_some {u : Int} {s : ByteArray} (h : textR u = (s, 0)) : 0 ≤ u ∧ u ≤ 144001439 ∧ s = textB u.toNat := by
  unfold textR at h
  split at h
  · rename_i hb
    simp only [isB, Bool.and_eq_true, decide_eq_true_eq] at hb
    exact ⟨hb.1, hb.2, (congrArg Prod.fst h).symm⟩
  · have := congrArg Prod.snd h
    simp at this
/-- how Parse ends: with the instant whose text it is, or not at all -/
theorem parse_ends (s : ByteArray) : (∃ t : Nat, t ≤ 144001439 ∧ s = textB t ∧ parseR s = ((t : Int), 0)) ∨ (parseR s = (0, 5) ∧ ∀ t : Nat, t ≤ 144001439 → s ≠ textB t) := by
  by_cases hs : ∃ t : Nat, t ≤ 144001439 ∧ s = textB t
  · obtain ⟨t, ht, rfl⟩ := hs
    exact .inl ⟨t, ht, rfl, parse_text t ht⟩
  · refine .inr ⟨?_, fun t ht e => hs ⟨t, ht, e⟩⟩
    unfold parseR
    split
    · split
      · rename_i a b c _ _ _ h
        obtain ⟨h0, h1, h2⟩ := textR_some h
        exact absurd ⟨_, by omega, h2⟩ hs
      · rfl
    · rfl
theorem text_size (t : Nat) (h : t ≤ 144001439) : (textB t).size ≤ 12 := by
  rw [textB_eq, bytesB_size]
  unfold textL
  have := nDigits_le (u := t / 1440) (k := 6) (by omega) (by omega)
  simp only [List.length_append, List.length_cons, twoL_length _ (show t % 1440 / 60 < 100 by omega), twoL_length _ (show t % 60 < 100 by omega), decDigits_length]
  omega
theorem textR_size (t : Int) : (textR t).1.size ≤ 12 := by
  unfold textR
  split
  · rename_i h
    simp only [isB, Bool.and_eq_true, decide_eq_true_eq] at h
    exact text_size _ (by omega)
  · show (0 : Nat) ≤ 12
    omega
end Go.Proofs.YtgjombfcldihhaaDoor
