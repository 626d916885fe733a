/- The reference's Parse.
   Conditions: none. -/
import Derived.Test.YtgjombfcldihhaaDoorNC
import Derived.IntWalk
namespace Go.Proofs.YtgjombfcldihhaaDoor
open Go.RowKit Go.Lib
set_option linter.unusedVariables false
set_option linter.unusedSimpArgs false

/-- the number that digits spell -/
def valL (L : List UInt8) : Nat := L.foldl (fun a b => 10 * a + (b.toNat - 48)) 0
theorem valL_snoc (L : List UInt8) (b : UInt8) : valL (L ++ [b]) = 10 * valL L + (b.toNat - 48) := by simp [valL]
theorem valL_dec (u : Nat) : valL (decDigits u) = u := by
  induction u using Nat.strongRecOn with
  | _ u ih =>
    by_cases h : u < 10
    · rw [decDigits, dif_pos h]
      show 10 * 0 + ((UInt8.ofNat (48 + u)).toNat - 48) = u
      rw [digit_nat u h]; omega
    · rw [decDigits, dif_neg h, valL_snoc, ih (u / 10) (by omega), digit_nat _ (by omega)]
      omega
theorem valL_lt : ∀ (n : Nat) (L : List UInt8), L.length = n → Digs L → valL L < 10 ^ n := by
  intro n
  induction n with
  | zero => intro L hl _; have : L = [] := List.length_eq_zero_iff.1 hl; subst this; simp [valL]
  | succ n ih =>
    intro L hl h
    have hne : L ≠ [] := by intro e; subst e; simp at hl
    have e : L = L.dropLast ++ [L.getLast hne] := (List.dropLast_concat_getLast hne).symm
    have h1 := ih L.dropLast (by rw [List.length_dropLast]; omega) fun x hx => h x (List.dropLast_subset L hx)
    have h2 := h _ (List.getLast_mem hne)
    rw [e, valL_snoc, Nat.pow_succ]
    omega
/-- the text of an instant, byte for byte -/
theorem textL_facts (t : Nat) (ht : t ≤ 144001439) : ∃ D : List UInt8, ∃ a b c d : Nat, a < 10 ∧ b < 10 ∧ c < 10 ∧ d < 10 ∧ Digs D ∧ 1 ≤ D.length ∧ D.length ≤ 6 ∧ valL D = t / 1440 ∧ t = valL D * 1440 + 60 * (10 * a + b) + 10 * c + d ∧
    textL t = D ++ [47, UInt8.ofNat (48 + a), UInt8.ofNat (48 + b), 58, UInt8.ofNat (48 + c), UInt8.ofNat (48 + d)] := by
  refine ⟨decDigits (t / 1440), t % 1440 / 60 / 10, t % 1440 / 60 % 10, t % 60 / 10, t % 60 % 10, by omega, by omega, by omega, by omega, digs_dec _, ?_, ?_, valL_dec _, ?_, ?_⟩
  · rw [decDigits_length]; exact nDigits_pos _
  · rw [decDigits_length]; exact nDigits_le (by omega) (by omega)
  · rw [valL_dec]; omega
  · unfold textL twoL
    rw [dec_small (t % 1440 / 60 / 10) (by omega), dec_small (t % 1440 / 60 % 10) (by omega), dec_small (t % 60 / 10) (by omega), dec_small (t % 60 % 10) (by omega)]
    rfl
def byteAt (s : ByteArray) (i : Nat) : Nat := (s.data.toList[i]?.getD 0).toNat
theorem byteAt_eq (s : ByteArray) (i : Nat) (h : i < s.size) : byteAt s i = s[i].toNat := by
  have h1 : i < s.data.toList.length := by simpa using h
  unfold byteAt
  rw [List.getElem?_eq_getElem h1]
  rfl
def isD (n : Nat) : Prop := 48 ≤ n ∧ n ≤ 57
/-- a text's bytes -/
structure Shape (s : ByteArray) (k t : Nat) : Prop where
  d : ∀ i, i < k → isD (byteAt s i)
  e1 : isD (byteAt s (k + 1))
  e2 : isD (byteAt s (k + 2))
  e4 : isD (byteAt s (k + 4))
  e5 : isD (byteAt s (k + 5))
  v : t = valL (s.data.toList.take k) * 1440 + 60 * (10 * (byteAt s (k + 1) - 48) + (byteAt s (k + 2) - 48)) + 10 * (byteAt s (k + 4) - 48) + (byteAt s (k + 5) - 48)
theorem shape_of {s : ByteArray} {k t : Nat} (ht : t ≤ 144001439) (hs : s.size = k + 6) (h : s = textB t) : Shape s k t := by
  obtain ⟨D, a, b, c, d, ha, hb, hc, hd, hD, h1, h6, hv, hval, hL⟩ := textL_facts t ht
  have hl : s.data.toList = D ++ [47, UInt8.ofNat (48 + a), UInt8.ofNat (48 + b), 58, UInt8.ofNat (48 + c), UInt8.ofNat (48 + d)] := by rw [h, textB_eq, ← hL]; rfl
  have hk : D.length = k := by
    have e : s.data.toList.length = s.size := by simp
    rw [hl, hs, List.length_append] at e
    simp at e
    exact e
  have g : ∀ i, byteAt s (k + i) = (([47, UInt8.ofNat (48 + a), UInt8.ofNat (48 + b), 58, UInt8.ofNat (48 + c), UInt8.ofNat (48 + d)] : List UInt8)[i]?.getD 0).toNat := fun i => by
    unfold byteAt
    rw [hl, List.getElem?_append_right (by omega), hk, Nat.add_sub_cancel_left]
  have g1 : byteAt s (k + 1) = 48 + a := (g 1).trans (digit_nat a ha)
  have g2 : byteAt s (k + 2) = 48 + b := (g 2).trans (digit_nat b hb)
  have g4 : byteAt s (k + 4) = 48 + c := (g 4).trans (digit_nat c hc)
  have g5 : byteAt s (k + 5) = 48 + d := (g 5).trans (digit_nat d hd)
  refine ⟨fun i hi => ?_, by rw [g1]; unfold isD; omega, by rw [g2]; unfold isD; omega, by rw [g4]; unfold isD; omega, by rw [g5]; unfold isD; omega, ?_⟩
  · unfold byteAt
    rw [hl, List.getElem?_append_left (by omega), List.getElem?_eq_getElem (by omega)]
    exact hD _ (List.getElem_mem _)
  · rw [g1, g2, g4, g5, hl, List.take_append_of_le_length (by omega), List.take_of_length_le (by omega), hval]
    simp only [Nat.add_sub_cancel_left]
theorem parse_not {s : ByteArray} {k : Nat} (hs : s.size = k + 6) (h : ∀ t, ¬ Shape s k t) : parseR s = (0, 5) := by
  rcases parse_ends s with ⟨t, ht, h1, _⟩ | ⟨h1, _⟩
  · exact absurd (shape_of ht hs h1) (h t)
  · exact h1
theorem parse_size {s : ByteArray} (h : s.size < 7 ∨ 12 < s.size) : parseR s = (0, 5) := by
  rcases parse_ends s with ⟨t, ht, h1, _⟩ | ⟨h1, _⟩
  · exfalso
    obtain ⟨D, a, b, c, d, _, _, _, _, _, h3, h6, _, _, hL⟩ := textL_facts t ht
    have : s.size = D.length + 6 := by rw [h1, textB_eq, bytesB_size, hL, List.length_append]; rfl
    omega
  · exact h1
theorem parse_at {s : ByteArray} {k : Nat} (hs : s.size = k + 6) (t : Nat) (hv : ∀ u, Shape s k u → u = t) : parseR s = if textR t = (s, 0) then ((t : Int), 0) else (0, 5) := by
  by_cases h : textR t = (s, 0)
  · rw [if_pos h]
    obtain ⟨h0, h1, h2⟩ := textR_some h
    rw [h2, Int.toNat_natCast, parse_text t (by omega)]
  · rw [if_neg h]
    rcases parse_ends s with ⟨u, hu, h1, _⟩ | ⟨h1, _⟩
    · exfalso
      obtain rfl := hv u (shape_of hu hs h1)
      exact h (by rw [textR_of (by omega) (by omega), Int.toNat_natCast, ← h1])
    · exact h1
set_option maxRecDepth 100000 in
set_option maxHeartbeats 8000000 in
theorem rparse_calls (w : World) (s : ByteArray) (hs : s.size ≤ 281474976710656) : Calls Tryd.prog 21 #[.string s] w fun e w' => e = .returned (.tuple #[.int .i64 (parseR s).1, .int .i64 (parseR s).2]) ∧ Below w.heap.size w w' := by
  by_cases h0 : s.size < 7
  · have HR := Lib.hid (parse_size (.inl h0))
    have hk2 : (s.size : Int) - 6 < 1 := by omega
    clear h0
    go_enter Tryd.func21, Tryd.ntmps21
    go_wp2_with fail
    go_ret2
    rw [HR.out]
    exact ⟨rfl, Below.refl _ _⟩
  by_cases h1 : 12 < s.size
  · have HR := Lib.hid (parse_size (.inr h1))
    have hk2 : 6 < (s.size : Int) - 6 := by omega
    clear h0 h1
    go_enter Tryd.func21, Tryd.ntmps21
    go_wp2_with fail
    go_ret2
    rw [HR.out]
    exact ⟨rfl, Below.refl _ _⟩
  obtain ⟨k, hk⟩ : ∃ k : Nat, s.size = k + 6 := ⟨s.size - 6, by omega⟩
  have k1 : 1 ≤ k := by omega
  have k6 : k ≤ 6 := by omega
  have hk2 : (s.size : Int) - 6 = (k : Int) := by omega
  clear h0 h1
  go_enter Tryd.func21, Tryd.ntmps21
  go_wp2_with fail
  go_loopw [5, 6] (fun dv i wr => ∃ j v : Nat, j ≤ k ∧ i = .int .i64 j ∧ dv = .int .i64 v ∧ v = valL (s.data.toList.take j) ∧ v < 10 ^ j ∧ (∀ i, i < j → isD (byteAt s i)) ∧ wr = w) (fun _ i _ => k - (Go.RowKit.intOf i).toNat)
  case atStart => exact ⟨0, 0, Nat.zero_le _, rfl, rfl, rfl, by simp, fun i hi => by omega, rfl⟩
  case round =>
    obtain ⟨j, v, hj, rfl, rfl, hv, hv2, hd, rfl⟩ := hrel
    have HVV := Lib.hid hv
    have HD := Lib.hid hd
    clear hv hd
    by_cases hlt : j < k
    · have hjs : (j : Int) < (s.size : Int) := by omega
      have hx := byteAt_eq s j (by omega)
      obtain ⟨x, hxx⟩ : ∃ x, byteAt s j = x := ⟨_, rfl⟩
      rw [hxx] at hx
      have HX := Lib.hid hxx
      clear hxx
      have hx' := hx.symm
      have hpv : v ≤ 1000000 := by
        have : 10 ^ j ≤ 10 ^ 6 := Nat.pow_le_pow_right (by omega) (by omega)
        omega
      clear hx
      by_cases c1 : (x : Int) < 48
      · have HR : Hid (parseR s = (0, 5)) := parse_not hk fun t h => by have := (h.d j hlt).1; rw [HX.out] at this; omega
        go_wp2_with fail
        go_ret2
        rw [HR.out]
        exact ⟨rfl, Below.refl _ _⟩
      by_cases c2 : 57 < (x : Int)
      · have HR : Hid (parseR s = (0, 5)) := parse_not hk fun t h => by have := (h.d j hlt).2; rw [HX.out] at this; omega
        go_wp2_with fail
        go_ret2
        rw [HR.out]
        exact ⟨rfl, Below.refl _ _⟩
      have HN : Hid (10 * v + (x - 48) = valL (s.data.toList.take (j + 1))) := by
        show _ = _
        have hjl : j < s.data.toList.length := by have : s.data.toList.length = s.size := by simp
                                                  omega
        rw [List.take_succ_eq_append_getElem hjl, valL_snoc, ← HVV.out]
        have : byteAt s j = (s.data.toList[j]).toNat := by unfold byteAt; rw [List.getElem?_eq_getElem hjl]; rfl
        rw [← this, HX.out]
      have HN2 : Hid (10 * v + (x - 48) < 10 ^ (j + 1)) := by
        show _ < _
        rw [Nat.pow_succ]
        omega
      have HN3 : Hid (∀ i, i < j + 1 → isD (byteAt s i)) := by
        show ∀ i, _
        intro i hi
        rcases Nat.lt_or_ge i j with h | h
        · exact HD.out i h
        · obtain rfl : i = j := by omega
          rw [HX.out]; unfold isD; omega
      clear hv2
      have hxn : ((x : Int) - 48) = ((x - 48 : Nat) : Int) := by omega
      go_wp2_with fail
      go_roundw
      case rel => exact ⟨j + 1, 10 * v + (x - 48), by omega, by go_num, by go_num, HN.out, HN2.out, HN3.out, by first | rfl | trivial⟩
      case measure => simp [Go.RowKit.intOf]; omega
    · obtain rfl : j = k := by omega
      have hdl : v < 1000000 := by
        have : 10 ^ j ≤ 10 ^ 6 := Nat.pow_le_pow_right (by omega) (by omega)
        omega
      clear hv2 hlt hj
      go_wp2_with fail
      go_loopw [7] (fun i wx => ∃ m : Nat, 1 ≤ m ∧ m ≤ 6 ∧ i = .int .i64 m ∧ (∀ i, 1 ≤ i → i < m → i ≠ 3 → isD (byteAt s (j + i))) ∧ wx = wr) (fun i _ => 6 - (Go.RowKit.intOf i).toNat)
      case atStart => exact ⟨1, by omega, by omega, rfl, fun i h1 h2 => by omega, rfl⟩
      case round =>
        obtain ⟨m, hm1, hm6, rfl, hdm, rfl⟩ := hrel
        have HM := Lib.hid hdm
        clear hdm
        by_cases hlt : m < 6
        · by_cases h3 : m = 3
          · subst h3
            have HN3 : Hid (∀ i, 1 ≤ i → i < 3 + 1 → i ≠ 3 → isD (byteAt s (j + i))) := by
              show ∀ i, _
              intro i h1 h2 h3
              exact HM.out i h1 (by omega) h3
            go_wp2_with fail
            go_roundw
            case rel => exact ⟨4, by omega, by omega, rfl, HN3.out, by first | rfl | trivial⟩
            case measure => simp [Go.RowKit.intOf]
          · have h3a : ((m : Int) == 3) = false := by have : (m : Int) ≠ 3 := by omega
                                                      simp [this]
            have h3b : ((m : Int) != 3) = true := by have : (m : Int) ≠ 3 := by omega
                                                     simp [this]
            have hx := byteAt_eq s (j + m) (by omega)
            obtain ⟨x, hxx⟩ : ∃ x, byteAt s (j + m) = x := ⟨_, rfl⟩
            rw [hxx] at hx
            have HX := Lib.hid hxx
            clear hxx
            have hx' := hx.symm
            clear hx
            have hjm : (j : Int) + (m : Int) < (s.size : Int) := by omega
            have HBADX : Hid (¬ isD x → parseR s = (0, 5)) := by
              show _ → _
              intro hn
              refine parse_not hk fun t h => hn ?_
              rw [← HX.out]
              have hmm : m = 1 ∨ m = 2 ∨ m = 4 ∨ m = 5 := by omega
              rcases hmm with rfl | rfl | rfl | rfl
              · exact h.e1
              · exact h.e2
              · exact h.e4
              · exact h.e5
            by_cases c1 : (x : Int) < 48
            · have HR : Hid (parseR s = (0, 5)) := HBADX.out fun h => by unfold isD at h; omega
              go_wp2_with fail
              go_ret2
              rw [HR.out]
              exact ⟨rfl, Below.refl _ _⟩
            by_cases c2 : 57 < (x : Int)
            · have HR : Hid (parseR s = (0, 5)) := HBADX.out fun h => by unfold isD at h; omega
              go_wp2_with fail
              go_ret2
              rw [HR.out]
              exact ⟨rfl, Below.refl _ _⟩
            have HN3 : Hid (∀ i, 1 ≤ i → i < m + 1 → i ≠ 3 → isD (byteAt s (j + i))) := by
              show ∀ i, _
              intro i h1 h2 h3
              rcases Nat.lt_or_ge i m with h | h
              · exact HM.out i h1 h h3
              · obtain rfl : i = m := by omega
                rw [HX.out]; unfold isD; omega
            go_wp2_with fail
            go_roundw
            case rel => exact ⟨m + 1, by omega, by omega, by go_num, HN3.out, by first | rfl | trivial⟩
            case measure => simp [Go.RowKit.intOf]; omega
        · obtain rfl : m = 6 := by omega
          have b1 := HM.out 1 (by omega) (by omega) (by omega)
          have b2 := HM.out 2 (by omega) (by omega) (by omega)
          have b4 := HM.out 4 (by omega) (by omega) (by omega)
          have b5 := HM.out 5 (by omega) (by omega) (by omega)
          have q1 := (byteAt_eq s (j + 1) (by omega)).symm
          have q2 := (byteAt_eq s (j + 2) (by omega)).symm
          have q4 := (byteAt_eq s (j + 4) (by omega)).symm
          have q5 := (byteAt_eq s (j + 5) (by omega)).symm
          have HPA := Lib.hid (fun t (h : ∀ u, Shape s j u → u = t) => parse_at hk t h)
          have HSV : Hid (∀ u, Shape s j u → u = v * 1440 + 60 * (10 * (byteAt s (j + 1) - 48) + (byteAt s (j + 2) - 48)) + 10 * (byteAt s (j + 4) - 48) + (byteAt s (j + 5) - 48)) := by
            show ∀ u, _
            intro u h
            rw [HVV.out]
            exact h.v
          generalize byteAt s (j + 1) = x1 at b1 q1 HSV
          generalize byteAt s (j + 2) = x2 at b2 q2 HSV
          generalize byteAt s (j + 4) = x4 at b4 q4 HSV
          generalize byteAt s (j + 5) = x5 at b5 q5 HSV
          have HP := Lib.hid (HPA.out _ HSV.out)
          obtain ⟨b10, b11⟩ := b1
          obtain ⟨b20, b21⟩ := b2
          obtain ⟨b40, b41⟩ := b4
          obtain ⟨b50, b51⟩ := b5
          clear hlt
          have l1 : (j : Int) + 1 < (s.size : Int) := by omega
          have l2 : (j : Int) + 2 < (s.size : Int) := by omega
          have l4 : (j : Int) + 4 < (s.size : Int) := by omega
          have l5 : (j : Int) + 5 < (s.size : Int) := by omega
          have w1 : IntKind.i64.wrap ((j : Int) + 1) = (j : Int) + 1 := IntWalk.i64_in _ (by omega)
          have z1 : (0 : Int) ≤ (j : Int) + 1 := by omega
          have n1 : ((j : Int) + 1).toNat = j + 1 := by omega
          have u1u : IntKind.u8.wrap ((x1 : Int) - 48) = (x1 : Int) - 48 := IntWalk.u8_in _ (by omega)
          have i1i : IntKind.i64.wrap ((x1 : Int) - 48) = (x1 : Int) - 48 := IntWalk.i64_in _ (by omega)
          have w2 : IntKind.i64.wrap ((j : Int) + 2) = (j : Int) + 2 := IntWalk.i64_in _ (by omega)
          have z2 : (0 : Int) ≤ (j : Int) + 2 := by omega
          have n2 : ((j : Int) + 2).toNat = j + 2 := by omega
          have u2u : IntKind.u8.wrap ((x2 : Int) - 48) = (x2 : Int) - 48 := IntWalk.u8_in _ (by omega)
          have i2i : IntKind.i64.wrap ((x2 : Int) - 48) = (x2 : Int) - 48 := IntWalk.i64_in _ (by omega)
          have w4 : IntKind.i64.wrap ((j : Int) + 4) = (j : Int) + 4 := IntWalk.i64_in _ (by omega)
          have z4 : (0 : Int) ≤ (j : Int) + 4 := by omega
          have n4 : ((j : Int) + 4).toNat = j + 4 := by omega
          have u4u : IntKind.u8.wrap ((x4 : Int) - 48) = (x4 : Int) - 48 := IntWalk.u8_in _ (by omega)
          have i4i : IntKind.i64.wrap ((x4 : Int) - 48) = (x4 : Int) - 48 := IntWalk.i64_in _ (by omega)
          have w5 : IntKind.i64.wrap ((j : Int) + 5) = (j : Int) + 5 := IntWalk.i64_in _ (by omega)
          have z5 : (0 : Int) ≤ (j : Int) + 5 := by omega
          have n5 : ((j : Int) + 5).toNat = j + 5 := by omega
          have u5u : IntKind.u8.wrap ((x5 : Int) - 48) = (x5 : Int) - 48 := IntWalk.u8_in _ (by omega)
          have i5i : IntKind.i64.wrap ((x5 : Int) - 48) = (x5 : Int) - 48 := IntWalk.i64_in _ (by omega)
          have m1 : IntKind.i64.wrap ((v : Int) * 1440) = (v : Int) * 1440 := IntWalk.i64_in _ (by omega)
          have m2 : IntKind.i64.wrap (10 * ((x1 : Int) - 48)) = 10 * ((x1 : Int) - 48) := IntWalk.i64_in _ (by omega)
          have m3 : IntKind.i64.wrap (10 * ((x1 : Int) - 48) + ((x2 : Int) - 48)) = 10 * ((x1 : Int) - 48) + ((x2 : Int) - 48) := IntWalk.i64_in _ (by omega)
          have m4 : IntKind.i64.wrap (60 * (10 * ((x1 : Int) - 48) + ((x2 : Int) - 48))) = 60 * (10 * ((x1 : Int) - 48) + ((x2 : Int) - 48)) := IntWalk.i64_in _ (by omega)
          have m5 : IntKind.i64.wrap ((v : Int) * 1440 + 60 * (10 * ((x1 : Int) - 48) + ((x2 : Int) - 48))) = (v : Int) * 1440 + 60 * (10 * ((x1 : Int) - 48) + ((x2 : Int) - 48)) := IntWalk.i64_in _ (by omega)
          have m6 : IntKind.i64.wrap (10 * ((x4 : Int) - 48)) = 10 * ((x4 : Int) - 48) := IntWalk.i64_in _ (by omega)
          have m7 : IntKind.i64.wrap ((v : Int) * 1440 + 60 * (10 * ((x1 : Int) - 48) + ((x2 : Int) - 48)) + 10 * ((x4 : Int) - 48)) = (v : Int) * 1440 + 60 * (10 * ((x1 : Int) - 48) + ((x2 : Int) - 48)) + 10 * ((x4 : Int) - 48) := IntWalk.i64_in _ (by omega)
          have m8 : IntKind.i64.wrap ((v : Int) * 1440 + 60 * (10 * ((x1 : Int) - 48) + ((x2 : Int) - 48)) + 10 * ((x4 : Int) - 48) + ((x5 : Int) - 48)) = (v : Int) * 1440 + 60 * (10 * ((x1 : Int) - 48) + ((x2 : Int) - 48)) + 10 * ((x4 : Int) - 48) + ((x5 : Int) - 48) := IntWalk.i64_in _ (by omega)
          go_wp2_with fail
          go_quiet (fail)
          obtain ⟨T, hT⟩ : ∃ T : Int, (v : Int) * 1440 + 60 * (10 * ((x1 : Int) - 48) + ((x2 : Int) - 48)) + 10 * ((x4 : Int) - 48) + ((x5 : Int) - 48) = T := ⟨_, rfl⟩
          have hTn : ((v * 1440 + 60 * (10 * (x1 - 48) + (x2 - 48)) + 10 * (x4 - 48) + (x5 - 48) : Nat) : Int) = T := by omega
          have HR := Lib.hid HP.out
          rw [hTn] at HR
          simp only [hT]
          clear hT hTn m1 m2 m3 m4 m5 m6 m7 m8 u1u u2u u4u u5u i1i i2i i4i i5i w1 w2 w4 w5 z1 z2 z4 z5 n1 n2 n4 n5 q1 q2 q4 q5 l1 l2 l4 l5 HP
          have hB0 : Below wr.heap.size wr (wr.drewN nq) := ⟨rfl, rfl, rfl, Nat.le_refl _, fun _ _ => rfl⟩
          have HB0 := Lib.hid hB0
          clear hB0
          go_wp2_with fail
          refine (rtext_calls _ T).mono ?_
          rintro e w5 ⟨rfl, hb5⟩
          have HB5 := Lib.hid (HB0.out.trans (hb5.mono (Nat.le_refl _)))
          clear hb5
          obtain ⟨ts, hts⟩ : ∃ x, textR T = x := ⟨_, rfl⟩
          rw [hts] at HR
          simp only [hts]
          clear hts
          obtain ⟨tt, te⟩ := ts
          by_cases h0 : te = 0
          · subst h0
            by_cases ht : tt = s
            · subst ht
              have HR2 := Lib.hid (HR.out.trans (if_pos rfl))
              go_wp2_with fail
              go_ret2
              rw [HR2.out]
              exact ⟨rfl, HB5.out⟩
            · have HR2 := Lib.hid (HR.out.trans (if_neg (fun e => ht (by injection e))))
              have ht' : (tt.toList == s.toList) = false := beq_eq_false_iff_ne.2 fun e => ht (WideShapes.bytes_inj (by rwa [ByteArray.toList_eq, ByteArray.toList_eq] at e))
              clear ht
              go_wp2_with fail
              go_ret2
              rw [HR2.out]
              exact ⟨rfl, HB5.out⟩
          · have HR2 := Lib.hid (HR.out.trans (if_neg (fun e => h0 (by injection e))))
            have h0' : (te == 0) = false := by simp [h0]
            have h0'' : (te != 0) = true := by simp [h0]
            go_wp2_with fail
            go_ret2
            rw [HR2.out]
            exact ⟨rfl, HB5.out⟩
end Go.Proofs.YtgjombfcldihhaaDoor
