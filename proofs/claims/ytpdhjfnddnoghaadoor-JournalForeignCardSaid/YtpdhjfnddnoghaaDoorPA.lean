/- Plain laws of the journal's numerals, seals and heads. No program is in sight here.
   Conditions: none. -/
import Derived.Test.YtpdhjfnddnoghaaDoorJR
namespace Go.Proofs.YtpdhjfnddnoghaaDoor
open Go.RowKit Go.Lib
set_option linter.unusedVariables false
set_option linter.unusedSimpArgs false

/-! ### numerals -/
def IsDig (c : UInt8) : Prop := 48 ≤ c.toNat ∧ c.toNat ≤ 57
def valN (acc : Nat) (l : List UInt8) : Nat := l.foldl (fun a c => a * 10 + (c.toNat - 48)) acc
theorem dig_toNat {d : Nat} (h : d < 10) : (UInt8.ofNat (48 + d)).toNat = 48 + d := by
  rw [UInt8.toNat_ofNat']; omega
theorem valN_app (acc : Nat) (a b : List UInt8) : valN acc (a ++ b) = valN (valN acc a) b := by unfold valN; rw [List.foldl_append]
theorem valN_ge : ∀ (l : List UInt8) (acc : Nat), acc ≤ valN acc l := by
  intro l
  induction l with
  | nil => intro acc; exact Nat.le_refl _
  | cons c l ih =>
    intro acc
    have := ih (acc * 10 + (c.toNat - 48))
    show acc ≤ valN (acc * 10 + (c.toNat - 48)) l
    omega
theorem parse10_val : ∀ (l : List UInt8) (acc : Nat), (∀ c ∈ l, IsDig c) → valN acc l < 1000000000000000000 → parseUint10 acc l = .ok (valN acc l) := by
  intro l
  induction l with
  | nil => intro acc _ _; rfl
  | cons c l ih =>
    intro acc hd hv
    have h1 : 48 ≤ c.toNat ∧ c.toNat ≤ 57 := hd c (by simp)
    have h2 := valN_ge l (acc * 10 + (c.toNat - 48))
    have h3 : valN acc (c :: l) = valN (acc * 10 + (c.toNat - 48)) l := rfl
    rw [h3] at hv ⊢
    rw [parseUint10, if_pos h1, if_neg (by omega), if_neg (by omega)]
    exact ih _ (fun x hx => hd x (by simp [hx])) hv
theorem dec_dig : ∀ (u : Nat), ∀ c ∈ decDigits u, IsDig c := by
  intro u
  induction u using Nat.strongRecOn with
  | _ u ih =>
    intro c hc
    by_cases h : u < 10
    · rw [decDigits_one h] at hc
      rw [List.mem_singleton.1 hc]
      unfold IsDig
      rw [dig_toNat h]; omega
    · rw [decDigits, dif_neg h, List.mem_append] at hc
      rcases hc with hc | hc
      · exact ih (u / 10) (by omega) c hc
      · rw [List.mem_singleton.1 hc]
        unfold IsDig
        rw [dig_toNat (Nat.mod_lt _ (by omega))]; omega
theorem valN_dec : ∀ (u : Nat), valN 0 (decDigits u) = u := by
  intro u
  induction u using Nat.strongRecOn with
  | _ u ih =>
    by_cases h : u < 10
    · rw [decDigits_one h]
      show 0 * 10 + ((UInt8.ofNat (48 + u)).toNat - 48) = u
      rw [dig_toNat h]; omega
    · rw [decDigits, dif_neg h, valN_app, ih (u / 10) (by omega)]
      show u / 10 * 10 + ((UInt8.ofNat (48 + u % 10)).toNat - 48) = u
      rw [dig_toNat (Nat.mod_lt _ (by omega))]; omega
theorem valN_zeros (k : Nat) (l : List UInt8) : valN 0 (List.replicate k 48 ++ l) = valN 0 l := by
  induction k with
  | zero => rfl
  | succ k ih => rw [List.replicate_succ, List.cons_append]; exact ih
theorem atoi_num {l : List UInt8} (hne : l ≠ []) (hd : ∀ c ∈ l, IsDig c) (hv : valN 0 l < 1000000000000000000) : atoiAll l = .ok (valN 0 l : Int) := by
  match l, hne with
  | c :: r, _ =>
    have h1 := hd c (by simp)
    unfold IsDig at h1
    unfold atoiAll
    simp only
    rw [if_neg (show ¬ (c.toNat = 43 ∨ c.toNat = 45) by omega)]
    unfold parseMag
    rw [if_neg (by simp), parse10_val _ _ hd hv]
    simp only
    rw [if_neg (by omega), if_neg (by omega), if_neg (by omega)]
theorem dec_ne (u : Nat) : decDigits u ≠ [] := by
  intro h
  have := decDigits_length u
  have h2 := nDigits_pos u
  rw [h] at this
  simp at this
  omega
theorem digL_dig (n w : Nat) : ∀ c ∈ digL n w, IsDig c := by
  intro c hc
  unfold digL at hc
  rw [List.mem_append] at hc
  rcases hc with hc | hc
  · rw [(List.mem_replicate.1 hc).2]; unfold IsDig; decide
  · exact dec_dig n c hc
theorem digL_val (n w : Nat) : valN 0 (digL n w) = n := by unfold digL; rw [valN_zeros, valN_dec]
theorem digL_ne (n w : Nat) : digL n w ≠ [] := by
  unfold digL
  intro h
  exact dec_ne n (List.append_eq_nil_iff.1 h).2
theorem atoi_digL (n w : Nat) (hn : n < 1000000000000000000) : atoiAll (digL n w) = .ok (n : Int) := by
  rw [atoi_num (digL_ne n w) (digL_dig n w) (by rw [digL_val]; exact hn), digL_val]
theorem digL_inj {n m w : Nat} (h : digL n w = digL m w) : n = m := by rw [← digL_val n w, h, digL_val]
theorem dec_len_le : ∀ (k u : Nat), 1 ≤ k → u < 10 ^ k → (decDigits u).length ≤ k := by
  intro k
  induction k with
  | zero => intro u h; omega
  | succ k ih =>
    intro u _ h
    by_cases h1 : u < 10
    · rw [decDigits_one h1]; simp
    · rw [decDigits, dif_neg h1, List.length_append]
      rcases Nat.eq_zero_or_pos k with h2 | h2
      · subst h2; simp at h; omega
      · have := ih (u / 10) h2 (by rw [Nat.pow_succ] at h; omega)
        simp
        omega
theorem digL_len (n w : Nat) (hw : 1 ≤ w) (h : n < 10 ^ w) : (digL n w).length = w := by
  have := dec_len_le w n hw h
  unfold digL
  rw [List.length_append, List.length_replicate]
  omega
theorem digB_list (n w : Nat) : (digB n w).data.toList = digL n w := by unfold digB bytesB; simp
theorem bytesB_list (l : List UInt8) : (bytesB l).data.toList = l := by unfold bytesB; simp
theorem bytesB_of (s : ByteArray) : bytesB s.data.toList = s := bytes_ext (bytesB_list _)
theorem bytesB_inj {a b : List UInt8} (h : bytesB a = bytesB b) : a = b := by rw [← bytesB_list a, h, bytesB_list]
theorem app_list (a b : ByteArray) : (a ++ b).data.toList = a.data.toList ++ b.data.toList := by
  have h := bytesB_app a.data.toList b.data.toList
  rw [bytesB_of, bytesB_of] at h
  rw [h, bytesB_list]

/-! ### seals -/
def SealedL (p : Nat) (l : List UInt8) : Prop := l.length = 64 ∧ l.take 16 = hexW 16 (stateN (digL p 8 ++ l.drop 16))
def sealL (p : Nat) (c : List UInt8) : List UInt8 := hexW 16 (stateN (digL p 8 ++ padTo 48 c)) ++ padTo 48 c
theorem sealB_list (p : Nat) (c : ByteArray) : (sealB p c).data.toList = sealL p c.data.toList := by
  unfold sealB sealL padB
  rw [app_list, bytesB_list]
  have e : (digB p 8 ++ bytesB (padTo 48 c.data.toList)).data.toList = digL p 8 ++ padTo 48 c.data.toList := by rw [app_list, bytesB_list, digB_list]
  show ((hexW 16 (stateN (digB p 8 ++ bytesB (padTo 48 c.data.toList)).data.toList)).toArray).toList ++ _ = _
  rw [List.toList_toArray, e]
theorem sealL_sealed (p : Nat) (c : List UInt8) : SealedL p (sealL p c) := by
  unfold SealedL sealL
  refine ⟨by rw [List.length_append, hexW_length, padTo_length], ?_⟩
  rw [List.take_left' (hexW_length _ _), List.drop_left' (hexW_length _ _)]
theorem sealed_same {p : Nat} {l m : List UInt8} (hl : SealedL p l) (hm : SealedL p m) (h : l.drop 16 = m.drop 16) : l = m := by
  rw [← List.take_append_drop 16 l, ← List.take_append_drop 16 m, hl.2, hm.2, h]
theorem pad8_eq {a b : List UInt8} (hl : a.length = b.length) (h : ∀ i, i < 8 → a[i]? = b[i]?) : padTo 8 a = padTo 8 b := by
  unfold padTo
  rw [hl]
  congr 1
  apply List.ext_getElem?
  intro i
  rw [List.getElem?_take, List.getElem?_take]
  split
  · exact h i (by assumption)
  · rfl
theorem pad8_out {a b : List UInt8} (hl : a.length = b.length) (h : padTo 8 a = padTo 8 b) (i : Nat) (hi : i < 8) : a[i]? = b[i]? := by
  unfold padTo at h
  rw [hl] at h
  have := List.append_cancel_right h
  have h2 := congrArg (fun l : List UInt8 => l[i]?) this
  simp only [List.getElem?_take, if_pos hi] at h2
  exact h2
theorem drop_app {D L : List UInt8} (hD : D.length = 8) (i : Nat) : (D ++ L).drop (8 * (i + 1)) = L.drop (8 * i) := by
  rw [List.drop_append, hD, List.drop_of_length_le (by omega), List.nil_append, show 8 * (i + 1) - 8 = 8 * i by omega]
/-- texts that are sealed alike, and differ in one block of the content alone, are one -/
theorem sealed_block {p : Nat} (hp : p < 100000000) {l m : List UInt8} (hl : SealedL p l) (hm : SealedL p m) (ht : l.take 16 = m.take 16) (j : Nat) (hj : j < 6)
    (h : ∀ i, i < 48 → i / 8 ≠ j → (l.drop 16)[i]? = (m.drop 16)[i]?) : l = m := by
  refine sealed_same hl hm ?_
  have hD : (digL p 8).length = 8 := digL_len p 8 (by omega) (by omega)
  have e := (hl.2.symm.trans ht).trans hm.2
  have lL : (l.drop 16).length = 48 := by rw [List.length_drop, hl.1]
  have lM : (m.drop 16).length = 48 := by rw [List.length_drop, hm.1]
  generalize l.drop 16 = L at *
  generalize m.drop 16 = M at *
  have lA : (digL p 8 ++ L).length = 56 := by rw [List.length_append]; omega
  have lB : (digL p 8 ++ M).length = 56 := by rw [List.length_append]; omega
  have hs := hexW_inj 16 _ _ (stateN_lt (by omega)) (stateN_lt (by omega)) e
  unfold stateN at hs
  rw [lA, lB] at hs
  have hb := state_block (S := 2611923443488327891 ^^^ 56) (by decide) (s := digL p 8 ++ L) (t := digL p 8 ++ M) (j + 1) 8 (by omega) (fun i hi hij => ?_) hs
  · rw [drop_app hD, drop_app hD] at hb
    apply List.ext_getElem?
    intro i
    by_cases hi : i < 48
    · by_cases hij : i / 8 = j
      · have := pad8_out (by rw [List.length_drop, List.length_drop, lL, lM]) hb (i - 8 * j) (by omega)
        rw [List.getElem?_drop, List.getElem?_drop, show 8 * j + (i - 8 * j) = i by omega] at this
        exact this
      · exact h i hi hij
    · rw [List.getElem?_eq_none (by omega), List.getElem?_eq_none (by omega)]
  · cases i with
    | zero =>
      rw [Nat.mul_zero, List.drop_zero, List.drop_zero]
      refine pad8_eq (by omega) fun i hi => ?_
      rw [List.getElem?_append_left (by omega), List.getElem?_append_left (by omega)]
    | succ i =>
      rw [drop_app hD, drop_app hD]
      refine pad8_eq (by rw [List.length_drop, List.length_drop, lL, lM]) fun k hk => ?_
      rw [List.getElem?_drop, List.getElem?_drop]
      by_cases h48 : 8 * i + k < 48
      · exact h _ h48 (by omega)
      · rw [List.getElem?_eq_none (by omega), List.getElem?_eq_none (by omega)]
theorem xor_ne (b : UInt8) (m : Nat) (h0 : 0 < m) (h1 : m < 256) : b ^^^ UInt8.ofNat m ≠ b := by
  intro h
  have h2 : (UInt8.ofNat m) = 0 := by
    have h3 : b ^^^ (b ^^^ UInt8.ofNat m) = b ^^^ b := by rw [h]
    rw [← UInt8.xor_assoc, UInt8.xor_self, UInt8.zero_xor] at h3
    exact h3
  have h4 := congrArg UInt8.toNat h2
  rw [UInt8.toNat_ofNat'] at h4
  simp at h4
  omega
def flipL (l : List UInt8) (a m : Nat) : List UInt8 := l.modify a (· ^^^ UInt8.ofNat m)
theorem flipAt_list (s : ByteArray) (a m : Nat) : (flipAt s a m).data.toList = flipL s.data.toList a m := by unfold flipAt flipL; simp
theorem flipL_at (l : List UInt8) (a m i : Nat) (h : i ≠ a) : (flipL l a m)[i]? = l[i]? := by
  unfold flipL
  rw [List.getElem?_modify]
  split
  · omega
  · cases l[i]? <;> rfl
theorem flipL_ne {l : List UInt8} {a m : Nat} (ha : a < l.length) (h0 : 0 < m) (h1 : m < 256) : flipL l a m ≠ l := by
  intro h
  have := congrArg (fun x : List UInt8 => x[a]?) h
  unfold flipL at this
  simp only [List.getElem?_modify, List.getElem?_eq_getElem ha, if_true, Option.map_eq_map, Option.map_some, Option.some.injEq] at this
  exact xor_ne _ m h0 h1 this
theorem flipL_len (l : List UInt8) (a m : Nat) : (flipL l a m).length = l.length := by unfold flipL; simp
/-- a sealed text with one byte turned is not sealed -/
theorem flip_sealed {p : Nat} (hp : p < 100000000) {l : List UInt8} (hl : SealedL p l) {a m : Nat} (ha : a < 64) (h0 : 0 < m) (h1 : m < 256) : ¬ SealedL p (flipL l a m) := by
  intro hs
  refine flipL_ne (by rw [hl.1]; exact ha) h0 h1 (?_ : flipL l a m = l)
  by_cases h16 : a < 16
  · refine sealed_same hs hl ?_
    apply List.ext_getElem?
    intro i
    rw [List.getElem?_drop, List.getElem?_drop, flipL_at _ _ _ _ (by omega)]
  · refine sealed_block hp hs hl ?_ ((a - 16) / 8) (by omega) fun i hi hij => ?_
    · apply List.ext_getElem?
      intro i
      rw [List.getElem?_take, List.getElem?_take]
      split
      · rw [flipL_at _ _ _ _ (by omega)]
      · rfl
    · rw [List.getElem?_drop, List.getElem?_drop, flipL_at _ _ _ _ (by omega)]

/-! ### heads -/
def headL (p n : Nat) : List UInt8 := sealL p (digL n 8)
theorem headB_list (p n : Nat) : (headB p n).data.toList = headL p n := by unfold headB headL; rw [sealB_list, digB_list]
theorem pad48 (c : List UInt8) (h : c.length ≤ 48) : padTo 48 c = c ++ List.replicate (48 - c.length) 0 := by
  unfold padTo
  rw [List.take_of_length_le h]
theorem headL_eq {p n : Nat} (hn : n < 100000000) : headL p n = hexW 16 (stateN (digL p 8 ++ (digL n 8 ++ List.replicate 40 0))) ++ (digL n 8 ++ List.replicate 40 0) := by
  have h8 : (digL n 8).length = 8 := digL_len n 8 (by omega) (by omega)
  unfold headL sealL
  rw [pad48 _ (by omega), h8]
theorem headL_len (p n : Nat) : (headL p n).length = 64 := (sealL_sealed p _).1
theorem headL_sealed (p n : Nat) : SealedL p (headL p n) := sealL_sealed p _
theorem headL_drop {p n : Nat} (hn : n < 100000000) : (headL p n).drop 16 = digL n 8 ++ List.replicate 40 0 := by
  rw [headL_eq hn, List.drop_left' (hexW_length _ _)]
theorem hexD_nz (d : Nat) (h : d < 16) : hexD d ≠ 0 := by
  have : ∀ d : Fin 16, hexD d.val ≠ 0 := by decide
  exact this ⟨d, h⟩
theorem hexW_nz (w n : Nat) : ∀ c ∈ hexW w n, c ≠ 0 := by
  intro c hc
  unfold hexW at hc
  obtain ⟨i, _, rfl⟩ := List.mem_map.1 hc
  exact hexD_nz _ (Nat.mod_lt _ (by omega))
theorem headL_nz {p n : Nat} (hn : n < 100000000) (i : Nat) (hi : i < 24) : (headL p n)[i]? ≠ some 0 := by
  have h8 : (digL n 8).length = 8 := digL_len n 8 (by omega) (by omega)
  rw [headL_eq hn]
  by_cases h : i < 16
  · rw [List.getElem?_append_left (by rw [hexW_length]; exact h)]
    intro e
    exact hexW_nz _ _ _ (List.mem_of_getElem? e) rfl
  · rw [List.getElem?_append_right (by rw [hexW_length]; omega), hexW_length, List.getElem?_append_left (by omega)]
    intro e
    have := digL_dig n 8 _ (List.mem_of_getElem? e)
    unfold IsDig at this
    simp at this
theorem zeroB_list : zeroB.data.toList = List.replicate 64 0 := by unfold zeroB; simp
theorem zeroL_at (i : Nat) (h : i < 64) : (List.replicate 64 (0 : UInt8))[i]? = some 0 := by rw [List.getElem?_replicate, if_pos h]
theorem headB_ne_zero {p n : Nat} (hn : n < 100000000) : headB p n ≠ zeroB := by
  intro h
  have := congrArg (fun s : ByteArray => s.data.toList) h
  simp only [headB_list, zeroB_list] at this
  have h2 := headL_nz (p := p) hn 0 (by omega)
  rw [this] at h2
  exact h2 (zeroL_at 0 (by omega))
theorem headB_num {p n : Nat} (hn : n < 100000000) : (headB p n).extract 16 24 = digB n 8 := by
  have h8 : (digL n 8).length = 8 := digL_len n 8 (by omega) (by omega)
  refine bytes_ext ?_
  rw [extract_list, headB_list, headL_drop hn, digB_list, List.take_append_of_le_length (by omega), List.take_of_length_le (by omega)]
theorem headB_inj {p n m : Nat} (hn : n < 100000000) (hm : m < 100000000) (h : headB p n = headB p m) : n = m := by
  have h1 := headB_num (p := p) hn
  rw [h, headB_num hm] at h1
  have h2 := congrArg (fun s : ByteArray => s.data.toList) h1
  simp only [digB_list] at h2
  exact (digL_inj h2).symm
theorem countB_zero (p room : Nat) : countB p zeroB room = 0 := by unfold countB; rw [if_pos rfl]
theorem countB_head {p n room : Nat} (hn : n ≤ room) (hr : room < 100000000) : countB p (headB p n) room = n := by
  unfold countB
  rw [if_neg (headB_ne_zero (by omega)), headB_num (by omega)]
  unfold atoiR
  rw [digB_list, atoi_digL n 8 (by omega)]
  show (if 0 ≤ (n : Int) ∧ (n : Int) ≤ (room : Int) ∧ headB p (n : Int).toNat = headB p n then (n : Int) else -1) = n
  rw [if_pos ⟨by omega, by omega, by rw [Int.toNat_natCast]⟩]
/-- a head that is valid -/
theorem countB_cases (p : Nat) (s : ByteArray) (room : Nat) : countB p s room = -1 ∨ (s = zeroB ∧ countB p s room = 0) ∨ ∃ n, n ≤ room ∧ s = headB p n ∧ countB p s room = n := by
  unfold countB
  split
  · exact .inr (.inl ⟨by assumption, rfl⟩)
  · split
    · rename_i n hn
      split
      · rename_i hc
        exact .inr (.inr ⟨n.toNat, by omega, hc.2.2.symm, by omega⟩)
      · exact .inl rfl
    · exact .inl rfl
theorem list_of_eq {s : ByteArray} {l : List UInt8} (h : s.data.toList = l) : s = bytesB l := bytes_ext (by rw [h, bytesB_list])
/-- an old head, or none -/
def OldHead (p : Nat) (old : ByteArray) (a : Nat) : Prop := old = headB p a ∨ (a = 0 ∧ old = zeroB)
theorem oldHead_drop {p a : Nat} {old : ByteArray} (ha : a < 100000000) (h : OldHead p old a) : old.data.toList.length = 64 ∧ old.data.toList.drop 24 = List.replicate 40 0 := by
  have h8 : (digL a 8).length = 8 := digL_len a 8 (by omega) (by omega)
  rcases h with rfl | ⟨_, rfl⟩
  · rw [headB_list]
    refine ⟨headL_len p a, ?_⟩
    rw [show (24 : Nat) = 16 + 8 from rfl, ← List.drop_drop, headL_drop ha, List.drop_left' h8]
  · rw [zeroB_list, List.drop_replicate]
    exact ⟨by simp, rfl⟩
theorem tear_list (old new : ByteArray) (t : Nat) : (tear old new t).data.toList = new.data.toList.take t ++ old.data.toList.drop t := by unfold tear; simp
/-- a head that is torn over an older one: the older one, the new one, or none -/
theorem tear_head {p a b : Nat} (hp : p < 100000000) (ha : a < 100000000) (hb : b < 100000000) {old : ByteArray} (ho : OldHead p old a) (t : Nat) (room : Nat) (hr : room < 100000000) :
    tear old (headB p b) t = old ∨ tear old (headB p b) t = headB p b ∨ countB p (tear old (headB p b) t) room = -1 := by
  obtain ⟨l64, d24⟩ := oldHead_drop ha ho
  have hbl := headL_len p b
  have hb8 : (digL b 8).length = 8 := digL_len b 8 (by omega) (by omega)
  have hbd : (headL p b).drop 24 = List.replicate 40 0 := by
    rw [show (24 : Nat) = 16 + 8 from rfl, ← List.drop_drop, headL_drop hb, List.drop_left' hb8]
  rcases Nat.eq_zero_or_pos t with h0 | h0
  · left; subst h0; exact tear_none _ _
  have hlist := tear_list old (headB p b) t
  rw [headB_list] at hlist
  by_cases h24 : 24 ≤ t
  · right; left
    refine bytes_ext ?_
    rw [hlist, headB_list]
    apply List.ext_getElem?
    intro i
    by_cases hi : i < t
    · by_cases hi2 : i < 64
      · rw [List.getElem?_append_left (by rw [List.length_take]; omega), List.getElem?_take, if_pos hi]
      · rw [List.getElem?_eq_none (by rw [List.length_append, List.length_take, List.length_drop]; omega), List.getElem?_eq_none (by omega)]
    · by_cases ht64 : t ≤ 64
      · rw [List.getElem?_append_right (by rw [List.length_take]; omega), List.length_take, Nat.min_eq_left (by omega), List.getElem?_drop, show t + (i - t) = 24 + (i - 24) by omega, ← List.getElem?_drop, d24, ← hbd, List.getElem?_drop, show 24 + (i - 24) = i by omega]
      · rw [List.getElem?_eq_none (by rw [List.length_append, List.length_take, List.length_drop]; omega), List.getElem?_eq_none (by omega)]
  rcases countB_cases p (tear old (headB p b) t) room with h | ⟨h, _⟩ | ⟨n, hn, h, _⟩
  · exact .inr (.inr h)
  · exfalso
    have h2 := headL_nz (p := p) hb 0 (by omega)
    have h3 : (tear old (headB p b) t).data.toList[0]? = (headL p b)[0]? := by
      rw [hlist, List.getElem?_append_left (by rw [List.length_take]; omega), List.getElem?_take, if_pos h0]
    rw [h, zeroB_list, zeroL_at 0 (by omega)] at h3
    exact h2 h3.symm
  · have hn' : n < 100000000 := by omega
    have hls := hlist
    rw [h, headB_list] at hls
    by_cases h16 : t ≤ 16
    · left
      have hd : (headL p n).drop 16 = old.data.toList.drop 16 := by
        rw [hls, List.drop_append, List.drop_of_length_le (by rw [List.length_take]; omega), List.nil_append, List.length_take, Nat.min_eq_left (by omega), List.drop_drop]
        congr 1; omega
      rcases ho with rfl | ⟨_, rfl⟩
      · rw [h]
        refine bytes_ext ?_
        rw [headB_list] at hd ⊢
        rw [headB_list]
        exact sealed_same (headL_sealed p n) (headL_sealed p a) hd
      · exfalso
        have h2 := headL_nz (p := p) hn' 16 (by omega)
        have h3 : ((headL p n).drop 16)[0]? = (headL p n)[16]? := by rw [List.getElem?_drop]
        rw [hd, zeroB_list, List.getElem?_drop, zeroL_at _ (by omega)] at h3
        exact h2 h3.symm
    · right; left
      rw [h]
      refine bytes_ext ?_
      rw [headB_list, headB_list]
      refine sealed_block hp (headL_sealed p n) (headL_sealed p b) ?_ 0 (by omega) fun i hi hij => ?_
      · rw [hls, List.take_append_of_le_length (by rw [List.length_take]; omega), List.take_take, Nat.min_eq_left (by omega)]
      · have g : ∀ k, k < 100000000 → ((headL p k).drop 16)[i]? = some 0 := by
          intro k hk
          have hk8 : (digL k 8).length = 8 := digL_len k 8 (by omega) (by omega)
          rw [headL_drop hk, List.getElem?_append_right (by omega), List.getElem?_replicate, if_pos (by omega)]
        rw [g n hn', g b hb]
/-- zeros that are torn over whatever stands there -/
theorem tear_zero {p : Nat} {old : ByteArray} (t room : Nat) (ht : t ≤ 64) (hr : room < 100000000) : tear old zeroB t = old ∨ tear old zeroB t = zeroB ∨ countB p (tear old zeroB t) room = -1 := by
  rcases Nat.eq_zero_or_pos t with h0 | h0
  · left; subst h0; exact tear_none _ _
  rcases countB_cases p (tear old zeroB t) room with h | ⟨h, _⟩ | ⟨n, hn, h, _⟩
  · exact .inr (.inr h)
  · exact .inr (.inl h)
  · exfalso
    have h2 := headL_nz (p := p) (show n < 100000000 by omega) 0 (by omega)
    rw [← headB_list, ← h, tear_list, List.getElem?_append_left (by rw [List.length_take, zeroB_list]; simp; omega), List.getElem?_take, if_pos h0, zeroB_list, zeroL_at 0 (by omega)] at h2
    exact h2 rfl
/-- a head with one byte turned is none -/
theorem flip_head {p a : Nat} (hp : p < 100000000) (ha : a < 100000000) {old : ByteArray} (ho : OldHead p old a) {x m room : Nat} (hx : x < 64) (h0 : 0 < m) (h1 : m < 256) (hr : room < 100000000) :
    countB p (flipAt old x m) room = -1 := by
  rcases countB_cases p (flipAt old x m) room with h | ⟨h, _⟩ | ⟨n, hn, h, _⟩
  · exact h
  · exfalso
    have hl := congrArg (fun s : ByteArray => s.data.toList) h
    simp only [flipAt_list, zeroB_list] at hl
    rcases ho with rfl | ⟨_, rfl⟩
    · rw [headB_list] at hl
      have key : ∀ i, i < 24 → i ≠ x → False := by
        intro i hi hix
        have h2 := headL_nz (p := p) ha i hi
        rw [← flipL_at (headL p a) x m i hix, hl, zeroL_at i (by omega)] at h2
        exact h2 rfl
      by_cases h : x = 0
      · exact key 1 (by omega) (by omega)
      · exact key 0 (by omega) (by omega)
    · rw [zeroB_list] at hl
      exact flipL_ne (by simpa using hx) h0 h1 hl
  · exfalso
    have hl := congrArg (fun s : ByteArray => s.data.toList) h
    simp only [flipAt_list, headB_list] at hl
    rcases ho with rfl | ⟨_, rfl⟩
    · rw [headB_list] at hl
      exact flip_sealed hp (headL_sealed p a) hx h0 h1 (by rw [hl]; exact headL_sealed p n)
    · rw [zeroB_list] at hl
      have key : ∀ i, i < 24 → i ≠ x → False := by
        intro i hi hix
        have h2 := headL_nz (p := p) (show n < 100000000 by omega) i hi
        rw [← hl, flipL_at _ x m i hix, zeroL_at i (by omega)] at h2
        exact h2 rfl
      by_cases h : x = 0
      · exact key 1 (by omega) (by omega)
      · exact key 0 (by omega) (by omega)
end Go.Proofs.YtpdhjfnddnoghaaDoor
