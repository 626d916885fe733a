/- Plain laws of the journal's pieces and of its text. No program is in sight here.
   Conditions: none. -/
import Derived.Test.YtpdhjfnddnoghaaDoorPA
namespace Go.Proofs.YtpdhjfnddnoghaaDoor
open Go.RowKit Go.Lib
set_option linter.unusedVariables false
set_option linter.unusedSimpArgs false
attribute [local irreducible] sumB stateN hexW

/-! ### pieces -/
def secL (p : Nat) (q : List UInt8) : List UInt8 := sealL p (digL q.length 2 ++ q)
theorem sectorB_list (p : Nat) (q : ByteArray) : (sectorB p q).data.toList = secL p q.data.toList := by
  unfold sectorB secL
  rw [sealB_list, app_list, digB_list, bsize]
theorem sectorB_sealed (p : Nat) (q : ByteArray) : SealedL p (sectorB p q).data.toList := by rw [sectorB_list]; exact sealL_sealed _ _
theorem secL_drop {p : Nat} {q : List UInt8} (h : q.length ≤ 46) : (secL p q).drop 16 = digL q.length 2 ++ (q ++ List.replicate (46 - q.length) 0) := by
  have h2 : (digL q.length 2).length = 2 := digL_len _ 2 (by omega) (by omega)
  unfold secL sealL
  rw [List.drop_left' (hexW_length _ _), pad48 _ (by rw [List.length_append]; omega), List.length_append, h2, List.append_assoc]
  congr 3
  omega
theorem atoiN_digB (n w : Nat) (h : n < 1000000000000000000) : atoiN (digB n w) = n := by
  unfold atoiN
  rw [digB_list, atoi_digL n w h]
theorem sector_num {p : Nat} {q : ByteArray} (h : q.size ≤ 46) : (sectorB p q).extract 16 18 = digB q.size 2 := by
  have hb := bsize q
  have h2 : (digL q.data.toList.length 2).length = 2 := digL_len _ 2 (by omega) (by omega)
  refine bytes_ext ?_
  rw [extract_list, sectorB_list, secL_drop (by omega), digB_list, List.take_append_of_le_length (by omega), List.take_of_length_le (by omega), hb]
theorem sector_text {p : Nat} {q : ByteArray} (h : q.size ≤ 46) : (sectorB p q).extract 18 (18 + q.size) = q := by
  have hb := bsize q
  have h2 : (digL q.data.toList.length 2).length = 2 := digL_len _ 2 (by omega) (by omega)
  refine bytes_ext ?_
  rw [extract_list, sectorB_list, show (18 : Nat) = 16 + 2 from rfl, ← List.drop_drop, secL_drop (by omega), List.drop_left' h2, List.take_append_of_le_length (by omega), List.take_of_length_le (by omega)]
theorem pieceB_sector {p : Nat} {q : ByteArray} (h1 : 1 ≤ q.size) (h2 : q.size ≤ 46) : pieceB p (sectorB p q) = some q := by
  unfold pieceB
  rw [sector_num h2, atoiN_digB _ _ (by omega), Int.toNat_natCast, sector_text h2, if_pos ⟨by omega, by omega, rfl⟩]
theorem pieceB_some {p : Nat} {s q : ByteArray} (h : pieceB p s = some q) : sectorB p q = s := by
  unfold pieceB at h
  by_cases hc : 1 ≤ atoiN (s.extract 16 18) ∧ atoiN (s.extract 16 18) ≤ 46 ∧ sectorB p (s.extract 18 (18 + (atoiN (s.extract 16 18)).toNat)) = s
  · rw [if_pos hc] at h
    rw [← Option.some.inj h]
    exact hc.2.2
  · rw [if_neg hc] at h
    exact absurd h (by simp)
attribute [local irreducible] pieceB sectorB
theorem foundB_cons (p : Nat) (s : ByteArray) (r : List ByteArray) : foundB p (s :: r) = (pieceB p s).bind fun q => (foundB (p + 1) r).map (q.data.toList ++ ·) := rfl
theorem foundB_nil (p : Nat) : foundB p [] = some [] := rfl
attribute [local irreducible] foundB
theorem pieceB_flip {p : Nat} (hp : p < 100000000) {s q : ByteArray} (h : pieceB p s = some q) {x m : Nat} (hx : x < 64) (h0 : 0 < m) (h1 : m < 256) : pieceB p (flipAt s x m) = none := by
  cases e : pieceB p (flipAt s x m) with
  | none => rfl
  | some q' =>
    exfalso
    have h2 := pieceB_some h
    have h3 := pieceB_some e
    have h4 := sectorB_sealed p q
    have h5 := sectorB_sealed p q'
    rw [h2] at h4
    rw [h3, flipAt_list] at h5
    exact flip_sealed hp h4 hx h0 h1 h5
theorem foundB_app (a b : List ByteArray) : ∀ (p : Nat), foundB p (a ++ b) = match foundB p a with | none => none | some L => (foundB (p + a.length) b).map (L ++ ·) := by
  induction a with
  | nil =>
    intro p
    rw [foundB_nil, List.nil_append]
    show foundB p b = (foundB (p + 0) b).map ([] ++ ·)
    rw [Nat.add_zero]
    cases foundB p b <;> simp
  | cons s a ih =>
    intro p
    rw [List.cons_append, foundB_cons, foundB_cons]
    cases pieceB p s with
    | none => rfl
    | some q =>
      simp only [ih (p + 1), Option.bind_some]
      cases foundB (p + 1) a with
      | none => rfl
      | some L =>
        simp only [Option.map_some]
        rw [List.length_cons, show p + 1 + a.length = p + (a.length + 1) by omega]
        cases foundB (p + (a.length + 1)) b <;> simp
def fulls (p : Nat) : List ByteArray → List ByteArray
  | [] => []
  | q :: r => sectorB p q :: fulls (p + 1) r
theorem fulls_len (l : List ByteArray) : ∀ p, (fulls p l).length = l.length := by
  induction l with
  | nil => intro p; rfl
  | cons q l ih => intro p; show (fulls (p + 1) l).length + 1 = _; rw [ih, List.length_cons]
theorem sectorB_size (p : Nat) (q : ByteArray) : (sectorB p q).size = 64 := by unfold sectorB; exact sealB_size _ _
theorem headB_size (p n : Nat) : (headB p n).size = 64 := sealB_size _ _
theorem fulls_64 (l : List ByteArray) : ∀ p, ∀ x ∈ fulls p l, x.size = 64 := by
  induction l with
  | nil => intro p x hx; simp [fulls] at hx
  | cons q l ih =>
    intro p x hx
    rw [fulls, List.mem_cons] at hx
    rcases hx with rfl | hx
    · exact sectorB_size _ _
    · exact ih _ x hx
theorem foundB_fulls (l : List ByteArray) (h : ∀ q ∈ l, 1 ≤ q.size ∧ q.size ≤ 46) : ∀ p, foundB p (fulls p l) = some (l.flatMap fun q => q.data.toList) := by
  induction l with
  | nil => intro p; rw [fulls, foundB_nil]; rfl
  | cons q l ih =>
    intro p
    have hq := h q (by simp)
    rw [fulls, foundB_cons, pieceB_sector hq.1 hq.2, Option.bind_some, ih (fun x hx => h x (by simp [hx]))]
    rfl
theorem foundB_len (l : List ByteArray) (h : ∀ s ∈ l, s.size = 64) : ∀ (p : Nat) (L : List UInt8), foundB p l = some L → L.length ≤ 46 * l.length := by
  induction l with
  | nil => intro p L hL; rw [foundB_nil] at hL; rw [← Option.some.inj hL]; simp
  | cons s l ih =>
    intro p L hL
    rw [foundB_cons] at hL
    cases hp : pieceB p s with
    | none => rw [hp] at hL; exact absurd hL (by simp)
    | some q =>
      rw [hp, Option.bind_some] at hL
      cases hf : foundB (p + 1) l with
      | none => rw [hf] at hL; exact absurd hL (by simp)
      | some M =>
        rw [hf] at hL
        simp only [Option.map_some, Option.some.injEq] at hL
        subst hL
        have h1 := ih (fun x hx => h x (by simp [hx])) _ _ hf
        have h2 := pieceB_size hp (h s (by simp))
        have h3 := bsize q
        rw [List.length_append, List.length_cons]
        omega
theorem pieces_take (L : List UInt8) : ∀ k, ((List.range k).map (pieceAt L)).flatMap (fun q => q.data.toList) = L.take (46 * k) := by
  intro k
  induction k with
  | zero => simp
  | succ k ih =>
    rw [List.range_succ, List.map_append, List.flatMap_append, ih]
    have e : ([k].map (pieceAt L)).flatMap (fun q => q.data.toList) = (L.drop (46 * k)).take 46 := by
      simp [pieceAt, bytesB_list]
    rw [e, show 46 * (k + 1) = 46 * k + 46 by omega, List.take_add]
theorem pieces_flat (L : List UInt8) : (piecesL L).flatMap (fun q => q.data.toList) = L := by
  unfold piecesL
  rw [pieces_take, List.take_of_length_le (by omega)]
theorem pieces_sizes (L : List UInt8) : ∀ q ∈ piecesL L, 1 ≤ q.size ∧ q.size ≤ 46 := by
  intro q hq
  unfold piecesL at hq
  obtain ⟨i, hi, rfl⟩ := List.mem_map.1 hq
  have hi' := List.mem_range.1 hi
  unfold pieceAt
  rw [bytesB_size, List.length_take, List.length_drop]
  omega

/-! ### the text -/
theorem indexByte_app : ∀ (l m : List UInt8) (c : UInt8), 0 ≤ indexByte l c → indexByte (l ++ m) c = indexByte l c := by
  intro l
  induction l with
  | nil => intro m c h; simp [indexByte] at h
  | cons b l ih =>
    intro m c h
    rw [List.cons_append]
    unfold indexByte at h ⊢
    split
    · rfl
    · rename_i hb
      rw [if_neg hb] at h
      have hg := indexByte_ge l c
      by_cases h1 : indexByte l c = -1
      · rw [h1] at h; simp at h
      · have h2 := ih m c (by omega)
        rw [h2]
theorem indexByte_at : ∀ (l m : List UInt8) (c : UInt8), (∀ x ∈ l, x ≠ c) → indexByte (l ++ c :: m) c = l.length := by
  intro l
  induction l with
  | nil => intro m c h; simp [indexByte]
  | cons b l ih =>
    intro m c h
    rw [List.cons_append]
    unfold indexByte
    have hb := h b (by simp)
    rw [if_neg (by simpa using hb), ih m c (fun x hx => h x (by simp [hx])), if_neg (by simp), List.length_cons]
    omega
theorem cutB_app {t u : ByteArray} {c : UInt8} (h : (cutB t c).2.2 = true) : cutB (t ++ u) c = ((cutB t c).1, (cutB t c).2.1 ++ u, true) := by
  unfold cutB at h ⊢
  by_cases h0 : 0 ≤ indexByte t.data.toList c
  · obtain ⟨k, hk⟩ := Int.eq_ofNat_of_zero_le h0
    have hks := (indexByte_some hk).1
    have hb := bsize t
    have hkl : k < t.data.toList.length := by
      rcases Nat.lt_or_ge k t.data.toList.length with h | h
      · exact h
      · rw [List.getElem?_eq_none h] at hks; cases hks
    have e := indexByte_app t.data.toList u.data.toList c h0
    rw [app_list, e, if_pos h0, if_pos h0, hk]
    simp only [Int.ofNat_eq_natCast, Int.toNat_natCast]
    refine Prod.ext ?_ (Prod.ext ?_ rfl)
    · refine bytes_ext ?_
      rw [extract_list, extract_list, app_list, List.drop_zero, List.drop_zero, List.take_append_of_le_length (by omega)]
    · refine bytes_ext ?_
      simp only
      rw [extract_list, app_list, app_list, extract_list, List.drop_append_of_le_length (by omega), List.take_of_length_le (by rw [List.length_append, List.length_drop, ByteArray.size_append, bsize u]; omega), List.take_of_length_le (by rw [List.length_drop]; omega)]
  · rw [if_neg h0] at h
    cases h
theorem stepB_less {t x r : ByteArray} (h : stepB t = some (x, r)) : r.size < t.size := by
  unfold stepB at h
  split at h
  · rename_i hc
    have hl := (cut_less hc).1
    split at h
    · split at h
      · injection h with h
        injection h with _ h
        rw [← h, ByteArray.size_extract]
        omega
      · cases h
    · cases h
  · cases h
theorem stepB_app {t x r : ByteArray} (h : stepB t = some (x, r)) (u : ByteArray) : stepB (t ++ u) = some (x, r ++ u) := by
  unfold stepB at h ⊢
  by_cases hc : (cutB t 58).2.2 = true
  · rw [if_pos hc] at h
    rw [cutB_app hc, if_pos rfl]
    simp only
    cases hn : atoiR (cutB t 58).1 with
    | none => rw [hn] at h; cases h
    | some n =>
      rw [hn] at h
      simp only at h ⊢
      by_cases hq : 0 ≤ n ∧ n ≤ 20000 ∧ bytesB (itoa n) = (cutB t 58).1 ∧ n ≤ ((cutB t 58).2.1.size : Int)
      · rw [if_pos hq] at h
        injection h with h
        injection h with hx hr
        have hb := bsize (cutB t 58).2.1
        rw [if_pos ⟨hq.1, hq.2.1, hq.2.2.1, by rw [ByteArray.size_append]; omega⟩, ← hx, ← hr]
        congr 1
        refine Prod.ext ?_ ?_
        · refine bytes_ext ?_
          simp only
          rw [extract_list, extract_list, app_list, List.drop_zero, List.drop_zero, List.take_append_of_le_length (by omega)]
        · refine bytes_ext ?_
          simp only
          have hu := bsize u
          rw [extract_list, app_list, app_list, extract_list, List.drop_append_of_le_length (by omega), List.take_of_length_le (by rw [List.length_append, List.length_drop, ByteArray.size_append]; omega), List.take_of_length_le (by rw [List.length_drop]; omega)]
      · rw [if_neg hq] at h; cases h
  · rw [if_neg hc] at h; cases h
theorem empty_of {t : ByteArray} (h : t.size = 0) : t = bytesB [] := by
  refine bytes_ext ?_
  have := bsize t
  rw [bytesB_list]
  exact List.length_eq_zero_iff.1 (by omega)
theorem parseJ_app : ∀ (n : Nat) (t u : ByteArray) (xs : List ByteArray), t.size ≤ n → parseJ t = some xs → parseJ (t ++ u) = (parseJ u).map (xs ++ ·) := by
  intro n
  induction n with
  | zero =>
    intro t u xs hn h
    have h0 : t.size = 0 := by omega
    rw [parseJ_nil h0] at h
    injection h with h
    subst h
    have e : t ++ u = u := by
      rw [empty_of h0]
      refine bytes_ext ?_
      rw [app_list, bytesB_list, List.nil_append]
    rw [e]
    cases parseJ u <;> simp
  | succ n ih =>
    intro t u xs hn h
    by_cases h0 : t.size = 0
    · exact ih t u xs (by omega) h
    · cases hs : stepB t with
      | none => rw [parseJ_none h0 hs] at h; cases h
      | some xr =>
        obtain ⟨x, r⟩ := xr
        have hl := stepB_less hs
        rw [parseJ_some h0 hs hl] at h
        cases hr : parseJ r with
        | none => rw [hr] at h; cases h
        | some ys =>
          rw [hr] at h
          simp only [Option.map_some, Option.some.injEq] at h
          subst h
          have h1 : (t ++ u).size ≠ 0 := by rw [ByteArray.size_append]; omega
          rw [parseJ_some h1 (stepB_app hs u) (by rw [ByteArray.size_append, ByteArray.size_append]; omega), ih r u ys (by omega) hr]
          cases parseJ u <;> simp
theorem atoiR_dec (n : Nat) (h : n < 1000000000000000000) : atoiR (bytesB (decDigits n)) = some (n : Int) := by
  unfold atoiR
  rw [bytesB_list, atoi_num (dec_ne n) (dec_dig n) (by rw [valN_dec]; exact h), valN_dec]
theorem stepB_rec (x : ByteArray) (rest : List UInt8) (hx : x.size ≤ 20000) : stepB (bytesB (recL x ++ rest)) = some (x, bytesB rest) := by
  have hb := bsize x
  have hi : indexByte (bytesB (recL x ++ rest)).data.toList 58 = (decDigits x.size).length := by
    rw [bytesB_list]
    unfold recL
    rw [List.append_assoc, List.cons_append]
    refine indexByte_at _ _ _ fun c hc => ?_
    have := dec_dig x.size c hc
    unfold IsDig at this
    intro e
    subst e
    simp at this
  have hc : cutB (bytesB (recL x ++ rest)) 58 = (bytesB (decDigits x.size), bytesB (x.data.toList ++ rest), true) := by
    unfold cutB
    rw [hi, if_pos (by omega), Int.toNat_natCast]
    refine Prod.ext ?_ (Prod.ext ?_ rfl)
    · refine bytes_ext ?_
      simp only
      rw [extract_list, bytesB_list, bytesB_list, List.drop_zero]
      unfold recL
      rw [List.append_assoc, List.take_append_of_le_length (by omega), List.take_of_length_le (by omega)]
    · refine bytes_ext ?_
      simp only
      rw [extract_list, bytesB_list, bytesB_list]
      unfold recL
      rw [List.append_assoc, List.cons_append, ← List.drop_drop, List.drop_left, List.drop_succ_cons, List.drop_zero, List.take_of_length_le (by rw [bytesB_size]; simp only [List.length_append, List.length_cons]; omega)]
  unfold stepB
  rw [hc, if_pos rfl, atoiR_dec _ (by omega)]
  simp only
  rw [if_pos ⟨by omega, by omega, by rw [itoa_nonneg], by rw [bytesB_size, List.length_append]; omega⟩, Int.toNat_natCast]
  congr 1
  refine Prod.ext ?_ ?_
  · refine bytes_ext ?_
    simp only
    rw [extract_list, bytesB_list, List.drop_zero, List.take_append_of_le_length (by omega), List.take_of_length_le (by omega)]
  · refine bytes_ext ?_
    simp only
    rw [extract_list, bytesB_list, bytesB_list, List.drop_left' (by omega), List.take_of_length_le (by rw [bytesB_size, List.length_append]; omega)]
theorem parseJ_text (xs : List ByteArray) (h : ∀ x ∈ xs, x.size ≤ 20000) : parseJ (bytesB (textL xs)) = some xs := by
  induction xs with
  | nil => exact parseJ_nil (by rw [bytesB_size]; rfl)
  | cons x xs ih =>
    have hs : stepB (bytesB (textL (x :: xs))) = some (x, bytesB (textL xs)) := stepB_rec x (textL xs) (h x (by simp))
    have hl := stepB_less hs
    rw [parseJ_some (by omega) hs hl, ih fun y hy => h y (by simp [hy])]
    rfl
theorem parseJ_more {L : List UInt8} {recs xs : List ByteArray} (h : parseJ (bytesB L) = some recs) (hx : ∀ x ∈ xs, x.size ≤ 20000) : parseJ (bytesB (L ++ textL xs)) = some (recs ++ xs) := by
  rw [← bytesB_app, parseJ_app _ _ _ _ (Nat.le_refl _) h, parseJ_text xs hx]
  rfl
theorem textL_pos {xs : List ByteArray} (h : xs ≠ []) : 1 ≤ (textL xs).length := by
  match xs, h with
  | x :: r, _ => simp [textL, recL]; omega
end Go.Proofs.YtpdhjfnddnoghaaDoor
