/- The laws' head: the fixed examples come out as they should.
   Conditions: the library's tables and sentinels are laid. -/
import Derived.Test.YtpdhjfnddnoghaaDoorJZ
namespace Go.Proofs.YtpdhjfnddnoghaaDoor
open Go.RowKit Go.Lib
set_option linter.unusedVariables false
set_option linter.unusedSimpArgs false

theorem textsOut_alloc (w : World) (xs : List ByteArray) (F : Nat → Prop) (hF : ∀ k, F k → k < w.heap.size) : TextsOut (w.alloc (.cells (strs xs).toArray 9)) F (.slice (some ⟨w.heap.size, 0, none⟩) xs.length xs.length) xs := by
  refine ⟨_, _, rfl, fun _ => ⟨w.heap.size, 0, rfl, by simp, fun h => by have := hF _ h; omega, fun k hk => ?_⟩⟩
  rw [cell_blk (heap_alloc_new w (.cells (strs xs).toArray 9)), Nat.zero_add]
  simp [strs, List.getElem?_eq_getElem hk]
theorem TextsOut.fresh {F F2 : Nat → Prop} {w w' : World} {v : Value} {xs : List ByteArray} (h : TextsOut w F v xs) (hb : Below w.heap.size w w') (hF : ∀ k, F2 k → w.heap.size ≤ k) : TextsOut w' F2 v xs := by
  obtain ⟨A, cap, rfl, h⟩ := h
  refine ⟨A, cap, rfl, fun hp => ?_⟩
  obtain ⟨b, off, rfl, hlt, hn, hc⟩ := h hp
  exact ⟨b, off, rfl, Nat.lt_of_lt_of_le hlt hb.size, fun h1 => by have := hF b h1; omega, fun k hk => (hb.cell (p := ⟨b, off + k, none⟩) hlt).trans (hc k hk)⟩
theorem TextsOut.weak {F F2 : Nat → Prop} {w : World} {v : Value} {xs : List ByteArray} (h : TextsOut w F v xs) (hF : ∀ k, F2 k → F k) : TextsOut w F2 v xs := by
  obtain ⟨A, cap, rfl, h⟩ := h
  refine ⟨A, cap, rfl, fun hp => ?_⟩
  obtain ⟨b, off, rfl, hlt, hn, hc⟩ := h hp
  exact ⟨b, off, rfl, hlt, fun h1 => hn (hF b h1), hc⟩
set_option maxRecDepth 100000 in
theorem text_calls (w : World) (n : Nat) (h0 : 1 ≤ n) (hn : n ≤ 1000000) : Calls Tryd.prog 23 #[.int .i64 n] w fun e w' => (∃ s : ByteArray, s.size = n ∧ e = .returned (.string s)) ∧ Below w.heap.size w w' := by
  have hmk := fun W => Go.run_make_row' (P := Tryd.prog) 51 5 (.int .u8 0) 1 Tryd.underlying51 Tryd.infoU8 rfl .i64 .i64 n (by omega) (by omega) W
  have hrow : (w.alloc (.cells (madeCells #[Value.int .u8 0] n) 5)).heap[w.heap.size]? = some (.cells (byteVals (List.replicate n 0)).toArray 5 (0, 0)) := by
    rw [heap_alloc_new]
    congr 2
    apply Array.ext'
    rw [toList_madeCells_one]
    simp [byteVals]
  have hcv := conv_row hrow n n (by simp)
  have HS : Hid ((bytesB (List.replicate n (0 : UInt8))).size = n) := by show _ = _; rw [bytesB_size, List.length_replicate]
  generalize bytesB (List.replicate n (0 : UInt8)) = s at hcv HS
  clear hrow
  go_enter Tryd.func23, Tryd.ntmps23
  go_wp2_with fail
  go_ret
  exact ⟨⟨s, HS.out, rfl⟩, (Below.refl _ _).alloc (Nat.le_refl _) _⟩
def bA : ByteArray := ⟨#[97]⟩
def bBC : ByteArray := ⟨#[98, 99]⟩
theorem textL_one (x : ByteArray) (h : x.size ≤ 99999999) : (textL [x]).length = (decDigits x.size).length + 1 + x.size := by
  have hb := bsize x
  have e : textL [x] = recL x ++ [] := rfl
  rw [e, List.append_nil]
  unfold recL
  rw [List.length_append, List.length_cons]
  omega
theorem len_ab : (textL [bA, bBC]).length = 7 := by
  have e : textL [bA, bBC] = textL [bA] ++ textL [bBC] := by simp [textL]
  rw [e, List.length_append, textL_one bA (by decide), textL_one bBC (by decide), show bA.size = 1 from rfl, show bBC.size = 2 from rfl, decDigits_one (by omega), decDigits_one (by omega)]
  rfl
theorem pieces_ab : (piecesL (textL [bA, bBC])).length = 1 := by rw [piecesL_length, len_ab]
theorem pieces_200 (x : ByteArray) (h : x.size = 200) : 5 ≤ (piecesL (textL [x])).length ∧ (textL [x]).length ≤ 1000 := by
  have h1 := dec_len 200 (by omega)
  rw [piecesL_length, textL_one x (by omega), h]
  omega
theorem small_ab : Small [bA, bBC] := ⟨by simp, fun x hx => by
  simp only [List.mem_cons, List.not_mem_nil, or_false] at hx
  rcases hx with rfl | rfl
  · show (1 : Nat) ≤ 1000000; omega
  · show (2 : Nat) ≤ 1000000; omega⟩
theorem short_ab : tooLong [bA, bBC] = false := by decide
set_option maxRecDepth 100000 in
set_option maxHeartbeats 8000000 in
theorem head_calls (w : World) (hlu : ∀ W, Below w.heap.size w W → LaidJ W) : Calls Tryd.prog 8 #[] w fun e w' => e = .returned (.bool true) ∧ Below w.heap.size w w' := by
  have HLU := Lib.hid hlu
  have hnew := new_ok w 6 (by omega) (by omega)
  rw [show ((6 : Nat) : Int) = 6 from rfl] at hnew
  obtain ⟨B, hB⟩ : ∃ B, w.heap.size = B := ⟨_, rfl⟩
  have HBE := Lib.hid hB
  clear hlu hB
  go_enter Tryd.func8, Tryd.ntmps8
  go_wp2_with fail
  refine hnew.mono ?_
  clear hnew
  rintro e w1 ⟨p, F, rfl, hd, hb, hF⟩
  have HLB : Hid (∀ W, Below B w W → LaidJ W) := by show ∀ W, _; rw [← HBE.out]; exact HLU.out
  have HC0 : Hid (Calm 6 0 [] (DS.new 6)) := calm_new 6 (by omega) (by omega)
  generalize DS.new 6 = st at hd HC0
  have hOw : Own B w w1 F p st := ⟨hd, by rw [← HBE.out]; exact hF, by rw [← HBE.out]; exact hb, by rw [← HBE.out]; exact hb.size⟩
  have ho := open_calls (hOw.laid HLB.out) hd (by rw [HC0.out.q]; simp)
  have HOW := Lib.hid hOw
  clear hd hb hF hOw
  go_wp2_with fail
  refine ho.mono ?_
  clear ho
  rintro e w2 hoo
  obtain ⟨F2, hk, hOw2, hc⟩ := HOW.out.open hoo
  rw [calm_open HC0.out] at hc hOw2
  rcases hc with ⟨h9, _⟩ | ⟨js, j, G, lv, h9, rfl, hja, hgf, hgn, hlt, _⟩
  · cases h9
  injection h9 with h9
  subst h9
  obtain ⟨A1, cap1, hlv1, _⟩ := hlt
  subst hlv1
  have HOW2 := Lib.hid hOw2
  have HJ2 := Lib.hid hja
  have HGF := Lib.hid hgf
  have HGB : Hid (∀ k, G k → B ≤ k) := by show ∀ k, _; intro k hk1; exact Nat.le_trans HOW.out.sz (hgn k hk1)
  clear hoo hk hOw2 hja hgf hgn HOW
  -- Append("a", "bc")
  have hba : Below w2.heap.size w2 (w2.alloc (.cells #[.string bA, .string bBC] 9)) := (Below.refl _ _).alloc (Nat.le_refl _) _
  have hta : TextsOut (w2.alloc (.cells #[.string bA, .string bBC] 9)) (fun k => F2 k ∨ G k) (.slice (some ⟨w2.heap.size, 0, none⟩) 2 2) [bA, bBC] := textsOut_alloc w2 [bA, bBC] (fun k => F2 k ∨ G k) fun k hk => hk.elim (HOW2.out.lt k) (HJ2.out.lt k)
  have ha := append_calls ((HOW2.out.below hba).laid HLB.out) (HOW2.out.below hba).dk (HJ2.out.below hba) HGF.out _ [bA, bBC] hta small_ab (.inl (by rw [len_ab]; omega)) (by show (6 : Nat) ≤ 1000; omega) (by show (0 : Nat) + 2 ≤ 6; omega) (by rw [HC0.out.q]; simp) (by show (0 : Nat) ≤ _; omega)
  have HBA := Lib.hid hba
  have HA1 : Hid (∃ st', appendM st ⟨6, 0, [], false⟩ [bA, bBC] = (st', ⟨6, 1, [bA, bBC], false⟩, 0) ∧ Calm 6 1 [bA, bBC] st') := by
    rcases calm_append HC0.out [bA, bBC] with ⟨h, _⟩ | ⟨_, h, _⟩ | ⟨_, _, st', h1, h2⟩
    · rw [short_ab] at h; cases h
    · rw [pieces_ab] at h; omega
    · rw [pieces_ab] at h1 h2; exact ⟨st', h1, h2⟩
  clear hba hta
  go_wp2_with fail
  refine ha.mono ?_
  clear ha
  rintro e w3 hao
  obtain ⟨rfl, F3, G3, hOw3, hj3, hgf3, hgb3, _, _, _⟩ := (HOW2.out.below HBA.out).app (HJ2.out.below HBA.out) HGB.out hao
  obtain ⟨st1, hA1, hC1⟩ := HA1.out
  rw [hA1] at hOw3 hj3 ⊢
  have HOW3 := Lib.hid hOw3
  have HJ3 := Lib.hid hj3
  have HGF3 := Lib.hid hgf3
  have HGB3 := Lib.hid hgb3
  have HC1 := Lib.hid hC1
  clear hao hA1 hC1 hOw3 hj3 hgf3 hgb3 HOW2 HJ2 HGF HGB HBA HA1
  -- Room
  have hr := room_calls HJ3.out (by show (6 : Nat) ≤ _; omega) (by show (1 : Nat) ≤ _; omega)
  rw [show (JSt.mk 6 1 [bA, bBC] false).room = 3 from rfl] at hr
  go_wp2_with fail
  refine hr.mono ?_
  clear hr
  rintro e w4 ⟨rfl, hb⟩
  have HOW4 := Lib.hid (HOW3.out.below hb)
  have HJ4 := Lib.hid (HJ3.out.below hb)
  clear hb HOW3 HJ3
  -- Append(text(200))
  have ht2 := text_calls w4 200 (by omega) (by omega)
  rw [show ((200 : Nat) : Int) = 200 from rfl] at ht2
  go_wp2_with fail
  refine ht2.mono ?_
  clear ht2
  rintro e w5 ⟨⟨s2, hs2, rfl⟩, hb⟩
  have hb5 : Below w4.heap.size w4 (w5.alloc (.cells #[.string s2] 9)) := hb.alloc hb.size _
  have hO5 := HOW4.out.below hb5
  have hJ5 := HJ4.out.below hb5
  have hF5 : ∀ k, F3 k ∨ G3 k → k < w5.heap.size := fun k hk => Nat.lt_of_lt_of_le (hk.elim (HOW4.out.lt k) (HJ4.out.lt k)) hb.size
  have hp2 := pieces_200 s2 hs2
  have ha := append_calls (hO5.laid HLB.out) hO5.dk hJ5 HGF3.out _ [s2] (textsOut_alloc w5 [s2] _ hF5) ⟨by simp, fun x hx => by rw [List.mem_singleton.1 hx]; omega⟩ (.inl (by omega)) (by show (6 : Nat) ≤ 1000; omega) (by show (1 : Nat) + 2 ≤ 6; omega) (by rw [HC1.out.q]; simp) (by show (2 : Nat) ≤ _; omega)
  have HA2 : Hid (appendM st1 ⟨6, 1, [bA, bBC], false⟩ [s2] = (st1, ⟨6, 1, [bA, bBC], false⟩, 28)) := by
    rcases calm_append HC1.out [s2] with ⟨h, _⟩ | ⟨_, _, h⟩ | ⟨_, h, _⟩
    · unfold tooLong at h; simp at h; omega
    · exact h
    · omega
  have HO5 := Lib.hid hO5
  have HJ5 := Lib.hid hJ5
  clear hb hb5 hO5 hJ5 hF5 hp2 hs2
  go_wp2_with fail
  refine ha.mono ?_
  clear ha
  rintro e w6 hao
  obtain ⟨rfl, F6, G6, hOw6, hj6, hgf6, hgb6, _, _, _⟩ := HO5.out.app HJ5.out HGB3.out hao
  rw [HA2.out] at hOw6 hj6 ⊢
  have HOW6 := Lib.hid hOw6
  have HJ6 := Lib.hid hj6
  have HGF6 := Lib.hid hgf6
  have HGB6 := Lib.hid hgb6
  clear hao hOw6 hj6 hgf6 hgb6 HO5 HJ5 HOW4 HJ4 HGF3 HGB3 HA2
  -- Append(text(20001))
  have ht2 := text_calls w6 20001 (by omega) (by omega)
  rw [show ((20001 : Nat) : Int) = 20001 from rfl] at ht2
  go_wp2_with fail
  refine ht2.mono ?_
  clear ht2
  rintro e w7 ⟨⟨s3, hs3, rfl⟩, hb⟩
  have hb7 : Below w6.heap.size w6 (w7.alloc (.cells #[.string s3] 9)) := hb.alloc hb.size _
  have hO7 := HOW6.out.below hb7
  have hJ7 := HJ6.out.below hb7
  have hF7 : ∀ k, F6 k ∨ G6 k → k < w7.heap.size := fun k hk => Nat.lt_of_lt_of_le (hk.elim (HOW6.out.lt k) (HJ6.out.lt k)) hb.size
  have hlong : tooLong [s3] = true := by unfold tooLong; simp; omega
  have ha := append_calls (hO7.laid HLB.out) hO7.dk hJ7 HGF6.out _ [s3] (textsOut_alloc w7 [s3] _ hF7) ⟨by simp, fun x hx => by rw [List.mem_singleton.1 hx]; omega⟩ (.inr hlong) (by show (6 : Nat) ≤ 1000; omega) (by show (1 : Nat) + 2 ≤ 6; omega) (by rw [HC1.out.q]; simp) (by show (2 : Nat) ≤ _; omega)
  have HA3 : Hid (appendM st1 ⟨6, 1, [bA, bBC], false⟩ [s3] = (st1, ⟨6, 1, [bA, bBC], false⟩, 2)) := by
    rcases calm_append HC1.out [s3] with ⟨_, h⟩ | ⟨h, _⟩ | ⟨h, _⟩
    · exact h
    · rw [hlong] at h; cases h
    · rw [hlong] at h; cases h
  have HO7 := Lib.hid hO7
  have HJ7 := Lib.hid hJ7
  clear hb hb7 hO7 hJ7 hF7 hlong hs3
  go_wp2_with fail
  refine ha.mono ?_
  clear ha
  rintro e w8 hao
  obtain ⟨rfl, F8, G8, hOw8, _, _, _, _, _, _⟩ := HO7.out.app HJ7.out HGB6.out hao
  rw [HA3.out] at hOw8 ⊢
  have HOW8 := Lib.hid hOw8
  clear hao hOw8 HO7 HJ7 HOW6 HJ6 HGF6 HGB6 HA3
  -- Fail, Start
  have hf := fail_calls HOW8.out.dk 0 0 (by unfold i64ok; omega) (by unfold i64ok; omega) (by rw [HC1.out.q]; simp)
  go_wp2_with fail
  refine hf.mono ?_
  clear hf
  rintro e w9 ht
  obtain ⟨rfl, F9, hd9, hk9⟩ := Kept.turns ht
  have HOW9 := Lib.hid (HOW8.out.kept hk9 hd9)
  clear ht hd9 hk9 HOW8
  have hs := start_calls HOW9.out.dk
  rw [(HC1.out.fail 0 0).2] at hs
  go_wp2_with fail
  refine hs.mono ?_
  clear hs
  rintro e w10 ht
  obtain ⟨rfl, F10, hd10, hk10⟩ := Kept.turns ht
  have HOW10 := Lib.hid (HOW9.out.kept hk10 hd10)
  clear ht hd10 hk10 HOW9
  -- Open
  have ho := open_calls (HOW10.out.laid HLB.out) HOW10.out.dk (by rw [HC1.out.q]; simp)
  go_wp2_with fail
  refine ho.mono ?_
  clear ho
  rintro e w11 hoo
  obtain ⟨F11, hk, hOw11, hc⟩ := HOW10.out.open hoo
  rw [calm_open HC1.out] at hc hOw11
  rcases hc with ⟨h9, _⟩ | ⟨js, kj, GK, mv, h9, rfl, hja, hgf, hgn, hmt, _⟩
  · cases h9
  injection h9 with h9
  subst h9
  have HOW11 := Lib.hid hOw11
  have HK11 := Lib.hid hja
  have HKF11 := Lib.hid hgf
  have HM11 := Lib.hid hmt
  clear hoo hk hOw11 hja hgf hgn hmt HOW10
  -- Rot(0, 5, 1), Open
  have hrt := rot_calls HOW11.out.dk 0 5 1
  obtain ⟨st2, hR1, hC2⟩ := rot_head HC1.out (x := 0) (a := 5) (m := 1) (by omega) (by omega) (by omega) (by omega)
  rw [show ((0 : Nat) : Int) = 0 from rfl, show ((5 : Nat) : Int) = 5 from rfl, show ((1 : Nat) : Int) = 1 from rfl] at hR1
  have HQ1 : Hid ((st1.rot 0 5 1).queue = []) := (rotten HC1.out (x := 0) (a := 5) (m := 1) (by omega) (by omega) (by omega) (by omega)).q
  have HR1 := Lib.hid hR1
  have HC2 := Lib.hid hC2
  clear hR1 hC2
  generalize st1.rot 0 5 1 = sr1 at hrt HR1 HQ1
  go_wp2_with fail
  refine hrt.mono ?_
  clear hrt
  rintro e w12 ht
  obtain ⟨rfl, F12, hd12, hk12⟩ := Kept.turns ht
  have HOW12 := Lib.hid (HOW11.out.kept hk12 hd12)
  have HM12 := Lib.hid (HM11.out.kept hk12)
  have HK12 := Lib.hid (HK11.out.kept hk12 HKF11.out)
  clear ht hd12 hk12 HOW11 HM11 HK11 HKF11
  have ho := open_calls (HOW12.out.laid HLB.out) HOW12.out.dk (by rw [HQ1.out]; simp)
  go_wp2_with fail
  refine ho.mono ?_
  clear ho
  rintro e w13 hoo
  obtain ⟨F13, hk, hOw13, hc⟩ := HOW12.out.open hoo
  rw [HR1.out] at hc hOw13
  rcases hc with ⟨h9, _⟩ | ⟨js, nj, GN, nv, h9, rfl, _, _, _, hnt, _⟩
  · cases h9
  injection h9 with h9
  subst h9
  have HOW13 := Lib.hid hOw13
  have HM13 := Lib.hid (HM12.out.kept hk)
  have HK13 := Lib.hid (HK12.out.1.kept hk HK12.out.2)
  have HN13 := Lib.hid hnt
  clear hoo hk hOw13 hnt HOW12 HM12 HK12 HR1 HQ1
  -- Rot(2, 40, 1), Open
  have hrt := rot_calls HOW13.out.dk 2 40 1
  have hR2 := rot_piece HC2.out (x := 2) (a := 40) (m := 1) (by omega) (by omega) (by omega) (by omega) (by omega)
  rw [show ((2 : Nat) : Int) = 2 from rfl, show ((40 : Nat) : Int) = 40 from rfl, show ((1 : Nat) : Int) = 1 from rfl] at hR2
  have HQ2 : Hid ((st2.rot 2 40 1).queue = []) := (rotten HC2.out (x := 2) (a := 40) (m := 1) (by omega) (by omega) (by omega) (by omega)).q
  have HR2 := Lib.hid hR2
  clear hR2
  generalize st2.rot 2 40 1 = sr2 at hrt HR2 HQ2
  go_wp2_with fail
  refine hrt.mono ?_
  clear hrt
  rintro e w14 ht
  obtain ⟨rfl, F14, hd14, hk14⟩ := Kept.turns ht
  have HOW14 := Lib.hid (HOW13.out.kept hk14 hd14)
  have HM14 := Lib.hid (HM13.out.kept hk14)
  have HN14 := Lib.hid (HN13.out.kept hk14)
  have HK14 := Lib.hid (HK13.out.1.kept hk14 HK13.out.2)
  clear ht hd14 hk14 HOW13 HM13 HK13 HN13
  have ho := open_calls (HOW14.out.laid HLB.out) HOW14.out.dk (by rw [HQ2.out]; simp)
  go_wp2_with fail
  refine ho.mono ?_
  clear ho
  rintro e w15 hoo
  obtain ⟨F15, hk, hOw15, hc⟩ := HOW14.out.open hoo
  rw [HR2.out] at hc hOw15
  rcases hc with ⟨_, rfl⟩ | ⟨js, nj, GN, nv2, h9, _⟩
  rotate_left
  · cases h9
  have HOW15 := Lib.hid hOw15
  have HM15 := Lib.hid (HM14.out.kept hk)
  have HN15 := Lib.hid (HN14.out.kept hk)
  have HK15 := Lib.hid (HK14.out.1.kept hk HK14.out.2)
  clear hoo hk hOw15 HOW14 HM14 HK14 HN14 HR2 HQ2
  -- New(2), Open
  have hnew := new_ok w15 2 (by omega) (by omega)
  rw [show ((2 : Nat) : Int) = 2 from rfl] at hnew
  go_wp2_with fail
  refine hnew.mono ?_
  clear hnew
  rintro e w16 ⟨p2, FX, rfl, hdx, hbx, hFx⟩
  have hOX : Own B w w16 FX p2 (DS.new 2) := ⟨hdx, fun k hk => Nat.le_trans HOW15.out.sz (hFx k hk), HOW15.out.be.trans (hbx.mono HOW15.out.sz), Nat.le_trans HOW15.out.sz hbx.size⟩
  have HM16 := Lib.hid (HM15.out.fresh hbx hFx)
  have HN16 := Lib.hid (HN15.out.fresh hbx hFx)
  have HK16 : Hid (JAt w16 GK kj p ⟨6, 1, [bA, bBC], false⟩ ∧ ∀ k, GK k → ¬ FX k) := ⟨HK15.out.1.below hbx, fun k h1 h2 => by have := HK15.out.1.lt k h1; have := hFx k h2; omega⟩
  have hm2 : (DS.new 2).openM = (DS.new 2, none, 1) := by
    unfold DS.openM
    rw [if_neg (by simp [DS.new]), if_pos (by rw [DS.all_len]; simp [DS.new])]
  have ho := open_calls (hOX.laid HLB.out) hdx (by simp [DS.new])
  have HM2 := Lib.hid hm2
  have HOX := Lib.hid hOX
  clear hdx hbx hFx hOX hm2 HOW15 HM15 HN15 HK15
  go_wp2_with fail
  refine ho.mono ?_
  clear ho
  rintro e w17 hoo
  obtain ⟨FY, hk, hOY, hc⟩ := HOX.out.open hoo
  rw [HM2.out] at hc hOY
  rcases hc with ⟨_, rfl⟩ | ⟨js, nj, GN, nv2, h9, _⟩
  rotate_left
  · cases h9
  have HM17 := Lib.hid (HM16.out.kept hk)
  have HN17 := Lib.hid (HN16.out.kept hk)
  have HK17 := Lib.hid (HK16.out.1.kept hk HK16.out.2)
  have HBE17 := Lib.hid hOY.be
  have HBS17 := Lib.hid hOY.sz
  clear hoo hk hOY HM16 HN16 HK16 HOX HM2
  -- the tests
  obtain ⟨MA, mcap, hmv, _⟩ := id HM17.out
  subst hmv
  obtain ⟨NA, ncap, hnv, _⟩ := id HN17.out
  subst hnv
  have hb18 : Below w17.heap.size w17 (w17.alloc (.cells #[.string bA, .string bBC] 9)) := (Below.refl _ _).alloc (Nat.le_refl _) _
  have hs1 := rsame_calls (w17.alloc (.cells #[.string bA, .string bBC] 9)) _ _ [bA, bBC] [bA, bBC] (HM17.out.at_.below hb18) (textsOut_alloc w17 [bA, bBC] (fun _ => False) (fun k h => h.elim)).at_ (by simp) (by simp)
  rw [decide_eq_true (rfl : [bA, bBC] = [bA, bBC])] at hs1
  have HB18 := Lib.hid hb18
  clear hb18
  go_wp2_with fail
  refine hs1.mono ?_
  clear hs1
  rintro e w19 ⟨rfl, hb⟩
  have HB19 : Hid (Below w17.heap.size w17 w19) := HB18.out.trans (hb.mono HB18.out.size)
  have hrc := records_calls (HK17.out.1.below HB19.out) (by show (2 : Nat) ≤ _; omega)
  clear hb HB18
  go_wp2_with fail
  refine hrc.mono ?_
  clear hrc
  rintro e w20 ⟨rv, rfl, hown, hb⟩
  have HB20 : Hid (Below w17.heap.size w17 w20) := HB19.out.trans (hb.mono HB19.out.size)
  have hs2 := rsame_calls w20 _ _ [bA, bBC] [bA, bBC] (TextsAt.of_own hown) (HM17.out.at_.below HB20.out) (by simp) (by simp)
  rw [decide_eq_true (rfl : [bA, bBC] = [bA, bBC])] at hs2
  clear hb hown HB19
  go_wp2_with fail
  refine hs2.mono ?_
  clear hs2
  rintro e w21 ⟨rfl, hb⟩
  have HB21 : Hid (Below w17.heap.size w17 w21) := HB20.out.trans (hb.mono HB20.out.size)
  have hs3 := rsame_calls w21 _ _ [bA, bBC] [bA, bBC] (HN17.out.at_.below HB21.out) (HM17.out.at_.below HB21.out) (by simp) (by simp)
  rw [decide_eq_true (rfl : [bA, bBC] = [bA, bBC])] at hs3
  clear hb HB20
  go_wp2_with fail
  refine hs3.mono ?_
  clear hs3
  rintro e w22 ⟨rfl, hb⟩
  have HB22 : Hid (Below w17.heap.size w17 w22) := HB21.out.trans (hb.mono HB21.out.size)
  have hna := append_nil w22 (.slice none 0 0)
  clear hb HB21
  go_wp2_with fail
  refine hna.mono ?_
  clear hna
  rintro e w23 ⟨rfl, hb⟩
  have HB23 : Hid (Below w17.heap.size w17 w23) := HB22.out.trans (hb.mono HB22.out.size)
  clear hb
  go_wp2_with fail
  go_ret
  refine ⟨rfl, ?_⟩
  rw [HBE.out]
  exact HBE17.out.trans (HB23.out.mono HBS17.out)
end Go.Proofs.YtpdhjfnddnoghaaDoor
