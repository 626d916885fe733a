/- The journal's parse.
   Conditions: the library's tables and sentinels are laid; the text is of moderate size. -/
import Derived.Test.YtpdhjfnddnoghaaDoorJL
namespace Go.Proofs.YtpdhjfnddnoghaaDoor
open Go.RowKit Go.Lib
set_option linter.unusedVariables false
set_option linter.unusedSimpArgs false

/-- one record off the text's head -/
def stepB (t : ByteArray) : Option (ByteArray × ByteArray) :=
  if (cutB t 58).2.2 = true then match atoiR (cutB t 58).1 with
    | some n => if 0 ≤ n ∧ n ≤ 20000 ∧ bytesB (itoa n) = (cutB t 58).1 ∧ n ≤ ((cutB t 58).2.1.size : Int) then some ((cutB t 58).2.1.extract 0 n.toNat, (cutB t 58).2.1.extract n.toNat (cutB t 58).2.1.size) else none
    | none => none
  else none
def parseJ (t : ByteArray) : Option (List ByteArray) :=
  if t.size = 0 then some [] else
  match stepB t with
  | none => none
  | some (x, r) => if hr : r.size < t.size then (parseJ r).map (x :: ·) else none
termination_by t.size
theorem parseJ_nil {t : ByteArray} (h : t.size = 0) : parseJ t = some [] := by rw [parseJ, if_pos h]
theorem parseJ_none {t : ByteArray} (h : t.size ≠ 0) (hs : stepB t = none) : parseJ t = none := by rw [parseJ, if_neg h, hs]
theorem parseJ_some {t x r : ByteArray} (h : t.size ≠ 0) (hs : stepB t = some (x, r)) (hr : r.size < t.size) : parseJ t = (parseJ r).map (x :: ·) := by
  rw [parseJ, if_neg h, hs]
  exact dif_pos hr
theorem cut_less {t : ByteArray} {c : UInt8} (h : (cutB t c).2.2 = true) : (cutB t c).2.1.size < t.size ∧ (cutB t c).1.size ≤ t.size := by
  unfold cutB at h ⊢
  split
  · rename_i h0
    obtain ⟨k, hk⟩ := Int.eq_ofNat_of_zero_le h0
    have hks := (indexByte_some hk).1
    have hkl : k < t.size := by
      rcases Nat.lt_or_ge k t.data.toList.length with h | h
      · simpa using h
      · rw [List.getElem?_eq_none h] at hks; cases hks
    rw [hk]
    simp only [Int.ofNat_eq_natCast, Int.toNat_natCast, ByteArray.size_extract]
    omega
  · rename_i h0
    rw [if_neg h0] at h
    cases h
structure QSt (s : ByteArray) (base : Nat) (w : World) (t : ByteArray) (xs : List ByteArray) (v : Value) (wr : World) : Prop where
  eq : parseJ s = (parseJ t).map (xs ++ ·)
  own : wr.ownsRow base 9 1 v xs.length (strs xs)
  be : Below base w wr
  cnt : xs.length + t.size ≤ s.size
def ParseOut (w : World) (s : ByteArray) (e : Ending) (w' : World) : Prop :=
  (∃ xs v, parseJ s = some xs ∧ e = .returned (.tuple #[v, .bool true]) ∧ w'.ownsRow w.heap.size 9 1 v xs.length (strs xs) ∧ Below w.heap.size w w') ∨
  (parseJ s = none ∧ e = .returned (.tuple #[.slice none 0 0, .bool false]) ∧ Below w.heap.size w w')
set_option maxRecDepth 100000 in
set_option maxHeartbeats 4000000 in
theorem parse_calls (w : World) (hl : LaidJ w) (s : ByteArray) (hs : s.size ≤ 1000000) :
    Calls Tryd.prog 32 #[.string s] w (ParseOut w s) := by
  obtain ⟨i0, hi, hz0, hzz1, hz2⟩ := info_parts Tryd.infoStr
  have H0 : Hid (QSt s w.heap.size w s [] (.slice none 0 0) w) := ⟨by cases parseJ s <;> simp, World.ownsRow_nil _ _ _ _, Below.refl _ _, by simp⟩
  have HL := Lib.hid hl
  clear hl
  obtain ⟨B, hB⟩ : ∃ B, w.heap.size = B := ⟨_, rfl⟩
  have HB := Lib.hid hB
  simp only [hB] at H0
  clear hB
  go_enter Tryd.func32, Tryd.ntmps32
  go_wp2_with fail
  go_loopw [0, 4] (fun tv v wr => ∃ (t : ByteArray) (xs : List ByteArray), tv = .string t ∧ QSt s B w t xs v wr) (fun tv _ _ => match tv with | .string t => t.size | _ => 0)
  case atStart => exact ⟨s, [], rfl, H0.out⟩
  case round =>
    obtain ⟨t, xs, rfl, hq⟩ := hrel
    have HQ := Lib.hid hq
    have hts : t.size ≤ 1000000 := by have := hq.cnt; omega
    have hxl : xs.length ≤ 1000000 := by have := hq.cnt; omega
    have hsB : B ≤ wr.heap.size := by rw [← HB.out]; exact hq.be.size
    have HBW : Hid (Below w.heap.size w wr) := by show Below _ _ _; rw [HB.out]; exact hq.be
    clear hq H0
    by_cases ht : t.size = 0
    · have h0 : t.data.toList.length = 0 := by rw [bsize]; exact ht
      have hte : t = ⟨#[]⟩ := bytes_ext (by rw [List.length_eq_zero_iff.1 h0])
      have HP : Hid (parseJ s = some xs) := by show _ = _; rw [HQ.out.eq, parseJ_nil ht]; simp
      subst hte
      clear h0 ht
      go_wp2_with fail
      go_ret2
      exact .inl ⟨xs, _, HP.out, rfl, by rw [HB.out]; exact HQ.out.own, HBW.out⟩
    · have hne : t.toList.isEmpty = false := by
        rw [ByteArray.toList_eq]
        cases h : t.data.toList with
        | nil => exact absurd (by rw [← bsize, h]; rfl) ht
        | cons a l => rfl
      have hbad : Hid (stepB t = none → parseJ s = none) := by show _ → _; intro h; rw [HQ.out.eq, parseJ_none ht h]; rfl
      have cc := cut_calls wr t (by omega) 58
      have hless := cut_less (t := t) (c := 58)
      have HST : Hid (stepB t = if (cutB t 58).2.2 = true then (match atoiR (cutB t 58).1 with
          | some n => if 0 ≤ n ∧ n ≤ 20000 ∧ bytesB (itoa n) = (cutB t 58).1 ∧ n ≤ ((cutB t 58).2.1.size : Int) then some ((cutB t 58).2.1.extract 0 n.toNat, (cutB t 58).2.1.extract n.toNat (cutB t 58).2.1.size) else none
          | none => none) else none) := by show _ = _; rfl
      have hasz : (cutB t 58).1.size ≤ t.size := by
        unfold cutB
        split
        · simp only [ByteArray.size_extract]; omega
        · exact Nat.le_refl _
      generalize (cutB t 58).1 = a at cc hless HST hasz
      generalize (cutB t 58).2.1 = r at cc hless HST
      generalize (cutB t 58).2.2 = ok at cc hless HST
      have hts2 : (t.size : Int) ≠ 0 := by omega
      go_wp2_with fail
      refine cc.mono ?_
      clear cc
      rintro e w1 ⟨rfl, hb⟩
      have HB1 := Lib.hid (HBW.out.trans (hb.mono HBW.out.size))
      have HBR1 := Lib.hid hb
      clear hb
      go_wp2_with fail
      refine (atoi_calls w1 (HL.out.below HB1.out) a (by omega)).mono ?_
      rintro e w2 ⟨⟨n, ev, rfl, hev⟩, hb⟩
      have HB2 := Lib.hid (HB1.out.trans (hb.mono HB1.out.size))
      have HBR2 := Lib.hid (HBR1.out.trans (hb.mono HBR1.out.size))
      clear hb
      cases ok with
      | false =>
        have HSN : Hid (stepB t = none) := HST.out.trans (if_neg (by simp))
        clear HST hless
        rcases hev with ⟨rfl, hat, hn0, hn2⟩ | ⟨T, N, rfl, hat⟩
        all_goals
          clear hat
          have HN := Lib.hid (hbad.out HSN.out)
          clear HSN
          go_wp2_with fail
          go_ret2
          exact .inr ⟨HN.out, rfl, HB2.out⟩
      | true =>
        have hless2 := (hless rfl).1
        have HS2 := Lib.hid (HST.out.trans (if_pos rfl))
        clear HST hless
        rcases hev with ⟨rfl, hat, hn0, hn2⟩ | ⟨T, N, rfl, hat⟩
        · rw [hat] at HS2
          clear hat
          by_cases c1 : n < 0
          · have HSN : Hid (stepB t = none) := HS2.out.trans (if_neg (by omega))
            clear HS2
            have HN := Lib.hid (hbad.out HSN.out)
            clear HSN
            go_wp2_with fail
            go_ret2
            exact .inr ⟨HN.out, rfl, HB2.out⟩
          by_cases c2 : 20000 < n
          · have HSN : Hid (stepB t = none) := HS2.out.trans (if_neg (by omega))
            have c3 : 0 ≤ n := by omega
            clear HS2 c1
            have HN := Lib.hid (hbad.out HSN.out)
            clear HSN
            go_wp2_with fail
            go_ret2
            exact .inr ⟨HN.out, rfl, HB2.out⟩
          obtain ⟨k, rfl⟩ := Int.eq_ofNat_of_zero_le (show 0 ≤ n by omega)
          have hk : k ≤ 20000 := by omega
          have c3 : (0 : Int) ≤ (k : Int) := by omega
          have c4 : (k : Int) ≤ 20000 := by omega
          clear c1 c2
          have HS3 : Hid (stepB t = if (0 : Int) ≤ (k : Int) ∧ (k : Int) ≤ 20000 ∧ bytesB (itoa k) = a ∧ (k : Int) ≤ (r.size : Int) then some (r.extract 0 k, r.extract k r.size) else none) := HS2.out
          have hit := Tryd.strconv_Itoa (k : Int) (by omega) (by omega) w2 (HL.out.below HB2.out).tab
          change Calls _ _ _ _ (fun e w' => e = .returned (.string (bytesB (itoa (k : Int)))) ∧ ∃ k os, w' = Go.Sort.grow (w2.drewN k) os) at hit
          clear HS2
          by_cases hh : bytesB (itoa (k : Int)) = a
          · by_cases hkr : (k : Int) ≤ (r.size : Int)
            · have HSS : Hid (stepB t = some (r.extract 0 k, r.extract k r.size)) := HS3.out.trans (if_pos ⟨by omega, by omega, hh, hkr⟩)
              rw [hh] at hit
              clear hh HS3
              have hrs : (r.extract k r.size).size < t.size := by rw [ByteArray.size_extract]; omega
              have HPS : Hid (parseJ s = (parseJ (r.extract k r.size)).map ((xs ++ [r.extract 0 k]) ++ ·)) := by
                show _ = _
                rw [HQ.out.eq, parseJ_some ht HSS.out hrs]
                cases parseJ (r.extract k r.size) <;> simp
              have HCN : Hid ((xs ++ [r.extract 0 k]).length + (r.extract k r.size).size ≤ s.size) := by
                show _ ≤ _
                have := HQ.out.cnt
                rw [List.length_append, List.length_singleton]
                omega
              go_wp2_with fail
              refine hit.mono ?_
              clear hit
              rintro e w3 ⟨rfl, kk, os, rfl⟩
              have HB3 : Hid (Below w.heap.size w (Go.Sort.grow (w2.drewN kk) os)) := HB2.out.trans ((below_grow _ _ (Nat.le_refl _) _ _).mono HB2.out.size)
              have HBR3 : Hid (Below wr.heap.size wr (Go.Sort.grow (w2.drewN kk) os)) := HBR2.out.trans ((below_grow _ _ (Nat.le_refl _) _ _).mono HBR2.out.size)
              have hsB3 : B ≤ (Go.Sort.grow (w2.drewN kk) os).heap.size := Nat.le_trans hsB HBR3.out.size
              generalize Go.Sort.grow (w2.drewN kk) os = w3 at HB3 HBR3 hsB3 ⊢
              have HO3 : Hid (w3.ownsRow B 9 1 u4 xs.length (strs xs)) := own_same HQ.out.own fun j hj => HBR3.out.block j (HQ.out.own.lt j hj).2
              have HBB3 : Hid (Below B w w3) := by show Below _ _ _; rw [← HB.out]; exact HB3.out
              go_wp2_with (at_builtin; refine wpList_append_own_at _ rfl _ _ 27 rfl B 9 i0 _ 1 16 Tryd.underlying27 hi hz0 hzz1 hz2 rfl (by omega) _ xs.length (strs xs) rfl (HO3.out.alloc _) ⟨w3.heap.size, 0, none⟩ 1 1 [.string (r.extract 0 k)] rfl rfl (cell_one_new _ _ _) (by intro u hu; simp at hu; subst hu; rfl) (by simp only [maxLen]; omega) (by omega) (by simp; omega) ?_; intro v2 w4 hown2 hg2 _ _)
              have HN : Hid (QSt s B w (r.extract k r.size) (xs ++ [r.extract 0 k]) v2 w4) := by
                refine ⟨HPS.out, ?_, (HBB3.out.alloc hsB3 (.cells #[.string (r.extract 0 k)] 9)).grown hg2 (by simp; omega) fun j hj => (HO3.out.lt j hj).1, HCN.out⟩
                have e : strs (xs ++ [r.extract 0 k]) = strs xs ++ [.string (r.extract 0 k)] := by unfold strs; rw [List.map_append]; rfl
                rw [e, List.length_append]
                exact hown2
              clear hown2 hg2
              go_wp2_with fail
              go_roundw
              case rel => exact ⟨_, _, rfl, HN.out⟩
              case measure => exact hrs
            · have HSN : Hid (stepB t = none) := HS3.out.trans (if_neg (fun h => hkr h.2.2.2))
              rw [hh] at hit
              clear hh HS3
              have HN := Lib.hid (hbad.out HSN.out)
              clear HSN
              go_wp2_with fail
              refine hit.mono ?_
              clear hit
              rintro e w3 ⟨rfl, kk, os, rfl⟩
              have HB3 : Hid (Below w.heap.size w (Go.Sort.grow (w2.drewN kk) os)) := HB2.out.trans ((below_grow _ _ (Nat.le_refl _) _ _).mono HB2.out.size)
              go_wp2_with fail
              go_ret2
              exact .inr ⟨HN.out, rfl, HB3.out⟩
          · have HSN : Hid (stepB t = none) := HS3.out.trans (if_neg (fun h => hh h.2.2.1))
            have hh2 := str_ne hh
            generalize bytesB (itoa (k : Int)) = ks at hit hh hh2 HS3
            clear hh HS3
            have HN := Lib.hid (hbad.out HSN.out)
            clear HSN
            go_wp2_with fail
            refine hit.mono ?_
            clear hit
            rintro e w3 ⟨rfl, kk, os, rfl⟩
            have HB3 : Hid (Below w.heap.size w (Go.Sort.grow (w2.drewN kk) os)) := HB2.out.trans ((below_grow _ _ (Nat.le_refl _) _ _).mono HB2.out.size)
            go_wp2_with fail
            go_ret2
            exact .inr ⟨HN.out, rfl, HB3.out⟩
        · have HSN : Hid (stepB t = none) := by
            show _ = _
            rw [HS2.out, hat]
          clear hat HS2
          have HN := Lib.hid (hbad.out HSN.out)
          clear HSN
          go_wp2_with fail
          go_ret2
          exact .inr ⟨HN.out, rfl, HB2.out⟩
end Go.Proofs.YtpdhjfnddnoghaaDoor
