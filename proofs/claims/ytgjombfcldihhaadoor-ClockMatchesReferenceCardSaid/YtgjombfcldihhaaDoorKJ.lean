/- Closed facts for the law's head.
   Conditions: none. -/
import Derived.Test.YtgjombfcldihhaaDoorKI
namespace Go.Proofs.YtgjombfcldihhaaDoor
open Go.RowKit Go.Lib
set_option linter.unusedVariables false
set_option linter.unusedSimpArgs false

theorem s_valid : validB sampleZ = true := by decide
theorem s_loc1 : localR sampleZ 9999 = (6, 1419, 0) := by decide
theorem s_loc2 : localR sampleZ 10000 = (7, 40, 0) := by decide
theorem s_inst : instR sampleZ 7 0 = (10000, 0) := by decide +kernel
theorem s_beg1 : instR sampleZ 1 0 = (1380, 0) := by decide +kernel
theorem s_beg0 : instR sampleZ 0 0 = (0, 0) := by decide +kernel
def goodT : ByteArray := ⟨#[49, 50, 47, 48, 55, 58, 48, 53]⟩
def badT : ByteArray := ⟨#[49, 50, 47, 55, 58, 48, 53]⟩
theorem dec_small (u : Nat) (h : u < 10) : decDigits u = [UInt8.ofNat (48 + u)] := by rw [decDigits, dif_pos h]
theorem s_text : textR 17705 = (goodT, 0) := by
  have e1 : decDigits 12 = [49, 50] := by rw [decDigits, dif_neg (by decide), dec_small _ (by decide)]; rfl
  have e2 : twoB 7 = ⟨#[48, 55]⟩ := by unfold twoB; rw [dec_small _ (by decide), dec_small _ (by decide)]; rfl
  have e3 : twoB 5 = ⟨#[48, 53]⟩ := by unfold twoB; rw [dec_small _ (by decide), dec_small _ (by decide)]; rfl
  unfold textR
  rw [if_pos (by decide)]
  show (bytesB (itoa 12) ++ slashB ++ twoB 7 ++ colonB ++ twoB 5, (0 : Int)) = _
  rw [e2, e3]
  show (bytesB (decDigits 12) ++ slashB ++ _ ++ colonB ++ _, (0 : Int)) = _
  rw [e1]
  rfl
theorem s_good : parseR goodT = (17705, 0) := by
  have h0 : numR (part0 goodT) = some 12 := by decide
  have h1 : numR (part1 goodT) = some 7 := by decide
  have h2 : numR (part2 goodT) = some 5 := by decide
  unfold parseR
  rw [h0, h1, h2]
  show (if textR 17705 = (goodT, 0) then _ else _) = _
  rw [if_pos s_text]
  rfl
theorem s_bad : parseR badT = (0, 5) := by
  have h0 : numR (part0 badT) = some 12 := by decide
  have h1 : numR (part1 badT) = some 7 := by decide
  have h2 : numR (part2 badT) = some 5 := by decide
  unfold parseR
  rw [h0, h1, h2]
  show (if textR 17705 = (badT, 0) then _ else _) = _
  rw [if_neg (by rw [s_text]; decide)]

structure HSt (w : World) (b z : Nat) (W : World) : Prop where
  zone : ShiftsAt W (some ⟨b, 0, none⟩) sampleZ
  cell : W.cell? ⟨z, 0, none⟩ = some (.slice (some ⟨b, 0, none⟩) 2 2)
  lt : z < W.heap.size
  be : Below w.heap.size w W
theorem HSt.on {w : World} {b z : Nat} {W W' : World} (h : HSt w b z W) (hb : Below W.heap.size W W') : HSt w b z W' :=
  ⟨h.zone.below hb, (hb.cell (p := ⟨_, 0, none⟩) h.lt).trans h.cell, Nat.lt_of_lt_of_le h.lt hb.size, h.be.trans (hb.mono h.be.size)⟩
set_option maxRecDepth 100000 in
set_option maxHeartbeats 2000000 in
theorem head_calls (w : World) (hl : LaidC w) : Calls Tryd.prog 11 #[] w fun e w' => e = .returned (.bool true) ∧ Below w.heap.size w w' := by
  have HL := Lib.hid hl
  clear hl
  go_enter Tryd.func11, Tryd.ntmps11
  go_wp2_with fail
  refine (sample_calls w).mono ?_
  rintro e w1 ⟨b, rfl, hz, hb1⟩
  simp only [zoneVal]
  have hzA := hz.below ((Below.refl _ _).alloc (Nat.le_refl _) (.cells #[.slice (some ⟨b, 0, none⟩) 2 2] 24))
  have hcA := cell_blk (heap_alloc_new w1 (.cells #[.slice (some ⟨b, 0, none⟩) 2 2] 24)) 0
  have hltA : w1.heap.size < (w1.alloc (.cells #[.slice (some ⟨b, 0, none⟩) 2 2] 24)).heap.size := by simp
  have hbA := hb1.alloc hb1.size (.cells #[.slice (some ⟨b, 0, none⟩) 2 2] 24)
  simp only [List.getElem?_toArray, List.getElem?_cons_zero] at hcA
  go_wp2_with fail
  have S0 : HSt w b w1.heap.size _ := ⟨hzA, hcA, hltA, hbA⟩
  generalize w1.alloc (.cells #[.slice (some ⟨b, 0, none⟩) 2 2] 24) = wA at S0 hcA ⊢
  generalize w1.heap.size = z at *
  clear hz hzA hltA hbA hb1
  have ht : goodT.toList = [49, 50, 47, 48, 55, 58, 48, 53] := by rw [ByteArray.toList_eq]; rfl
  have len2 : sampleZ.length ≤ 9223372036854775807 := by decide
  have cc := local_calls _ (some ⟨b, 0, none⟩) 2 sampleZ S0.zone len2 9999
  rw [s_loc1] at cc
  try simp only [zoneVal] at cc
  refine cc.mono ?_
  clear cc
  rintro e v1 ⟨rfl, hb⟩
  have S1 := S0.on hb
  clear hcA
  have hcA := S1.cell
  clear hb
  go_wp2_with fail
  have cc := local_calls _ (some ⟨b, 0, none⟩) 2 sampleZ S1.zone len2 10000
  rw [s_loc2] at cc
  try simp only [zoneVal] at cc
  refine cc.mono ?_
  clear cc
  rintro e v2 ⟨rfl, hb⟩
  have S2 := S1.on hb
  clear hcA
  have hcA := S2.cell
  clear hb
  go_wp2_with fail
  have cc := inst_calls _ (some ⟨b, 0, none⟩) 2 sampleZ S2.zone len2 7 0
  rw [s_inst] at cc
  try simp only [zoneVal] at cc
  refine cc.mono ?_
  clear cc
  rintro e v3 ⟨rfl, hb⟩
  have S3 := S2.on hb
  clear hcA
  have hcA := S3.cell
  clear hb
  go_wp2_with fail
  have cc := begin_calls _ (some ⟨b, 0, none⟩) 2 sampleZ S3.zone len2 1
  rw [s_beg1] at cc
  try simp only [zoneVal] at cc
  refine cc.mono ?_
  clear cc
  rintro e v4 ⟨rfl, hb⟩
  have S4 := S3.on hb
  clear hcA
  have hcA := S4.cell
  clear hb
  go_wp2_with fail
  have cc := begin_calls _ (some ⟨b, 0, none⟩) 2 sampleZ S4.zone len2 0
  rw [s_beg0] at cc
  try simp only [zoneVal] at cc
  refine cc.mono ?_
  clear cc
  rintro e v5 ⟨rfl, hb⟩
  have S5 := S4.on hb
  clear hcA
  have hcA := S5.cell
  clear hb
  go_wp2_with fail
  have cc := text_calls _ (HL.out.below S5.be) 17705
  rw [s_text] at cc
  try simp only [zoneVal] at cc
  refine cc.mono ?_
  clear cc
  rintro e v6 ⟨rfl, hb⟩
  have S6 := S5.on hb
  clear hcA
  have hcA := S6.cell
  clear hb
  go_wp2_with fail
  have cc := parse_calls _ (HL.out.below S6.be) goodT (by decide)
  rw [s_good] at cc
  try simp only [zoneVal] at cc
  refine cc.mono ?_
  clear cc
  rintro e v7 ⟨rfl, hb⟩
  have S7 := S6.on hb
  clear hcA
  have hcA := S7.cell
  clear hb
  go_wp2_with fail
  have cc := parse_calls _ (HL.out.below S7.be) badT (by decide)
  rw [s_bad] at cc
  try simp only [zoneVal] at cc
  refine cc.mono ?_
  clear cc
  rintro e v8 ⟨rfl, hb⟩
  have S8 := S7.on hb
  clear hcA
  have hcA := S8.cell
  clear hb
  go_wp2_with fail
  have cc := valid_calls _ (some ⟨b, 0, none⟩) 2 sampleZ S8.zone len2
  rw [s_valid] at cc
  try simp only [zoneVal] at cc
  refine cc.mono ?_
  clear cc
  rintro e v9 ⟨rfl, hb⟩
  have S9 := S8.on hb
  clear hcA
  have hcA := S9.cell
  clear hb
  go_wp2_with fail
  go_ret
  exact ⟨rfl, S9.be⟩
end Go.Proofs.YtgjombfcldihhaaDoor
