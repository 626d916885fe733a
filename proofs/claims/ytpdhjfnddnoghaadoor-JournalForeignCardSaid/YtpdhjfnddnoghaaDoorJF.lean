/- The journal's digits, zero, seal, head, sector.
   Conditions: the library's tables and sentinels are laid. -/
import Derived.Test.YtpdhjfnddnoghaaDoorJE
import Derived.Lib.AppendIntMem
namespace Go.Proofs.YtpdhjfnddnoghaaDoor
open Go.RowKit Go.Lib
set_option linter.unusedVariables false
set_option linter.unusedSimpArgs false
attribute [local go_sem high] max2_num max_of_two min2_num min_of_two

def bytesB (l : List UInt8) : ByteArray := ⟨l.toArray⟩
theorem bytesB_size (l : List UInt8) : (bytesB l).size = l.length := by show l.toArray.size = _; simp
theorem bytesB_app (a b : List UInt8) : bytesB a ++ bytesB b = bytesB (a ++ b) := by
  apply ByteArray.ext
  simp [bytesB]
/-- a number with leading zeros -/
def digL (n w : Nat) : List UInt8 := List.replicate (w - (decDigits n).length) 48 ++ decDigits n
def digB (n w : Nat) : ByteArray := bytesB (digL n w)
theorem dec_len (u : Nat) (hu : u ≤ 99999999) : 1 ≤ (decDigits u).length ∧ (decDigits u).length ≤ 8 := by
  rw [decDigits_length]
  refine ⟨nDigits_pos u, ?_⟩
  have : ∀ k u, 1 ≤ k → u < 10 ^ k → nDigits u ≤ k := by
    intro k
    induction k with
    | zero => intro u h; omega
    | succ k ih =>
      intro u _ h
      by_cases h1 : u < 10
      · rw [nDigits_small h1]; omega
      · rw [nDigits_big h1]
        rcases Nat.eq_zero_or_pos k with h2 | h2
        · subst h2; simp at h; omega
        · have := ih (u / 10) h2 (by rw [Nat.pow_succ] at h; omega)
          omega
  exact this 8 u (by omega) (by omega)
set_option maxRecDepth 100000 in
theorem digits_calls (w : World) (hl : LaidJ w) (n v : Nat) (hn : n ≤ 99999999) (hv : v ≤ 100) :
    Calls Tryd.prog 53 #[.int .i64 n, .int .i64 v] w fun e w' => e = .returned (.string (digB n v)) ∧ Below w.heap.size w w' := by
  obtain ⟨hd1, hd2⟩ := dec_len n hn
  have h1 := Tryd.strconv_Itoa (n : Int) (by omega) (by omega) w hl.tab
  rw [itoa_nonneg] at h1
  obtain ⟨s, hs⟩ : ∃ s : ByteArray, (⟨(decDigits n).toArray⟩ : ByteArray) = s := ⟨_, rfl⟩
  have hss : s.size = (decDigits n).length := by rw [← hs]; show (List.toArray _).size = _; simp
  rw [hs] at h1
  obtain ⟨c, hc⟩ : ∃ c : Nat, v - (decDigits n).length = c := ⟨_, rfl⟩
  have hmx : mx 0 ((v : Int) - (s.size : Int)) = (c : Int) := by unfold mx; split <;> omega
  have HR : Hid ((⟨(Lib.repeatL [48] c).toArray⟩ : ByteArray) ++ s = digB n v) := by
    show _ = _
    unfold digB digL
    rw [hc, ← hs, ← bytesB_app, repeat_one]
    rfl
  have hrs : (⟨(Lib.repeatL [48] c).toArray⟩ : ByteArray).size = c := by show (List.toArray _).size = c; simp [repeat_one]
  have hc100 : c ≤ 100 := by omega
  have hs8 : s.size ≤ 8 := by omega
  have hrep := fun W => Tryd.strings_Repeat ⟨#[48]⟩ c W (by omega) (by show 1 * c ≤ _; omega)
  simp only [show (⟨#[48]⟩ : ByteArray).data.toList = [48] from rfl] at hrep
  clear hs hc hd1 hd2 hss
  generalize (⟨(Lib.repeatL [48] c).toArray⟩ : ByteArray) = rep at hrep HR hrs
  go_enter Tryd.func53, Tryd.ntmps53
  go_wp2_with fail
  refine h1.mono ?_
  clear h1
  rintro e w1 ⟨rfl, k, os, rfl⟩
  have HB1 : Hid (Below w.heap.size w (Go.Sort.grow (w.drewN k) os)) := below_grow _ _ (Nat.le_refl _) _ _
  go_wp2_with fail
  refine (hrep _).mono ?_
  rintro e w2 ⟨rfl, hb⟩
  have HB2 := Lib.hid (HB1.out.trans (hb.mono HB1.out.size))
  clear hb hrep
  go_wp2_with fail
  go_ret
  rw [← HR.out]
  exact ⟨rfl, HB2.out⟩
theorem digB_size (n v : Nat) (hn : n ≤ 99999999) (hv : v ≤ 100) : (digB n v).size ≤ 100 := by
  have := dec_len n hn
  unfold digB digL
  rw [bytesB_size, List.length_append, List.length_replicate]
  omega
set_option maxRecDepth 100000 in
theorem zero_calls (w : World) : Calls Tryd.prog 35 #[] w fun e w' => e = .returned (.string zeroB) ∧ Below w.heap.size w w' := by
  have hrep := Tryd.strings_Repeat ⟨#[0]⟩ 64 w (by omega) (by show 1 * 64 ≤ _; omega)
  have hz : (⟨(Lib.repeatL [0] 64).toArray⟩ : ByteArray) = zeroB := by unfold zeroB; rw [repeat_one]
  simp only [show (⟨#[0]⟩ : ByteArray).data.toList = [0] from rfl, hz] at hrep
  clear hz
  generalize zeroB = zb at hrep ⊢
  go_enter Tryd.func35, Tryd.ntmps35
  go_wp2_with fail
  refine hrep.mono ?_
  rintro e w2 ⟨rfl, hb⟩
  go_wp2_with fail
  go_ret
  exact ⟨rfl, hb⟩
def padB (c : ByteArray) : ByteArray := bytesB (padTo 48 c.data.toList)
def sealB (place : Nat) (c : ByteArray) : ByteArray := sumB (digB place 8 ++ padB c) ++ padB c
theorem conv_row {wr : World} {B : Nat} {D : List UInt8} {T : TypeId} (h : wr.heap[B]? = some (.cells (byteVals D).toArray T (0, 0))) (n cap : Nat) (hl : D.length = n) :
    (convert 51 9 (.slice (some ⟨B, 0, none⟩) n cap)).run Tryd.prog wr = .ok (.string (bytesB D)) wr := by
  have hs := run_convert_bytes_arg (P := Tryd.prog) wr 51 5 Tryd.underlying51 Tryd.underlying5 B 0 n cap (D.map fun b => (b.toNat : Int)) (by rw [List.length_map]; omega) (fun j hj => ?_) 9 Tryd.underlying9
  · have e := strOfNums_byte (⟨D.toArray⟩ : ByteArray)
    simp only [List.toList_toArray] at e
    rw [e] at hs
    exact hs
  · have hj' : j < D.length := by simpa [hl] using hj
    rw [cell_blk h, List.getElem?_toArray, Nat.zero_add]
    simp [byteVals, List.getElem?_eq_getElem hj', List.getD_eq_getElem?_getD]
theorem splice_padN (n : Nat) (l : List UInt8) (m : Nat) (hm : Nat.min l.length n = m) : (List.replicate n (Value.int .u8 0)).take 0 ++ byteCells (l.take m) ++ (List.replicate n (Value.int .u8 0)).drop (0 + m) = byteVals (padTo n l) := by
  have e1 : l.take m = l.take n := by
    rcases Nat.le_total l.length n with h | h
    · have : m = l.length := by rw [← hm]; exact Nat.min_eq_left h
      rw [this, List.take_length, List.take_of_length_le h]
    · have : m = n := by rw [← hm]; exact Nat.min_eq_right h
      rw [this]
  have e2 : n - m = n - l.length := by
    rcases Nat.le_total l.length n with h | h
    · have : m = l.length := by rw [← hm]; exact Nat.min_eq_left h
      rw [this]
    · have : m = n := by rw [← hm]; exact Nat.min_eq_right h
      omega
  rw [List.take_zero, List.nil_append, Nat.zero_add, List.drop_replicate, e1, e2]
  unfold padTo byteVals byteCells
  rw [List.map_append, List.map_replicate]
  rfl
set_option maxRecDepth 100000 in
set_option maxHeartbeats 4000000 in
theorem seal_calls (w : World) (hl : LaidJ w) (place : Nat) (hp : place ≤ 99999999) (c : ByteArray) (hc : c.size ≤ 1000000) :
    Calls Tryd.prog 52 #[.int .i64 place, .string c] w fun e w' => e = .returned (.string (sealB place c)) ∧ Below w.heap.size w w' := by
  obtain ⟨m, hm⟩ : ∃ m, Nat.min c.size 48 = m := ⟨_, rfl⟩
  have hm48 : m ≤ 48 := by rw [← hm]; exact Nat.min_le_right _ _
  have hnew : (w.alloc (.cells #[Value.int .u8 0, Value.int .u8 0, Value.int .u8 0, Value.int .u8 0, Value.int .u8 0, Value.int .u8 0, Value.int .u8 0, Value.int .u8 0, Value.int .u8 0, Value.int .u8 0, Value.int .u8 0, Value.int .u8 0, Value.int .u8 0, Value.int .u8 0, Value.int .u8 0, Value.int .u8 0, Value.int .u8 0, Value.int .u8 0, Value.int .u8 0, Value.int .u8 0, Value.int .u8 0, Value.int .u8 0, Value.int .u8 0, Value.int .u8 0, Value.int .u8 0, Value.int .u8 0, Value.int .u8 0, Value.int .u8 0, Value.int .u8 0, Value.int .u8 0, Value.int .u8 0, Value.int .u8 0, Value.int .u8 0, Value.int .u8 0, Value.int .u8 0, Value.int .u8 0, Value.int .u8 0, Value.int .u8 0, Value.int .u8 0, Value.int .u8 0, Value.int .u8 0, Value.int .u8 0, Value.int .u8 0, Value.int .u8 0, Value.int .u8 0, Value.int .u8 0, Value.int .u8 0, Value.int .u8 0] 101)).heap[w.heap.size]? = some (.cells (List.replicate 48 (Value.int .u8 0)).toArray 101 (0, 0)) := by
    rw [heap_alloc_new]
    rfl
  have hcp := run_copy_row_min (P := Tryd.prog) (w.alloc (.cells #[Value.int .u8 0, Value.int .u8 0, Value.int .u8 0, Value.int .u8 0, Value.int .u8 0, Value.int .u8 0, Value.int .u8 0, Value.int .u8 0, Value.int .u8 0, Value.int .u8 0, Value.int .u8 0, Value.int .u8 0, Value.int .u8 0, Value.int .u8 0, Value.int .u8 0, Value.int .u8 0, Value.int .u8 0, Value.int .u8 0, Value.int .u8 0, Value.int .u8 0, Value.int .u8 0, Value.int .u8 0, Value.int .u8 0, Value.int .u8 0, Value.int .u8 0, Value.int .u8 0, Value.int .u8 0, Value.int .u8 0, Value.int .u8 0, Value.int .u8 0, Value.int .u8 0, Value.int .u8 0, Value.int .u8 0, Value.int .u8 0, Value.int .u8 0, Value.int .u8 0, Value.int .u8 0, Value.int .u8 0, Value.int .u8 0, Value.int .u8 0, Value.int .u8 0, Value.int .u8 0, Value.int .u8 0, Value.int .u8 0, Value.int .u8 0, Value.int .u8 0, Value.int .u8 0, Value.int .u8 0] 101)) 51 9 3 5 w.heap.size 0 48 48 c _ _ m hm Tryd.underlying51 (by kernel_rfl) hnew (by simp; omega)
  rw [show (List.replicate 48 (Value.int .u8 0)).toArray.toList = List.replicate 48 (Value.int .u8 0) from rfl, splice_padN 48 c.data.toList m (by rw [bsize]; exact hm)] at hcp
  have hrow := setRow_heap (w.alloc (.cells #[Value.int .u8 0, Value.int .u8 0, Value.int .u8 0, Value.int .u8 0, Value.int .u8 0, Value.int .u8 0, Value.int .u8 0, Value.int .u8 0, Value.int .u8 0, Value.int .u8 0, Value.int .u8 0, Value.int .u8 0, Value.int .u8 0, Value.int .u8 0, Value.int .u8 0, Value.int .u8 0, Value.int .u8 0, Value.int .u8 0, Value.int .u8 0, Value.int .u8 0, Value.int .u8 0, Value.int .u8 0, Value.int .u8 0, Value.int .u8 0, Value.int .u8 0, Value.int .u8 0, Value.int .u8 0, Value.int .u8 0, Value.int .u8 0, Value.int .u8 0, Value.int .u8 0, Value.int .u8 0, Value.int .u8 0, Value.int .u8 0, Value.int .u8 0, Value.int .u8 0, Value.int .u8 0, Value.int .u8 0, Value.int .u8 0, Value.int .u8 0, Value.int .u8 0, Value.int .u8 0, Value.int .u8 0, Value.int .u8 0, Value.int .u8 0, Value.int .u8 0, Value.int .u8 0, Value.int .u8 0] 101)) w.heap.size _ (byteVals (padTo 48 c.data.toList)).toArray _ _ hnew
  have hbe : Below w.heap.size w ((w.alloc (.cells #[Value.int .u8 0, Value.int .u8 0, Value.int .u8 0, Value.int .u8 0, Value.int .u8 0, Value.int .u8 0, Value.int .u8 0, Value.int .u8 0, Value.int .u8 0, Value.int .u8 0, Value.int .u8 0, Value.int .u8 0, Value.int .u8 0, Value.int .u8 0, Value.int .u8 0, Value.int .u8 0, Value.int .u8 0, Value.int .u8 0, Value.int .u8 0, Value.int .u8 0, Value.int .u8 0, Value.int .u8 0, Value.int .u8 0, Value.int .u8 0, Value.int .u8 0, Value.int .u8 0, Value.int .u8 0, Value.int .u8 0, Value.int .u8 0, Value.int .u8 0, Value.int .u8 0, Value.int .u8 0, Value.int .u8 0, Value.int .u8 0, Value.int .u8 0, Value.int .u8 0, Value.int .u8 0, Value.int .u8 0, Value.int .u8 0, Value.int .u8 0, Value.int .u8 0, Value.int .u8 0, Value.int .u8 0, Value.int .u8 0, Value.int .u8 0, Value.int .u8 0, Value.int .u8 0, Value.int .u8 0] 101)).setRow w.heap.size (byteVals (padTo 48 c.data.toList)).toArray) :=
    ((Below.refl _ w).alloc (Nat.le_refl _) _).trans ⟨rfl, rfl, rfl, by simp [World.setRow], fun k hk => setRow_other _ _ _ _ (by omega)⟩
  have hcv := conv_row hrow 48 48 (padTo_length 48 _)
  have hpl : (padB c).size = 48 := by unfold padB; rw [bytesB_size, padTo_length]
  rw [show bytesB (padTo 48 c.data.toList) = padB c from rfl] at hcv
  have HBE := Lib.hid hbe
  have HL := Lib.hid hl
  clear hnew hrow hbe hl hm
  generalize (w.alloc (.cells #[Value.int .u8 0, Value.int .u8 0, Value.int .u8 0, Value.int .u8 0, Value.int .u8 0, Value.int .u8 0, Value.int .u8 0, Value.int .u8 0, Value.int .u8 0, Value.int .u8 0, Value.int .u8 0, Value.int .u8 0, Value.int .u8 0, Value.int .u8 0, Value.int .u8 0, Value.int .u8 0, Value.int .u8 0, Value.int .u8 0, Value.int .u8 0, Value.int .u8 0, Value.int .u8 0, Value.int .u8 0, Value.int .u8 0, Value.int .u8 0, Value.int .u8 0, Value.int .u8 0, Value.int .u8 0, Value.int .u8 0, Value.int .u8 0, Value.int .u8 0, Value.int .u8 0, Value.int .u8 0, Value.int .u8 0, Value.int .u8 0, Value.int .u8 0, Value.int .u8 0, Value.int .u8 0, Value.int .u8 0, Value.int .u8 0, Value.int .u8 0, Value.int .u8 0, Value.int .u8 0, Value.int .u8 0, Value.int .u8 0, Value.int .u8 0, Value.int .u8 0, Value.int .u8 0, Value.int .u8 0] 101)).setRow w.heap.size (byteVals (padTo 48 c.data.toList)).toArray = W1 at hcp hcv HBE
  go_enter Tryd.func52, Tryd.ntmps52
  go_wp2_with fail
  have cd := digits_calls W1 (HL.out.below HBE.out) place 8 hp (by omega)
  rw [show ((8 : Nat) : Int) = 8 from rfl] at cd
  refine cd.mono ?_
  clear cd hcp hcv
  rintro e w2 ⟨rfl, hb⟩
  have HB2 := Lib.hid (HBE.out.trans (hb.mono HBE.out.size))
  have hds := digB_size place 8 hp (by omega)
  clear hb
  obtain ⟨dg, hdg⟩ : ∃ dg, digB place 8 = dg := ⟨_, rfl⟩
  obtain ⟨pb, hpb⟩ : ∃ pb, padB c = pb := ⟨_, rfl⟩
  have HS : Hid (sealB place c = sumB (dg ++ pb) ++ pb) := by show _ = _; unfold sealB; rw [hdg, hpb]
  simp only [hdg, hpb] at *
  clear hdg hpb
  have hsz : (dg ++ pb).size ≤ 1000 := by rw [ByteArray.size_append]; omega
  have hs16 := sumB_size (dg ++ pb)
  have cs := sum_calls w2 (HL.out.below HB2.out) (dg ++ pb) (by omega)
  go_wp2_with fail
  refine cs.mono ?_
  clear cs
  rintro e w3 ⟨rfl, hb⟩
  have HB3 := Lib.hid (HB2.out.trans (hb.mono HB2.out.size))
  clear hb
  go_wp2_with fail
  go_ret
  rw [HS.out]
  exact ⟨rfl, HB3.out⟩
theorem padB_size (c : ByteArray) : (padB c).size = 48 := by unfold padB; rw [bytesB_size, padTo_length]
theorem sealB_size (place : Nat) (c : ByteArray) : (sealB place c).size = 64 := by
  unfold sealB
  rw [ByteArray.size_append, sumB_size, padB_size]
def headB (place n : Nat) : ByteArray := sealB place (digB n 8)
def sectorB (place : Nat) (s : ByteArray) : ByteArray := sealB place (digB s.size 2 ++ s)
set_option maxRecDepth 100000 in
theorem headof_calls (w : World) (hl : LaidJ w) (place n : Nat) (hp : place ≤ 99999999) (hn : n ≤ 99999999) :
    Calls Tryd.prog 34 #[.int .i64 place, .int .i64 n] w fun e w' => e = .returned (.string (headB place n)) ∧ Below w.heap.size w w' := by
  have cd := digits_calls w hl n 8 hn (by omega)
  rw [show ((8 : Nat) : Int) = 8 from rfl] at cd
  have hds := digB_size n 8 hn (by omega)
  have HL := Lib.hid hl
  have HH : Hid (headB place n = sealB place (digB n 8)) := by show _ = _; rfl
  clear hl
  generalize digB n 8 = dg at cd hds HH
  go_enter Tryd.func34, Tryd.ntmps34
  go_wp2_with fail
  refine cd.mono ?_
  clear cd
  rintro e w2 ⟨rfl, hb⟩
  have cs := seal_calls w2 (HL.out.below hb) place hp dg (by omega)
  have HB := Lib.hid hb
  clear hb
  go_wp2_with fail
  refine cs.mono ?_
  clear cs
  rintro e w3 ⟨rfl, hb⟩
  have HB3 := Lib.hid (HB.out.trans (hb.mono HB.out.size))
  clear hb
  go_wp2_with fail
  go_ret
  rw [HH.out]
  exact ⟨rfl, HB3.out⟩
set_option maxRecDepth 100000 in
theorem sector_calls (w : World) (hl : LaidJ w) (place : Nat) (hp : place ≤ 99999999) (s : ByteArray) (hs : s.size ≤ 1000) :
    Calls Tryd.prog 30 #[.int .i64 place, .string s] w fun e w' => e = .returned (.string (sectorB place s)) ∧ Below w.heap.size w w' := by
  have cd := digits_calls w hl s.size 2 (by omega) (by omega)
  rw [show ((2 : Nat) : Int) = 2 from rfl] at cd
  have hds := digB_size s.size 2 (by omega) (by omega)
  have HL := Lib.hid hl
  have HH : Hid (sectorB place s = sealB place (digB s.size 2 ++ s)) := by show _ = _; rfl
  clear hl
  generalize digB s.size 2 = dg at cd hds HH
  have hsz : (dg ++ s).size ≤ 2000 := by rw [ByteArray.size_append]; omega
  go_enter Tryd.func30, Tryd.ntmps30
  go_wp2_with fail
  refine cd.mono ?_
  clear cd
  rintro e w2 ⟨rfl, hb⟩
  have cs := seal_calls w2 (HL.out.below hb) place hp (dg ++ s) (by omega)
  have HB := Lib.hid hb
  clear hb
  go_wp2_with fail
  refine cs.mono ?_
  clear cs
  rintro e w3 ⟨rfl, hb⟩
  have HB3 := Lib.hid (HB.out.trans (hb.mono HB.out.size))
  clear hb
  go_wp2_with fail
  go_ret
  rw [HH.out]
  exact ⟨rfl, HB3.out⟩
end Go.Proofs.YtpdhjfnddnoghaaDoor
