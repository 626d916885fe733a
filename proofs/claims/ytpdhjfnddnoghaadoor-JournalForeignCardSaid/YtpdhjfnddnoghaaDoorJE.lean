/- digest.Sum.
   Conditions: the library's tables and sentinels are laid. -/
import Derived.Test.YtpdhjfnddnoghaaDoorJD
import Derived.Test.YtpdhjfnddnoghaaDoorJSh
import Derived.Lib.LaidTab
namespace Go.Proofs.YtpdhjfnddnoghaaDoor
open Go.RowKit Go.Lib
set_option linter.unusedVariables false
set_option linter.unusedSimpArgs false

theorem var_below {P : Program} {w w' : World} {name : String} {cs : Array Value} (h : w.var? P name = some cs) (hb : Below w.heap.size w w') : w'.var? P name = some cs := by
  unfold World.var? at *
  cases hg : P.globalNamed name with
  | none => simp [hg] at h
  | some g =>
    simp only [hg, Option.bind_some] at h ⊢
    have hlt : g < w.heap.size := by
      rcases Nat.lt_or_ge g w.heap.size with h' | h'
      · exact h'
      · rw [Array.getElem?_eq_none h'] at h; simp at h
    rw [hb.block g hlt]
    exact h
/-- what a row lists as laid -/
structure LaidJ (w : World) : Prop where
  tz : w.cell? ⟨5, 15, none⟩ = some (.int .u8 4)
  tab : TabIs Tryd.prog w "internal/strconv.uint64pow10" .u64 pow10Tab
  syn : ∃ tp p, w.var? Tryd.prog "strconv.ErrSyntax" = some #[.iface tp p]
  rng : ∃ tp p, w.var? Tryd.prog "strconv.ErrRange" = some #[.iface tp p]
theorem LaidJ.below {w w' : World} (h : LaidJ w) (hb : Below w.heap.size w w') : LaidJ w' :=
  ⟨(hb.cell (p := ⟨5, 15, none⟩) (World.block_lt_of_cell? w _ h.tz)).trans h.tz, var_below h.tab hb, by obtain ⟨tp, p, e⟩ := h.syn; exact ⟨tp, p, var_below e hb⟩, by obtain ⟨tp, p, e⟩ := h.rng; exact ⟨tp, p, var_below e hb⟩⟩
theorem repeat_one (b : UInt8) (c : Nat) : Lib.repeatL [b] c = List.replicate c b := by
  induction c with
  | zero => rfl
  | succ c ih => rw [Lib.repeatL, ih, List.replicate_succ]; rfl
theorem hexW_zero (w : Nat) : hexW w 0 = List.replicate w 48 := by
  induction w with
  | zero => rfl
  | succ w ih => rw [hexW_succ, Nat.zero_div, ih, List.replicate_succ']; rfl
theorem hexDigits_pos (u : Nat) : 1 ≤ (hexDigits u).length := by
  by_cases h : u < 16
  · rw [hexDigits_small u h]; simp
  · rw [hexDigits_big u h]; simp
theorem hexW_pad : ∀ (w n : Nat), 1 ≤ w → n < 16 ^ w → hexW w n = List.replicate (w - (hexDigits n).length) 48 ++ hexDigits n := by
  intro w
  induction w with
  | zero => intro n h; omega
  | succ w ih =>
    intro n _ hn
    rw [hexW_succ]
    by_cases h : n < 16
    · rw [hexDigits_small n h, show n / 16 = 0 by omega, show n % 16 = n by omega, hexW_zero]
      simp
    · have hw : 1 ≤ w := by
        rcases Nat.eq_zero_or_pos w with h0 | h0
        · subst h0; simp at hn; omega
        · exact h0
      rw [ih (n / 16) hw (by rw [Nat.pow_succ] at hn; omega), hexDigits_big n h]
      simp only [List.length_append, List.length_singleton, List.append_assoc]
      congr 2
      omega
set_option maxRecDepth 100000 in
set_option maxHeartbeats 4000000 in
theorem sum_calls (w : World) (hl : LaidJ w) (s : ByteArray) (hs : s.size ≤ 1000000) :
    Calls Tryd.prog 65 #[.string s] w fun e w' => e = .returned (.string (sumB s)) ∧ Below w.heap.size w w' := by
  have e1 : bits .xor .u64 2611923443488327891 (s.size : Int) = ((2611923443488327891 ^^^ s.size : Nat) : Int) := by
    have := u64_xor_nat 2611923443488327891 s.size (by omega) (by omega)
    simpa using this
  have hS : 2611923443488327891 ^^^ s.size < 18446744073709551616 := xor_lt (by omega) (by omega)
  obtain ⟨S0, hS0⟩ : ∃ S0, 2611923443488327891 ^^^ s.size = S0 := ⟨_, rfl⟩
  rw [hS0] at e1 hS
  obtain ⟨T, hT⟩ : ∃ T, stateFrom S0 s.data.toList (s.data.toList.length / 8 + 1) = T := ⟨_, rfl⟩
  have hTl : T < 18446744073709551616 := by rw [← hT]; exact stateFrom_lt hS _ _
  have hlen := hexDigits_len 16 T (by omega) hTl
  have hpos := hexDigits_pos T
  have HE : Hid (sumB s = ⟨(List.replicate (16 - (hexDigits T).length) 48 ++ hexDigits T).toArray⟩) := by
    show _ = _
    unfold sumB stateN
    rw [bsize, hS0, ← bsize s, hT, hexW_pad 16 T (by omega) hTl]
  have hb := blocks_calls (w.alloc (.cells #[.int .u64 S0] 116)) s (by omega) w.heap.size S0 hS (heap_alloc_new _ _)
  rw [hT] at hb
  have h5 := World.block_lt_of_cell? w _ hl.tz
  have HL := Lib.hid hl
  clear hT hS0 hl
  go_enter Tryd.func65, Tryd.ntmps65
  go_wp2_with fail
  refine hb.mono ?_
  clear hb
  rintro e w1 ⟨rfl, hq, hu⟩
  have hB1 : Below w.heap.size w w1 := ((Below.refl _ w).alloc (Nat.le_refl _) _).trans (hu.below (fun i hi => by have : i = w.heap.size := hi; omega) (by simp))
  have hc := cell_blk hq 0
  simp only [List.getElem?_toArray, List.getElem?_cons_zero] at hc
  have HB1 := Lib.hid hB1
  clear hq hu hB1
  go_wp2_with fail
  refine (fmt_calls w1 (HL.out.below HB1.out).tz T hTl).mono ?_
  rintro e w2 ⟨rfl, hb⟩
  have HB2 := Lib.hid (HB1.out.trans (hb.mono HB1.out.size))
  clear hb hc
  obtain ⟨out, hout⟩ : ∃ out : ByteArray, (⟨(hexDigits T).toArray⟩ : ByteArray) = out := ⟨_, rfl⟩
  have hos : out.size = (hexDigits T).length := by rw [← hout]; show (List.toArray _).size = _; simp
  obtain ⟨c, hcc⟩ : ∃ c : Nat, 16 - (hexDigits T).length = c := ⟨_, rfl⟩
  have hsub : (16 : Int) - (out.size : Int) = (c : Int) := by omega
  have hc16 : c ≤ 16 := by omega
  have ho16 : out.size ≤ 16 := by omega
  have HR : Hid ((⟨(Lib.repeatL [48] c).toArray⟩ : ByteArray) ++ out = sumB s) := by
    show _ = _
    rw [HE.out, hcc, ← hout]
    apply ByteArray.ext
    simp [repeat_one]
  have hrs : (⟨(Lib.repeatL [48] c).toArray⟩ : ByteArray).size = c := by
    show (List.toArray _).size = c
    simp [repeat_one]
  have hrep := Tryd.strings_Repeat ⟨#[48]⟩ c w2 (by omega) (by show 1 * c ≤ _; omega)
  simp only [hout]
  clear hout hos hcc hlen hpos
  generalize (⟨(Lib.repeatL [48] c).toArray⟩ : ByteArray) = rep at hrep HR hrs
  go_wp2_with fail
  refine hrep.mono ?_
  rintro e w3 ⟨rfl, hb⟩
  have HB3 := Lib.hid (HB2.out.trans (hb.mono HB2.out.size))
  clear hb hrep
  go_wp2_with fail
  go_ret
  rw [← HR.out]
  exact ⟨rfl, HB3.out⟩
end Go.Proofs.YtpdhjfnddnoghaaDoor
