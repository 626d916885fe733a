/- ClockTexts: the walk.
   Conditions: the library's tables and sentinels are laid; the text has at most 2^48 bytes. -/
import Derived.Test.YtgjombfcldihhaaDoorKT
namespace Go.Proofs.YtgjombfcldihhaaDoor
open Go.RowKit Go.Lib
set_option linter.unusedVariables false
set_option linter.unusedSimpArgs false

set_option maxRecDepth 100000 in
set_option maxHeartbeats 8000000 in
theorem texts_walk (w : World) (hl : LaidC w) (t : Int) (ht : -9223372036854775808 ≤ t ∧ t ≤ 9223372036854775807) (s : ByteArray) (hs : s.size ≤ 281474976710656) :
    Calls Tryd.prog 9 #[.int .i64 t, .string s] w fun e w' => e = .returned (.bool true) ∧ Below w.heap.size w w' := by
  obtain ⟨t0, t1⟩ := ht
  have HL := Lib.hid hl
  clear hl
  have ct := fun W (hW : Below w.heap.size w W) => text_calls W (HL.out.below hW) t
  have cp1 := fun W (hW : Below w.heap.size w W) => parse_calls W (HL.out.below hW) (textR t).1 (by have := textR_size t; omega)
  have cp2 := fun W (hW : Below w.heap.size w W) => parse_calls W (HL.out.below hW) s hs
  have HX : ∃ (x : ByteArray) (e u g : Int), textR t = (x, e) ∧ parseR x = (u, g) ∧ ((0 ≤ t ∧ t ≤ 144001439 ∧ e = 0 ∧ u = t ∧ g = 0) ∨ ((t < 0 ∨ (0 ≤ t ∧ 144001439 < t)) ∧ e = 1 ∧ x = ⟨#[]⟩ ∧ u = 0 ∧ g = 5)) := by
    by_cases h : 0 ≤ t ∧ t ≤ 144001439
    · refine ⟨_, _, _, _, textR_of h.1 h.2, parse_text _ (by omega), .inl ⟨h.1, h.2, rfl, by omega, rfl⟩⟩
    · refine ⟨⟨#[]⟩, 1, 0, 5, by unfold textR; rw [if_neg (by simp [isB]; omega)], by decide, .inr ⟨by omega, rfl, rfl, rfl, rfl⟩⟩
  obtain ⟨x, e, u, g, hX, hP, hC⟩ := HX
  have hxs : x.size ≤ 12 := by have := textR_size t; rw [hX] at this; exact this
  have HE : ∃ (v k : Int), parseR s = (v, k) ∧ ((k = 0 ∧ 0 ≤ v ∧ v ≤ 144001439 ∧ textR v = (s, 0)) ∨ (k = 5 ∧ v = 0)) := by
    rcases parse_ends s with ⟨n, hn, h1, h2⟩ | ⟨h1, _⟩
    · exact ⟨_, _, h2, .inl ⟨rfl, by omega, by omega, by rw [textR_of (by omega) (by omega), h1]; rfl⟩⟩
    · exact ⟨_, _, h1, .inr ⟨rfl, rfl⟩⟩
  obtain ⟨v, k, hE, hK⟩ := HE
  have ct2 := fun W (hW : Below w.heap.size w W) => text_calls W (HL.out.below hW) v
  rw [hX] at ct cp1
  rw [hP] at cp1
  rw [hE] at cp2
  clear hX hP hE
  go_enter Tryd.func9, Tryd.ntmps9
  go_wp2_with fail
  refine (head_calls _ HL.out).mono ?_
  rintro e' w1 ⟨rfl, hb⟩
  have B1 := Lib.hid hb
  clear hb
  by_cases hlen : (s.size : Int) > 200
  · go_wp2_with fail
    go_ret
    exact ⟨rfl, B1.out⟩
  · have HKK := Lib.hid hK
    clear hK
    go_wp2_with fail
    refine (ct _ B1.out).mono ?_
    rintro e' w2 ⟨rfl, hb⟩
    have B2 := Lib.hid (B1.out.trans (hb.mono B1.out.size))
    clear hb ct
    rcases hC with ⟨c0, c1, rfl, rfl, rfl⟩ | ⟨c0, rfl, rfl, rfl, rfl⟩
    · go_wp2_with fail
      refine (cp1 _ B2.out).mono ?_
      rintro e' w3 ⟨rfl, hb⟩
      have B3 := Lib.hid (B2.out.trans (hb.mono B2.out.size))
      clear hb cp1
      go_wp2_with fail
      refine (cp2 _ B3.out).mono ?_
      rintro e' w4 ⟨rfl, hb⟩
      have B4 := Lib.hid (B3.out.trans (hb.mono B3.out.size))
      clear hb cp2
      rcases HKK.out with ⟨rfl, v0, v1, hT⟩ | ⟨rfl, rfl⟩
      · rw [hT] at ct2
        clear hT
        go_wp2_with fail
        refine (ct2 _ B4.out).mono ?_
        rintro e' w5 ⟨rfl, hb⟩
        have B5 := Lib.hid (B4.out.trans (hb.mono B4.out.size))
        clear hb ct2
        go_wp2_with fail
        go_ret
        exact ⟨rfl, B5.out⟩
      · go_wp2_with fail
        go_ret
        exact ⟨rfl, B4.out⟩
    · rcases c0 with c0 | ⟨c0, c1⟩
      · go_wp2_with fail
        refine (cp1 _ B2.out).mono ?_
        rintro e' w3 ⟨rfl, hb⟩
        have B3 := Lib.hid (B2.out.trans (hb.mono B2.out.size))
        clear hb cp1
        go_wp2_with fail
        refine (cp2 _ B3.out).mono ?_
        rintro e' w4 ⟨rfl, hb⟩
        have B4 := Lib.hid (B3.out.trans (hb.mono B3.out.size))
        clear hb cp2
        rcases HKK.out with ⟨rfl, v0, v1, hT⟩ | ⟨rfl, rfl⟩
        · rw [hT] at ct2
          clear hT
          go_wp2_with fail
          refine (ct2 _ B4.out).mono ?_
          rintro e' w5 ⟨rfl, hb⟩
          have B5 := Lib.hid (B4.out.trans (hb.mono B4.out.size))
          clear hb ct2
          go_wp2_with fail
          go_ret
          exact ⟨rfl, B5.out⟩
        · go_wp2_with fail
          go_ret
          exact ⟨rfl, B4.out⟩
      · go_wp2_with fail
        refine (cp1 _ B2.out).mono ?_
        rintro e' w3 ⟨rfl, hb⟩
        have B3 := Lib.hid (B2.out.trans (hb.mono B2.out.size))
        clear hb cp1
        go_wp2_with fail
        refine (cp2 _ B3.out).mono ?_
        rintro e' w4 ⟨rfl, hb⟩
        have B4 := Lib.hid (B3.out.trans (hb.mono B3.out.size))
        clear hb cp2
        rcases HKK.out with ⟨rfl, v0, v1, hT⟩ | ⟨rfl, rfl⟩
        · rw [hT] at ct2
          clear hT
          go_wp2_with fail
          refine (ct2 _ B4.out).mono ?_
          rintro e' w5 ⟨rfl, hb⟩
          have B5 := Lib.hid (B4.out.trans (hb.mono B4.out.size))
          clear hb ct2
          go_wp2_with fail
          go_ret
          exact ⟨rfl, B5.out⟩
        · go_wp2_with fail
          go_ret
          exact ⟨rfl, B4.out⟩
end Go.Proofs.YtgjombfcldihhaaDoor
