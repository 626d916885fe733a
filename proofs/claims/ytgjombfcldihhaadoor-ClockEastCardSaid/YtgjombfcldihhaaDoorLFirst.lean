/- ClockFirst: the walk.
   Conditions: the library's tables and sentinels are laid; the zone lies in memory as ShiftsAt says. -/
import Derived.Test.YtgjombfcldihhaaDoorKR
import Derived.Deep.DeepCutAuto
import Derived.Deep.RegionHeld3
import Derived.Maps.AppendAt
import Derived.OwnWalk
namespace Go.Proofs.YtgjombfcldihhaaDoor
open Go.RowKit Go.Lib
set_option linter.unusedVariables false
set_option linter.unusedSimpArgs false

theorem Tryd.infoInt : (Tryd.prog.info? 3).map (fun i => (i.zero, i.size, i.bytes)) = some (some (.int .i64 0), 1, 8) := by kernel_rfl
theorem own_same {w w' : World} {base : Nat} {e : TypeId} {size n : Nat} {v : Value} {xs : List Value} (h : w.ownsRow base e size v n xs) (hb : ∀ k, v.ownBlock = some k → w'.heap[k]? = w.heap[k]?) : w'.ownsRow base e size v n xs := by
  refine ⟨h.1, ?_⟩
  rcases h.2 with h2 | ⟨g, cap, cur, rfl, hg, hh, r⟩
  · exact .inl h2
  · exact .inr ⟨g, cap, cur, rfl, hg, by rw [hb g rfl]; exact hh, r⟩
def ints (us : List Int) : List Value := us.map (.int .i64)
/-- a row of the call's own numbers, to be read -/
def IntsAt (w : World) (v : Value) (us : List Int) : Prop := ∃ g cap, v = .slice (some ⟨g, 0, none⟩) us.length cap ∧ g < w.heap.size ∧ ∀ k (h : k < us.length), w.cell? ⟨g, k, none⟩ = some (.int .i64 us[k])
theorem IntsAt.below {w w' : World} {v : Value} {us : List Int} (h : IntsAt w v us) (hb : Below w.heap.size w w') : IntsAt w' v us := by
  obtain ⟨g, cap, hv, hg, hc⟩ := h
  exact ⟨g, cap, hv, Nat.lt_of_lt_of_le hg hb.size, fun k hk => (World.cell?_of_block (w := w) (a := ⟨g, k, none⟩) (hb.block _ hg)).trans (hc k hk)⟩
theorem IntsAt.of_own {w : World} {base : Nat} {e : TypeId} {v : Value} {us : List Int} (h : w.ownsRow base e 1 v us.length (ints us)) (h0 : 0 < us.length) : IntsAt w v us := by
  obtain ⟨hl, h2 | ⟨g, cap, cur, hv, hg, hh, h3, h4, h5, h6⟩⟩ := h
  · omega
  · refine ⟨g, cap, hv, blk_lt hh, fun k hk => ?_⟩
    rw [cell_blk hh]
    have e1 : (cur.toList.take (us.length * 1))[k]? = cur.toList[k]? := by rw [List.getElem?_take, if_pos (by omega)]
    rw [h6] at e1
    rw [← Array.getElem?_toList, ← e1, ints, List.getElem?_map, List.getElem?_eq_getElem hk]
    rfl
/-- the first two -/
theorem own_two (W : World) (a b : Int) : (W.alloc (.cells #[.int .i64 a, .int .i64 b] 3)).ownsRow W.heap.size 3 1 (.slice (some ⟨W.heap.size, 0, none⟩) 2 2) 2 (ints [a, b]) :=
  ⟨rfl, .inr ⟨W.heap.size, 2, #[.int .i64 a, .int .i64 b], rfl, Nat.le_refl _, heap_alloc_new W _, Nat.le_refl _, by decide, rfl, rfl⟩⟩

set_option maxRecDepth 100000 in
set_option maxHeartbeats 40000000 in
theorem first_walk (w : World) (hl : LaidC w) (A : Option Addr) (cap : Nat) (l : List Sh) (hz : ShiftsAt w A l) (hlen : l.length ≤ 9223372036854775807) (day minute raw : Int) (hd : -9223372036854775808 ≤ day ∧ day ≤ 9223372036854775807) (hm : -9223372036854775808 ≤ minute ∧ minute ≤ 9223372036854775807) (hr : 0 ≤ raw ∧ raw ≤ 4294967295) :
    Calls Tryd.prog 5 #[zoneVal A l.length cap, .int .i64 day, .int .i64 minute, .int .u32 raw] w fun e w' => e = .returned (.bool true) ∧ Below w.heap.size w w' := by
  obtain ⟨r0, r1⟩ := hr
  obtain ⟨dd0, dd1⟩ := hd
  obtain ⟨mm0, mm1⟩ := hm
  have HL := Lib.hid hl
  have S0 := ZSt.box w A cap l hz
  clear hl hz
  simp only [zoneVal]
  have hcA := S0.cell
  go_enter Tryd.func5, Tryd.ntmps5
  go_wp2_with fail
  generalize w.alloc (.cells #[.slice A l.length cap] 24) = wA at S0 hcA ⊢
  obtain ⟨z, hz⟩ : ∃ z, w.heap.size = z := ⟨_, rfl⟩
  have HZ := Lib.hid hz
  simp only [hz] at S0 hcA ⊢
  clear hz
  refine (head_calls _ (HL.out.below S0.be)).mono ?_
  rintro e w1 ⟨rfl, hb⟩
  have S1 := S0.on hb
  clear hb hcA
  have hcA := S1.cell
  go_wp2_with fail
  have cc := few_calls w1 A l.length cap 40
  simp only [zoneVal] at cc
  refine cc.mono ?_
  clear cc
  rintro e w2 ⟨rfl, hb⟩
  have S2 := S1.on hb
  clear hb hcA
  have hcA := S2.cell
  by_cases hf : (l.length : Int) ≤ 40
  · rw [decide_eq_true hf]
    go_wp2_with fail
    have cc := valid_calls w2 A cap l S2.zone hlen
    simp only [zoneVal] at cc
    refine cc.mono ?_
    clear cc
    rintro e w3 ⟨rfl, hb⟩
    have S3 := S2.on hb
    clear hb hcA
    have hcA := S3.cell
    by_cases hv : validB l = true
    · rw [hv]
      by_cases hm0 : minute < 0
      · go_wp2_with fail
        go_ret
        exact ⟨rfl, HZ.out ▸ S3.be⟩
      by_cases hm1 : 1439 < minute
      · have m0 : 0 ≤ minute := by omega
        clear hm0
        go_wp2_with fail
        go_ret
        exact ⟨rfl, HZ.out ▸ S3.be⟩
      have m0 : 0 ≤ minute := by omega
      have m1 : minute ≤ 1439 := by omega
      clear hm0 hm1
      have HT0 := Lib.hid (tiles_of hv)
      obtain ⟨i0, hi, hz0, hzz1, hz2⟩ := info_parts Tryd.infoInt
      have ci := fun W (hW : ZSt w z A cap l W) => inst_calls W A cap l hW.zone hlen day minute
      rcases first_facts hv day minute m0 m1 with ⟨t, hI, t0, t1, ⟨a, b, hL, hE⟩, hall⟩ | ⟨hI, hall⟩
      · have HALL := Lib.hid hall
        have cl := fun W (hW : ZSt w z A cap l W) => local_calls W A cap l hW.zone hlen t
        have ce := fun W => earlier_calls W a b day minute
        rw [hI] at ci
        rw [hL] at cl
        rw [hE] at ce
        simp only [zoneVal] at ci cl
        clear hI hL hE hall hv
        go_wp2_with fail
        refine (ci _ S3).mono ?_
        rintro e w4 ⟨rfl, hb⟩
        have S4 := S3.on hb
        clear hb hcA ci
        have hcA := S4.cell
        go_wp2_with fail
        refine (cl _ S4).mono ?_
        rintro e w5 ⟨rfl, hb⟩
        have S5 := S4.on hb
        clear hb hcA cl
        have hcA := S5.cell
        go_wp2_with fail
        refine (ce _).mono ?_
        rintro e w6 ⟨rfl, rfl⟩
        clear ce
        by_cases h0 : t = 0
        · subst h0
          go_wp2_with fail
          go_ret
          exact ⟨rfl, HZ.out ▸ S5.be⟩
        · have h0b : (t == 0) = false := by simp [h0]
          have hp : 0 < t := by omega
          clear h0
          obtain ⟨ru, hru⟩ : ∃ u, raw % t = u := ⟨_, rfl⟩
          have ru0 : 0 ≤ ru := by rw [← hru]; exact Int.emod_nonneg _ (by omega)
          have ru1 : ru < t := by rw [← hru]; exact Int.emod_lt_of_pos _ (by omega)
          have hown0 := own_two w5 (t - 1) ru
          have hbe0 := (Below.refl w5.heap.size w5).alloc (Nat.le_refl _) (.cells #[.int .i64 (t - 1), .int .i64 ru] 3)
          have HO0 := Lib.hid hown0
          have HB0 := Lib.hid hbe0
          clear hown0 hbe0 hcA
          have hcA := (S5.on HB0.out).cell
          go_wp2_with fail
          try simp only [hru]
          clear hru
          go_loopw [16, 17] (fun v i wr => ∃ (k : Nat) (us : List Int), 1 ≤ k ∧ k ≤ 41 ∧ i = .int .i64 k ∧ 1 < us.length ∧ us.length ≤ 2 + k ∧ (∀ u ∈ us, 0 ≤ u ∧ u < t) ∧ wr.ownsRow w5.heap.size 3 1 v us.length (ints us) ∧ Below w5.heap.size w5 wr) (fun _ i _ => l.length - (Go.RowKit.intOf i).toNat)
          case atStart => exact ⟨1, [t - 1, ru], Nat.le_refl _, by omega, rfl, by simp, by simp, by simp; omega, HO0.out, HB0.out⟩
          case round =>
            obtain ⟨k, us, hk1, hk41, rfl, hu2, hul, huall, hown, hbe⟩ := hrel
            have HOWN := Lib.hid hown
            have HB := Lib.hid hbe
            have HU := Lib.hid huall
            clear hown hbe huall HO0 HB0
            have SR := S5.on HB.out
            clear hcA
            have hcA := SR.cell
            by_cases hlt : k < l.length
            · obtain ⟨bb, off, hA, hbl, hc⟩ := SR.zone (by omega)
              subst hA
              have y0 := (hc k hlt).1
              clear hc
              have g0 := (HT0.out.each k hlt).1
              have g1 := HT0.out.mono (i := 0) (j := k) (by omega) hlt (by omega)
              rw [HT0.out.zero] at g1
              generalize l[k].f = fv at y0 g0 g1
              have hsz : w5.heap.size ≤ wr.heap.size := HB.out.size
              by_cases hq : fv - 1 < t
              · go_wp2_with (at_builtin; refine wpList_append_own_at _ rfl _ _ 43 rfl w5.heap.size 3 i0 _ 1 8 Tryd.underlying43 hi hz0 hzz1 hz2 rfl (by omega) _ us.length (ints us) rfl (HOWN.out.alloc _) ⟨wr.heap.size, 0, none⟩ 1 1 [.int .i64 (fv - 1)] rfl rfl (cell_one_new _ _ _) (by intro u hu; simp at hu; subst hu; rfl) (by simp only [maxLen]; omega) (by omega) (by simp; omega) ?_; intro v2 w2 hown2 hg2 _ _)
                have HO2 : Hid (w2.ownsRow w5.heap.size 3 1 v2 (us ++ [fv - 1]).length (ints (us ++ [fv - 1]))) := by
                  show World.ownsRow _ _ _ _ _ _ _
                  have e : ints (us ++ [fv - 1]) = ints us ++ [.int .i64 (fv - 1)] := by simp [ints]
                  rw [e, List.length_append]; exact hown2
                have HB2 := Lib.hid ((HB.out.alloc hsz (.cells #[.int .i64 (fv - 1)] 3)).grown hg2 (by simp; omega) fun j hj => (HOWN.out.lt j hj).1)
                have hcB := (S5.on HB2.out).cell
                clear hown2 hg2 hcA
                go_wp2_with fail
                go_roundw
                case rel =>
                  refine ⟨k + 1, us ++ [fv - 1], by omega, by omega, by go_num, by simp; omega, by simp; omega, fun u hu => ?_, HO2.out, HB2.out⟩
                  rcases List.mem_append.1 hu with hu | hu
                  · exact HU.out u hu
                  · simp at hu; subst hu; omega
                case measure => simp [Go.RowKit.intOf]; omega
              · go_wp2_with fail
                go_roundw
                case rel => exact ⟨k + 1, us, by omega, by omega, by go_num, hu2, by omega, HU.out, HOWN.out, HB.out⟩
                case measure => simp [Go.RowKit.intOf]; omega
            · have HI := Lib.hid (IntsAt.of_own HOWN.out (by omega))
              clear HOWN
              obtain ⟨w6, h6⟩ : ∃ x, x = wr := ⟨wr, rfl⟩
              subst h6
              go_wp2_with fail
              go_loopw [18] (fun i wx => ∃ k2 : Nat, k2 ≤ us.length ∧ i = .int .i64 k2 ∧ Below w6.heap.size w6 wx) (fun i _ => us.length - (Go.RowKit.intOf i).toNat)
              case atStart => exact ⟨0, Nat.zero_le _, rfl, Below.refl _ _⟩
              case round =>
                obtain ⟨k2, hk2, rfl, hb2⟩ := hrel
                have HBX := Lib.hid hb2
                clear hb2
                have SX := SR.on HBX.out
                have HIX := HI.out.below HBX.out
                obtain ⟨gg, cpp, rfl, hgl, hcg⟩ := HIX
                clear hcA
                have hcA := SX.cell
                by_cases hlt2 : k2 < us.length
                · have y1 := hcg k2 hlt2
                  have hu := HU.out _ (List.getElem_mem hlt2)
                  generalize us[k2] = u at y1 hu
                  clear hcg
                  obtain ⟨a9, b9, hL9, hE9⟩ := HALL.out u hu.1 hu.2
                  have hlt3 : (k2 : Int) < (us.length : Int) := by omega
                  have cl9 := fun W (hW : ZSt w z A cap l W) => local_calls W A cap l hW.zone hlen u
                  have ce9 := fun W => earlier_calls W a9 b9 day minute
                  rw [hL9] at cl9
                  rw [hE9] at ce9
                  simp only [zoneVal] at cl9
                  clear hL9 hE9 hlt2
                  go_upto_region 24 with fail
                  go_cut [19, 20, 21] from 119 to 127 (fun x y f wy => x = .int .i64 a9 ∧ y = .int .i64 b9 ∧ f = .int .i64 0 ∧ Below w6.heap.size w6 wy)
                  case first =>
                    go_region_held3 (fun W => W.cell? ⟨z, 0, none⟩ = some (.slice A l.length cap) ∧ W.cell? ⟨gg, k2, none⟩ = some (.int .i64 u))
                      (first | go_keep | exact ⟨hcN, hyN⟩)
                      (first | (go_at_call 13; refine (cl9 _ (SX.on (below_drew (Below.refl _ _)))).mono ?_; rintro e w9 ⟨rfl, hb⟩; have hcN := (SX.on ((below_drew (Below.refl _ _)).trans hb)).cell; have hyN := (hb.cell (p := ⟨gg, k2, none⟩) hgl).trans y1; have HB9 := Lib.hid (((HBX.out).trans (below_drew (Below.refl _ _))).trans (hb.mono (Nat.le_trans HBX.out.size (Nat.le_refl _)))); clear hb))
                    all_goals
                      go_wp2_with fail
                      go_meet
                      exact ⟨rfl, rfl, rfl, HB9.out⟩
                  case rest =>
                    obtain ⟨rfl, rfl, rfl, hb9⟩ := hcut
                    have HB9 := Lib.hid hb9
                    clear hb9 hcA cl9
                    go_wp2_with fail
                    refine (ce9 _).mono ?_
                    rintro e w10 ⟨rfl, rfl⟩
                    go_wp2_with fail
                    go_roundw
                    case rel => exact ⟨k2 + 1, by omega, by go_num, HB9.out⟩
                    case measure => simp [Go.RowKit.intOf]; omega
                · go_wp2_with fail
                  go_ret
                  exact ⟨rfl, HZ.out ▸ SX.be⟩
      · have HALL := Lib.hid hall
        rw [hI] at ci
        simp only [zoneVal] at ci
        clear hI hall hv
        go_wp2_with fail
        refine (ci _ S3).mono ?_
        rintro e w4 ⟨rfl, hb⟩
        have S4 := S3.on hb
        clear hb hcA ci
        have hcA := S4.cell
        obtain ⟨ru, hru⟩ : ∃ u, raw % 144001440 = u := ⟨_, rfl⟩
        have ru0 : 0 ≤ ru := by rw [← hru]; exact Int.emod_nonneg _ (by omega)
        have ru1 : ru < 144001440 := by rw [← hru]; exact Int.emod_lt_of_pos _ (by omega)
        have hown0 := own_two w4 (144001439) ru
        have hbe0 := (Below.refl w4.heap.size w4).alloc (Nat.le_refl _) (.cells #[.int .i64 (144001439), .int .i64 ru] 3)
        have HO0 := Lib.hid hown0
        have HB0 := Lib.hid hbe0
        clear hown0 hbe0 hcA
        have hcA := (S4.on HB0.out).cell
        go_wp2_with fail
        try simp only [hru]
        clear hru
        go_loopw [16, 17] (fun v i wr => ∃ (k : Nat) (us : List Int), 1 ≤ k ∧ k ≤ 41 ∧ i = .int .i64 k ∧ 1 < us.length ∧ us.length ≤ 2 + k ∧ (∀ u ∈ us, 0 ≤ u ∧ u < 144001440) ∧ wr.ownsRow w4.heap.size 3 1 v us.length (ints us) ∧ Below w4.heap.size w4 wr) (fun _ i _ => l.length - (Go.RowKit.intOf i).toNat)
        case atStart => exact ⟨1, [144001439, ru], Nat.le_refl _, by omega, rfl, by simp, by simp, by simp; omega, HO0.out, HB0.out⟩
        case round =>
          obtain ⟨k, us, hk1, hk41, rfl, hu2, hul, huall, hown, hbe⟩ := hrel
          have HOWN := Lib.hid hown
          have HB := Lib.hid hbe
          have HU := Lib.hid huall
          clear hown hbe huall HO0 HB0
          have SR := S4.on HB.out
          clear hcA
          have hcA := SR.cell
          by_cases hlt : k < l.length
          · obtain ⟨bb, off, hA, hbl, hc⟩ := SR.zone (by omega)
            subst hA
            have y0 := (hc k hlt).1
            clear hc
            have g0 := (HT0.out.each k hlt).1
            have g1 := HT0.out.mono (i := 0) (j := k) (by omega) hlt (by omega)
            rw [HT0.out.zero] at g1
            generalize l[k].f = fv at y0 g0 g1
            have hsz : w4.heap.size ≤ wr.heap.size := HB.out.size
            by_cases hq : fv - 1 < 144001440
            · go_wp2_with (at_builtin; refine wpList_append_own_at _ rfl _ _ 43 rfl w4.heap.size 3 i0 _ 1 8 Tryd.underlying43 hi hz0 hzz1 hz2 rfl (by omega) _ us.length (ints us) rfl (HOWN.out.alloc _) ⟨wr.heap.size, 0, none⟩ 1 1 [.int .i64 (fv - 1)] rfl rfl (cell_one_new _ _ _) (by intro u hu; simp at hu; subst hu; rfl) (by simp only [maxLen]; omega) (by omega) (by simp; omega) ?_; intro v2 w2 hown2 hg2 _ _)
              have HO2 : Hid (w2.ownsRow w4.heap.size 3 1 v2 (us ++ [fv - 1]).length (ints (us ++ [fv - 1]))) := by
                show World.ownsRow _ _ _ _ _ _ _
                have e : ints (us ++ [fv - 1]) = ints us ++ [.int .i64 (fv - 1)] := by simp [ints]
                rw [e, List.length_append]; exact hown2
              have HB2 := Lib.hid ((HB.out.alloc hsz (.cells #[.int .i64 (fv - 1)] 3)).grown hg2 (by simp; omega) fun j hj => (HOWN.out.lt j hj).1)
              have hcB := (S4.on HB2.out).cell
              clear hown2 hg2 hcA
              go_wp2_with fail
              go_roundw
              case rel =>
                refine ⟨k + 1, us ++ [fv - 1], by omega, by omega, by go_num, by simp; omega, by simp; omega, fun u hu => ?_, HO2.out, HB2.out⟩
                rcases List.mem_append.1 hu with hu | hu
                · exact HU.out u hu
                · simp at hu; subst hu; omega
              case measure => simp [Go.RowKit.intOf]; omega
            · exfalso; omega
          · have HI := Lib.hid (IntsAt.of_own HOWN.out (by omega))
            clear HOWN
            obtain ⟨w6, h6⟩ : ∃ x, x = wr := ⟨wr, rfl⟩
            subst h6
            go_wp2_with fail
            go_loopw [18] (fun i wx => ∃ k2 : Nat, k2 ≤ us.length ∧ i = .int .i64 k2 ∧ Below w6.heap.size w6 wx) (fun i _ => us.length - (Go.RowKit.intOf i).toNat)
            case atStart => exact ⟨0, Nat.zero_le _, rfl, Below.refl _ _⟩
            case round =>
              obtain ⟨k2, hk2, rfl, hb2⟩ := hrel
              have HBX := Lib.hid hb2
              clear hb2
              have SX := SR.on HBX.out
              have HIX := HI.out.below HBX.out
              obtain ⟨gg, cpp, rfl, hgl, hcg⟩ := HIX
              clear hcA
              have hcA := SX.cell
              by_cases hlt2 : k2 < us.length
              · have y1 := hcg k2 hlt2
                have hu := HU.out _ (List.getElem_mem hlt2)
                generalize us[k2] = u at y1 hu
                clear hcg
                obtain ⟨a9, b9, hL9, hE9⟩ := HALL.out u hu.1 hu.2
                have hlt3 : (k2 : Int) < (us.length : Int) := by omega
                have cl9 := fun W (hW : ZSt w z A cap l W) => local_calls W A cap l hW.zone hlen u
                have ce9 := fun W => earlier_calls W a9 b9 day minute
                rw [hL9] at cl9
                rw [hE9] at ce9
                simp only [zoneVal] at cl9
                clear hL9 hE9 hlt2
                go_upto_region 24 with fail
                go_cut [19, 20, 21] from 119 to 127 (fun x y f wy => x = .int .i64 a9 ∧ y = .int .i64 b9 ∧ f = .int .i64 0 ∧ Below w6.heap.size w6 wy)
                case first =>
                  go_region_held3 (fun W => W.cell? ⟨z, 0, none⟩ = some (.slice A l.length cap) ∧ W.cell? ⟨gg, k2, none⟩ = some (.int .i64 u))
                    (first | go_keep | exact ⟨hcN, hyN⟩)
                    (first | (go_at_call 13; refine (cl9 _ (SX.on (below_drew (Below.refl _ _)))).mono ?_; rintro e w9 ⟨rfl, hb⟩; have hcN := (SX.on ((below_drew (Below.refl _ _)).trans hb)).cell; have hyN := (hb.cell (p := ⟨gg, k2, none⟩) hgl).trans y1; have HB9 := Lib.hid (((HBX.out).trans (below_drew (Below.refl _ _))).trans (hb.mono (Nat.le_trans HBX.out.size (Nat.le_refl _)))); clear hb))
                  all_goals
                    go_wp2_with fail
                    go_meet
                    exact ⟨rfl, rfl, rfl, HB9.out⟩
                case rest =>
                  obtain ⟨rfl, rfl, rfl, hb9⟩ := hcut
                  have HB9 := Lib.hid hb9
                  clear hb9 hcA cl9
                  go_wp2_with fail
                  refine (ce9 _).mono ?_
                  rintro e w10 ⟨rfl, rfl⟩
                  go_wp2_with fail
                  go_roundw
                  case rel => exact ⟨k2 + 1, by omega, by go_num, HB9.out⟩
                  case measure => simp [Go.RowKit.intOf]; omega
              · go_wp2_with fail
                go_ret
                exact ⟨rfl, HZ.out ▸ SX.be⟩
    · have hv' : validB l = false := by simpa using hv
      rw [hv']
      clear hv hv'
      go_wp2_with fail
      go_ret
      exact ⟨rfl, HZ.out ▸ S3.be⟩
  · rw [decide_eq_false hf]
    go_wp2_with fail
    go_ret
    exact ⟨rfl, HZ.out ▸ S2.be⟩
end Go.Proofs.YtgjombfcldihhaaDoor
