/- DiskStable: after a Sync, writes and a failure, each sector that was not written has the contents of the Sync.
   Conditions: the arguments lie in memory as ActsArg says. -/
import Derived.Test.YtbjomjlchafkfaaDP
namespace Go.Proofs.Ytbjomjlchafkfaa
open Go.RowKit Go.Lib
set_option linter.unusedVariables false

/-! ### plain -/
/-- A disk that is on and disarmed, with the sectors s; of the pending writes each is to a sector that ws marks. -/
structure Since (s : List ByteArray) (ws : List Bool) (st : DS) : Prop where
  off : st.off = false
  arm : st.armed = none
  sec : st.sect = s
  mark : ∀ x ∈ st.queue, ws[x.1]? = some true
theorem DS.write_plain {st : DS} (ho : st.off = false) (ha : st.armed = none) (i : Int) (t : ByteArray) :
    st.write i t = if st.valid i = true ∧ t.size = 64 then ({ st with queue := st.queue ++ [(i.toNat, t)] }, 0) else (st, 1) := by
  unfold DS.write
  rw [if_neg (by rw [ho]; decide)]
  by_cases hv : st.valid i = true
  · rw [if_neg (by rw [hv]; decide)]
    by_cases ht : t.size = 64
    · rw [if_neg (by simpa using ht), if_pos ⟨hv, ht⟩]
      unfold DS.count
      simp only [ha]
    · rw [if_pos ht, if_neg (fun h => ht h.2)]
  · rw [if_pos (by simpa using hv), if_neg (fun h => hv h.1)]
theorem Since.write {s : List ByteArray} {ws : List Bool} {st : DS} (h : Since s ws st) (hl : ws.length = s.length) (i : Int) (t : ByteArray) :
    ((st.write i t).2 = 0 ∧ 0 ≤ i ∧ i < s.length ∧ Since s (ws.set i.toNat true) (st.write i t).1) ∨ ((st.write i t).2 = 1 ∧ (st.write i t).1 = st) := by
  rw [DS.write_plain h.off h.arm]
  by_cases hc : st.valid i = true ∧ t.size = 64
  · rw [if_pos hc]
    have hv : 0 ≤ i ∧ i < s.length := by have := hc.1; rw [← h.sec]; simpa [DS.valid] using this
    refine .inl ⟨rfl, hv.1, hv.2, h.off, h.arm, h.sec, fun x hx => ?_⟩
    simp only [List.mem_append, List.mem_singleton] at hx
    rcases hx with hx | rfl
    · have := h.mark x hx
      rw [List.getElem?_set]
      split
      · rename_i e; rw [e]; rw [if_pos (by have := (List.getElem?_eq_some_iff.1 (h.mark x hx)).1; omega)]
      · exact this
    · show (ws.set i.toNat true)[i.toNat]? = _
      rw [List.getElem?_set_self (by omega)]
  · rw [if_neg hc]
    exact .inr ⟨rfl, rfl⟩
theorem Since.fail {s : List ByteArray} {ws : List Bool} {st : DS} (h : Since s ws st) (a b : Int) (i : Nat) (hi : i < s.length) (hw : ws[i]? = some false) : ((st.fail a b).start.all)[i]? = s[i]? := by
  have hne : ∀ x ∈ st.queue, x.1 ≠ i := fun x hx e => by have := h.mark x hx; rw [e, hw] at this; cases this
  unfold DS.all DS.start DS.fail
  rw [h.off]
  show (settle (st.failSect a b) [])[i]? = _
  show (st.failSect a b)[i]? = _
  unfold DS.failSect
  split
  · rw [settle_other _ _ _ hne, h.sec]
  · rename_i x hx
    unfold tearAt
    rw [List.getElem?_set_ne (hne x (List.mem_of_getElem? hx)), settle_other _ _ _ fun y hy => hne y (List.mem_of_mem_take hy), h.sec]

/-! ### the walk -/
theorem Try.infoBool : (Try.prog.info? 4).map (fun i => (i.zero, i.size, i.bytes)) = some (some (.bool false), 1, 1) := by kernel_rfl
theorem bools_made (n : Nat) : madeCells #[Value.bool false] n = ((List.replicate n false).map Value.bool).toArray := by
  apply Array.ext'
  rw [toList_madeCells_one]
  simp
def BoolsAt (w : World) (F : Nat → Prop) (g : Nat) (ws : List Bool) : Prop := w.heap[g]? = some (.cells (ws.map Value.bool).toArray 4 (0, 0)) ∧ ¬ F g
theorem BoolsAt.keep {w w' : World} {F F' : Nat → Prop} {g : Nat} {ws : List Bool} (h : BoolsAt w F g ws) (hk : Keep F F' w w') : BoolsAt w' F' g ws := by
  obtain ⟨h1, h2⟩ := hk.k g (blk_lt h.1) h.2
  exact ⟨h1.trans h.1, h2⟩

theorem BoolsAt.cells {w : World} {F : Nat → Prop} {g : Nat} {ws : List Bool} (h : BoolsAt w F g ws) (k : Nat) (hk : k < ws.length) : w.cell? ⟨g, k, none⟩ = some (.bool ws[k]) ∧ w.frozen? ⟨g, k, none⟩ = false := by
  refine ⟨?_, free_blk h.1 k⟩
  rw [cell_blk h.1, List.getElem?_toArray]
  simp [hk]
theorem BoolsAt.set {w : World} {F : Nat → Prop} {g : Nat} {ws : List Bool} (h : BoolsAt w F g ws) (k : Nat) (b : Bool) : BoolsAt (w.setCell ⟨g, k, none⟩ (.bool b)) F g (ws.set k b) := by
  refine ⟨?_, h.2⟩
  rw [Go.heap_setCell_same _ _ k _ _ (.bool b) h.1]
  simp [List.map_set]
theorem Mine.other {B : Nat} {w0 w : World} {F : Nat → Prop} {p : Nat} {st : DS} (h : Mine B w0 w F p st) {g : Nat} (hg : ¬ F g) (hB : B ≤ g) (k : Nat) (u : Value) : Mine B w0 (w.setCell ⟨g, k, none⟩ u) F p st :=
  ⟨h.d.apart (G := fun i => i = g) ((Upd.refl (fun i => i = g) w).setCell ⟨g, k, none⟩ (.inl rfl) u) fun i hi e => hg (e ▸ hi), h.lo, h.be.setCell (by exact hB) _, by simpa [World.setCell] using h.sz⟩
theorem StrsOut.set {w : World} {F F' : Nat → Prop} {v : Value} {xs : List ByteArray} (h : StrsOut w F v xs) {g : Nat} {ws : List Bool} (hb : BoolsAt w F' g ws) (k : Nat) (u : Value) : StrsOut (w.setCell ⟨g, k, none⟩ u) F v xs := by
  obtain ⟨A, cap, rfl, h⟩ := h
  refine ⟨A, cap, rfl, fun hp => ?_⟩
  obtain ⟨b, rfl, hlt, hF, hc⟩ := h hp
  have hne : b ≠ g := by
    rintro rfl
    have h1 := hc 0 hp
    rw [cell_blk hb.1, List.getElem?_toArray] at h1
    simp only [List.getElem?_map, Option.map_eq_some_iff] at h1
    obtain ⟨x, _, hx⟩ := h1
    cases hx
  exact ⟨b, rfl, by simpa [World.setCell] using hlt, hF, fun j hj => (World.cell?_of_block (w := w) (a := ⟨b, j, none⟩) (Below.heap_setCell _ _ _ _ hne)).trans (hc j hj)⟩
theorem StrsOut.cell {w : World} {F : Nat → Prop} {A : Option Addr} {n cap : Nat} {xs : List ByteArray} (h : StrsOut w F (.slice A n cap) xs) (k : Nat) (hk : k < xs.length) : n = xs.length ∧ ∃ b, A = some ⟨b, 0, none⟩ ∧ w.cell? ⟨b, k, none⟩ = some (.string xs[k]) := by
  obtain ⟨A', cap', e, h⟩ := h
  injection e with e1 e2 e3
  subst e1 e2 e3
  obtain ⟨b, rfl, _, _, hc⟩ := h (by omega)
  exact ⟨rfl, b, rfl, hc k hk⟩
theorem StrsOut.form {w : World} {F : Nat → Prop} {v : Value} {xs : List ByteArray} (h : StrsOut w F v xs) : ∃ A cap, v = .slice A xs.length cap := by
  obtain ⟨A, cap, rfl, _⟩ := h
  exact ⟨A, cap, rfl⟩
theorem since_start (st : DS) (n : Nat) : Since st.start.syncNow.sect (List.replicate n false) st.start.syncNow := ⟨rfl, rfl, rfl, fun x hx => by simp [DS.syncNow] at hx⟩

set_option maxRecDepth 100000 in
set_option maxHeartbeats 4000000 in
theorem stable_walk (w : World) (raw : Int) (hr : 0 ≤ raw ∧ raw ≤ 255) (A1 : Option Addr) (cap1 : Nat) (l1 : List Act0) (hl1 : ActsArg w A1 l1) (A2 : Option Addr) (cap2 : Nat) (l2 : List Act0) (hl2 : ActsArg w A2 l2) (a : Int) (ha : i64ok a) (b : Int) (hb : i64ok b) :
    Calls Try.prog 4 #[.int .u8 raw, .slice A1 l1.length cap1, .slice A2 l2.length cap2, .int .i64 a, .int .i64 b] w fun e w' => e = .returned (.bool true) ∧ Below w.heap.size w w' := by
  obtain ⟨r0, r1⟩ := hr
  have HA1 := Lib.hid hl1
  have HA2 := Lib.hid hl2
  clear hl1 hl2
  go_enter Try.func4, Try.ntmps4
  go_wp2_with fail
  refine (head_calls w).mono ?_
  rintro e w1 ⟨rfl, hb1⟩
  have HB1 := Lib.hid hb1
  have G1 := Lib.hid (HA1.out.later hb1)
  have G2 := Lib.hid (HA2.out.later hb1)
  clear hb1
  go_wp2_with fail
  refine (ok_calls w1 A1 cap1 l1 G1.out.at_ G1.out.len fun x hx => (G1.out.each x hx).t).mono ?_
  rintro e w1' ⟨rfl, hw⟩
  subst hw
  by_cases ho1 : okB l1 = true
  · rw [ho1]
    have HO1 := Lib.hid ho1
    clear ho1
    go_wp2_with fail
    refine (ok_calls w1 A2 cap2 l2 G2.out.at_ G2.out.len fun x hx => (G2.out.each x hx).t).mono ?_
    rintro e w1' ⟨rfl, hw⟩
    subst hw
    by_cases ho2 : okB l2 = true
    · rw [ho2]
      have HO2 := Lib.hid ho2
      clear ho2
      go_wp2_with fail
      refine (size_calls w1 raw r0 r1).mono ?_
      rintro e w1' ⟨rfl, hw⟩
      subst hw
      have hn := sizeN_le raw r0
      generalize sizeN raw = n at hn ⊢
      obtain ⟨n1, n2⟩ := hn
      go_wp2_with fail
      refine (new_ok w1 n n1 (by omega)).mono ?_
      rintro e w2 hf
      obtain ⟨p, F, rfl, m⟩ := Mine.fresh HB1.out HB1.out.size hf
      clear hf
      have M := Lib.hid m
      clear m
      go_wp2_with fail
      go_loopw [14] (fun i wr => ∃ (k : Nat) (F' : Nat → Prop), k ≤ l1.length ∧ i = .int .i64 k ∧ Mine w.heap.size w wr F' p ((DS.new n).acts (l1.take k)) ∧ ((DS.new n).acts (l1.take k)).queue.length ≤ k) (fun i _ => l1.length - (intOf i).toNat)
      case atStart => exact ⟨0, F, Nat.zero_le _, rfl, M.out, Nat.le_refl _⟩
      case round =>
        obtain ⟨k, F1, hk, rfl, hm, hq⟩ := hrel
        have HM := Lib.hid hm
        clear hm
        have h60 := (okB_true HO1.out).1
        by_cases hlt : k < l1.length
        · have harg := HA1.out.below HM.out.be HA1.out.lt
          obtain ⟨bb, off, hA, _, hc⟩ := harg.at_ (by omega)
          subst hA
          obtain ⟨x0, x1, x2, x3, x4, x5⟩ := ActsAt.six hc k hlt
          have hOk := Lib.hid (harg.ok HO1.out l1[k] (List.getElem_mem hlt))
          have HQ := Lib.hid (DS.act_qlen ((DS.new n).acts (l1.take k)) l1[k])
          clear hc harg
          go_wp2_with fail
          refine (do_calls HM.out.d (by omega) l1[k] hOk.out).mono ?_
          rintro e w3 ht
          obtain ⟨rfl, F2, m2⟩ := HM.out.turn ht
          have M2 := Lib.hid m2
          clear ht m2
          go_wp2_with fail
          go_roundw
          case rel => exact ⟨k + 1, F2, by omega, by go_num, by rw [DS.acts_snoc _ _ _ hlt]; exact M2.out, by rw [DS.acts_snoc _ _ _ hlt]; have := HQ.out; omega⟩
          case measure => simp [intOf]; omega
        · obtain rfl : k = l1.length := by omega
          rw [List.take_of_length_le (Nat.le_refl _)] at HM hq
          have hsl : ((DS.new n).acts l1).sect.length = n := by rw [DS.acts_length, DS.new_length]
          generalize (DS.new n).acts l1 = st at HM hq hsl
          have HSL := Lib.hid hsl
          have hmk := fun W => Go.run_make_row' (P := Try.prog) 42 4 (.bool false) 1 Try.underlying42 Try.infoBool rfl .i64 .i64 n (by omega) (by omega) W
          clear hsl hlt
          go_wp2_with fail
          refine (start_calls HM.out.d).mono ?_
          rintro e w3 ht
          obtain ⟨rfl, F3, m3⟩ := HM.out.turn ht
          have M3 := Lib.hid m3
          clear ht m3
          go_wp2_with fail
          have hc := sync_calls M3.out.d (by show st.queue.length ≤ _; omega)
          rw [sync_started] at hc
          refine hc.mono ?_
          clear hc
          rintro e w4 ht
          obtain ⟨rfl, F4, m4⟩ := M3.out.turn ht
          have M4 := Lib.hid m4
          clear ht m4
          have hsl2 : n = st.start.syncNow.sect.length := by show _ = (settle _ _).length; rw [settle_length]; exact HSL.out.symm
          have HS0 := Lib.hid (since_start st n)
          have hq2 : st.start.syncNow.queue.length ≤ 0 := Nat.le_refl _
          have hoff : st.start.syncNow.off = false := rfl
          generalize st.start.syncNow = st2 at M4 hsl2 HS0 hq2 hoff
          have HOFF := Lib.hid hoff
          have HS2 := Lib.hid hsl2
          clear hoff hsl2
          go_wp2_with fail
          refine (contents_calls M4.out.d (by omega) HOFF.out n HS2.out).mono ?_
          rintro e w5 ht
          obtain ⟨v1, rfl, hv1, m5, _⟩ := M4.out.conts ht
          obtain ⟨B1, cp1, hve⟩ := hv1.form
          have HAL : Hid (st2.all.length = n) := by show _ = _; rw [DS.all_length, HS2.out]
          have HAE : Hid (st2.all = st2.sect) := by
            show _ = _
            unfold DS.all
            rw [List.eq_nil_of_length_eq_zero (Nat.le_zero.1 hq2)]
            rfl
          rw [HAL.out] at hve
          subst hve
          have M5 := Lib.hid m5
          have V1 := Lib.hid hv1
          clear ht m5 hv1
          go_wp2_with fail
          have hmA := M5.out.below ((Below.refl w5.heap.size w5).alloc (Nat.le_refl _) (.cells (madeCells #[Value.bool false] n) 4))
          have hvA := V1.out.keep (Keep.below ((Below.refl w5.heap.size w5).alloc (Nat.le_refl _) (.cells (madeCells #[Value.bool false] n) 4)))
          have hBA : BoolsAt (w5.alloc (.cells (madeCells #[Value.bool false] n) 4)) F4 w5.heap.size (List.replicate n false) := by
            obtain ⟨_, _, _, _, _, _, _, _, f5⟩ := M5.out.d
            exact ⟨by rw [heap_alloc_new, bools_made], fun hf => absurd (f5 _ hf) (Nat.lt_irrefl _)⟩
          have hgB : w.heap.size ≤ w5.heap.size := M5.out.sz
          generalize w5.alloc (.cells (madeCells #[Value.bool false] n) 4) = w6 at hmA hvA hBA ⊢
          generalize w5.heap.size = g at hBA hgB ⊢
          have MA := Lib.hid hmA
          have VA := Lib.hid hvA
          have BA := Lib.hid hBA
          clear hmA hvA hBA hmk
          go_loopw [18] (fun i wr => ∃ (k : Nat) (F' : Nat → Prop) (ws : List Bool) (st' : DS), k ≤ l2.length ∧ i = .int .i64 k ∧ Mine w.heap.size w wr F' p st' ∧ Since st2.sect ws st' ∧ ws.length = n ∧ st'.queue.length ≤ k ∧ BoolsAt wr F' g ws ∧ StrsOut wr F' (.slice B1 n cp1) st2.all) (fun i _ => l2.length - (intOf i).toNat)
          case atStart => exact ⟨0, F4, List.replicate n false, st2, Nat.zero_le _, rfl, MA.out, HS0.out, by simp, hq2, BA.out, VA.out⟩
          case round =>
            obtain ⟨k, F1, ws, st', hk, rfl, hm, hs, hwl, hq', hbo, hst⟩ := hrel
            have HM := Lib.hid hm
            have HS := Lib.hid hs
            have HWL := Lib.hid hwl
            have HBO := Lib.hid hbo
            have HST := Lib.hid hst
            clear hm hs hwl hbo hst
            have h60 := (okB_true HO2.out).1
            by_cases hlt : k < l2.length
            · have harg := HA2.out.below HM.out.be HA2.out.lt
              obtain ⟨bb, off, hA, hbl, hc⟩ := harg.at_ (by omega)
              subst hA
              obtain ⟨x0, x1, x2, x3, x4, x5⟩ := ActsAt.six hc k hlt
              have hOk := Lib.hid (harg.ok HO2.out l2[k] (List.getElem_mem hlt))
              clear hc harg
              go_wp2_with fail
              go_region_with (first
                | (go_at_call 24; refine (text_calls l2[k] hOk.out.t _).mono ?_; rintro e w7 ⟨rfl, rfl⟩)
                | (go_at_call 23; refine (write_calls (HM.out.d.below (by exact ((Below.refl wr.heap.size wr).alloc (Nat.le_refl _) _).drew)) (by omega) _ _).mono ?_; rintro e w7 hw7; have hw7b := Turns.from_box (((Below.refl wr.heap.size wr).alloc (Nat.le_refl _) _).drew) hw7; obtain ⟨rfl, hw7c⟩ := hw7; clear hw7c))
              all_goals
                obtain ⟨_, F2, m2, hkp⟩ := HM.out.turns hw7b
                have M2 := Lib.hid m2
                have B2 := Lib.hid (HBO.out.keep hkp)
                have V2 := Lib.hid (HST.out.keep hkp)
                have Q2 := Lib.hid (DS.write_qlen st' l2[k].sector l2[k].txt)
                clear hw7b m2 hkp
                rcases HS.out.write (by rw [HWL.out, ← HAE.out, HAL.out]) l2[k].sector l2[k].txt with ⟨h0, hs0, hs1, hs2⟩ | ⟨h0, hs2⟩
                · rw [h0]
                  rw [← HAE.out, HAL.out] at hs1
                  have hargs := HA2.out.below M2.out.be HA2.out.lt
                  obtain ⟨b2, off2, hA2, _, hc2⟩ := hargs.at_ (by omega)
                  injection hA2 with hA2
                  injection hA2 with hA2 hA3
                  subst hA2 hA3
                  obtain ⟨_, x1', _⟩ := ActsAt.six hc2 k hlt
                  have hcell := B2.out.cells l2[k].sector.toNat (by rw [HWL.out]; omega)
                  obtain ⟨y1, y2⟩ := hcell
                  have SN := Lib.hid hs2
                  have hz : l2[k].sector.toNat < n := by omega
                  have hg7 := blk_lt B2.out.1
                  clear hs2 hc2 hargs x0 x1 x2 x3 x4 x5 h0
                  go_wp2_with fail
                  go_roundw
                  case rel =>
                    refine ⟨k + 1, F2, ws.set l2[k].sector.toNat true, _, by omega, by go_num, M2.out.other B2.out.2 hgB _ _, SN.out, by rw [List.length_set]; exact HWL.out, by have := Q2.out; omega, B2.out.set _ _, V2.out.set B2.out _ _⟩
                  case measure => simp [intOf]; omega
                · rw [h0]
                  have SN := Lib.hid hs2
                  clear hs2 h0
                  go_wp2_with fail
                  go_roundw
                  case rel =>
                    refine ⟨k + 1, F2, ws, st', by omega, by go_num, by have := M2.out; rw [SN.out] at this; exact this, HS.out, HWL.out, by omega, B2.out, V2.out⟩
                  case measure => simp [intOf]; omega
            · obtain rfl : k = l2.length := by omega
              clear hlt
              go_wp2_with fail
              refine (fail_calls HM.out.d a b ha hb (by omega)).mono ?_
              rintro e w8 ht
              obtain ⟨rfl, F8, m8, hkp⟩ := HM.out.turns ht
              have M8 := Lib.hid m8
              have B8 := Lib.hid (HBO.out.keep hkp)
              have V8 := Lib.hid (HST.out.keep hkp)
              clear ht m8 hkp
              go_wp2_with fail
              refine (start_calls M8.out.d).mono ?_
              rintro e w9 ht
              obtain ⟨rfl, F9, m9, hkp⟩ := M8.out.turns ht
              have M9 := Lib.hid m9
              have B9 := Lib.hid (B8.out.keep hkp)
              have V9 := Lib.hid (V8.out.keep hkp)
              clear ht m9 hkp
              go_wp2_with fail
              have hq9 := DS.fail_queue st' a b
              have hl9 : Hid (n = (st'.fail a b).start.sect.length) := by show _ = (st'.fail a b).sect.length; rw [DS.fail_length, HS.out.sec, ← HAE.out, HAL.out]
              refine (contents_calls M9.out.d (by show (st'.fail a b).queue.length ≤ _; omega) rfl n hl9.out).mono ?_
              rintro e w10 ht
              obtain ⟨v2, rfl, hv2, m10, hkp⟩ := M9.out.conts ht
              obtain ⟨B2, cp2, hve⟩ := hv2.form
              have HAL2 : Hid ((st'.fail a b).start.all.length = n) := by show _ = _; rw [DS.all_length]; exact hl9.out.symm
              rw [HAL2.out] at hve
              subst hve
              have M10 := Lib.hid m10
              have B10 := Lib.hid (B9.out.keep hkp)
              have V10 := Lib.hid (V9.out.keep hkp)
              have N10 := Lib.hid hv2
              clear ht m10 hkp hv2
              go_wp2_with fail
              go_loopw [22] (fun i wr' => ∃ k m : Nat, k ≤ n ∧ i = .int .i64 k ∧ wr' = w10.drewN m) (fun i _ => n - (intOf i).toNat)
              case atStart => exact ⟨0, 0, Nat.zero_le _, rfl, rfl⟩
              case round =>
                obtain ⟨j, m, hj, rfl, rfl⟩ := hrel
                by_cases hlt : j < n
                · have hjw : j < ws.length := by rw [HWL.out]; exact hlt
                  obtain ⟨z1, z2⟩ := B10.out.cells j hjw
                  obtain ⟨_, b1, hb1, z3⟩ := V10.out.cell j (by rw [HAL.out]; exact hlt)
                  obtain ⟨_, b2, hb2, z4⟩ := N10.out.cell j (by rw [HAL2.out]; exact hlt)
                  subst hb1 hb2
                  have HEQ : Hid (ws[j] = false → (st'.fail a b).start.all[j]'(by rw [HAL2.out]; exact hlt) = st2.all[j]'(by rw [HAL.out]; exact hlt)) := by
                    intro hw
                    have := HS.out.fail a b j (by rw [← HAE.out, HAL.out]; exact hlt) (by rw [List.getElem?_eq_getElem hjw, hw])
                    rw [← HAE.out, List.getElem?_eq_getElem (by rw [HAL2.out]; exact hlt), List.getElem?_eq_getElem (by rw [HAL.out]; exact hlt)] at this
                    exact Option.some.inj this
                  cases hwj : ws[j] with
                  | true =>
                    rw [hwj] at z1
                    clear hwj
                    go_wp2_with fail
                    go_quiet (fail)
                    go_wp2_with fail
                    go_roundw
                    case rel => exact ⟨j + 1, m + nq, by omega, by go_num, rfl⟩
                    case measure => simp [intOf]; omega
                  | false =>
                    rw [hwj] at z1
                    rw [HEQ.out hwj] at z4
                    clear hwj
                    go_wp2_with fail
                    go_quiet (fail)
                    go_wp2_with fail
                    go_roundw
                    case rel => exact ⟨j + 1, m + nq, by omega, by go_num, rfl⟩
                    case measure => simp [intOf]; omega
                · go_wp2_with fail
                  go_ret
                  exact ⟨rfl, pw_below_drewN M10.out.be _⟩
    · have ho2' : okB l2 = false := by simpa using ho2
      rw [ho2']
      clear ho2 ho2'
      go_wp2_with fail
      go_ret
      exact ⟨rfl, HB1.out⟩
  · have ho1' : okB l1 = false := by simpa using ho1
    rw [ho1']
    clear ho1 ho1'
    go_wp2_with fail
    go_ret
    exact ⟨rfl, HB1.out⟩
end Go.Proofs.Ytbjomjlchafkfaa
