/- The journal's Append where it adds records.
   Conditions: the disk, the journal and the texts lie in memory; the library's tables and sentinels stay laid while the disk's blocks are written. -/
import Derived.Test.YtpdhjfnddnoghaaDoorJX
import Derived.BigRegion
import Derived.RegionTactic
namespace Go.Proofs.YtpdhjfnddnoghaaDoor
open Go.RowKit Go.Lib
set_option linter.unusedVariables false
set_option linter.unusedSimpArgs false

theorem TextsOut.at_ {w : World} {F : Nat → Prop} {v : Value} {xs : List ByteArray} (h : TextsOut w F v xs) : TextsAt w v xs := by
  obtain ⟨A, cap, rfl, h⟩ := h
  refine ⟨A, cap, rfl, fun hp => ?_⟩
  obtain ⟨b, off, rfl, hb, hF, hc⟩ := h hp
  exact ⟨b, off, rfl, hb, hc⟩
theorem sec_eq {w2 : World} {base fr k n : Nat} {v : Value} {ys : List Value} {ps : List ByteArray} {x sx : ByteArray} (hx : ps[k]? = some x) (hs : sectorB (fr + k) x = sx) (h : w2.ownsRow base 9 1 v n (ys ++ [.string sx])) {hk : k < ps.length} : w2.ownsRow base 9 1 v n (ys ++ [.string (sectorB (fr + k) ps[k])]) := by
  rw [List.getElem?_eq_getElem hk] at hx
  rw [Option.some.inj hx, hs]
  exact h
set_option maxRecDepth 100000 in
set_option maxHeartbeats 8000000 in
theorem append_main {w : World} {F G : Nat → Prop} (hlu : ∀ W, Upd F w W → LaidJ W) {d j : Nat} {st : DS} {js : JSt} (hd : DiskAt w F d st) (hj : JAt w G j d js) (hFG : ∀ k, G k → ¬ F k) (hbr : js.broken = false) (v : Value) (xs : List ByteArray) (hvo : TextsOut w (fun k => F k ∨ G k) v xs) (hsm : Small xs)
    (ht : tooLong xs = false) (htl : (textL xs).length ≤ 1000000) (hs4 : js.sectors ≤ 1000) (hcn : js.count + 2 + (piecesL (textL xs)).length ≤ js.sectors) (hne : xs ≠ []) (hql : st.queue.length ≤ 80000) (hrl : js.recs.length ≤ 100000) :
    Calls Tryd.prog 18 #[.pointer (some ⟨j, 0, none⟩), v] w (AppendOut w F G d j (appendM st js xs)) := by
  have hl := hlu w (Upd.refl _ _)
  have HLU := Lib.hid hlu
  have hv := hvo.at_
  have HVO := Lib.hid hvo
  obtain ⟨VA, vcap, hveq, _⟩ := id hv
  subst hveq
  have hxl : 1 ≤ xs.length := by cases xs with
    | nil => exact absurd rfl hne
    | cons a l => simp
  have hroom : ¬ js.room < ((piecesL (textL xs)).length : Int) := by unfold JSt.room; omega
  have hAM : appendM st js xs = if (st.steps js.count (piecesL (textL xs))).2 = 0 then ((st.steps js.count (piecesL (textL xs))).1, ⟨js.sectors, js.count + (piecesL (textL xs)).length, js.recs ++ xs, false⟩, 0) else ((st.steps js.count (piecesL (textL xs))).1, ⟨js.sectors, js.count, js.recs, true⟩, (st.steps js.count (piecesL (textL xs))).2) := by
    unfold appendM
    rw [hbr, ht, if_neg (by simp), if_neg (by simp), if_neg hroom, if_neg hne]
  have hpl1 : 1 ≤ (piecesL (textL xs)).length := by
    rw [piecesL_length]
    have := textL_pos hne
    omega
  have HAM := Lib.hid hAM
  have HBR9 := Lib.hid hbr
  have c2w := cell_blk (show w.heap[j]? = _ from (Classical.choose_spec hj).1) 2
  simp only [List.getElem?_toArray, List.getElem?_cons_zero, List.getElem?_cons_succ] at c2w
  obtain ⟨ps, hps0⟩ : ∃ ps, piecesL (textL xs) = ps := ⟨_, rfl⟩
  have HPS0 := Lib.hid hps0
  rw [hps0] at hcn hroom hpl1 HAM
  have hlu1 : True := trivial
  clear hlu hvo hne hAM hps0 hlu1
  obtain ⟨rv, h1, h2, h3, h4, h5⟩ := id hj
  have c4 := cell_blk h1 4
  simp only [List.getElem?_toArray, List.getElem?_cons_zero, List.getElem?_cons_succ, hbr] at c4
  have HD := Lib.hid hd
  have HJ := Lib.hid hj
  have HFG := Lib.hid hFG
  have HV := Lib.hid hv
  have HLA := Lib.hid hl
  have HSM := Lib.hid hsm
  have hsm1 := hsm.1
  have hjl := blk_lt h1
  have hW0 := two_new w (.cells #[.pointer (some ⟨j, 0, none⟩)] 26) (.cells #[.int .i64 0] 33)
  have cbj : ((w.alloc (.cells #[.pointer (some ⟨j, 0, none⟩)] 26)).alloc (.cells #[.int .i64 0] 33)).heap[w.heap.size]? = some (.cells #[.pointer (some ⟨j, 0, none⟩)] 26 (0, 0)) := (Below.heap_alloc _ _ _ (by simp)).trans (heap_alloc_new w _)
  have cbe : ((w.alloc (.cells #[.pointer (some ⟨j, 0, none⟩)] 26)).alloc (.cells #[.int .i64 0] 33)).heap[w.heap.size + 1]? = some (.cells #[.int .i64 0] 33 (0, 0)) := heap_new2 w _ _
  have hcc := contains_calls _ (.slice VA xs.length vcap) xs (hv.below hW0) (by omega) (fun x hx => by have := hsm.2 x hx; omega)
  clear h1 h2 h3 h4 h5 hd hj hFG hbr hv hl hsm
  go_enter_defers Tryd.func18, Tryd.ntmps18
  go_wp2_with fail
  rw [ht] at hcc
  refine hcc.mono ?_
  clear hcc ht
  rintro e w1 ⟨rfl, rfl⟩
  have HW0 := Lib.hid hW0
  have HBJ := Lib.hid cbj
  have HBE := Lib.hid cbe
  clear hW0
  generalize (w.alloc (.cells #[.pointer (some ⟨j, 0, none⟩)] 26)).alloc (.cells #[.int .i64 0] 33) = W0 at HW0 HBJ HBE cbj cbe ⊢
  have x0 := cell_blk cbj 0
  have y0 := cell_blk cbe 0
  have f0 := free_blk cbe 0
  have z0 := blk_lt cbe
  simp only [List.getElem?_toArray, List.getElem?_cons_zero] at x0 y0
  clear cbj cbe
  go_wp2_with fail
  have ct := jtext_calls W0 (HLA.out.below HW0.out) (.slice VA xs.length vcap) xs (HV.out.below HW0.out) HSM.out
  refine ct.mono ?_
  clear ct
  rintro e w1 ⟨rfl, hb1⟩
  have HB1 : Hid (Below W0.heap.size W0 w1) := hb1
  clear hb1
  have HPL : Hid (pieceText xs = bytesB (textL xs)) := rfl
  have cs := split_calls w1 (pieceText xs) (by unfold pieceText; rw [bytesB_size]; exact htl)
  have hps : piecesL (pieceText xs).data.toList = piecesL (textL xs) := by unfold pieceText; rw [bytesB_list]
  rw [hps] at cs
  clear hps
  rw [← HPL.out]
  generalize pieceText xs = tx at cs HPL ⊢
  go_wp2_with fail
  refine cs.mono ?_
  clear cs
  rintro e w2 ⟨pv, rfl, hown, hb2⟩
  have HB2 : Hid (Below W0.heap.size W0 w2) := HB1.out.trans (hb2.mono HB1.out.size)
  have HOWN := Lib.hid hown
  have hform : ∃ PA pcap, pv = .slice PA (piecesL (textL xs)).length pcap := by obtain ⟨A, cap, h, _⟩ := TextsAt.of_own hown; exact ⟨A, cap, h⟩
  obtain ⟨PA, pcap, rfl⟩ := hform
  clear hown hb2
  simp only [HPS0.out] at HOWN ⊢
  obtain ⟨np, hnp⟩ : ∃ np, ps.length = np := ⟨_, rfl⟩
  have HNPX : Hid (∃ l : List ByteArray, l = ps ∧ l.length = np) := ⟨ps, rfl, hnp⟩
  have HNP := Lib.hid hnp
  simp only [hnp] at *
  clear hnp
  have x0 := cell_blk ((HB2.out.block _ (blk_lt HBJ.out)).trans HBJ.out) 0
  have y0 := cell_blk ((HB2.out.block _ (blk_lt HBE.out)).trans HBE.out) 0
  have f0 := free_blk ((HB2.out.block _ (blk_lt HBE.out)).trans HBE.out) 0
  have z0 : w.heap.size + 1 < w2.heap.size := Nat.lt_of_lt_of_le (blk_lt HBE.out) HB2.out.size
  simp only [List.getElem?_toArray, List.getElem?_cons_zero] at x0 y0
  have cr := room_calls (HJ.out.below (HW0.out.trans (HB2.out.mono HW0.out.size))) (by omega) (by omega)
  have HR : Hid (js.room = (js.sectors : Int) - 2 - (js.count : Int)) := rfl
  generalize js.room = rm at cr HR hroom
  go_wp2_with fail
  refine cr.mono ?_
  clear cr
  rintro e w3 ⟨rfl, hb3⟩
  have HB3 : Hid (Below W0.heap.size W0 w3) := HB2.out.trans (hb3.mono HB2.out.size)
  have HB23 : Hid (Below w2.heap.size w2 w3) := hb3
  clear hb3 x0 y0 f0 z0
  have x0 := cell_blk ((HB3.out.block _ (blk_lt HBJ.out)).trans HBJ.out) 0
  have y0 := cell_blk ((HB3.out.block _ (blk_lt HBE.out)).trans HBE.out) 0
  have f0 := free_blk ((HB3.out.block _ (blk_lt HBE.out)).trans HBE.out) 0
  have z0 : w.heap.size + 1 < w3.heap.size := Nat.lt_of_lt_of_le (blk_lt HBE.out) HB3.out.size
  simp only [List.getElem?_toArray, List.getElem?_cons_zero] at x0 y0
  have hrmb : decide (rm < (np : Int)) = false := decide_eq_false (by omega)
  have hmf : ∀ (fn : Fn) (first cap : Array Value) (w : World), (Instr.makeFunc fn first cap).run Tryd.prog w = .ok (.func fn first cap) w := fun _ _ _ _ => rfl
  have hbw3 : Below w.heap.size w w3 := HW0.out.trans (HB3.out.mono HW0.out.size)
  have hjl3 : j < w3.heap.size := Nat.lt_of_lt_of_le hjl hbw3.size
  have c2 : w3.cell? ⟨j, 2, none⟩ = some (.int .i64 js.count) := (hbw3.cell (p := ⟨j, 2, none⟩) hjl).trans c2w
  obtain ⟨cn, hcn0⟩ : ∃ cn, js.count = cn := ⟨_, rfl⟩
  rw [hcn0] at c2
  have HCN := Lib.hid hcn0
  have HBW3 := Lib.hid hbw3
  have hcn4 : cn ≤ 1000 := by omega
  have hnp4 : np ≤ 1000 := by omega
  have hfr : IntKind.i64.wrap (2 + (cn : Int)) = 2 + (cn : Int) := IntWalk.i64_in _ (by omega)
  have hnx : IntKind.i64.wrap ((cn : Int) + (np : Int)) = (cn : Int) + (np : Int) := IntWalk.i64_in _ (by omega)
  have hnp1 : 1 ≤ np := hpl1
  clear hbw3 hcn0 c2w
  go_upto_region 13 with (fail)
  obtain ⟨bj, hbj0⟩ : ∃ bj, w.heap.size = bj := ⟨_, rfl⟩
  have HBJ0 := Lib.hid hbj0
  simp only [hbj0] at x0 y0 f0 z0 ⊢
  clear hbj0
  have hbl3 : bj < w3.heap.size := by omega
  go_cut [6, 7] from 37 to 48 (fun v6 v7 wx => ∃ b6 b7, v6 = .pointer (some ⟨b6, 0, none⟩) ∧ v7 = .pointer (some ⟨b7, 0, none⟩) ∧ b6 ≠ b7 ∧ w3.heap.size ≤ b6 ∧ w3.heap.size ≤ b7 ∧ wx.heap[b6]? = some (.cells #[.int .i64 (2 + (cn : Int))] 3 (0, 0)) ∧ wx.heap[b7]? = some (.cells #[.int .i64 ((cn : Int) + (np : Int))] 3 (0, 0)) ∧ Below w3.heap.size w3 wx)
  case first =>
    go_region_held3 (fun W => W.cell? ⟨bj, 0, none⟩ = some (.pointer (some ⟨j, 0, none⟩)) ∧ W.cell? ⟨j, 2, none⟩ = some (.int .i64 cn)) (first | exact ⟨x0, c2⟩ | go_keep) (fail)
    all_goals
      go_wp2_with fail
      go_meet
      first
        | exact ⟨w3.heap.size, w3.heap.size + 1, rfl, rfl, by omega, Nat.le_refl _, by omega, (Below.heap_alloc _ _ _ (by simp)).trans (heap_alloc_new w3 _), heap_new2 w3 _ _, (two_new w3 _ _).drew⟩
        | exact ⟨w3.heap.size + 1, w3.heap.size, rfl, rfl, by omega, by omega, Nat.le_refl _, heap_new2 w3 _ _, (Below.heap_alloc _ _ _ (by simp)).trans (heap_alloc_new w3 _), (two_new w3 _ _).drew⟩
  case rest =>
    obtain ⟨b6, b7, rfl, rfl, h67, hl6, hl7, hc6, hc7, hbx⟩ := hcut
    obtain ⟨fr, hfr0⟩ : ∃ fr, 2 + cn = fr := ⟨_, rfl⟩
    obtain ⟨nx, hnx0⟩ : ∃ nx, cn + np = nx := ⟨_, rfl⟩
    rw [show 2 + (cn : Int) = (fr : Int) by omega] at hc6
    rw [show (cn : Int) + (np : Int) = (nx : Int) by omega] at hc7
    have hfr4 : fr ≤ 2000 := by omega
    have hnx4 : nx ≤ 3000 := by omega
    have HFR := Lib.hid hfr0
    have HNX := Lib.hid hnx0
    have hW3 : Below w.heap.size w w3 := HBW3.out
    have hxs3 := hbx.size
    have hws3 := hW3.size
    have hjb : bj = w.heap.size := HBJ0.out.symm
    have cbj : wc.heap[bj]? = some (.cells #[.pointer (some ⟨j, 0, none⟩)] 26 (0, 0)) := by
      rw [hbx.block bj hbl3, hjb]
      exact (HB3.out.block _ (blk_lt HBJ.out)).trans HBJ.out
    have cbe : wc.heap[bj + 1]? = some (.cells #[.int .i64 0] 33 (0, 0)) := by
      rw [hbx.block (bj + 1) (by omega), hjb]
      exact (HB3.out.block _ (blk_lt HBE.out)).trans HBE.out
    have hop : wc.ownsRow w.heap.size 9 1 (.slice PA np pcap) np (strs ps) := by
      have h1 := HW0.out.size
      have h2 := HB1.out.size
      refine own_low (own_same HOWN.out fun i hi => ?_) (Nat.le_trans h1 h2)
      have h3 := (HOWN.out.lt i hi).2
      have h4 := HB23.out.size
      exact (hbx.block i (by omega)).trans (HB23.out.block i h3)
    have hpb : ∀ g, (Value.slice PA np pcap).ownBlock = some g → g < wc.heap.size := fun g hg => (hop.lt g hg).2
    have hAL : AL w bj (bj + 1) b6 b7 wc.heap.size (wc.heap.size + 1) j fr nx (wc.heap.size + 2) ps (.slice PA np pcap) 0 0 (.slice none 0 0) (.slice none 0 0) ((wc.alloc (.cells #[.slice none 0 0] 27)).alloc (.cells #[.slice none 0 0] 27)) := by
      have hk := two_new wc (.cells #[.slice none 0 0] 27) (.cells #[.slice none 0 0] 27)
      have hl6' := blk_lt hc6
      have hl7' := blk_lt hc7
      have hsz2 : ((wc.alloc (.cells #[.slice none 0 0] 27)).alloc (.cells #[.slice none 0 0] 27)).heap.size = wc.heap.size + 2 := by simp
      refine ⟨⟨(hk.block _ (by omega)).trans cbj, (hk.block _ (by omega)).trans cbe, (hk.block _ hl6').trans hc6, (hk.block _ hl7').trans hc7, (Below.heap_alloc _ _ _ (by simp)).trans (heap_alloc_new wc _), heap_new2 wc _ _⟩, ⟨by omega, by omega, by omega, by omega, by omega, by omega⟩, ⟨by omega, by omega, by omega, by omega, by omega, by omega⟩, by omega, World.ownsRow_nil _ _ _ _, World.ownsRow_nil _ _ _ _, fun g hg => by simp [Value.ownBlock] at hg, ?_, fun g hg => by have := hpb g hg; omega, ?_, by rw [hsz2]; exact Nat.le_refl _⟩
      · have hnl : ps.length = np := by obtain ⟨l, rfl, h⟩ := HNPX.out; exact h
        rw [hnl]
        exact own_same hop fun i hi => hk.block i (hop.lt i hi).2
      · exact (hW3.trans (hbx.mono hws3)).trans (hk.mono (by omega))
    have HAL0 := Lib.hid hAL
    have HBX := Lib.hid hbx
    clear hAL hop hpb cbj cbe hc6 hc7 hbx c2 x0 y0 f0 z0 hl6 hl7 h67 hfr hnx hcn hW3 hfr0 hnx0 hxs3 hws3 hjb
    go_wp2_with fail
    generalize (wc.alloc (.cells #[.slice none 0 0] 27)).alloc (.cells #[.slice none 0 0] 27) = W5 at HAL0 ⊢
    obtain ⟨b8, hb8⟩ : ∃ b8, wc.heap.size = b8 := ⟨_, rfl⟩
    have HB8 := Lib.hid hb8
    simp only [hb8] at HAL0 ⊢
    clear hb8
    go_loopw [51] (fun iv wr => ∃ (k : Nat) (v8 v9 : Value), k ≤ np ∧ iv = .int .i64 k ∧ AL w bj (bj + 1) b6 b7 b8 (b8 + 1) j fr nx (b8 + 2) ps (.slice PA np pcap) k k v8 v9 wr) (fun iv _ => np - (Go.RowKit.intOf iv).toNat)
    case atStart => exact ⟨0, _, _, Nat.zero_le _, rfl, HAL0.out⟩
    case round =>
      obtain ⟨k, v8, v9, hk, rfl, hal⟩ := hrel
      have HAL := Lib.hid hal
      clear hal HAL0
      by_cases hlt : k < np
      · have hnl : ps.length = np := by obtain ⟨l, rfl, h⟩ := HNPX.out; exact h
        obtain ⟨gp, pc, hpf, hpg1, hpg2⟩ := HAL.out.op.form (by omega)
        injection hpf with hA hN9 hC9
        clear hN9 hC9
        subst hA
        have hxp : wr.cell? ⟨gp, k, none⟩ = some (.string (ps[k]'(by omega))) := by
          have h := HAL.out.op
          rw [hnl] at h
          rw [h.cellAt k (by omega)]
          simp [strs, List.getElem?_eq_getElem (show k < ps.length by omega)]
        have hx46 : (ps[k]'(by omega)).size ≤ 46 := (pieces_sizes (textL xs) _ (by rw [HPS0.out]; exact List.getElem_mem (show k < ps.length by omega))).2
        obtain ⟨x, hx⟩ : ∃ x, (ps[k]'(by omega)) = x := ⟨_, rfl⟩
        rw [hx] at hxp hx46
        have HXE : Hid (ps[k]? = some x) := by show _ = _; rw [List.getElem?_eq_getElem (show k < ps.length by omega), hx]
        have HNL := Lib.hid hnl
        have hlt2 : (k : Int) < (np : Int) := by omega
        have hb8c := cell_blk HAL.out.box.c8 0
        have hb8l := blk_lt HAL.out.box.c8
        have hb8s := HAL.out.sz
        simp only [List.getElem?_toArray, List.getElem?_cons_zero] at hb8c
        have hs12 : w.heap.size ≤ wr.heap.size := HAL.out.be_.size
        obtain ⟨i0, hi, hz0, hzz1, hz2⟩ := info_parts Tryd.infoStr
        clear hx hpg1 hpg2
        clear hnl
        go_wp2_with fail
        go_cut [] from 56 to 59 (fun wx => ∃ v8', AL w bj (bj + 1) b6 b7 b8 (b8 + 1) j fr nx (b8 + 2) ps (.slice (some ⟨gp, 0, none⟩) np pcap) (k + 1) k v8' v9 wx)
        case first =>
          go_region_law (first
            | (go_simp; go_at_call 35; (with_reducible refine (zero_calls _).mono ?_); rintro e w1 ⟨rfl, hb⟩; have hbB : Below wr.heap.size wr w1 := (show Below wr.heap.size wr wr.drew from ⟨rfl, rfl, rfl, Nat.le_refl _, fun _ _ => rfl⟩).trans hb; have q8 := (hbB.cell (p := ⟨b8, 0, none⟩) hb8l).trans hb8c; have q8l : b8 < w1.heap.size := Nat.lt_of_lt_of_le hb8l hbB.size; have q8s : b8 + 2 ≤ w1.heap.size := Nat.le_trans hb8s hbB.size; have q8a := (World.cell?_alloc_lt w1 (.cells #[.string zeroB] 9) ⟨b8, 0, none⟩ q8l).trans q8; have HB1 := Lib.hid hbB; clear hb hbB)
            | (refine step_append_lies _ (by rfl) _ _ _ (by rfl) (b8 + 2) 9 i0 _ 1 16 Tryd.underlying27 hi hz0 hzz1 hz2 rfl (by omega) v8 k (strs (List.replicate k zeroB)) (by rfl) ((own_same HAL.out.o8 fun i hi => HB1.out.block i (HAL.out.o8.lt i hi).2).alloc _) ⟨w1.heap.size, 0, none⟩ 1 1 [.string zeroB] (by rfl) (by rfl) (cell_one_new _ _ _) (by simp [Value.oneCell']) (by omega) (by simp only [maxLen]; omega) (by omega) (by simp; omega) (w1.heap.size + 1) (by simp) ?_; intro g cap w2 hown hgr hat hlt9; have r8 := (hgr.block b8 (by simp; omega) (fun e => by have := (HAL.out.o8.lt b8 e.symm).1; omega)).trans ((Below.heap_alloc w1 _ b8 q8l).trans ((HB1.out.block b8 hb8l).trans HAL.out.box.c8)); have r8c := cell_blk r8 0; have r8f := free_blk r8 0; have r8l := blk_lt r8; simp only [List.getElem?_toArray, List.getElem?_cons_zero] at r8c; have HN := Lib.hid (HAL.out.push8 (HB1.out.trans (((Below.refl _ w1).alloc (Nat.le_refl _) _).mono HB1.out.size)) hown hgr (hat.imp id fun h => by rw [h]; simp)); clear hown hgr hat r8))
          all_goals
            go_wp2_with fail
            go_meet
            exact ⟨_, HN.out⟩
        case rest =>
          obtain ⟨v8', hal8⟩ := hcut
          have HAL8 := Lib.hid hal8
          have hb9c := cell_blk hal8.box.c9 0
          have hb9l := blk_lt hal8.box.c9
          have hb9s := hal8.sz
          have hb6c := cell_blk hal8.box.c6 0
          simp only [List.getElem?_toArray, List.getElem?_cons_zero] at hb9c hb6c
          have hLd : LaidJ wc.drew := HLA.out.below (hal8.be_.trans ⟨rfl, rfl, rfl, Nat.le_refl _, fun _ _ => rfl⟩)
          have hfk : IntKind.i64.wrap ((fr : Int) + (k : Int)) = (fr : Int) + (k : Int) := IntWalk.i64_in _ (by omega)
          have hsc := fun W (hW : LaidJ W) => sector_calls W hW (fr + k) (by omega) x (by omega)
          rw [show ((fr + k : Nat) : Int) = (fr : Int) + (k : Int) by omega] at hsc
          obtain ⟨sx, hsx⟩ : ∃ sx, sectorB (fr + k) x = sx := ⟨_, rfl⟩
          have HSX := Lib.hid hsx
          simp only [hsx] at hsc
          have hs13 : w.heap.size ≤ wc.heap.size := hal8.be_.size
          clear hal8 hsx hb8c hb8l hb8s HAL hxp
          go_wp2_with fail
          refine wp_region_noPanic ?_
          go_region_law (first
              | (go_simp; go_at_call 30; (with_reducible refine (hsc _ hLd).mono ?_); rintro e w1 ⟨rfl, hb⟩; have hbB : Below wc.heap.size wc w1 := (show Below wc.heap.size wc wc.drew from ⟨rfl, rfl, rfl, Nat.le_refl _, fun _ _ => rfl⟩).trans hb; have q9 := (hbB.cell (p := ⟨b8 + 1, 0, none⟩) hb9l).trans hb9c; have q9l : b8 + 1 < w1.heap.size := Nat.lt_of_lt_of_le hb9l hbB.size; have q9s : b8 + 2 ≤ w1.heap.size := Nat.le_trans hb9s hbB.size; have q9a := (World.cell?_alloc_lt w1 (.cells #[.string sx] 9) ⟨b8 + 1, 0, none⟩ q9l).trans q9; have HB1 := Lib.hid hbB; clear hb hbB)
              | (refine step_append_lies _ (by rfl) _ _ _ (by rfl) (b8 + 2) 9 i0 _ 1 16 Tryd.underlying27 hi hz0 hzz1 hz2 rfl (by omega) v9 k (strs ((fulls fr ps).take k)) (by rfl) ((own_same HAL8.out.o9 fun i hi => HB1.out.block i (HAL8.out.o9.lt i hi).2).alloc _) ⟨w1.heap.size, 0, none⟩ 1 1 [.string sx] (by rfl) (by rfl) (cell_one_new _ _ _) (by simp [Value.oneCell']) (by omega) (by simp only [maxLen]; omega) (by omega) (by simp; omega) (w1.heap.size + 1) (by simp) ?_; intro g cap w2 hown hgr hat hlt9; have r9 := (hgr.block (b8 + 1) (by simp; omega) (fun e => by have := (HAL8.out.o9.lt (b8 + 1) e.symm).1; omega)).trans ((Below.heap_alloc w1 _ (b8 + 1) q9l).trans ((HB1.out.block (b8 + 1) hb9l).trans HAL8.out.box.c9)); have r9c := cell_blk r9 0; have r9f := free_blk r9 0; have r9l := blk_lt r9; simp only [List.getElem?_toArray, List.getElem?_cons_zero] at r9c; have hown' := sec_eq (hk := by rw [HNL.out]; exact hlt) HXE.out HSX.out hown; have HN := Lib.hid (HAL8.out.push9 (by rw [HNL.out]; exact hlt) (HB1.out.trans (((Below.refl _ w1).alloc (Nat.le_refl _) _).mono HB1.out.size)) hown' hgr (hat.imp id fun h => by rw [h]; simp)); clear hown hown' hgr hat r9))
          all_goals
            refine NoPanic.normal ?_
            go_wp2_with fail
            go_roundw
            case rel => exact ⟨k + 1, v8', _, by omega, by go_num, HN.out⟩
            case measure => simp [Go.RowKit.intOf]; omega
      · have hkn : np = k := by omega
        subst hkn
        have hnl : ps.length = np := by obtain ⟨l, rfl, h⟩ := HNPX.out; exact h
        have HNL := Lib.hid hnl
        have HAM9 : Hid (appendM st js xs = if (st.steps js.count ps).2 = 0 then ((st.steps js.count ps).1, ⟨js.sectors, js.count + ps.length, js.recs ++ xs, false⟩, 0) else ((st.steps js.count ps).1, ⟨js.sectors, js.count, js.recs, true⟩, (st.steps js.count ps).2)) := by
          show _ = _
          rw [hnl]
          exact HAM.out
        clear hnl
        go_wp2_with fail
        have hbWL : Below wr.heap.size wr (wr.alloc (.cells #[.func (.func 43) #[] #[.pointer (some ⟨bj, 0, none⟩), .pointer (some ⟨b6, 0, none⟩), .pointer (some ⟨b8, 0, none⟩)], .func (.func 44) #[] #[.pointer (some ⟨bj, 0, none⟩), .pointer (some ⟨b6, 0, none⟩), .pointer (some ⟨b8 + 1, 0, none⟩)], .func (.func 45) #[] #[.pointer (some ⟨bj, 0, none⟩), .pointer (some ⟨b7, 0, none⟩)], .func (.func 46) #[] #[.pointer (some ⟨bj, 0, none⟩), .pointer (some ⟨b7, 0, none⟩)]] 83)) := (Below.refl _ _).alloc (Nat.le_refl _) _
        have hgs := heap_alloc_new wr (.cells #[.func (.func 43) #[] #[.pointer (some ⟨bj, 0, none⟩), .pointer (some ⟨b6, 0, none⟩), .pointer (some ⟨b8, 0, none⟩)], .func (.func 44) #[] #[.pointer (some ⟨bj, 0, none⟩), .pointer (some ⟨b6, 0, none⟩), .pointer (some ⟨b8 + 1, 0, none⟩)], .func (.func 45) #[] #[.pointer (some ⟨bj, 0, none⟩), .pointer (some ⟨b7, 0, none⟩)], .func (.func 46) #[] #[.pointer (some ⟨bj, 0, none⟩), .pointer (some ⟨b7, 0, none⟩)]] 83)
        have HALL := Lib.hid (HAL.out.draw hbWL)
        have HGS := Lib.hid hgs
        have hgl := blk_lt hgs
        have hgw : w.heap.size ≤ wr.heap.size := HAL.out.be_.size
        have hgb : bj + 1 < wr.heap.size := by have h1 := HAL.out.hi; have h2 := HAL.out.sz; omega
        clear hbWL hgs HAL
        generalize wr.alloc (.cells #[.func (.func 43) #[] #[.pointer (some ⟨bj, 0, none⟩), .pointer (some ⟨b6, 0, none⟩), .pointer (some ⟨b8, 0, none⟩)], .func (.func 44) #[] #[.pointer (some ⟨bj, 0, none⟩), .pointer (some ⟨b6, 0, none⟩), .pointer (some ⟨b8 + 1, 0, none⟩)], .func (.func 45) #[] #[.pointer (some ⟨bj, 0, none⟩), .pointer (some ⟨b7, 0, none⟩)], .func (.func 46) #[] #[.pointer (some ⟨bj, 0, none⟩), .pointer (some ⟨b7, 0, none⟩)]] 83) = WL at HALL HGS hgl ⊢
        generalize wr.heap.size = gs at HGS hgl hgw hgb ⊢
        have hF : ∀ i, F i → i < w.heap.size := HD.out.lt
        have hFn : ∀ i, w.heap.size ≤ i → ¬ F i := fun i hi h => by have := hF i h; omega
        obtain ⟨ll1, ll2, ll3, ll4, ll5, ll6⟩ := HALL.out.lo
        obtain ⟨lh1, lh2, lh3, lh4, lh5, lh6⟩ := HALL.out.hi
        have lsz := HALL.out.sz
        have hbeF : ¬ F (bj + 1) := hFn _ (by omega)
        have hLe : bj + 1 < WL.heap.size := by omega
        have hLbj : bj < WL.heap.size := by omega
        have hL6 : b6 < WL.heap.size := by omega
        have hL7 : b7 < WL.heap.size := by omega
        have hL8 : b8 < WL.heap.size := by omega
        have hL9 : b8 + 1 < WL.heap.size := by omega
        have hjG : G j := by obtain ⟨rv0, _, _, h3, _⟩ := HJ.out; exact h3
        have hjF := HFG.out j hjG
        have hLj : j < WL.heap.size := by omega
        have hjbe : j ≠ bj + 1 := by omega
        have HBWL := Lib.hid HALL.out.be_
        obtain ⟨rvj, hjc, hjo, _, hjrG, hjGl⟩ := HJ.out
        have HJL := Lib.hid ((HBWL.out.block j hjl).trans hjc)
        have HBJX := Lib.hid HALL.out.box.cj
        have HB6X := Lib.hid HALL.out.box.c6
        have HB7X := Lib.hid HALL.out.box.c7
        have HB8X := Lib.hid HALL.out.box.c8
        have HB9X := Lib.hid HALL.out.box.c9
        have hne6 : b6 ≠ bj + 1 := ne_of_type HALL.out.box.c6 HALL.out.box.ce (by decide)
        have hne7 : b7 ≠ bj + 1 := ne_of_type HALL.out.box.c7 HALL.out.box.ce (by decide)
        have hne8 : b8 ≠ bj + 1 := ne_of_type HALL.out.box.c8 HALL.out.box.ce (by decide)
        have hne9 : b8 + 1 ≠ bj + 1 := ne_of_type HALL.out.box.c9 HALL.out.box.ce (by decide)
        have HTO0 : Hid (∀ kk st' F' wr, KS WL F d st cn ps (bj + 1) kk st' F' wr → TextsOut wr F' v8 (List.replicate ps.length zeroB)) := by
          show ∀ kk st' F' wr, _
          intro kk st' F' wr h
          have ho := HALL.out.o8
          rw [show List.replicate ps.length zeroB = List.replicate np zeroB by rw [HNL.out]]
          have hkp := fun g (hg : v8.ownBlock = some g) => h.kept (b := g) (ho.lt g hg).2 (hFn g (by have := (ho.lt g hg).1; omega)) (by have := (ho.lt g hg).1; omega)
          exact TextsOut.of_own (own_same ho fun g hg => (hkp g hg).1) fun g hg => (hkp g hg).2
        have HTO1 : Hid (∀ kk st' F' wr, KS WL F d st cn ps (bj + 1) kk st' F' wr → TextsOut wr F' v9 (fulls (2 + cn) ps)) := by
          show ∀ kk st' F' wr, _
          intro kk st' F' wr h
          have ho := HALL.out.o9
          rw [List.take_of_length_le (by rw [fulls_len, HNL.out]; exact Nat.le_refl _), ← HFR.out] at ho
          have hkp := fun g (hg : v9.ownBlock = some g) => h.kept (b := g) (ho.lt g hg).2 (hFn g (by have := (ho.lt g hg).1; omega)) (by have := (ho.lt g hg).1; omega)
          exact TextsOut.of_own (own_same ho fun g hg => (hkp g hg).1) fun g hg => (hkp g hg).2
        have HK0 : Hid (KS WL F d st cn ps (bj + 1) 0 st F WL) := ⟨HD.out.below HBWL.out, Upd.refl _ _, fun i hi => .inl hi, by omega, steps_left _ _ _, HALL.out.box.ce⟩
        have hbr9 : js.broken = false := HBR9.out
        have HJO := Lib.hid hjo
        have HJGL := Lib.hid hjGl
        clear hjc hjo hjGl
        go_loopw [75] (fun iv wr => ∃ (kk : Nat) (st' : DS) (F' : Nat → Prop), kk ≤ 4 ∧ iv = .int .i64 kk ∧ KS WL F d st cn ps (bj + 1) kk st' F' wr) (fun iv _ => 4 - (Go.RowKit.intOf iv).toNat)
        case atStart => exact ⟨0, st, F, by omega, rfl, HK0.out⟩
        case round =>
          obtain ⟨kk, st', F', hk4, rfl, hks⟩ := hrel
          have hkf := hks.kept hgl (hFn _ (by omega)) (by omega)
          have hkj := hks.kept hLj hjF hjbe
          have hkb := hks.kept hLbj (hFn _ (by omega)) (by omega)
          have hk6 := hks.kept hL6 (hFn _ (by omega)) hne6
          have hk7 := hks.kept hL7 (hFn _ (by omega)) hne7
          have cjd := cell_blk (hkj.1.trans HJL.out) 0
          have cjb := cell_blk (hkb.1.trans HBJX.out) 0
          have c6' := cell_blk (hk6.1.trans HB6X.out) 0
          have c7' := cell_blk (hk7.1.trans HB7X.out) 0
          simp only [List.getElem?_toArray, List.getElem?_cons_zero, List.getElem?_cons_succ] at cjd cjb c6' c7'
          have hjF' := hkj.2
          have hbjF' := hkb.2
          have hb7F' := hk7.2
          have hlr : LaidJ wr := HLU.out wr ((Upd.of_below HBWL.out F).trans hks.up fun i hi => hi.elim .inl fun e => .inr (by omega))
          clear hkb hk6 hk7 HK0
          have hkc : kk = 0 ∨ kk = 1 ∨ kk = 2 ∨ kk = 3 ∨ kk = 4 := by omega
          rcases hkc with rfl | rfl | rfl | rfl | rfl
          · have c3 := cell_blk (hkf.1.trans HGS.out) 0
            simp only [List.getElem?_toArray, List.getElem?_cons_zero, List.getElem?_cons_succ] at c3
            have hq := hks.kept hL8 (hFn _ (by omega)) (by omega)
            have hto := HTO0.out 0 st' F' wr hks
            have cc := app3_calls hks.disk j bj b6 b8 cjd hjF' cjb ((2 + cn : Nat) : Int) (by omega) (by rw [c6', HFR.out]) v8 (cell_blk (hq.1.trans HB8X.out) 0) (List.replicate ps.length zeroB) hto (by rw [List.length_replicate]; rw [HNL.out]; omega) (by have := hks.q; omega)
            clear hq hto
            obtain ⟨r, hr⟩ : ∃ r, st'.from_ cn ps 0 = r := ⟨_, rfl⟩
            have hfe : st'.from_ cn ps 0 = st'.writeM ((2 + cn : Nat) : Int) (List.replicate ps.length zeroB) := rfl
            rw [← hfe, hr] at cc
            have hst := fun e w1 (ht : Turns wr F' d r.1 (.int .i64 r.2) e w1) => hks.step (by omega) (by rw [HNL.out]; omega) hLe hbeF hr ht
            obtain ⟨s1, e1⟩ := r
            have HKS := Lib.hid hks
            clear hks hr hfe cjd cjb c6' c7' hjF' hbjF' hb7F' hlr hkf
            go_wp2_with fail
            refine cc.mono ?_
            clear cc
            rintro e w1 ht
            obtain ⟨rfl, F1, hkt⟩ := hst e w1 ht
            have HKT := Lib.hid hkt
            have ce1 := cell_blk hkt.ce 0
            have cf1 := free_blk hkt.ce 0
            have cl1 := blk_lt hkt.ce
            simp only [List.getElem?_toArray, List.getElem?_cons_zero] at ce1
            clear hst ht hkt c3
            by_cases he : e1 = 0
            · subst he
              have HN := Lib.hid (HKT.out.next hbeF rfl)
              go_wp2_with fail
              go_roundw
              case rel => exact ⟨1, s1, F1, by omega, rfl, HN.out⟩
              case measure => simp [Go.RowKit.intOf]
            · have hb1 : (e1 == 0) = false := by simp [he]
              have hb2 : (e1 != 0) = true := by simp [he]
              have HKJ := Lib.hid (HKT.out.kept hLj (HFG.out j hjG) hjbe)
              have HKB := Lib.hid (HKT.out.kept hLbj (hFn _ (by omega)) (by omega))
              go_wp2_with fail
              have hW2 : Upd (fun i => i = bj + 1) w1 (w1.setCell ⟨bj + 1, 0, none⟩ (.int .i64 e1)) := (Upd.refl (fun i => i = bj + 1) w1).setCell _ (.inl rfl) _
              have hW3 : Upd (fun i => i = bj + 1) w1 ((w1.setCell ⟨bj + 1, 0, none⟩ (.int .i64 e1)).setCell ⟨bj + 1, 0, none⟩ (.int .i64 e1)) := hW2.setCell _ (.inl rfl) _
              have HWW := Lib.hid hW3
              clear hW2 hW3
              have he3 := heap_set_one (heap_set_one HKT.out.ce (.int .i64 e1)) (.int .i64 e1)
              generalize (w1.setCell ⟨bj + 1, 0, none⟩ (.int .i64 e1)).setCell ⟨bj + 1, 0, none⟩ (.int .i64 e1) = W3 at HWW he3 ⊢
              have hj3 := (HWW.out.block j (Nat.lt_of_lt_of_le hLj HKT.out.up.size) hjbe).trans (HKJ.out.1.trans HJL.out)
              have hbj3 := (HWW.out.block bj (Nat.lt_of_lt_of_le hLbj HKT.out.up.size) (by omega)).trans (HKB.out.1.trans HBJX.out)
              refine leaves_cons (f := 42) (args := #[.pointer (some ⟨bj + 1, 0, none⟩), .pointer (some ⟨bj, 0, none⟩)]) (by simp) (by simp [go_sem]) ?_
              refine (app2_bad (W := W3) (be := bj + 1) (bj := bj) (j := j) he (cell_blk he3 0) (cell_blk hbj3 0) (cell_blk hj3 4) (free_blk hj3 4) .returning).mono ?_
              rintro e u' w'' ⟨rfl, rfl, rfl⟩
              have ce5 := cell_blk (show (W3.setCell ⟨j, 4, none⟩ (.bool true)).heap[bj + 1]? = _ from (Below.heap_setCell _ _ _ _ (fun e => hjbe e.symm)).trans he3) 0
              simp only [List.getElem?_toArray, List.getElem?_cons_zero] at ce5
              have HFIN := Lib.hid (HKT.out.lost he HCN.out HAM9.out HJ.out HFG.out HD.out HBWL.out (by omega) HWW.out)
              exact ⟨.int .i64 e1, by simp [results, Tryd.results18, go_sem, ce5], HFIN.out⟩
          · have c3 := cell_blk (hkf.1.trans HGS.out) 1
            simp only [List.getElem?_toArray, List.getElem?_cons_zero, List.getElem?_cons_succ] at c3
            have hq := hks.kept hL9 (hFn _ (by omega)) (by omega)
            have hto := HTO1.out 1 st' F' wr hks
            have cc := app4_calls hks.disk j bj b6 (b8 + 1) cjd hjF' cjb ((2 + cn : Nat) : Int) (by omega) (by rw [c6', HFR.out]) v9 (cell_blk (hq.1.trans HB9X.out) 0) (fulls (2 + cn) ps) hto (by rw [fulls_len]; rw [HNL.out]; omega) (by have := hks.q; omega)
            clear hq hto
            obtain ⟨r, hr⟩ : ∃ r, st'.from_ cn ps 1 = r := ⟨_, rfl⟩
            have hfe : st'.from_ cn ps 1 = st'.writeM ((2 + cn : Nat) : Int) (fulls (2 + cn) ps) := rfl
            rw [← hfe, hr] at cc
            have hst := fun e w1 (ht : Turns wr F' d r.1 (.int .i64 r.2) e w1) => hks.step (by omega) (by rw [HNL.out]; omega) hLe hbeF hr ht
            obtain ⟨s1, e1⟩ := r
            have HKS := Lib.hid hks
            clear hks hr hfe cjd cjb c6' c7' hjF' hbjF' hb7F' hlr hkf
            go_wp2_with fail
            refine cc.mono ?_
            clear cc
            rintro e w1 ht
            obtain ⟨rfl, F1, hkt⟩ := hst e w1 ht
            have HKT := Lib.hid hkt
            have ce1 := cell_blk hkt.ce 0
            have cf1 := free_blk hkt.ce 0
            have cl1 := blk_lt hkt.ce
            simp only [List.getElem?_toArray, List.getElem?_cons_zero] at ce1
            clear hst ht hkt c3
            by_cases he : e1 = 0
            · subst he
              have HN := Lib.hid (HKT.out.next hbeF rfl)
              go_wp2_with fail
              go_roundw
              case rel => exact ⟨2, s1, F1, by omega, rfl, HN.out⟩
              case measure => simp [Go.RowKit.intOf]
            · have hb1 : (e1 == 0) = false := by simp [he]
              have hb2 : (e1 != 0) = true := by simp [he]
              have HKJ := Lib.hid (HKT.out.kept hLj (HFG.out j hjG) hjbe)
              have HKB := Lib.hid (HKT.out.kept hLbj (hFn _ (by omega)) (by omega))
              go_wp2_with fail
              have hW2 : Upd (fun i => i = bj + 1) w1 (w1.setCell ⟨bj + 1, 0, none⟩ (.int .i64 e1)) := (Upd.refl (fun i => i = bj + 1) w1).setCell _ (.inl rfl) _
              have hW3 : Upd (fun i => i = bj + 1) w1 ((w1.setCell ⟨bj + 1, 0, none⟩ (.int .i64 e1)).setCell ⟨bj + 1, 0, none⟩ (.int .i64 e1)) := hW2.setCell _ (.inl rfl) _
              have HWW := Lib.hid hW3
              clear hW2 hW3
              have he3 := heap_set_one (heap_set_one HKT.out.ce (.int .i64 e1)) (.int .i64 e1)
              generalize (w1.setCell ⟨bj + 1, 0, none⟩ (.int .i64 e1)).setCell ⟨bj + 1, 0, none⟩ (.int .i64 e1) = W3 at HWW he3 ⊢
              have hj3 := (HWW.out.block j (Nat.lt_of_lt_of_le hLj HKT.out.up.size) hjbe).trans (HKJ.out.1.trans HJL.out)
              have hbj3 := (HWW.out.block bj (Nat.lt_of_lt_of_le hLbj HKT.out.up.size) (by omega)).trans (HKB.out.1.trans HBJX.out)
              refine leaves_cons (f := 42) (args := #[.pointer (some ⟨bj + 1, 0, none⟩), .pointer (some ⟨bj, 0, none⟩)]) (by simp) (by simp [go_sem]) ?_
              refine (app2_bad (W := W3) (be := bj + 1) (bj := bj) (j := j) he (cell_blk he3 0) (cell_blk hbj3 0) (cell_blk hj3 4) (free_blk hj3 4) .returning).mono ?_
              rintro e u' w'' ⟨rfl, rfl, rfl⟩
              have ce5 := cell_blk (show (W3.setCell ⟨j, 4, none⟩ (.bool true)).heap[bj + 1]? = _ from (Below.heap_setCell _ _ _ _ (fun e => hjbe e.symm)).trans he3) 0
              simp only [List.getElem?_toArray, List.getElem?_cons_zero] at ce5
              have HFIN := Lib.hid (HKT.out.lost he HCN.out HAM9.out HJ.out HFG.out HD.out HBWL.out (by omega) HWW.out)
              exact ⟨.int .i64 e1, by simp [results, Tryd.results18, go_sem, ce5], HFIN.out⟩
          · have c3 := cell_blk (hkf.1.trans HGS.out) 2
            simp only [List.getElem?_toArray, List.getElem?_cons_zero, List.getElem?_cons_succ] at c3
            have cc := app5_calls hlr hks.disk j bj b7 cjd hjF' cjb hbjF' (cn + ps.length) (by rw [HNL.out]; omega) (by rw [c7', HNL.out, HNX.out]) hb7F' (by have := hks.q; omega)
            obtain ⟨r, hr⟩ : ∃ r, st'.from_ cn ps 2 = r := ⟨_, rfl⟩
            have hfe : st'.from_ cn ps 2 = st'.writeM ((1 : Nat) : Int) [headB 1 (cn + ps.length)] := rfl
            rw [← hfe, hr] at cc
            have hst := fun e w1 (ht : Turns wr F' d r.1 (.int .i64 r.2) e w1) => hks.step (by omega) (by rw [HNL.out]; omega) hLe hbeF hr ht
            obtain ⟨s1, e1⟩ := r
            have HKS := Lib.hid hks
            clear hks hr hfe cjd cjb c6' c7' hjF' hbjF' hb7F' hlr hkf
            go_wp2_with fail
            refine cc.mono ?_
            clear cc
            rintro e w1 ht
            obtain ⟨rfl, F1, hkt⟩ := hst e w1 ht
            have HKT := Lib.hid hkt
            have ce1 := cell_blk hkt.ce 0
            have cf1 := free_blk hkt.ce 0
            have cl1 := blk_lt hkt.ce
            simp only [List.getElem?_toArray, List.getElem?_cons_zero] at ce1
            clear hst ht hkt c3
            by_cases he : e1 = 0
            · subst he
              have HN := Lib.hid (HKT.out.next hbeF rfl)
              go_wp2_with fail
              go_roundw
              case rel => exact ⟨3, s1, F1, by omega, rfl, HN.out⟩
              case measure => simp [Go.RowKit.intOf]
            · have hb1 : (e1 == 0) = false := by simp [he]
              have hb2 : (e1 != 0) = true := by simp [he]
              have HKJ := Lib.hid (HKT.out.kept hLj (HFG.out j hjG) hjbe)
              have HKB := Lib.hid (HKT.out.kept hLbj (hFn _ (by omega)) (by omega))
              go_wp2_with fail
              have hW2 : Upd (fun i => i = bj + 1) w1 (w1.setCell ⟨bj + 1, 0, none⟩ (.int .i64 e1)) := (Upd.refl (fun i => i = bj + 1) w1).setCell _ (.inl rfl) _
              have hW3 : Upd (fun i => i = bj + 1) w1 ((w1.setCell ⟨bj + 1, 0, none⟩ (.int .i64 e1)).setCell ⟨bj + 1, 0, none⟩ (.int .i64 e1)) := hW2.setCell _ (.inl rfl) _
              have HWW := Lib.hid hW3
              clear hW2 hW3
              have he3 := heap_set_one (heap_set_one HKT.out.ce (.int .i64 e1)) (.int .i64 e1)
              generalize (w1.setCell ⟨bj + 1, 0, none⟩ (.int .i64 e1)).setCell ⟨bj + 1, 0, none⟩ (.int .i64 e1) = W3 at HWW he3 ⊢
              have hj3 := (HWW.out.block j (Nat.lt_of_lt_of_le hLj HKT.out.up.size) hjbe).trans (HKJ.out.1.trans HJL.out)
              have hbj3 := (HWW.out.block bj (Nat.lt_of_lt_of_le hLbj HKT.out.up.size) (by omega)).trans (HKB.out.1.trans HBJX.out)
              refine leaves_cons (f := 42) (args := #[.pointer (some ⟨bj + 1, 0, none⟩), .pointer (some ⟨bj, 0, none⟩)]) (by simp) (by simp [go_sem]) ?_
              refine (app2_bad (W := W3) (be := bj + 1) (bj := bj) (j := j) he (cell_blk he3 0) (cell_blk hbj3 0) (cell_blk hj3 4) (free_blk hj3 4) .returning).mono ?_
              rintro e u' w'' ⟨rfl, rfl, rfl⟩
              have ce5 := cell_blk (show (W3.setCell ⟨j, 4, none⟩ (.bool true)).heap[bj + 1]? = _ from (Below.heap_setCell _ _ _ _ (fun e => hjbe e.symm)).trans he3) 0
              simp only [List.getElem?_toArray, List.getElem?_cons_zero] at ce5
              have HFIN := Lib.hid (HKT.out.lost he HCN.out HAM9.out HJ.out HFG.out HD.out HBWL.out (by omega) HWW.out)
              exact ⟨.int .i64 e1, by simp [results, Tryd.results18, go_sem, ce5], HFIN.out⟩
          · have c3 := cell_blk (hkf.1.trans HGS.out) 3
            simp only [List.getElem?_toArray, List.getElem?_cons_zero, List.getElem?_cons_succ] at c3
            have cc := app6_calls hlr hks.disk j bj b7 cjd hjF' cjb hbjF' (cn + ps.length) (by rw [HNL.out]; omega) (by rw [c7', HNL.out, HNX.out]) hb7F' (by have := hks.q; omega)
            obtain ⟨r, hr⟩ : ∃ r, st'.from_ cn ps 3 = r := ⟨_, rfl⟩
            have hfe : st'.from_ cn ps 3 = st'.writeM ((0 : Nat) : Int) [headB 0 (cn + ps.length)] := rfl
            rw [← hfe, hr] at cc
            have hst := fun e w1 (ht : Turns wr F' d r.1 (.int .i64 r.2) e w1) => hks.step (by omega) (by rw [HNL.out]; omega) hLe hbeF hr ht
            obtain ⟨s1, e1⟩ := r
            have HKS := Lib.hid hks
            clear hks hr hfe cjd cjb c6' c7' hjF' hbjF' hb7F' hlr hkf
            go_wp2_with fail
            refine cc.mono ?_
            clear cc
            rintro e w1 ht
            obtain ⟨rfl, F1, hkt⟩ := hst e w1 ht
            have HKT := Lib.hid hkt
            have ce1 := cell_blk hkt.ce 0
            have cf1 := free_blk hkt.ce 0
            have cl1 := blk_lt hkt.ce
            simp only [List.getElem?_toArray, List.getElem?_cons_zero] at ce1
            clear hst ht hkt c3
            by_cases he : e1 = 0
            · subst he
              have HN := Lib.hid (HKT.out.next hbeF rfl)
              go_wp2_with fail
              go_roundw
              case rel => exact ⟨4, s1, F1, by omega, rfl, HN.out⟩
              case measure => simp [Go.RowKit.intOf]
            · have hb1 : (e1 == 0) = false := by simp [he]
              have hb2 : (e1 != 0) = true := by simp [he]
              have HKJ := Lib.hid (HKT.out.kept hLj (HFG.out j hjG) hjbe)
              have HKB := Lib.hid (HKT.out.kept hLbj (hFn _ (by omega)) (by omega))
              go_wp2_with fail
              have hW2 : Upd (fun i => i = bj + 1) w1 (w1.setCell ⟨bj + 1, 0, none⟩ (.int .i64 e1)) := (Upd.refl (fun i => i = bj + 1) w1).setCell _ (.inl rfl) _
              have hW3 : Upd (fun i => i = bj + 1) w1 ((w1.setCell ⟨bj + 1, 0, none⟩ (.int .i64 e1)).setCell ⟨bj + 1, 0, none⟩ (.int .i64 e1)) := hW2.setCell _ (.inl rfl) _
              have HWW := Lib.hid hW3
              clear hW2 hW3
              have he3 := heap_set_one (heap_set_one HKT.out.ce (.int .i64 e1)) (.int .i64 e1)
              generalize (w1.setCell ⟨bj + 1, 0, none⟩ (.int .i64 e1)).setCell ⟨bj + 1, 0, none⟩ (.int .i64 e1) = W3 at HWW he3 ⊢
              have hj3 := (HWW.out.block j (Nat.lt_of_lt_of_le hLj HKT.out.up.size) hjbe).trans (HKJ.out.1.trans HJL.out)
              have hbj3 := (HWW.out.block bj (Nat.lt_of_lt_of_le hLbj HKT.out.up.size) (by omega)).trans (HKB.out.1.trans HBJX.out)
              refine leaves_cons (f := 42) (args := #[.pointer (some ⟨bj + 1, 0, none⟩), .pointer (some ⟨bj, 0, none⟩)]) (by simp) (by simp [go_sem]) ?_
              refine (app2_bad (W := W3) (be := bj + 1) (bj := bj) (j := j) he (cell_blk he3 0) (cell_blk hbj3 0) (cell_blk hj3 4) (free_blk hj3 4) .returning).mono ?_
              rintro e u' w'' ⟨rfl, rfl, rfl⟩
              have ce5 := cell_blk (show (W3.setCell ⟨j, 4, none⟩ (.bool true)).heap[bj + 1]? = _ from (Below.heap_setCell _ _ _ _ (fun e => hjbe e.symm)).trans he3) 0
              simp only [List.getElem?_toArray, List.getElem?_cons_zero] at ce5
              have HFIN := Lib.hid (HKT.out.lost he HCN.out HAM9.out HJ.out HFG.out HD.out HBWL.out (by omega) HWW.out)
              exact ⟨.int .i64 e1, by simp [results, Tryd.results18, go_sem, ce5], HFIN.out⟩
          · have hj4 := hkj.1.trans HJL.out
            have hbj4 := (hks.kept hLbj (hFn _ (by omega)) (by omega)).1.trans HBJX.out
            have hbe4 := hks.ce
            have hro4 : wr.ownsRow 0 9 1 rvj js.recs.length (strs js.recs) := own_same HJO.out fun i hi => by
              have hgi := hjrG i hi
              have hil := HJGL.out i hgi
              exact (hks.kept (b := i) (by omega) (HFG.out i hgi) (by omega)).1.trans (HBWL.out.block i hil)
            have hrj : ∀ i, rvj.ownBlock = some i → i ≠ j := fun i hi => by
              obtain ⟨c', hc'⟩ := own_type hro4 hi
              exact ne_of_type hc' hj4 (by decide)
            obtain ⟨VA', vcap', hv1, hv2⟩ := HVO.out
            injection hv1 with hv1 _ hv3
            subst hv1 hv3
            obtain ⟨b, off, hbe1, hbl, hbFG, hbc⟩ := hv2 (by omega)
            subst hbe1
            have hbj5 : b ≠ j := fun e => hbFG (.inr (e ▸ hjG))
            have hkbb := (hks.kept (b := b) (by omega) (fun h => hbFG (.inl h)) (by omega)).1
            obtain ⟨W28, hW28⟩ : ∃ W, wr.setCell ⟨j, 2, none⟩ (.int .i64 nx) = W := ⟨_, rfl⟩
            have hz28 : W28.heap.size = wr.heap.size := by rw [← hW28]; exact size_setCell _ _ _
            have hj28 : W28.heap[j]? = some (.cells #[.pointer (some ⟨d, 0, none⟩), .int .i64 js.sectors, .int .i64 nx, rvj, .bool false] 50 (0, 0)) := by
              rw [← hW28]
              rw [hbr9] at hj4
              exact Go.heap_setCell_same _ _ 2 _ _ (.int .i64 nx) hj4
            have hbj28 : W28.heap[bj]? = some (.cells #[.pointer (some ⟨j, 0, none⟩)] 26 (0, 0)) := by rw [← hW28]; exact (Below.heap_setCell _ _ _ _ (by show bj ≠ j; omega)).trans hbj4
            have hbe28 : W28.heap[bj + 1]? = some (.cells #[.int .i64 0] 33 (0, 0)) := by rw [← hW28]; exact (Below.heap_setCell _ _ _ _ (by show bj + 1 ≠ j; omega)).trans hbe4
            have HRO28 : Hid (W28.ownsRow 0 9 1 rvj js.recs.length (strs js.recs)) := by
              show World.ownsRow _ _ _ _ _ _ _
              rw [← hW28]
              exact own_same hro4 fun i hi => Below.heap_setCell _ _ _ _ (hrj i hi)
            have HNEWS : Hid (∀ jj u, (strs xs)[jj]? = some u → W28.drew.cell? ((⟨b, off, none⟩ : Addr).add jj) = some u) := by
              show ∀ jj u, _
              intro jj u hu
              have hadd : (⟨b, off, none⟩ : Addr).add jj = ⟨b, off + jj, none⟩ := by unfold Addr.add; split <;> simp_all
              have hjj : jj < xs.length := by
                rcases Nat.lt_or_ge jj xs.length with h | h
                · exact h
                · rw [List.getElem?_eq_none (by simpa [strs] using h)] at hu; cases hu
              rw [hadd]
              have h1 : W28.heap[b]? = w.heap[b]? := by rw [← hW28]; exact (Below.heap_setCell _ _ _ _ hbj5).trans (hkbb.trans (HBWL.out.block b hbl))
              have h2 : W28.drew.cell? ⟨b, off + jj, none⟩ = w.cell? ⟨b, off + jj, none⟩ := World.cell?_of_block h1
              rw [h2, hbc jj hjj]
              have h3 : (strs xs)[jj]? = some (.string xs[jj]) := by simp [strs, List.getElem?_eq_getElem hjj]
              rw [h3] at hu
              exact hu
            have HJ4 := Lib.hid hj4
            have HKS := Lib.hid hks
            have jc2 := cell_blk hj4 2
            have jf2 := free_blk hj4 2
            have jl2 := blk_lt hj4
            have jc0 := cell_blk hj28 3
            have bc0 := cell_blk hbj28 0
            simp only [List.getElem?_toArray, List.getElem?_cons_zero, List.getElem?_cons_succ] at jc2 jc0 bc0
            have HJ28 := Lib.hid hj28
            have HBJ28 := Lib.hid hbj28
            have HBE28 := Lib.hid hbe28
            have HRJ := Lib.hid hrj
            have HW28 := Lib.hid hW28
            obtain ⟨i0, hi, hz0, hzz1, hz2⟩ := info_parts Tryd.infoStr
            clear hks hkf hkj cjd hjF' hbjF' hb7F' hlr hj28 hbj28 hbe28 hj4 hbj4 hbe4 hro4 hrj hkbb hbc hv2 hbr9
            go_wp2_with fail
            try simp only [hW28]
            clear hW28 jc2 jf2 jl2 cjb c6' c7'
            refine wp_region_noPanic ?_
            go_region_law (refine step_append_lies _ (by rfl) _ _ _ (by rfl) 0 9 i0 _ 1 16 Tryd.underlying27 hi hz0 hzz1 hz2 rfl (by omega) rvj js.recs.length (strs js.recs) (by rfl) (HRO28.out.drew) ⟨b, off, none⟩ xs.length vcap (strs xs) (by rfl) (by simp [strs]) HNEWS.out (by intro u hu; unfold strs at hu; obtain ⟨y, _, rfl⟩ := List.mem_map.1 hu; rfl) (by omega) (by simp only [maxLen]; omega) (by omega) (Nat.zero_le _) W28.heap.size (by rfl) ?_; intro g cap w2 hown hgr hat hlt9; have j2 := (hgr.block j (blk_lt HJ28.out) (fun e => HRJ.out j e.symm rfl)).trans HJ28.out; have jc3 := cell_blk j2 3; have jf3 := free_blk j2 3; have jl3 := blk_lt j2; have hrbj : ∀ i, rvj.ownBlock = some i → i < w.heap.size := fun i hi => HJGL.out i (hjrG i hi); have bj2 := (hgr.block bj (blk_lt HBJ28.out) (fun e => by have := hrbj bj e.symm; omega)).trans HBJ28.out; have bc2 := cell_blk bj2 0; have be2 := (hgr.block (bj + 1) (blk_lt HBE28.out) (fun e => by have := hrbj (bj + 1) e.symm; omega)).trans HBE28.out; have be3 : ∀ x, (w2.setCell ⟨j, 3, none⟩ x).heap[bj + 1]? = some (.cells #[.int .i64 0] 33 (0, 0)) := fun x => (Below.heap_setCell _ _ _ _ (by show bj + 1 ≠ j; omega)).trans be2; have bec := fun x => cell_blk (be3 x) 0; have bef := fun x => free_blk (be3 x) 0; have bel : bj + 1 < w2.heap.size := blk_lt be2; simp only [List.getElem?_toArray, List.getElem?_cons_zero, List.getElem?_cons_succ] at jc3 bc2 bec; have HJ2 := Lib.hid j2; have HBJ2 := Lib.hid bj2; have HBE2 := Lib.hid be2; have HOWN2 := Lib.hid hown; have HGR2 := Lib.hid hgr; have HAT2 := Lib.hid hat; clear j2 bj2 be2 be3 hown hgr hat hrbj)
            all_goals
              refine NoPanic.normal ?_
              go_wp2_with fail
              have k1 : ((w2.setCell ⟨j, 3, none⟩ (.slice (some ⟨g, 0, none⟩) (js.recs.length + xs.length) cap)).setCell ⟨bj + 1, 0, none⟩ (.int .i64 0)).heap[bj + 1]? = some (.cells #[.int .i64 0] 33 (0, 0)) := heap_set_one ((Below.heap_setCell _ _ _ _ (by show bj + 1 ≠ j; omega)).trans HBE2.out) _
              have k2 : ((w2.setCell ⟨j, 3, none⟩ (.slice (some ⟨g, 0, none⟩) (js.recs.length + xs.length) cap)).setCell ⟨bj + 1, 0, none⟩ (.int .i64 0)).heap[bj]? = some (.cells #[.pointer (some ⟨j, 0, none⟩)] 26 (0, 0)) := (Below.heap_setCell _ _ _ _ (by show bj ≠ bj + 1; omega)).trans ((Below.heap_setCell _ _ _ _ (by show bj ≠ j; omega)).trans HBJ2.out)
              have k3 : ((w2.setCell ⟨j, 3, none⟩ (.slice (some ⟨g, 0, none⟩) (js.recs.length + xs.length) cap)).setCell ⟨bj + 1, 0, none⟩ (.int .i64 0)).heap[j]? = some (.cells #[.pointer (some ⟨d, 0, none⟩), .int .i64 js.sectors, .int .i64 nx, .slice (some ⟨g, 0, none⟩) (js.recs.length + xs.length) cap, .bool false] 50 (0, 0)) := (Below.heap_setCell _ _ _ _ hjbe).trans (Go.heap_setCell_same _ _ 3 _ _ (.slice (some ⟨g, 0, none⟩) (js.recs.length + xs.length) cap) HJ2.out)
              have HFIN := Lib.hid (HKS.out.done (nx := nx) HCN.out (by rw [HNL.out]; exact HNX.out) HAM9.out HJ.out HFG.out HD.out HBWL.out (by omega) hLe (by have h := HJ4.out; first | exact h | (rw [HBR9.out] at h; exact h)) hjrG HOWN2.out (by rw [HW28.out]; exact HGR2.out) (HAT2.out.imp id fun h => by rw [h, hz28]))
              refine leaves_cons (f := 42) (args := #[.pointer (some ⟨bj + 1, 0, none⟩), .pointer (some ⟨bj, 0, none⟩)]) (by simp) (by simp [go_sem]) ?_
              refine (app2_good (be := bj + 1) (bj := bj) (j := j) (cell_blk k1 0) (cell_blk k2 0) (cell_blk k3 4) (free_blk k3 4) .returning).mono ?_
              rintro e u' w'' ⟨rfl, rfl, rfl⟩
              have ce5 := cell_blk ((Below.heap_setCell _ ⟨j, 4, none⟩ (.bool false) _ (fun e => hjbe e.symm)).trans k1) 0
              simp only [List.getElem?_toArray, List.getElem?_cons_zero] at ce5
              exact ⟨.int .i64 0, by simp [results, Tryd.results18, go_sem, ce5], HFIN.out⟩
end Go.Proofs.YtpdhjfnddnoghaaDoor
