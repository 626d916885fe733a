/- DiskPrefix: after a failure the disk has the contents of exactly the first writes, and the first bytes of the next one.
   Conditions: the arguments lie in memory as ActsArg says. -/
import Derived.Test.YtbjomjlchafkfaaDX
import Derived.Deep.DeepCutAuto
namespace Go.Proofs.Ytbjomjlchafkfaa
open Go.RowKit Go.Lib
set_option linter.unusedVariables false
def noAct : Act0 := ⟨0, -1, 0, emptyB, false, 0⟩
/-- the operation at place m of a list, or none -/
def nextOf (gl : List Act0) (m : Nat) : Act0 := (gl[m]?).getD noAct
theorem nextOf_here (gl : List Act0) (a : Act0) (m : Nat) (h : gl.length = m) : nextOf (gl ++ [a]) m = a := by
  unfold nextOf; subst h; simp
theorem nextOf_there (gl : List Act0) (a : Act0) (m : Nat) (h : ¬ gl.length = m) : nextOf (gl ++ [a]) m = nextOf gl m := by
  unfold nextOf
  rcases Nat.lt_or_ge m gl.length with h1 | h1
  · rw [List.getElem?_append_left h1]
  · rw [List.getElem?_eq_none (by simp; omega), List.getElem?_eq_none h1]
def NextAt (w : World) (F : Nat → Prop) (bx : Nat) (a : Act0) : Prop := w.heap[bx]? = some (.cells a.cells.toArray 34 (0, 0)) ∧ ¬ F bx
theorem NextAt.keep {w w' : World} {F F' : Nat → Prop} {bx : Nat} {a : Act0} (h : NextAt w F bx a) (hk : Keep F F' w w') : NextAt w' F' bx a := by
  obtain ⟨h1, h2⟩ := hk.k bx (blk_lt h.1) h.2
  exact ⟨h1.trans h.1, h2⟩
theorem NextAt.set {w : World} {F : Nat → Prop} {bx : Nat} {a : Act0} (h : NextAt w F bx a) (c : Act0) :
    NextAt ((((((w.setCell ⟨bx, 0, none⟩ (.int .i64 c.kind)).setCell ⟨bx, 1, none⟩ (.int .i64 c.sector)).setCell ⟨bx, 2, none⟩ (.int .i64 c.bytes)).setCell ⟨bx, 3, none⟩ (.string c.text)).setCell ⟨bx, 4, none⟩ (.bool c.odd)).setCell ⟨bx, 5, none⟩ (.int .i64 c.after)) F bx c := by
  have h0 := Go.heap_setCell_same _ _ 0 _ _ (.int .i64 c.kind) h.1
  have h1 := Go.heap_setCell_same _ _ 1 _ _ (.int .i64 c.sector) h0
  have h2 := Go.heap_setCell_same _ _ 2 _ _ (.int .i64 c.bytes) h1
  have h3 := Go.heap_setCell_same _ _ 3 _ _ (.string c.text) h2
  have h4 := Go.heap_setCell_same _ _ 4 _ _ (.bool c.odd) h3
  exact ⟨Go.heap_setCell_same _ _ 5 _ _ (.int .i64 c.after) h4, h.2⟩
theorem NextAt.mine {B : Nat} {w0 w : World} {F : Nat → Prop} {p : Nat} {st : DS} {bx : Nat} {a : Act0} (h : NextAt w F bx a) (hB : B ≤ bx) (m : Mine B w0 w F p st) (c : Act0) :
    Mine B w0 ((((((w.setCell ⟨bx, 0, none⟩ (.int .i64 c.kind)).setCell ⟨bx, 1, none⟩ (.int .i64 c.sector)).setCell ⟨bx, 2, none⟩ (.int .i64 c.bytes)).setCell ⟨bx, 3, none⟩ (.string c.text)).setCell ⟨bx, 4, none⟩ (.bool c.odd)).setCell ⟨bx, 5, none⟩ (.int .i64 c.after)) F p st :=
  (((((m.set h.2 hB 0 _).set h.2 hB 1 _).set h.2 hB 2 _).set h.2 hB 3 _).set h.2 hB 4 _).set h.2 hB 5 _
theorem next_cases (n : Nat) (l : List Act0) (m : Nat) :
    (m < (goods n l).length ∧ 0 ≤ (nextOf (goods n l) m).sector ∧ (nextOf (goods n l) m).sector < n ∧ (nextOf (goods n l) m).txt.size = 64 ∧ nextOf (goods n l) m ∈ l) ∨
    ((goods n l).length ≤ m ∧ nextOf (goods n l) m = noAct) := by
  rcases Nat.lt_or_ge m (goods n l).length with h | h
  · left
    have e : nextOf (goods n l) m = (goods n l)[m] := by unfold nextOf; rw [List.getElem?_eq_getElem h]; rfl
    have hm := List.getElem_mem h
    rw [← e] at hm
    have h2 := List.mem_filter.1 hm
    have h3 := h2.2
    simp only [goodW, Bool.and_eq_true, decide_eq_true_eq] at h3
    exact ⟨h, h3.1.1, h3.1.2, h3.2, h2.1⟩
  · right
    exact ⟨h, by unfold nextOf; rw [List.getElem?_eq_none h]; rfl⟩
theorem now_none (s : List ByteArray) (gk : List Act0) (m b : Nat) (h : gk.length ≤ m) : ((plain s (gk.map item)).fail m b).start.all = (plain s ((gk.take m).map item)).all := by
  rw [List.take_of_length_le h]
  unfold DS.fail
  show settle ((plain s (gk.map item)).failSect m b) [] = _
  show (plain s (gk.map item)).failSect m b = settle s (gk.map item)
  unfold DS.failSect
  have e : clamp m (plain s (gk.map item)).queue.length = (gk.map item).length := by
    show clamp m (gk.map item).length = _
    unfold clamp; rw [List.length_map]; omega
  rw [e]
  show (match (gk.map item)[(gk.map item).length]? with | none => _ | some x => _) = _
  rw [List.getElem?_eq_none (Nat.le_refl _)]
  rfl
theorem plain_64 (s : List ByteArray) (hs : ∀ x ∈ s, x.size = 64) (gk : List Act0) (m : Nat) (hg : ∀ a ∈ gk, a.txt.size = 64) : ∀ x ∈ (plain s ((gk.take m).map item)).all, x.size = 64 := by
  refine settle_64 _ _ hs fun x hx => ?_
  obtain ⟨a, ha, rfl⟩ := List.mem_map.1 hx
  exact hg a (List.mem_of_mem_take ha)
theorem now_some (s : List ByteArray) (hs : ∀ x ∈ s, x.size = 64) (n : Nat) (hn : s.length = n) (gk : List Act0) (m b : Nat) (hb : b ≤ 64) (h1 : m < gk.length) (h2 : 0 ≤ (nextOf gk m).sector) (h3 : (nextOf gk m).sector < n) (h4 : (nextOf gk m).txt.size = 64) :
    ((plain s (gk.map item)).fail m b).start.all = tearAt (plain s ((gk.take m).map item)).all (item (nextOf gk m)) b := by
  unfold DS.fail
  show settle ((plain s (gk.map item)).failSect m b) [] = _
  show (plain s (gk.map item)).failSect m b = _
  unfold DS.failSect
  have e : clamp m (plain s (gk.map item)).queue.length = m := by
    show clamp m (gk.map item).length = _
    unfold clamp; rw [List.length_map]; omega
  have e2 : clamp b 64 = b := by unfold clamp; omega
  have e3 : (plain s (gk.map item)).queue[m]? = some (item (nextOf gk m)) := by
    show (gk.map item)[m]? = _
    rw [List.getElem?_map]
    unfold nextOf
    rw [List.getElem?_eq_getElem h1]
    rfl
  rw [e, e2, e3]
  show tearAt (settle s ((gk.map item).take m)) _ b = _
  rw [← List.map_take]
  rfl
/-- the law's way to say a torn write -/
theorem tear_cut (xs : List ByteArray) (a : Act0) (b : Nat) (hi : a.sector.toNat < xs.length) (hb : b ≤ 64) (h6 : xs[a.sector.toNat].size = 64) :
    xs.set a.sector.toNat (a.txt.extract 0 b ++ xs[a.sector.toNat].extract b xs[a.sector.toNat].size) = tearAt xs (item a) b := by
  unfold tearAt item
  rw [List.getD_eq_getElem?_getD, List.getElem?_eq_getElem hi]
  congr 1
  apply WideShapes.bytes_inj
  have h := bsize xs[a.sector.toNat]
  rw [ByteArray.data_append]
  simp only [tear, Array.toList_append, extract_take, Option.getD_some]
  congr 1
  simp only [ByteArray.data_extract, Array.toList_extract, List.extract_eq_take_drop]
  exact List.take_of_length_le (by rw [List.length_drop]; omega)
theorem goods_64 (n : Nat) (l : List Act0) : ∀ a ∈ goods n l, a.txt.size = 64 := by
  intro a ha
  have h := (List.mem_filter.1 ha).2
  simp only [goodW, Bool.and_eq_true, decide_eq_true_eq] at h
  exact h.2

set_option maxRecDepth 100000 in
set_option maxHeartbeats 40000000 in
theorem prefix_walk (w : World) (raw : Int) (hr : 0 ≤ raw ∧ raw ≤ 255) (A1 : Option Addr) (cap1 : Nat) (l1 : List Act0) (hl1 : ActsArg w A1 l1) (A2 : Option Addr) (cap2 : Nat) (l2 : List Act0) (hl2 : ActsArg w A2 l2) (first : Int) (hf : 0 ≤ first ∧ first ≤ 255) (torn : Int) (ht : 0 ≤ torn ∧ torn ≤ 255) :
    Calls Try.prog 5 #[.int .u8 raw, .slice A1 l1.length cap1, .slice A2 l2.length cap2, .int .u8 first, .int .u8 torn] w fun e w' => e = .returned (.bool true) ∧ Below w.heap.size w w' := by
  obtain ⟨r0, r1⟩ := hr
  obtain ⟨m, hm⟩ : ∃ m : Nat, first % 61 = (m : Int) := ⟨(first % 61).toNat, by omega⟩
  obtain ⟨b, hb⟩ : ∃ b : Nat, torn % 33 = (b : Int) := ⟨(torn % 33).toNat, by omega⟩
  have hm60 : m ≤ 60 := by omega
  have hb32 : b ≤ 32 := by omega
  obtain ⟨hf0, hf1⟩ := hf
  obtain ⟨ht0, ht1⟩ := ht
  have HA1 := Lib.hid hl1
  have HA2 := Lib.hid hl2
  clear hl1 hl2
  go_enter Try.func5, Try.ntmps5
  go_wp2_with fail
  refine (head_calls w).mono ?_
  rintro e w1 ⟨rfl, hb1⟩
  have HB1 := Lib.hid hb1
  have G1 := Lib.hid (HA1.out.later hb1)
  have G2 := Lib.hid (HA2.out.later hb1)
  clear hb1
  go_wp2_with fail
  refine (ok_calls w1 A1 cap1 l1 G1.out.at_ G1.out.len fun x hx => (G1.out.each x hx).t).mono ?_
  rintro e w1' ⟨rfl, hw⟩
  subst hw
  by_cases ho1 : okB l1 = true
  · rw [ho1]
    have HO1 := Lib.hid ho1
    clear ho1
    go_wp2_with fail
    refine (ok_calls w1 A2 cap2 l2 G2.out.at_ G2.out.len fun x hx => (G2.out.each x hx).t).mono ?_
    rintro e w1' ⟨rfl, hw⟩
    subst hw
    by_cases ho2 : okB l2 = true
    · rw [ho2]
      have HO2 := Lib.hid ho2
      clear ho2
      go_wp2_with fail
      refine (size_calls w1 raw r0 r1).mono ?_
      rintro e w1' ⟨rfl, hw⟩
      subst hw
      have hn := sizeN_le raw r0
      generalize sizeN raw = n at hn ⊢
      obtain ⟨n1, n2⟩ := hn
      go_wp2_with fail
      refine (new_ok w1 n n1 (by omega)).mono ?_
      rintro e w2 hf
      obtain ⟨p, F, rfl, m⟩ := Mine.fresh HB1.out HB1.out.size hf
      clear hf
      have M := Lib.hid m
      clear m
      go_wp2_with fail
      go_loopw [16] (fun i wr => ∃ (k : Nat) (F' : Nat → Prop), k ≤ l1.length ∧ i = .int .i64 k ∧ Mine w.heap.size w wr F' p ((DS.new n).acts (l1.take k)) ∧ ((DS.new n).acts (l1.take k)).queue.length ≤ k) (fun i _ => l1.length - (intOf i).toNat)
      case atStart => exact ⟨0, F, Nat.zero_le _, rfl, M.out, Nat.le_refl _⟩
      case round =>
        obtain ⟨k, F1, hk, rfl, hm, hq⟩ := hrel
        have HM := Lib.hid hm
        clear hm
        have h60 := (okB_true HO1.out).1
        by_cases hlt : k < l1.length
        · have harg := HA1.out.below HM.out.be HA1.out.lt
          obtain ⟨bb, off, hA, _, hc⟩ := harg.at_ (by omega)
          subst hA
          obtain ⟨x0, x1, x2, x3, x4, x5⟩ := ActsAt.six hc k hlt
          have hOk := Lib.hid (harg.ok HO1.out l1[k] (List.getElem_mem hlt))
          have HQ := Lib.hid (DS.act_qlen ((DS.new n).acts (l1.take k)) l1[k])
          clear hc harg
          go_wp2_with fail
          refine (do_calls HM.out.d (by omega) l1[k] hOk.out).mono ?_
          rintro e w3 ht
          obtain ⟨rfl, F2, m2⟩ := HM.out.turn ht
          have M2 := Lib.hid m2
          clear ht m2
          go_wp2_with fail
          go_roundw
          case rel => exact ⟨k + 1, F2, by omega, by go_num, by rw [DS.acts_snoc _ _ _ hlt]; exact M2.out, by rw [DS.acts_snoc _ _ _ hlt]; have := HQ.out; omega⟩
          case measure => simp [intOf]; omega
        · obtain rfl : k = l1.length := by omega
          rw [List.take_of_length_le (Nat.le_refl _)] at HM hq
          have hsl : ((DS.new n).acts l1).sect.length = n := by rw [DS.acts_length, DS.new_length]
          generalize hst0 : (DS.new n).acts l1 = st at HM hq hsl
          have HSL := Lib.hid hsl
          have HST0 := Lib.hid hst0
          clear hsl hlt hst0
          go_wp2_with fail
          refine (start_calls HM.out.d).mono ?_
          rintro e w4 ht
          obtain ⟨rfl, F11, m11, hkp⟩ := HM.out.turns ht
          have M11 := Lib.hid m11
          clear ht m11 hkp
          go_wp2_with fail
          have hc := sync_calls M11.out.d (by show st.queue.length ≤ _; omega)
          rw [sync_started, started_plain] at hc
          refine hc.mono ?_
          clear hc
          rintro e w5 ht
          obtain ⟨rfl, F12, m12, hkp⟩ := M11.out.turns ht
          have M12 := Lib.hid m12
          clear ht m12 hkp
          have hsal : Hid (st.all.length = n) := by show _ = _; rw [DS.all_length]; exact HSL.out
          generalize hs0 : st.all = s at M12 hsal
          have HS0 := Lib.hid hs0
          clear hs0
          have HS64 := Lib.hid (show ∀ x ∈ s, x.size = 64 from M12.out.d.wf.s64)
          go_wp2_with fail
          have hmA := M12.out.below ((Below.refl w5.heap.size w5).alloc (Nat.le_refl _) (.cells #[.int .i64 0, .int .i64 (-1), .int .i64 0, .string { data := #[] }, .bool false, .int .i64 0] 34))
          have hNA : NextAt (w5.alloc (.cells #[.int .i64 0, .int .i64 (-1), .int .i64 0, .string { data := #[] }, .bool false, .int .i64 0] 34)) F12 w5.heap.size noAct := ⟨heap_alloc_new _ _, fun hf => absurd (M12.out.d.lt _ hf) (Nat.lt_irrefl _)⟩
          have hgB : w.heap.size ≤ w5.heap.size := M12.out.sz
          generalize w5.alloc (.cells #[.int .i64 0, .int .i64 (-1), .int .i64 0, .string { data := #[] }, .bool false, .int .i64 0] 34) = wA at hmA hNA ⊢
          generalize w5.heap.size = bx at hNA hgB ⊢
          have MA := Lib.hid hmA
          have NA := Lib.hid hNA
          clear hmA hNA
          go_loopw [17, 19] (fun dn i wr => ∃ (k : Nat) (F' : Nat → Prop), k ≤ l2.length ∧ i = .int .i64 k ∧ dn = .int .i64 ((goods n (l2.take k)).length : Nat) ∧ Mine w.heap.size w wr F' p (plain s ((goods n (l2.take k)).map item)) ∧ NextAt wr F' bx (nextOf (goods n (l2.take k)) m)) (fun _ i _ => l2.length - (intOf i).toNat)
          case atStart => exact ⟨0, _, Nat.zero_le _, rfl, rfl, MA.out, NA.out⟩
          case round =>
            obtain ⟨k, F1, hk, rfl, rfl, hm1, hnx⟩ := hrel
            have HM2 := Lib.hid hm1
            have HNX := Lib.hid hnx
            clear hm1 hnx
            have h60 := (okB_true HO2.out).1
            have hgk : (goods n (l2.take k)).length ≤ 60 := by
              have := goods_le n (l2.take k)
              rw [List.length_take] at this
              omega
            obtain ⟨gk, hgk'⟩ : ∃ gk, gk = goods n (l2.take k) := ⟨_, rfl⟩
            rw [← hgk'] at HM2 hgk HNX ⊢
            have HGK := Lib.hid hgk'
            clear hgk'
            by_cases hlt : k < l2.length
            · have harg := HA2.out.below HM2.out.be HA2.out.lt
              obtain ⟨bb, off, hA, hbl, hc0⟩ := harg.at_ (by omega)
              subst hA
              obtain ⟨x0, x1, x2, x3, x4, x5⟩ := ActsAt.six hc0 k hlt
              have hOk := Lib.hid (harg.ok HO2.out l2[k] (List.getElem_mem hlt))
              have HGS := Lib.hid (goods_snoc n l2 k hlt)
              have HPW := Lib.hid (plain_write s (gk.map item) l2[k])
              clear hc0 harg
              go_wp2_with fail
              go_region_with (first
                | (go_at_call 24; refine (text_calls l2[k] hOk.out.t _).mono ?_; rintro e w7 ⟨rfl, rfl⟩)
                | (go_at_call 23; refine (write_calls (HM2.out.d.below (by exact ((Below.refl _ _).alloc (Nat.le_refl _) _).drew)) (by show (gk.map item).length < _; rw [List.length_map]; omega) _ _).mono ?_; rintro e w17 hw7; have hw7b := Turns.from_box (((Below.refl _ _).alloc (Nat.le_refl _) _).drew) hw7; obtain ⟨rfl, hw7c⟩ := hw7; clear hw7c))
              all_goals
                obtain ⟨_, F61, m61, hkp⟩ := HM2.out.turns hw7b
                have N61 := Lib.hid (HNX.out.keep hkp)
                clear hw7b hkp
                by_cases hgd : goodW n l2[k] = true
                · have hpw := HPW.out
                  rw [hsal.out, if_pos hgd] at hpw
                  have hgs := HGS.out
                  rw [if_pos hgd, ← HGK.out] at hgs
                  rw [hpw] at m61 ⊢
                  have M61 := Lib.hid m61
                  have HGS2 := Lib.hid hgs
                  have harg := HA2.out.below M61.out.be HA2.out.lt
                  obtain ⟨b2, off2, hA2, hbl2, hc2⟩ := harg.at_ (by omega)
                  injection hA2 with hA2
                  injection hA2 with hA2 hA3
                  subst hA2 hA3
                  clear x0 x1 x2 x3 x4 x5
                  obtain ⟨x0, x1, x2, x3, x4, x5⟩ := ActsAt.six hc2 k hlt
                  obtain ⟨y0, y1, y2, y3, y4, y5⟩ := six_cells N61.out.1
                  have yfr : ∀ o, w17.frozen? ⟨bx, o, none⟩ = false := fun o => free_blk N61.out.1 o
                  have hbne : Hid (bx ≠ bb) := by
                    show bx ≠ bb
                    intro e
                    have hgB' := hgB
                    have : bb < w.heap.size := HA2.out.lt (by omega) _ rfl
                    omega
                  have hb1 : bb ≠ bx := fun e => hbne.out e.symm
                  have hb2 : bx ≠ bb := hbne.out
                  have hbxl := blk_lt N61.out.1
                  clear hpw hgs m61 hgd hc2 harg
                  by_cases heq : gk.length = m
                  · have s1 : ((gk.length : Int) == (m : Int)) = true := by simp [heq]
                    have HNE : Hid (nextOf (gk ++ [l2[k]]) m = l2[k]) := nextOf_here gk l2[k] m heq
                    clear heq
                    go_wp2_with fail
                    go_roundw
                    case rel => exact ⟨k + 1, F61, by omega, by go_num, by rw [HGS2.out, List.length_append]; go_num, by rw [HGS2.out, List.map_append]; exact NextAt.mine N61.out hgB M61.out l2[k], by rw [HGS2.out, HNE.out]; exact N61.out.set l2[k]⟩
                    case measure => simp [intOf]; omega
                  · have s1 : ((gk.length : Int) == (m : Int)) = false := by simp; omega
                    have HNE : Hid (nextOf (gk ++ [l2[k]]) m = nextOf gk m) := nextOf_there gk l2[k] m heq
                    clear heq y0 y1 y2 y3 y4 y5 yfr
                    go_wp2_with fail
                    go_roundw
                    case rel => exact ⟨k + 1, F61, by omega, by go_num, by rw [HGS2.out, List.length_append]; go_num, by rw [HGS2.out, List.map_append]; exact M61.out, by rw [HGS2.out, HNE.out]; exact N61.out⟩
                    case measure => simp [intOf]; omega
                · have hpw := HPW.out
                  rw [hsal.out, if_neg hgd] at hpw
                  have hgs := HGS.out
                  rw [if_neg hgd, List.append_nil, ← HGK.out] at hgs
                  rw [hpw] at m61 ⊢
                  have M61 := Lib.hid m61
                  have HGS2 := Lib.hid hgs
                  clear hpw hgs m61 hgd
                  go_wp2_with fail
                  go_roundw
                  case rel => exact ⟨k + 1, F61, by omega, by go_num, by rw [HGS2.out], by rw [HGS2.out]; exact M61.out, by rw [HGS2.out]; exact N61.out⟩
                  case measure => simp [intOf]; omega
            · obtain rfl : k = l2.length := by omega
              have HGE : Hid (gk = goods n l2) := by have h := HGK.out; rw [List.take_of_length_le (Nat.le_refl _)] at h; exact h
              have hql : (gk.map item).length ≤ 60 := by rw [List.length_map]; exact hgk
              have HNP : Hid (n = ((plain s (gk.map item)).fail m b).start.sect.length) := by show _ = (DS.fail _ _ _).sect.length; rw [DS.fail_length]; exact hsal.out.symm
              have HQF : Hid (((plain s (gk.map item)).fail m b).start.queue.length ≤ 1000) := by show (DS.fail _ _ _).queue.length ≤ _; have := DS.fail_queue (plain s (gk.map item)) m b; have h2 : (plain s (gk.map item)).queue.length ≤ 60 := hql; omega
              have HG64 : Hid (∀ a ∈ gk, a.txt.size = 64) := by have := HGE.out; rw [this]; exact goods_64 n l2
              clear hlt
              go_wp2_with fail
              refine (fail_calls HM2.out.d m b (by unfold i64ok; omega) (by unfold i64ok; omega) (by show (gk.map item).length ≤ _; omega)).mono ?_
              rintro e w71 ht
              obtain ⟨rfl, F71, m71, hkp⟩ := HM2.out.turns ht
              have M71 := Lib.hid m71
              have HNX' := Lib.hid (HNX.out.keep hkp)
              clear HNX
              have HNX := HNX'
              clear HNX'
              clear ht m71 hkp
              go_wp2_with fail
              refine (start_calls M71.out.d).mono ?_
              rintro e w72 ht
              obtain ⟨rfl, F72, m72, hkp⟩ := M71.out.turns ht
              have M72 := Lib.hid m72
              have HNX' := Lib.hid (HNX.out.keep hkp)
              clear HNX
              have HNX := HNX'
              clear HNX'
              clear ht m72 hkp
              go_wp2_with fail
              refine (contents_calls M72.out.d (by have := HQF.out; omega) rfl n HNP.out).mono ?_
              rintro e w73 ht
              obtain ⟨v7, rfl, hv7, m73, hkp⟩ := M72.out.contsO ht
              have HNX' := Lib.hid (HNX.out.keep hkp)
              clear HNX
              have HNX := HNX'
              clear HNX'
              obtain ⟨A7, c7, hve⟩ := hv7.form
              have L7 : Hid ((((plain s (gk.map item)).fail m b).start).all.length = n) := by show _ = _; rw [DS.all_length]; exact (HNP.out).symm
              rw [L7.out] at hve
              subst hve
              have M73 := Lib.hid m73
              have C7 := Lib.hid hv7
              clear ht m73 hkp hv7
              go_wp2_with fail
              refine (first_calls _ n n1 n2 A1 cap1 l1 (HA1.out.below M73.out.be HA1.out.lt) HO1.out A2 cap2 l2 (HA2.out.below M73.out.be HA2.out.lt) HO2.out m (by omega)).mono ?_
              rw [HST0.out, HS0.out, ← HGE.out]
              rintro e w74 ht
              have hlow := C7.out.own.lt
              obtain ⟨v2, rfl, hv2, m90, hkp⟩ := M73.out.contsO ht
              have HNX' := Lib.hid (HNX.out.keep hkp)
              clear HNX
              have HNX := HNX'
              clear HNX'
              have C7' := Lib.hid (C7.out.keep hkp)
              clear C7
              have C7 := C7'
              clear C7'
              have L2 : Hid ((plain s ((gk.take m).map item)).all.length = n) := by show _ = _; rw [DS.all_length]; exact hsal.out
              obtain ⟨Aw, cw, hve⟩ := hv2.form
              rw [L2.out] at hve
              subst hve
              have M90 := Lib.hid m90
              have C2 := Lib.hid hv2
              have HLOW := Lib.hid hlow
              clear ht m90 hkp hv2 hlow
              obtain ⟨y0, y1, y2, y3, y4, y5⟩ := six_cells HNX.out.1
              have hbxl := blk_lt HNX.out.1
              have HNR := Lib.hid (next_cases n l2 m)
              rw [← HGE.out] at HNR
              rcases HNR.out with ⟨h1, h2, h3, h4, h5⟩ | ⟨h1, h2⟩
              · -- a next write
                have HT := Lib.hid (now_some s HS64.out n hsal.out gk m b (by omega) h1 h2 h3 h4)
                generalize nextOf gk m = a at HNX y0 y1 y2 y3 y4 y5 h2 h3 h4 h5 HT
                have HR5 := Lib.hid (HA2.out.ok HO2.out a h5)
                have hsec : a.sector.toNat < n := by omega
                clear h1 h5 HNR
                go_upto_region 30 with fail
                obtain ⟨bw, hbw, hBw, hbwl, hbwF, hbwfr, hbn, hbwc⟩ := C2.out.block (by rw [L2.out]; omega)
                clear hbn
                subst hbw
                have z1 := hbwc a.sector.toNat (by rw [L2.out]; exact hsec)
                have z2 := hbwfr a.sector.toNat
                have q64 : ((plain s ((gk.take m).map item)).all[a.sector.toNat]'(by rw [L2.out]; exact hsec)).size = 64 := plain_64 s HS64.out gk m HG64.out _ (List.getElem_mem _)
                have HCUT := Lib.hid (tear_cut (plain s ((gk.take m).map item)).all a b (by rw [L2.out]; exact hsec) (by omega) q64)
                generalize hold : (plain s ((gk.take m).map item)).all[a.sector.toNat]'(by rw [L2.out]; exact hsec) = old at z1 q64 HCUT
                have k1 : (b : Int) ≤ (a.txt.size : Int) := by rw [h4]; omega
                have k2 : (b : Int) ≤ (old.size : Int) := by rw [q64]; omega
                have k3 : a.txt.size ≤ 64 := by omega
                have k4 : old.size ≤ 64 := by omega
                have H64 := Lib.hid h4
                have Q64 := Lib.hid q64
                clear hold h4 q64 hbwc hbwfr
                go_cut [] from 124 to 139 (fun wx => wx = ((w74.setCell ⟨bw, a.sector.toNat, none⟩ (.string (a.txt.extract 0 b ++ old.extract b old.size))).alloc (.cells a.cells.toArray 34)).drew)
                case first =>
                  go_region_with (go_at_call 24; refine (text_calls a HR5.out.t _).mono ?_; rintro e w8 ⟨rfl, rfl⟩)
                  all_goals
                    go_wp2_with fail
                    go_meet
                    exact rfl
                case rest =>
                  obtain rfl := hcut
                  have hal := (((Below.refl (w74.setCell ⟨bw, a.sector.toNat, none⟩ (.string (a.txt.extract 0 b ++ old.extract b old.size))).heap.size (w74.setCell ⟨bw, a.sector.toNat, none⟩ (.string (a.txt.extract 0 b ++ old.extract b old.size)))).alloc (Nat.le_refl _) (.cells a.cells.toArray 34)).drew)
                  have M95 := Lib.hid ((M90.out.set hbwF (Nat.le_trans M73.out.sz hBw) a.sector.toNat (.string (a.txt.extract 0 b ++ old.extract b old.size))).below hal)
                  have hc1 := C2.out
                  rw [← L2.out] at hc1
                  have hc1' := (hc1.set a.sector.toNat (a.txt.extract 0 b ++ old.extract b old.size)).at_.below hal
                  rw [L2.out] at hc1'
                  have D8 := Lib.hid hc1'
                  have D7 := Lib.hid ((StrsAt.of_own (own_same (w' := w74.setCell ⟨bw, a.sector.toNat, none⟩ (.string (a.txt.extract 0 b ++ old.extract b old.size))) C7.out.own fun k hk => Below.heap_setCell _ _ _ _ (by have := (HLOW.out k hk).2; intro e; have : k = bw := e; omega))).below hal)
                  generalize ((w74.setCell ⟨bw, a.sector.toNat, none⟩ (.string (a.txt.extract 0 b ++ old.extract b old.size))).alloc (.cells a.cells.toArray 34)).drew = w95 at M95 D7 D8 ⊢
                  clear hal hc1 hc1' z1 z2 C7 C2 y0 y1 y2 y3 y4 y5 hbxl hbwF
                  go_wp2_with fail
                  refine (same_calls _ _ _ ((plain s (gk.map item)).fail m b).start.all ((plain s ((gk.take m).map item)).all.set a.sector.toNat (a.txt.extract 0 b ++ old.extract b old.size)) D7.out D8.out (by rw [L7.out]; omega) (by rw [List.length_set, L2.out]; omega)).mono ?_
                  rintro e w96 ⟨rfl, hb9⟩
                  rw [show decide (((plain s (gk.map item)).fail m b).start.all = ((plain s ((gk.take m).map item)).all.set a.sector.toNat (a.txt.extract 0 b ++ old.extract b old.size))) = true from decide_eq_true (HT.out.trans HCUT.out.symm)]
                  have M99 := Lib.hid (M95.out.be.trans (hb9.mono M95.out.sz))
                  clear hb9
                  go_wp2_with fail
                  go_ret
                  exact ⟨rfl, M99.out⟩
              · -- no next write
                have HT := Lib.hid (now_none s gk m b h1)
                rw [h2] at HNX y0 y1 y2 y3 y4 y5
                clear HNR
                have y1' : w74.cell? ⟨bx, 1, none⟩ = some (.int .i64 (-1)) := y1
                clear y0 y1 y2 y3 y4 y5
                go_wp2_with fail
                refine (same_calls _ _ _ ((plain s (gk.map item)).fail m b).start.all (plain s ((gk.take m).map item)).all C7.out.at_ C2.out.at_ (by rw [L7.out]; omega) (by rw [L2.out]; omega)).mono ?_
                rintro e w75 ⟨rfl, hb9⟩
                rw [show decide (((plain s (gk.map item)).fail m b).start.all = (plain s ((gk.take m).map item)).all) = true from decide_eq_true HT.out]
                have M99 := Lib.hid (M90.out.be.trans (hb9.mono M90.out.sz))
                clear hb9
                go_wp2_with fail
                go_ret
                exact ⟨rfl, M99.out⟩
    · have ho2' : okB l2 = false := by simpa using ho2
      rw [ho2']
      clear ho2 ho2'
      go_wp2_with fail
      go_ret
      exact ⟨rfl, HB1.out⟩
  · have ho1' : okB l1 = false := by simpa using ho1
    rw [ho1']
    clear ho1 ho1'
    go_wp2_with fail
    go_ret
    exact ⟨rfl, HB1.out⟩
end Go.Proofs.Ytbjomjlchafkfaa
