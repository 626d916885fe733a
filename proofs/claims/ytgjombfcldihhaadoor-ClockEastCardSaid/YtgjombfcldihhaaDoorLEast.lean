/- ClockEast: the walk.
   Conditions: the library's tables and sentinels are laid; the zone lies in memory as ShiftsAt says. -/
import Derived.Test.YtgjombfcldihhaaDoorLFirst
import Derived.Deep.DeepCutAuto
import Derived.Deep.RegionHeld3
import Derived.Deep.AppendLies
import Derived.Deep.RegionLaw
import Derived.OwnWalk
namespace Go.Proofs.YtgjombfcldihhaaDoor
open Go.RowKit Go.Lib
set_option linter.unusedVariables false
set_option linter.unusedSimpArgs false

theorem Tryd.infoShift : (Tryd.prog.info? 40).map (fun i => (i.zero, i.size, i.bytes)) = some (some (.agg #[.int .i64 0, .int .i64 0]), 2, 16) := by kernel_rfl
def eastL (kk : Int) (l : List Sh) : List Sh := l.map fun s => ⟨s.f, s.o + kk⟩
def shCells (l : List Sh) : List Value := l.flatMap Sh.cells
theorem eastL_length (kk : Int) (l : List Sh) : (eastL kk l).length = l.length := by simp [eastL]
theorem eastL_get (kk : Int) (l : List Sh) (k : Nat) (h : k < (eastL kk l).length) : (eastL kk l)[k] = ⟨(l[k]'(by rwa [eastL_length] at h)).f, (l[k]'(by rwa [eastL_length] at h)).o + kk⟩ := by simp [eastL]
theorem shCells_get (l : List Sh) : ∀ (k : Nat) (h : k < l.length), (shCells l)[k * 2]? = some (.int .i64 l[k].f) ∧ (shCells l)[k * 2 + 1]? = some (.int .i64 l[k].o) := by
  induction l with
  | nil => intro k h; simp at h
  | cons x l ih =>
    intro k h
    cases k with
    | zero => exact ⟨rfl, rfl⟩
    | succ k =>
      obtain ⟨h1, h2⟩ := ih k (by simpa using h)
      have e : shCells (x :: l) = [.int .i64 x.f, .int .i64 x.o] ++ shCells l := rfl
      rw [e]
      refine ⟨?_, ?_⟩
      · rw [List.getElem?_append_right (by simp; omega), show (k + 1) * 2 - [Value.int .i64 x.f, Value.int .i64 x.o].length = k * 2 by simp; omega]
        simpa using h1
      · rw [List.getElem?_append_right (by simp; omega), show (k + 1) * 2 + 1 - [Value.int .i64 x.f, Value.int .i64 x.o].length = k * 2 + 1 by simp; omega]
        simpa using h2
theorem shifts_own {W : World} {base : Nat} {v : Value} {l : List Sh} (h : W.ownsRow base 40 2 v l.length (shCells l)) (h0 : 0 < l.length) : ∃ A cap, v = .slice A l.length cap ∧ ShiftsAt W A l := by
  obtain ⟨hl, h2 | ⟨g, cap, cur, hv, hg, hh, h3, h4, h5, h6⟩⟩ := h
  · omega
  · refine ⟨some ⟨g, 0, none⟩, cap, hv, fun _ => ⟨g, 0, rfl, blk_lt hh, fun k hk => ?_⟩⟩
    obtain ⟨c1, c2⟩ := shCells_get l k hk
    have e1 : ∀ j, j < l.length * 2 → cur[j]? = (shCells l)[j]? := fun j hj => by
      rw [← h6, List.getElem?_take, if_pos hj, Array.getElem?_toList]
    rw [cell_blk hh, cell_blk hh, Nat.zero_add, e1 _ (by omega), e1 _ (by omega)]
    exact ⟨c1, c2⟩
theorem east_span (kk : Int) (l : List Sh) (k : Nat) : (spanAt (eastL kk l) k).2 = (spanAt l k).2 := by
  unfold spanAt
  simp only [eastL_length]
  by_cases h : k + 1 < l.length
  · rw [if_pos h, if_pos h, List.getElem?_eq_getElem (by rw [eastL_length]; exact h), List.getElem?_eq_getElem h, eastL_get]
    rfl
  · rw [if_neg h, if_neg h]
theorem east_local {kk : Int} {l : List Sh} (h : validB l = true) (h2 : validB (eastL kk l) = true) {t : Int} (t0 : 0 ≤ t) (t1 : t ≤ 144001439) : localOf (eastL kk l) t = localOf l t + kk := by
  obtain ⟨k, hk, q1, q2, q3⟩ := (tiles_of h).at_ t t0 t1
  have hk' : k < (eastL kk l).length := by rw [eastL_length]; exact hk
  rw [(tiles_of h).local_in hk q1 q2, (tiles_of h2).local_in hk' (by rw [eastL_get]; exact q1) (by rw [east_span]; exact q2), eastL_get]
  simp only
  omega
theorem east_facts {kk : Int} {l : List Sh} (k0 : 0 ≤ kk) (k1 : kk ≤ 1680) (h : validB l = true) (h2 : validB (eastL kk l) = true) (t day : Int) (t0 : 0 ≤ t) (t1 : t ≤ 144001439) (d0 : 0 ≤ day) (d1 : day ≤ 100000) :
    ∃ a b c d u g v h' : Int, localR l t = (a, b, 0) ∧ localR (eastL kk l) t = (c, d, 0) ∧ 1440 * c + d = 1440 * a + b + kk ∧ 0 ≤ b ∧ b < 1440 ∧ 0 ≤ d ∧ d < 1440 ∧ -10 ≤ a ∧ a ≤ 100010 ∧ -10 ≤ c ∧ c ≤ 100010 ∧
      instR l day 0 = (u, g) ∧ instR (eastL kk l) day 0 = (v, h') ∧ (g = 10 ∨ (g = 0 ∧ h' = 0 ∧ v ≤ u)) := by
  have n1 := (tiles_of h).near t0 t1
  have n2 := (tiles_of h2).near t0 t1
  have e := east_local h h2 t0 t1
  rcases (tiles_of h).first_ (day * 1440) (by omega) with ⟨u, f1, f2, f3, f4, f5⟩ | ⟨f1, f2⟩
  · rcases (tiles_of h2).first_ (day * 1440) (by omega) with ⟨v, g1, g2, g3, g4, g5⟩ | ⟨g1, g2⟩
    · refine ⟨_, _, _, _, u, 0, v, 0, localR_in h t0 t1, localR_in h2 t0 t1, by omega, by omega, by omega, by omega, by omega, by omega, by omega, by omega, by omega, by rw [instR_day h day d0 (by omega)]; exact f1, by rw [instR_day h2 day d0 (by omega)]; exact g1, .inr ⟨rfl, rfl, ?_⟩⟩
      rcases Int.lt_or_le u v with h3 | h3
      · have := g5 u f2 h3
        rw [east_local h h2 f2 f3] at this
        omega
      · exact h3
    · have := g2 u f2 f3
      rw [east_local h h2 f2 f3] at this
      omega
  · obtain ⟨v, h', hi⟩ : ∃ v h', instR (eastL kk l) day 0 = (v, h') := ⟨_, _, rfl⟩
    exact ⟨_, _, _, _, 0, 10, v, h', localR_in h t0 t1, localR_in h2 t0 t1, by omega, by omega, by omega, by omega, by omega, by omega, by omega, by omega, by omega, by rw [instR_day h day d0 (by omega)]; exact f1, hi, .inl rfl⟩
/-- the zone in the making: its box E, and the shifts behind it -/
structure Making (w3 : World) (E : Nat) (W : World) (v : Value) (xs : List Sh) : Prop where
  box : W.heap[E]? = some (.cells #[v] 24 (0, 0))
  own : W.ownsRow (E + 1) 40 2 v xs.length (shCells xs)
  be : Below E w3 W
  sz : E + 1 ≤ W.heap.size
theorem Making.start (w3 : World) : Making w3 w3.heap.size (w3.alloc (.cells #[.slice none 0 0] 24)) (.slice none 0 0) [] :=
  ⟨heap_alloc_new _ _, World.ownsRow_nil _ _ _ _, (Below.refl _ _).alloc (Nat.le_refl _) _, by simp⟩
theorem Making.step {w3 : World} {E : Nat} {W W1 W2 : World} {v : Value} {xs : List Sh} {x : Sh} {g cap : Nat} (h : Making w3 E W v xs) (hb : Below W.heap.size W W1)
    (ho : W2.ownsRow (E + 1) 40 2 (.slice (some ⟨g, 0, none⟩) (xs.length + 1) cap) (xs.length + 1) (shCells xs ++ x.cells)) (hg : W1.grownBy W2 v.ownBlock) :
    Making w3 E (W2.setCell ⟨E, 0, none⟩ (.slice (some ⟨g, 0, none⟩) (xs.length + 1) cap)) (.slice (some ⟨g, 0, none⟩) (xs.length + 1) cap) (xs ++ [x]) := by
  have hsz := h.sz
  have h1 := hb.size
  have h2 := hg.size
  have hbox1 : W1.heap[E]? = some (.cells #[v] 24 (0, 0)) := (hb.block E (by omega)).trans h.box
  have hne : some E ≠ v.ownBlock := fun e => by have := (h.own.lt E e.symm).1; omega
  have hbox2 : W2.heap[E]? = some (.cells #[v] 24 (0, 0)) := (hg.block E (by omega) hne).trans hbox1
  have b1 : Below E w3 W1 := h.be.trans (hb.mono (by omega))
  have b2 : Below E w3 W2 := b1.trans ⟨hg.os, hg.tape, hg.output, hg.size, fun k hk => hg.block k (by omega) (fun e => by have := (h.own.lt k e.symm).1; omega)⟩
  refine ⟨?_, ?_, b2.setCell (p := ⟨E, 0, none⟩) (Nat.le_refl _) _, by simp [World.setCell]; omega⟩
  · unfold World.setCell
    simp [hbox2, Array.getElem?_modify]
  · rw [List.length_append, List.length_singleton, show shCells (xs ++ [x]) = shCells xs ++ x.cells by simp [shCells]]
    exact own_same ho fun k hk => Below.heap_setCell _ _ _ _ (by have := (ho.lt k hk).1; intro e; have : k = E := e; omega)

set_option maxRecDepth 100000 in
set_option maxHeartbeats 40000000 in
theorem east_walk (w : World) (hl : LaidC w) (A : Option Addr) (cap : Nat) (l : List Sh) (hz : ShiftsAt w A l) (hlen : l.length ≤ 9223372036854775807) (by_ raw rday : Int) (hb : 0 ≤ by_ ∧ by_ ≤ 65535) (hr : 0 ≤ raw ∧ raw ≤ 4294967295) (hd : 0 ≤ rday ∧ rday ≤ 4294967295) :
    Calls Tryd.prog 10 #[zoneVal A l.length cap, .int .u16 by_, .int .u32 raw, .int .u32 rday] w fun e w' => e = .returned (.bool true) ∧ Below w.heap.size w w' := by
  obtain ⟨b0, b1⟩ := hb
  obtain ⟨r0, r1⟩ := hr
  obtain ⟨rd0, rd1⟩ := hd
  have HL := Lib.hid hl
  have S0 := ZSt.box w A cap l hz
  clear hl hz
  simp only [zoneVal]
  have hcA := S0.cell
  go_enter Tryd.func10, Tryd.ntmps10
  go_wp2_with fail
  generalize w.alloc (.cells #[.slice A l.length cap] 24) = wA at S0 hcA ⊢
  obtain ⟨z, hz⟩ : ∃ z, w.heap.size = z := ⟨_, rfl⟩
  have HZ := Lib.hid hz
  simp only [hz] at S0 hcA ⊢
  clear hz
  refine (head_calls _ (HL.out.below S0.be)).mono ?_
  rintro e w1 ⟨rfl, hb⟩
  have S1 := S0.on hb
  clear hb hcA
  have hcA := S1.cell
  go_wp2_with fail
  have cc := few_calls w1 A l.length cap 40
  simp only [zoneVal] at cc
  refine cc.mono ?_
  clear cc
  rintro e w2 ⟨rfl, hb⟩
  have S2 := S1.on hb
  clear hb hcA
  have hcA := S2.cell
  by_cases hf : (l.length : Int) ≤ 40
  · rw [decide_eq_true hf]
    go_wp2_with fail
    have cc := valid_calls w2 A cap l S2.zone hlen
    simp only [zoneVal] at cc
    refine cc.mono ?_
    clear cc
    rintro e w3 ⟨rfl, hb⟩
    have S3 := S2.on hb
    clear hb hcA
    have hcA := S3.cell
    by_cases hv : validB l = true
    · rw [hv]
      obtain ⟨kk, hkk⟩ : ∃ k, by_ % 1681 = k := ⟨_, rfl⟩
      have k0 : 0 ≤ kk := by omega
      have k1 : kk ≤ 1680 := by omega
      obtain ⟨t, ht⟩ : ∃ t, raw % 144001440 = t := ⟨_, rfl⟩
      have t0 : 0 ≤ t := by omega
      have t1 : t ≤ 144001439 := by omega
      obtain ⟨day, hday⟩ : ∃ t, rday % 100001 = t := ⟨_, rfl⟩
      have d0 : 0 ≤ day := by omega
      have d1 : day ≤ 100000 := by omega
      obtain ⟨i0, hi, hz0, hzz1, hz2⟩ := info_parts Tryd.infoShift
      have HT := Lib.hid (tiles_of hv)
      have HV := Lib.hid hv
      have hpos := (valid_facts hv).2
      clear hv
      have M0 := Making.start w3
      have HM0 := Lib.hid M0
      clear M0
      go_wp2_with fail
      try simp only [hkk]
      clear hkk
      have hzE : z < w3.heap.size := S3.lt
      obtain ⟨E, hE⟩ : ∃ E, w3.heap.size = E := ⟨_, rfl⟩
      have HE := Lib.hid hE
      simp only [hE] at HM0 hzE ⊢
      clear hE hcA
      go_loopw [12] (fun i wr => ∃ (k : Nat) (v : Value), k ≤ l.length ∧ i = .int .i64 k ∧ Making w3 E wr v (eastL kk (l.take k))) (fun i _ => l.length - (Go.RowKit.intOf i).toNat)
      case atStart => exact ⟨0, _, Nat.zero_le _, rfl, HM0.out⟩
      case round =>
        obtain ⟨k, v, hkl, rfl, hm⟩ := hrel
        have HM := Lib.hid hm
        have hBE : Below w3.heap.size w3 wr := by rw [HE.out]; exact hm.be
        have SR := S3.on hBE
        have HBE := Lib.hid hBE
        clear hm hBE HM0
        have hcA := SR.cell
        have hxE := cell_blk HM.out.box 0
        simp only [List.getElem?_toArray, List.getElem?_cons_zero] at hxE
        have hfE := free_blk HM.out.box 0
        have hEl : E < wr.heap.size := HM.out.sz
        by_cases hlt : k < l.length
        · obtain ⟨bb, off, hA, hbl, hc⟩ := S3.zone (by omega)
          subst hA
          have y0 := (HBE.out.cell (p := ⟨bb, off + k * 2, none⟩) hbl).trans (hc k hlt).1
          have y1 := (HBE.out.cell (p := ⟨bb, off + k * 2 + 1, none⟩) hbl).trans (hc k hlt).2
          rw [HE.out] at hbl
          clear hc
          have g0 := (HT.out.each k hlt).2
          have hlt2 : (k : Int) < (l.length : Int) := by omega
          have HN : Hid (∀ f o, l[k].f = f → l[k].o = o → eastL kk (l.take (k + 1)) = eastL kk (l.take k) ++ [⟨f, o + kk⟩]) := by
            show ∀ f o, _
            intro f o h1 h2
            unfold eastL
            rw [List.take_succ_eq_append_getElem hlt, List.map_append, List.map_singleton, h1, h2]
          obtain ⟨f, hf1⟩ : ∃ f, l[k].f = f := ⟨_, rfl⟩
          obtain ⟨o, ho1⟩ : ∃ f, l[k].o = f := ⟨_, rfl⟩
          have HN2 := Lib.hid (HN.out f o hf1 ho1)
          rw [hf1] at y0
          rw [ho1] at y1 g0
          clear hf1 ho1 HN
          have hlen2 : (eastL kk (l.take k)).length = k := by rw [eastL_length, List.length_take]; omega
          have HOWN : Hid (wr.ownsRow (E + 1) 40 2 v k (shCells (eastL kk (l.take k)))) := by
            have := HM.out.own
            rw [hlen2] at this
            exact this
          have HLEN := Lib.hid hlen2
          clear hlen2
          go_wp2_with fail
          have az : v.ownBlock ≠ some z := fun e => by have := (HOWN.out.lt _ e).1; omega
          have ab : v.ownBlock ≠ some bb := fun e => by have := (HOWN.out.lt _ e).1; omega
          have aE : some E ≠ v.ownBlock := fun e => by have := (HOWN.out.lt _ e.symm).1; omega
          have lz : z < wr.heap.size := by omega
          have lb : bb < wr.heap.size := by omega
          have hbEr : (wr.drew.alloc (.cells #[.int .i64 f, .int .i64 (o + kk)] 40)).heap[E]? = some (.cells #[v] 24 (0, 0)) := (Below.heap_alloc wr.drew _ _ hEl).trans HM.out.box
          have HBER := Lib.hid hbEr
          clear hbEr
          have hwr : IntKind.i64.wrap (o + kk) = o + kk := IntWalk.i64_in _ (by omega)
          go_region_law (refine step_append_lies _ (by rfl) _ _ _ (by rfl) (E + 1) 40 i0 _ 2 16 Tryd.underlying22 hi hz0 hzz1 hz2 rfl (by omega) v k (shCells (eastL kk (l.take k))) (by rfl) ((HOWN.out.alloc _).drew) ⟨wr.heap.size, 0, none⟩ 1 1 [.int .i64 f, .int .i64 (o + kk)] (by rfl) (by rfl) (World.news_of_block (cs := #[.int .i64 f, .int .i64 (o + kk)]) (t := 40) (fr := (0, 0)) (heap_alloc_new wr _)) (by simp [Value.oneCell']) (by omega) (by simp only [maxLen]; omega) (by omega) (by simp; omega) (wr.heap.size + 1) (by simp) ?_; intro g cap2 W2 hown2 hgrow hat hlt3; have hbE2 := (hgrow.block E (by simp; omega) aE).trans HBER.out; have hxE2 := cell_blk hbE2 0; have hfE2 := free_blk hbE2 0; simp only [List.getElem?_toArray, List.getElem?_cons_zero] at hxE2; have n0 : W2.cell? ⟨z, 0, none⟩ = _ := ((World.cell?_of_block (hgrow.block z (by simp; omega) (Ne.symm az))).trans (World.cell?_of_block (Below.heap_alloc wr.drew _ _ lz))).trans hcA; have n1 : W2.cell? ⟨bb, off + k * 2, none⟩ = _ := ((World.cell?_of_block (hgrow.block bb (by simp; omega) (Ne.symm ab))).trans (World.cell?_of_block (Below.heap_alloc wr.drew _ _ lb))).trans y0; have n2 : W2.cell? ⟨bb, off + k * 2 + 1, none⟩ = _ := ((World.cell?_of_block (hgrow.block bb (by simp; omega) (Ne.symm ab))).trans (World.cell?_of_block (Below.heap_alloc wr.drew _ _ lb))).trans y1; have m0 : ∀ x, (W2.setCell ⟨E, 0, none⟩ x).cell? ⟨z, 0, none⟩ = _ := fun x => (World.cell?_of_block (Below.heap_setCell W2 ⟨E, 0, none⟩ x z (by show z ≠ E; omega))).trans n0; have m1 : ∀ x, (W2.setCell ⟨E, 0, none⟩ x).cell? ⟨bb, off + k * 2, none⟩ = _ := fun x => (World.cell?_of_block (Below.heap_setCell W2 ⟨E, 0, none⟩ x bb (by show bb ≠ E; omega))).trans n1; have m2 : ∀ x, (W2.setCell ⟨E, 0, none⟩ x).cell? ⟨bb, off + k * 2 + 1, none⟩ = _ := fun x => (World.cell?_of_block (Below.heap_setCell W2 ⟨E, 0, none⟩ x bb (by show bb ≠ E; omega))).trans n2; have HO2 := Lib.hid hown2; have HG2 := Lib.hid hgrow; clear hown2 hgrow)
          all_goals
            clear hwr
            go_wp2_with fail
            go_roundw
            case rel =>
              have hl := HLEN.out
              refine ⟨k + 1, .slice (some ⟨g, 0, none⟩) (k + 1) cap2, by omega, by go_num, ?_⟩
              rw [HN2.out]
              have ho := HO2.out
              have hs := HM.out.step (W1 := wr.drew.alloc (.cells #[.int .i64 f, .int .i64 (o + kk)] 40)) (x := ⟨f, o + kk⟩) (g := g) (cap := cap2) ((below_drew (Below.refl wr.heap.size wr)).alloc (Nat.le_refl _) _) (by rw [HLEN.out]; exact HO2.out) HG2.out
              rw [hl] at hs
              exact hs
            case measure => simp [Go.RowKit.intOf]; omega
        · obtain rfl : k = l.length := by omega
          obtain ⟨l', hl'⟩ : ∃ x, eastL kk l = x := ⟨_, rfl⟩
          have hll : l'.length = l.length := by rw [← hl', eastL_length]
          have hM1 := HM.out
          rw [List.take_length, hl'] at hM1
          obtain ⟨A2, cap2, hv2, hsh2⟩ := shifts_own hM1.own (by omega)
          subst hv2
          have hc6 := cell_blk hM1.box 0
          simp only [List.getElem?_toArray, List.getElem?_cons_zero] at hc6
          have SE : ZSt w E A2 cap2 l' wr := ⟨hsh2, hc6, hEl, SR.be⟩
          have hF : ∀ h2 : validB l' = true, ∃ a b c d u g v h' : Int, localR l t = (a, b, 0) ∧ localR l' t = (c, d, 0) ∧ 1440 * c + d = 1440 * a + b + kk ∧ 0 ≤ b ∧ b < 1440 ∧ 0 ≤ d ∧ d < 1440 ∧ -10 ≤ a ∧ a ≤ 100010 ∧ -10 ≤ c ∧ c ≤ 100010 ∧
              instR l day 0 = (u, g) ∧ instR l' day 0 = (v, h') ∧ (g = 10 ∨ (g = 0 ∧ h' = 0 ∧ v ≤ u)) := by
            subst hl'
            exact fun h2 => east_facts k0 k1 HV.out h2 t day t0 t1 d0 d1
          have HF := Lib.hid hF
          have hlen' : l'.length ≤ 9223372036854775807 := by omega
          clear hM1 hsh2 hc6 hF HM hxE hfE hl' hcA
          obtain ⟨w4, h4⟩ : ∃ x, x = wr := ⟨wr, rfl⟩
          subst h4
          have S4 := SR
          have hcA := S4.cell
          have hcE := SE.cell
          have HLL := Lib.hid hll
          clear hll HBE S0 S1 S2 S3
          go_wp2_with fail
          have cc := valid_calls w4 A2 cap2 l' SE.zone hlen'
          simp only [zoneVal] at cc
          refine cc.mono ?_
          clear cc
          rintro e w5 ⟨rfl, hb⟩
          have S5 := S4.on hb
          have T5 := SE.on hb
          clear hb hcA hcE
          have hcA := S5.cell
          have hcE := T5.cell
          by_cases hv' : validB l' = true
          · rw [hv']
            obtain ⟨a, b, c, d, u, g, v', h', hR1, hR2, hsum, b0, b1, d0', d1', a0, a1, c0, c1, hB1, hB2, hgh⟩ := HF.out hv'
            have nb : (1440 * c + d != 1440 * a + b + kk) = false := by simp [hsum]
            have HS := Lib.hid hsum
            clear hv' hsum
            have cl := fun W (hW : ZSt w z A cap l W) => local_calls W A cap l hW.zone hlen t
            have cl2 := fun W (hW : ZSt w E A2 cap2 l' W) => local_calls W A2 cap2 l' hW.zone hlen' t
            have cb := fun W (hW : ZSt w z A cap l W) => begin_calls W A cap l hW.zone hlen day
            have cb2 := fun W (hW : ZSt w E A2 cap2 l' W) => begin_calls W A2 cap2 l' hW.zone hlen' day
            rw [hR1] at cl
            rw [hR2] at cl2
            rw [hB1] at cb
            rw [hB2] at cb2
            simp only [zoneVal] at cl cl2 cb cb2
            clear hR1 hR2 hB1 hB2
            go_wp2_with fail
            refine (cl _ S5).mono ?_
            rintro e w6 ⟨rfl, hb⟩
            have S6 := S5.on hb
            have T6 := T5.on hb
            clear hb hcA hcE cl
            have hcA := S6.cell
            have hcE := T6.cell
            go_wp2_with fail
            refine (cl2 _ T6).mono ?_
            rintro e w7 ⟨rfl, hb⟩
            have S7 := S6.on hb
            have T7 := T6.on hb
            clear hb hcA hcE cl2
            have hcA := S7.cell
            have hcE := T7.cell
            go_wp2_with fail
            refine (cb _ S7).mono ?_
            rintro e w8 ⟨rfl, hb⟩
            have S8 := S7.on hb
            have T8 := T7.on hb
            clear hb hcA hcE cb
            have hcA := S8.cell
            have hcE := T8.cell
            go_wp2_with fail
            refine (cb2 _ T8).mono ?_
            rintro e w9 ⟨rfl, hb⟩
            have S9 := S8.on hb
            have T9 := T8.on hb
            clear hb hcA hcE cb2
            have hcA := S9.cell
            have hcE := T9.cell
            rcases hgh with rfl | ⟨rfl, rfl, hvu⟩
            · go_wp2_with fail
              go_ret
              exact ⟨rfl, HZ.out ▸ S9.be⟩
            · go_wp2_with fail
              go_ret
              exact ⟨rfl, HZ.out ▸ S9.be⟩
          · have hv2 : validB l' = false := by simpa using hv'
            rw [hv2]
            clear hv' hv2
            go_wp2_with fail
            go_ret
            exact ⟨rfl, HZ.out ▸ S5.be⟩
    · have hv' : validB l = false := by simpa using hv
      rw [hv']
      clear hv hv'
      go_wp2_with fail
      go_ret
      exact ⟨rfl, HZ.out ▸ S3.be⟩
  · rw [decide_eq_false hf]
    go_wp2_with fail
    go_ret
    exact ⟨rfl, HZ.out ▸ S2.be⟩
end Go.Proofs.YtgjombfcldihhaaDoor
