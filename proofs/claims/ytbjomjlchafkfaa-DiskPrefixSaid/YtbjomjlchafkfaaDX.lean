/- The first writes of a list, as plain data; the law's helper that makes them on a disk of its own.
   Conditions: the arguments lie in memory as ActsArg says. -/
import Derived.Test.YtbjomjlchafkfaaLReads
namespace Go.Proofs.Ytbjomjlchafkfaa
open Go.RowKit Go.Lib
set_option linter.unusedVariables false

/-- Those of the operations whose write succeeds on a disk of n sectors. -/
def goodW (n : Nat) (a : Act0) : Bool := decide (0 ≤ a.sector) && decide (a.sector < n) && decide (a.txt.size = 64)
def item (a : Act0) : Nat × ByteArray := (a.sector.toNat, a.txt)
def goods (n : Nat) (l : List Act0) : List Act0 := l.filter (goodW n)
/-- A disk that is on and disarmed, with these sectors and these pending writes. -/
def plain (s : List ByteArray) (q : List (Nat × ByteArray)) : DS := ⟨s, q, false, none⟩

theorem plain_write (s : List ByteArray) (q : List (Nat × ByteArray)) (a : Act0) :
    (plain s q).write a.sector a.txt = if goodW s.length a = true then (plain s (q ++ [item a]), 0) else (plain s q, 1) := by
  rw [DS.write_plain rfl rfl]
  by_cases h : goodW s.length a = true
  · rw [if_pos h, if_pos]
    · rfl
    · simp only [goodW, Bool.and_eq_true, decide_eq_true_eq] at h
      refine ⟨?_, h.2⟩
      unfold DS.valid
      rw [Bool.and_eq_true, decide_eq_true_eq, decide_eq_true_eq]
      exact ⟨h.1.1, h.1.2⟩
  · rw [if_neg h, if_neg]
    intro e
    apply h
    have e1 := e.1
    unfold DS.valid at e1
    rw [Bool.and_eq_true, decide_eq_true_eq, decide_eq_true_eq] at e1
    simp only [goodW, Bool.and_eq_true, decide_eq_true_eq]
    exact ⟨⟨e1.1, e1.2⟩, e.2⟩
theorem goods_snoc (n : Nat) (l : List Act0) (k : Nat) (hk : k < l.length) : goods n (l.take (k + 1)) = goods n (l.take k) ++ (if goodW n l[k] = true then [l[k]] else []) := by
  unfold goods
  rw [List.take_succ_eq_append_getElem hk, List.filter_append]
  simp [List.filter_cons]
theorem goods_le (n : Nat) (l : List Act0) : (goods n l).length ≤ l.length := List.length_filter_le _ _
theorem goods_take (n : Nat) (l : List Act0) (k m : Nat) (h : m ≤ (goods n (l.take k)).length) : ((goods n (l.take k)).take m) = (goods n l).take m := by
  have e : goods n l = goods n (l.take k) ++ goods n (l.drop k) := by
    unfold goods
    rw [← List.filter_append, List.take_append_drop]
  rw [e, List.take_append_of_le_length h]

theorem own_mono {w : World} {base base' : Nat} {e : TypeId} {size n : Nat} {v : Value} {xs : List Value} (h : w.ownsRow base e size v n xs) (hb : base' ≤ base) : w.ownsRow base' e size v n xs := by
  refine ⟨h.1, ?_⟩
  rcases h.2 with h2 | ⟨g, cap, cur, hv, hg, r⟩
  · exact .inl h2
  · exact .inr ⟨g, cap, cur, hv, Nat.le_trans hb hg, r⟩
theorem started_plain (st : DS) : st.start.syncNow = plain st.all [] := rfl
theorem plain_len (s : List ByteArray) (q : List (Nat × ByteArray)) : (plain s q).sect.length = s.length := rfl

set_option maxRecDepth 100000 in
set_option maxHeartbeats 4000000 in
theorem first_calls (w : World) (n : Nat) (n1 : 1 ≤ n) (n2 : n ≤ 12) (A1 : Option Addr) (cap1 : Nat) (l1 : List Act0) (hl1 : ActsArg w A1 l1) (ho1 : okB l1 = true) (A2 : Option Addr) (cap2 : Nat) (l2 : List Act0) (hl2 : ActsArg w A2 l2) (ho2 : okB l2 = true) (m : Nat) (hm : m ≤ 1000) :
    Calls Try.prog 26 #[.int .i64 n, .slice A1 l1.length cap1, .slice A2 l2.length cap2, .int .i64 m] w
      (Conts w (plain ((DS.new n).acts l1).all (((goods n l2).take m).map item)).all) := by
  have HA1 := Lib.hid hl1
  have HA2 := Lib.hid hl2
  have HO1 := Lib.hid ho1
  have HO2 := Lib.hid ho2
  clear hl1 hl2 ho1 ho2
  go_enter Try.func26, Try.ntmps26
  go_wp2_with fail
  refine (new_ok _ n n1 (by omega)).mono ?_
  rintro e w2 hf
  obtain ⟨p, F, rfl, m0⟩ := Mine.fresh (Below.refl w.heap.size w) (Nat.le_refl _) hf
  clear hf
  have M := Lib.hid m0
  clear m0
  go_wp2_with fail
  -- printed from here
  go_loopw [11] (fun i wr => ∃ (k : Nat) (F' : Nat → Prop), k ≤ l1.length ∧ i = .int .i64 k ∧ Mine w.heap.size w wr F' p ((DS.new n).acts (l1.take k)) ∧ ((DS.new n).acts (l1.take k)).queue.length ≤ k) (fun i _ => l1.length - (intOf i).toNat)
  case atStart => exact ⟨0, F, Nat.zero_le _, rfl, M.out, Nat.le_refl _⟩
  case round =>
    obtain ⟨k, F1, hk, rfl, hm, hq⟩ := hrel
    have HM := Lib.hid hm
    clear hm
    have h60 := (okB_true HO1.out).1
    by_cases hlt : k < l1.length
    · have harg := HA1.out.below HM.out.be HA1.out.lt
      obtain ⟨bb, off, hA, _, hc⟩ := harg.at_ (by omega)
      subst hA
      obtain ⟨x0, x1, x2, x3, x4, x5⟩ := ActsAt.six hc k hlt
      have hOk := Lib.hid (harg.ok HO1.out l1[k] (List.getElem_mem hlt))
      have HQ := Lib.hid (DS.act_qlen ((DS.new n).acts (l1.take k)) l1[k])
      clear hc harg
      go_wp2_with fail
      refine (do_calls HM.out.d (by omega) l1[k] hOk.out).mono ?_
      rintro e w3 ht
      obtain ⟨rfl, F2, m2⟩ := HM.out.turn ht
      have M2 := Lib.hid m2
      clear ht m2
      go_wp2_with fail
      go_roundw
      case rel => exact ⟨k + 1, F2, by omega, by go_num, by rw [DS.acts_snoc _ _ _ hlt]; exact M2.out, by rw [DS.acts_snoc _ _ _ hlt]; have := HQ.out; omega⟩
      case measure => simp [intOf]; omega
    · obtain rfl : k = l1.length := by omega
      rw [List.take_of_length_le (Nat.le_refl _)] at HM hq
      have hsl : ((DS.new n).acts l1).sect.length = n := by rw [DS.acts_length, DS.new_length]
      generalize hst0 : (DS.new n).acts l1 = st at HM hq hsl
      have HSL := Lib.hid hsl
      have HST0 := Lib.hid hst0
      clear hsl hlt hst0
      go_wp2_with fail
      refine (start_calls HM.out.d).mono ?_
      rintro e w4 ht
      obtain ⟨rfl, F11, m11, hkp⟩ := HM.out.turns ht
      have M11 := Lib.hid m11
      clear ht m11 hkp
      go_wp2_with fail
      have hc := sync_calls M11.out.d (by show st.queue.length ≤ _; omega)
      rw [sync_started, started_plain] at hc
      refine hc.mono ?_
      clear hc
      rintro e w5 ht
      obtain ⟨rfl, F12, m12, hkp⟩ := M11.out.turns ht
      have M12 := Lib.hid m12
      clear ht m12 hkp
      have hsal : Hid (st.all.length = n) := by show _ = _; rw [DS.all_length]; exact HSL.out
      generalize hs0 : st.all = s at M12 hsal
      have HS0 := Lib.hid hs0
      clear hs0
      go_wp2_with fail
      go_loopw [12, 13] (fun dn i wr => ∃ (k : Nat) (F' : Nat → Prop), k ≤ l2.length ∧ i = .int .i64 k ∧ dn = .int .i64 ((goods n (l2.take k)).length : Nat) ∧ Mine w.heap.size w wr F' p (plain s ((goods n (l2.take k)).map item)) ∧ (goods n (l2.take k)).length ≤ m) (fun _ i _ => l2.length - (intOf i).toNat)
      case atStart => exact ⟨0, _, Nat.zero_le _, rfl, rfl, M12.out, Nat.zero_le _⟩
      case round =>
        obtain ⟨k, F1, hk, rfl, rfl, hm1, hgm⟩ := hrel
        have HM2 := Lib.hid hm1
        clear hm1
        have h60 := (okB_true HO2.out).1
        have hgk : (goods n (l2.take k)).length ≤ 60 := by
          have := goods_le n (l2.take k)
          rw [List.length_take] at this
          omega
        obtain ⟨gk, hgk'⟩ : ∃ gk, gk = goods n (l2.take k) := ⟨_, rfl⟩
        rw [← hgk'] at HM2 hgm hgk ⊢
        have HGK := Lib.hid hgk'
        clear hgk'
        by_cases hstop : k < l2.length ∧ gk.length < m
        · obtain ⟨hlt, hgl⟩ := hstop
          have harg := HA2.out.below HM2.out.be HA2.out.lt
          obtain ⟨bb, off, hA, hbl, hc0⟩ := harg.at_ (by omega)
          subst hA
          obtain ⟨x0, x1, x2, x3, x4, x5⟩ := ActsAt.six hc0 k hlt
          have hOk := Lib.hid (harg.ok HO2.out l2[k] (List.getElem_mem hlt))
          have HGS := Lib.hid (goods_snoc n l2 k hlt)
          have HPW := Lib.hid (plain_write s (gk.map item) l2[k])
          clear hc0 harg
          go_wp2_with fail
          go_region_with (first
            | (go_at_call 24; refine (text_calls l2[k] hOk.out.t _).mono ?_; rintro e w7 ⟨rfl, rfl⟩)
            | (go_at_call 23; refine (write_calls (HM2.out.d.below (by exact ((Below.refl _ _).alloc (Nat.le_refl _) _).drew)) (by show (gk.map item).length < _; rw [List.length_map]; omega) _ _).mono ?_; rintro e w17 hw7; have hw7b := Turns.from_box (((Below.refl _ _).alloc (Nat.le_refl _) _).drew) hw7; obtain ⟨rfl, hw7c⟩ := hw7; clear hw7c))
          all_goals
            obtain ⟨_, F61, m61, _⟩ := HM2.out.turns hw7b
            clear hw7b
            by_cases hgd : goodW n l2[k] = true
            · have hpw := HPW.out
              rw [hsal.out, if_pos hgd] at hpw
              have hgs := HGS.out
              rw [if_pos hgd, ← HGK.out] at hgs
              rw [hpw] at m61 ⊢
              have M61 := Lib.hid m61
              have HGS2 := Lib.hid hgs
              clear hpw hgs m61 hgd
              go_wp2_with fail
              go_roundw
              case rel => exact ⟨k + 1, F61, by omega, by go_num, by rw [HGS2.out, List.length_append]; go_num, by rw [HGS2.out, List.map_append]; exact M61.out, by rw [HGS2.out, List.length_append, List.length_singleton]; omega⟩
              case measure => simp [intOf]; omega
            · have hpw := HPW.out
              rw [hsal.out, if_neg hgd] at hpw
              have hgs := HGS.out
              rw [if_neg hgd, List.append_nil, ← HGK.out] at hgs
              rw [hpw] at m61 ⊢
              have M61 := Lib.hid m61
              have HGS2 := Lib.hid hgs
              clear hpw hgs m61 hgd
              go_wp2_with fail
              go_roundw
              case rel => exact ⟨k + 1, F61, by omega, by go_num, by rw [HGS2.out], by rw [HGS2.out]; exact M61.out, by rw [HGS2.out]; omega⟩
              case measure => simp [intOf]; omega
        · have HT : Hid (gk = (goods n l2).take m) := by
            show _ = _
            by_cases hlt : k < l2.length
            · have e : gk.length = m := by omega
              have := goods_take n l2 k m (by rw [← HGK.out]; omega)
              rw [← HGK.out, List.take_of_length_le (by omega)] at this
              exact this
            · have e : k = l2.length := by omega
              have h := HGK.out
              rw [List.take_of_length_le (by omega)] at h
              rw [← h, List.take_of_length_le (by omega)]
          have HQ : Hid ((gk.map item).length ≤ 60) := by show (gk.map item).length ≤ _; rw [List.length_map]; exact hgk
          have HNP : Hid (n = (plain s (gk.map item)).sect.length) := hsal.out.symm
          by_cases hlt : k < l2.length
          · have hge : ¬ gk.length < m := fun h => hstop ⟨hlt, h⟩
            clear hstop
            go_wp2_with fail
            refine (contents_calls HM2.out.d (by have := HQ.out; show (gk.map item).length ≤ _; omega) rfl n HNP.out).mono ?_
            rintro e w30 ⟨v, rfl, hown, hb⟩
            have HF := Lib.hid (own_mono hown HM2.out.sz)
            have HBE := Lib.hid (HM2.out.be.trans (hb.mono HM2.out.sz))
            clear hown hb
            go_wp2_with fail
            go_ret2
            rw [← HT.out, HST0.out, HS0.out]
            exact ⟨v, rfl, HF.out, HBE.out⟩
          · clear hstop
            go_wp2_with fail
            refine (contents_calls HM2.out.d (by have := HQ.out; show (gk.map item).length ≤ _; omega) rfl n HNP.out).mono ?_
            rintro e w30 ⟨v, rfl, hown, hb⟩
            have HF := Lib.hid (own_mono hown HM2.out.sz)
            have HBE := Lib.hid (HM2.out.be.trans (hb.mono HM2.out.sz))
            clear hown hb
            go_wp2_with fail
            go_ret2
            rw [← HT.out, HST0.out, HS0.out]
            exact ⟨v, rfl, HF.out, HBE.out⟩
end Go.Proofs.Ytbjomjlchafkfaa
