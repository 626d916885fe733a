/- The reference's Offset, Local, Instant.
   Conditions: the zone's slice lies in memory as ShiftsAt says. -/
import Derived.Test.YtgjombfcldihhaaDoorNA
namespace Go.Proofs.YtgjombfcldihhaaDoor
open Go.RowKit Go.Lib
set_option linter.unusedVariables false
set_option linter.unusedSimpArgs false

/-- what Offset's loop has found before shift k -/
def OffIs (l : List Sh) (t out : Int) (k : Nat) : Prop :=
  (out = 0 ∧ ∀ i (h : i < l.length), i < k → t < l[i].f) ∨ (∃ i, ∃ h : i < l.length, i < k ∧ l[i].f ≤ t ∧ out = l[i].o ∧ ∀ j (hj : j < l.length), i < j → j < k → t < l[j].f)
theorem OffIs.done {l : List Sh} {t out : Int} {k : Nat} (h : validB l = true) (t0 : 0 ≤ t) (t1 : t ≤ 144001439) (hk : l.length ≤ k) (ho : OffIs l t out k) : localOf l t = t + out := by
  have T := tiles_of h
  obtain ⟨i, hi, q1, q2, q3⟩ := T.at_ t t0 t1
  rw [T.local_in hi q1 q2]
  rcases ho with ⟨_, h2⟩ | ⟨j, hj, _, h3, h4, h5⟩
  · have := h2 i hi (by omega); omega
  · rcases Nat.lt_trichotomy i j with h6 | h6 | h6
    · have := T.end_lt i j hj h6; omega
    · subst h6; omega
    · have := h5 i hi h6 (by omega); omega
theorem OffIs.yes {l : List Sh} {t out : Int} {k : Nat} (hk : k < l.length) (hf : l[k].f ≤ t) : OffIs l t l[k].o (k + 1) :=
  .inr ⟨k, hk, by omega, hf, rfl, fun j hj h1 h2 => by omega⟩
theorem OffIs.no {l : List Sh} {t out : Int} {k : Nat} (hk : k < l.length) (hf : t < l[k].f) (h : OffIs l t out k) : OffIs l t out (k + 1) := by
  rcases h with ⟨h1, h2⟩ | ⟨i, hi, h1, h2, h3, h4⟩
  · refine .inl ⟨h1, fun i hi hik => ?_⟩
    rcases Nat.lt_or_ge i k with h3 | h3
    · exact h2 i hi h3
    · obtain rfl : i = k := by omega
      exact hf
  · refine .inr ⟨i, hi, by omega, h2, h3, fun j hj h5 h6 => ?_⟩
    rcases Nat.lt_or_ge j k with h7 | h7
    · exact h4 j hj h5 h7
    · obtain rfl : j = k := by omega
      exact hf

set_option maxRecDepth 100000 in
set_option maxHeartbeats 4000000 in
theorem roffset_calls (w : World) (A : Option Addr) (cap : Nat) (l : List Sh) (hl : ShiftsAt w A l) (hv : validB l = true) (t : Int) (t0 : 0 ≤ t) (t1 : t ≤ 144001439) :
    Calls Tryd.prog 29 #[zoneVal A l.length cap, .int .i64 t] w fun e w' => e = .returned (.int .i64 (localOf l t - t)) ∧ Below w.heap.size w w' := by
  have S0 := ZSt.box w A cap l hl
  have HV := Lib.hid hv
  have hp := (valid_facts hv).2
  clear hl hv
  simp only [zoneVal]
  have hcA := S0.cell
  obtain ⟨bb, off, hA, hbl, hc⟩ := S0.zone (by omega)
  subst hA
  have HC := Lib.hid hc
  clear hc
  go_enter Tryd.func29, Tryd.ntmps29
  go_wp2_with fail
  generalize w.alloc (.cells #[.slice (some ⟨bb, off, none⟩) l.length cap] 24) = W at S0 hcA hbl HC ⊢
  obtain ⟨z, hz⟩ : ∃ z, w.heap.size = z := ⟨_, rfl⟩
  have HZ := Lib.hid hz
  simp only [hz] at S0 hcA ⊢
  clear hz
  go_loopw [5, 6] (fun o i wr => ∃ (k : Nat) (out : Int), k ≤ l.length ∧ i = .int .i64 k ∧ o = .int .i64 out ∧ OffIs l t out k ∧ wr = W) (fun _ i _ => l.length - (Go.RowKit.intOf i).toNat)
  case atStart => exact ⟨0, 0, Nat.zero_le _, rfl, rfl, .inl ⟨rfl, fun i hi h => by omega⟩, rfl⟩
  case round =>
    obtain ⟨k, out, hk, rfl, rfl, hoi, rfl⟩ := hrel
    have HO := Lib.hid hoi
    clear hoi
    by_cases hlt : k < l.length
    · have x0 := (HC.out k hlt).1
      have x1 := (HC.out k hlt).2
      have hlt2 : (k : Int) < (l.length : Int) := by omega
      obtain ⟨f, hf⟩ : ∃ f, l[k].f = f := ⟨_, rfl⟩
      obtain ⟨o, ho⟩ : ∃ o, l[k].o = o := ⟨_, rfl⟩
      by_cases hle : f ≤ t
      · have HN : Hid (OffIs l t o (k + 1)) := by show OffIs _ _ _ _; rw [← ho]; exact OffIs.yes (out := out) hlt (by omega)
        rw [hf] at x0
        rw [ho] at x1
        clear hf ho
        go_wp2_with fail
        go_roundw
        case rel => exact ⟨k + 1, o, by omega, by go_num, rfl, HN.out, by first | rfl | trivial⟩
        case measure => simp [Go.RowKit.intOf]; omega
      · have HN : Hid (OffIs l t out (k + 1)) := OffIs.no hlt (by omega) HO.out
        rw [hf] at x0
        rw [ho] at x1
        clear hf ho
        go_wp2_with fail
        go_roundw
        case rel => exact ⟨k + 1, out, by omega, by go_num, rfl, HN.out, by first | rfl | trivial⟩
        case measure => simp [Go.RowKit.intOf]; omega
    · have hd := OffIs.done HV.out t0 t1 (by omega) HO.out
      have HD := Lib.hid (show localOf l t - t = out by omega)
      clear hd
      go_wp2_with fail
      go_ret
      rw [HD.out]
      exact ⟨rfl, HZ.out ▸ S0.be⟩

set_option maxRecDepth 100000 in
set_option maxHeartbeats 4000000 in
theorem rlocal_calls (w : World) (A : Option Addr) (cap : Nat) (l : List Sh) (hl : ShiftsAt w A l) (hlen : l.length ≤ 9223372036854775807) (t : Int) :
    Calls Tryd.prog 14 #[zoneVal A l.length cap, .int .i64 t] w fun e w' => e = .returned (.tuple #[.int .i64 (localR l t).1, .int .i64 (localR l t).2.1, .int .i64 (localR l t).2.2]) ∧ Below w.heap.size w w' := by
  have S0 := ZSt.box w A cap l hl
  clear hl
  simp only [zoneVal]
  have hcA := S0.cell
  go_enter Tryd.func14, Tryd.ntmps14
  go_wp2_with fail
  generalize w.alloc (.cells #[.slice A l.length cap] 24) = W at S0 hcA ⊢
  obtain ⟨z, hz⟩ : ∃ z, w.heap.size = z := ⟨_, rfl⟩
  have HZ := Lib.hid hz
  simp only [hz] at S0 hcA ⊢
  clear hz
  have cc := rvalid_calls W A cap l S0.zone hlen
  simp only [zoneVal] at cc
  refine cc.mono ?_
  clear cc
  rintro e w1 ⟨rfl, hb⟩
  have S1 := S0.on hb
  clear hb hcA
  have hcA := S1.cell
  by_cases hv : validB l = true
  · rw [hv]
    go_wp2_with fail
    refine (is_calls _ t).mono ?_
    rintro e w2 ⟨rfl, rfl⟩
    by_cases ht : isB t = true
    · rw [ht]
      have HR : Hid (localR l t = (localOf l t / 1440, localOf l t % 1440, 0)) := by show _ = _; unfold localR; rw [if_pos ⟨hv, ht⟩]
      simp only [isB, Bool.and_eq_true, decide_eq_true_eq] at ht
      have hn := (tiles_of hv).near ht.1 ht.2
      obtain ⟨t0, t1⟩ := ht
      have cc := roffset_calls w1 A cap l S1.zone hv t t0 t1
      simp only [zoneVal] at cc
      obtain ⟨out, hout⟩ : ∃ out, localOf l t - t = out := ⟨_, rfl⟩
      have hout' : localOf l t = t + out := by omega
      rw [hout] at cc
      rw [hout'] at hn HR
      have o0 : -840 ≤ out := by omega
      have o1 : out ≤ 840 := by omega
      clear hv hout hout' hn
      go_wp2_with fail
      refine cc.mono ?_
      clear cc
      rintro e w3 ⟨rfl, hb⟩
      have S3 := S1.on hb
      clear hb hcA
      have hs : 0 ≤ t + out + 1440 := by omega
      have hs2 : t + out + 1440 ≤ 200000000 := by omega
      go_wp2_with fail
      go_ret3
      rw [HR.out]
      refine ⟨?_, HZ.out ▸ S3.be⟩
      have e1 : (t + out + 1440) / 1440 - 1 = (t + out) / 1440 := by omega
      have e2 : (t + out + 1440) % 1440 = (t + out) % 1440 := by omega
      rw [← e1, ← e2]
      rfl
    · have hf : isB t = false := by simpa using ht
      have HR : Hid (localR l t = (0, 0, 1)) := by show _ = _; unfold localR; rw [if_neg (fun h => ht h.2)]
      rw [hf]
      clear hv ht hf
      go_wp2_with fail
      go_ret3
      rw [HR.out]
      exact ⟨rfl, HZ.out ▸ S1.be⟩
  · have hv' : validB l = false := by simpa using hv
    have HR : Hid (localR l t = (0, 0, 1)) := by show _ = _; unfold localR; rw [if_neg (fun h => hv h.1)]
    rw [hv']
    clear hv hv'
    go_wp2_with fail
    go_ret3
    rw [HR.out]
    exact ⟨rfl, HZ.out ▸ S1.be⟩
theorem inst_low {l : List Sh} (h : validB l = true) (day minute : Int) (m0 : 0 ≤ minute) (m1 : minute ≤ 1439) (hd : day < -1) : instR l day minute = (0, 0) := by
  have T := tiles_of h
  unfold instR
  rw [if_pos ⟨h, by omega, by omega⟩, if_neg (by omega), show mx day (-2) = -2 by unfold mx; split <;> omega]
  have hn := T.near (t := 0) (by omega) (by omega)
  rcases T.first_ (-2 * 1440 + minute) (by omega) with ⟨t, f1, f2, f3, f4, f5⟩ | ⟨f1, f2⟩
  · rw [f1]
    rcases Int.lt_or_le 0 t with h2 | h2
    · have := f5 0 (by omega) h2; omega
    · obtain rfl : t = 0 := by omega
      rfl
  · have := f2 0 (by omega) (by omega); omega

set_option maxRecDepth 100000 in
set_option maxHeartbeats 8000000 in
theorem rinst_calls (w : World) (A : Option Addr) (cap : Nat) (l : List Sh) (hl : ShiftsAt w A l) (hlen : l.length ≤ 9223372036854775807) (day minute : Int) :
    Calls Tryd.prog 16 #[zoneVal A l.length cap, .int .i64 day, .int .i64 minute] w fun e w' => e = .returned (.tuple #[.int .i64 (instR l day minute).1, .int .i64 (instR l day minute).2]) ∧ Below w.heap.size w w' := by
  have S0 := ZSt.box w A cap l hl
  clear hl
  simp only [zoneVal]
  have hcA := S0.cell
  go_enter Tryd.func16, Tryd.ntmps16
  go_wp2_with fail
  generalize w.alloc (.cells #[.slice A l.length cap] 24) = W at S0 hcA ⊢
  obtain ⟨z, hz⟩ : ∃ z, w.heap.size = z := ⟨_, rfl⟩
  have HZ := Lib.hid hz
  simp only [hz] at S0 hcA ⊢
  clear hz
  have cc := rvalid_calls W A cap l S0.zone hlen
  simp only [zoneVal] at cc
  refine cc.mono ?_
  clear cc
  rintro e w1 ⟨rfl, hb⟩
  have S1 := S0.on hb
  clear hb hcA
  have hcA := S1.cell
  by_cases hv : validB l = true
  · rw [hv]
    by_cases hm0 : minute < 0
    · have HR : Hid (instR l day minute = (0, 1)) := by show _ = _; unfold instR; rw [if_neg (fun h => by omega)]
      clear hv
      go_wp2_with fail
      go_ret2
      rw [HR.out]
      exact ⟨rfl, HZ.out ▸ S1.be⟩
    have m0 : 0 ≤ minute := by omega
    clear hm0
    by_cases hm1 : 1439 < minute
    · have HR : Hid (instR l day minute = (0, 1)) := by show _ = _; unfold instR; rw [if_neg (fun h => by omega)]
      clear hv
      go_wp2_with fail
      go_ret2
      rw [HR.out]
      exact ⟨rfl, HZ.out ▸ S1.be⟩
    have m1 : minute ≤ 1439 := by omega
    clear hm1
    by_cases hd : 100001 < day
    · have HR : Hid (instR l day minute = (0, 10)) := by show _ = _; unfold instR; rw [if_pos ⟨hv, by omega, by omega⟩, if_pos hd]
      clear hv
      go_wp2_with fail
      go_ret2
      rw [HR.out]
      exact ⟨rfl, HZ.out ▸ S1.be⟩
    have d1 : day ≤ 100001 := by omega
    clear hd
    by_cases hd : day < -1
    · have HR := Lib.hid (inst_low hv day minute m0 m1 hd)
      clear hv
      go_wp2_with fail
      go_ret2
      rw [HR.out]
      exact ⟨rfl, HZ.out ▸ S1.be⟩
    have d0 : -1 ≤ day := by omega
    clear hd
    obtain ⟨want, hwant⟩ : ∃ x, day * 1440 + minute = x := ⟨_, rfl⟩
    have HR : Hid (instR l day minute = firstOf (spansOf l) want) := by
      show _ = _
      unfold instR
      rw [if_pos ⟨hv, by omega, by omega⟩, if_neg (by omega), show mx day (-2) = day by unfold mx; split <;> omega, hwant]
    have w0 : -1440 ≤ want := by omega
    have w1' : want ≤ 144002879 := by omega
    have HT := Lib.hid (tiles_of hv)
    have hp := (valid_facts hv).2
    clear hv
    obtain ⟨bb, off, hA, hbl, hc⟩ := S1.zone (by omega)
    subst hA
    have HC := Lib.hid hc
    clear hc
    go_wp2_with fail
    try simp only [hwant]
    clear hwant
    go_loopw [9] (fun i wr => ∃ (k : Nat), k ≤ l.length ∧ i = .int .i64 k ∧ LateI (upto (spanAt l) k) want ∧ wr = w1) (fun i _ => l.length - (Go.RowKit.intOf i).toNat)
    case atStart => exact ⟨0, Nat.zero_le _, rfl, lateI_nil _, rfl⟩
    case round =>
      obtain ⟨k, hk, rfl, hla, rfl⟩ := hrel
      have HL := Lib.hid hla
      clear hla
      by_cases hlt : k < l.length
      · have x0 := (HC.out k hlt).1
        have x1 := (HC.out k hlt).2
        have hlt2 : (k : Int) < (l.length : Int) := by omega
        have g0 := (HT.out.each k hlt).1
        have g1 := (HT.out.each k hlt).2
        have hh := hitV_eq (x := spanAt l k) (loc := want) (by rw [spanAt_fst hlt]; exact g1) (by omega)
        rw [spanAt_fst hlt] at hh
        obtain ⟨f, hf⟩ : ∃ f, l[k].f = f := ⟨_, rfl⟩
        obtain ⟨o, ho⟩ : ∃ o, l[k].o = o := ⟨_, rfl⟩
        rw [hf] at x0 g0 hh
        rw [ho] at x1 g1 hh
        clear hf ho
        obtain ⟨en, hen⟩ : ∃ en, (spanAt l k).2 = en := ⟨_, rfl⟩
        obtain ⟨tv, htv⟩ : ∃ tv, max f (want - o) = tv := ⟨_, rfl⟩
        rw [htv] at hh
        have HY : Hid (tv ≤ en → instR l day minute = (tv, 0)) := by
          show _ → _
          intro h
          obtain ⟨rest, hrest⟩ := upto_split l (k + 1) (by omega)
          rw [upto_succ, List.append_assoc, List.singleton_append] at hrest
          rw [HR.out, hrest, firstOf_hit HL.out (by rw [hh, hen]; exact h), hh]
        have HNO : Hid (¬ tv ≤ en → LateI (upto (spanAt l) (k + 1)) want) := by
          show _ → _
          intro h
          rw [upto_succ]
          exact lateI_snoc HL.out (by rw [hh, hen]; omega)
        clear hh
        have hcase : (want - o < f ∧ tv = f) ∨ (f ≤ want - o ∧ tv = want - o) := by omega
        clear htv
        rcases hcase with ⟨c1, rfl⟩ | ⟨c1, rfl⟩
        · by_cases hn : k + 1 < l.length
          · have y0 := (HC.out (k + 1) hn).1
            have hn2 : (k : Int) + 1 < (l.length : Int) := by omega
            have gg := (HT.out.each (k + 1) hn).1
            rw [spanAt_mid hn] at hen
            have ea : off + (k + 1) * 2 = off + (k + 1) * 2 := rfl
            obtain ⟨f2, hf2⟩ : ∃ f2, l[k + 1].f = f2 := ⟨_, rfl⟩
            rw [hf2] at y0 gg hen
            clear hf2 ea
            subst hen
            by_cases hle : tv ≤ f2 - 1
            · have HY2 := Lib.hid (HY.out hle)
              go_wp2_with fail
              go_ret2
              rw [HY2.out]
              exact ⟨rfl, HZ.out ▸ S1.be⟩
            · have HN2 := Lib.hid (HNO.out hle)
              go_wp2_with fail
              go_roundw
              case rel => exact ⟨k + 1, by omega, by go_num, HN2.out, by first | rfl | trivial⟩
              case measure => simp [Go.RowKit.intOf]; omega
          · have hn2 : ¬ (k : Int) + 1 < (l.length : Int) := by omega
            rw [spanAt_last hn] at hen
            subst hen
            by_cases hle : tv ≤ 144001439
            · have HY2 := Lib.hid (HY.out hle)
              go_wp2_with fail
              go_ret2
              rw [HY2.out]
              exact ⟨rfl, HZ.out ▸ S1.be⟩
            · exfalso; omega
        · by_cases hn : k + 1 < l.length
          · have y0 := (HC.out (k + 1) hn).1
            have hn2 : (k : Int) + 1 < (l.length : Int) := by omega
            have gg := (HT.out.each (k + 1) hn).1
            rw [spanAt_mid hn] at hen
            have ea : off + (k + 1) * 2 = off + (k + 1) * 2 := rfl
            obtain ⟨f2, hf2⟩ : ∃ f2, l[k + 1].f = f2 := ⟨_, rfl⟩
            rw [hf2] at y0 gg hen
            clear hf2 ea
            subst hen
            by_cases hle : (want - o) ≤ f2 - 1
            · have HY2 := Lib.hid (HY.out hle)
              go_wp2_with fail
              go_ret2
              rw [HY2.out]
              exact ⟨rfl, HZ.out ▸ S1.be⟩
            · have HN2 := Lib.hid (HNO.out hle)
              go_wp2_with fail
              go_roundw
              case rel => exact ⟨k + 1, by omega, by go_num, HN2.out, by first | rfl | trivial⟩
              case measure => simp [Go.RowKit.intOf]; omega
          · have hn2 : ¬ (k : Int) + 1 < (l.length : Int) := by omega
            rw [spanAt_last hn] at hen
            subst hen
            by_cases hle : (want - o) ≤ 144001439
            · have HY2 := Lib.hid (HY.out hle)
              go_wp2_with fail
              go_ret2
              rw [HY2.out]
              exact ⟨rfl, HZ.out ▸ S1.be⟩
            · have HN2 := Lib.hid (HNO.out hle)
              go_wp2_with fail
              go_roundw
              case rel => exact ⟨k + 1, by omega, by go_num, HN2.out, by first | rfl | trivial⟩
              case measure => simp [Go.RowKit.intOf]; omega
      · have HR2 : Hid (instR l day minute = (0, 10)) := by
          show _ = _
          obtain rfl : k = l.length := by omega
          rw [HR.out]
          exact firstOf_none HL.out
        go_wp2_with fail
        go_ret2
        rw [HR2.out]
        exact ⟨rfl, HZ.out ▸ S1.be⟩
  · have hv' : validB l = false := by simpa using hv
    have HR : Hid (instR l day minute = (0, 1)) := by show _ = _; unfold instR; rw [if_neg (fun h => hv h.1)]
    rw [hv']
    clear hv hv'
    go_wp2_with fail
    go_ret2
    rw [HR.out]
    exact ⟨rfl, HZ.out ▸ S1.be⟩
end Go.Proofs.YtgjombfcldihhaaDoor
