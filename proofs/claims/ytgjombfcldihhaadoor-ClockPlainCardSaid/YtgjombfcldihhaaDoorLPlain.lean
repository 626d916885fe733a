/- ClockPlain: the walk.
   Conditions: the library's tables and sentinels are laid. -/
import Derived.Test.YtgjombfcldihhaaDoorKR
namespace Go.Proofs.YtgjombfcldihhaaDoor
open Go.RowKit Go.Lib
set_option linter.unusedVariables false
set_option linter.unusedSimpArgs false

theorem shifts_one (W : World) (off : Int) : ShiftsAt (W.alloc (.cells #[.int .i64 0, .int .i64 off] 40)) (some ⟨W.heap.size, 0, none⟩) [⟨0, off⟩] := fun _ => by
  refine ⟨W.heap.size, 0, rfl, by simp, fun k hk => ?_⟩
  have hn := heap_alloc_new W (.cells #[.int .i64 0, .int .i64 off] 40)
  match k, hk with
  | 0, _ => exact ⟨cell_blk hn 0, cell_blk hn 1⟩
/-- a zone of the call's own, boxed -/
theorem ZSt.own1 (w W : World) (off : Int) (hb : Below w.heap.size w W) : ZSt w (W.heap.size + 1) (some ⟨W.heap.size, 0, none⟩) 1 [⟨0, off⟩] ((W.alloc (.cells #[.int .i64 0, .int .i64 off] 40)).alloc (.cells #[.slice (some ⟨W.heap.size, 0, none⟩) 1 1] 24)) := by
  have hbe : Below w.heap.size w ((W.alloc (.cells #[.int .i64 0, .int .i64 off] 40)).alloc (.cells #[.slice (some ⟨W.heap.size, 0, none⟩) 1 1] 24)) := (hb.alloc hb.size _).alloc (by have := hb.size; simp; omega) _
  have hn := heap_alloc_new (W.alloc (.cells #[.int .i64 0, .int .i64 off] 40)) (.cells #[.slice (some ⟨W.heap.size, 0, none⟩) 1 1] 24)
  simp only [World.size_alloc] at hn
  exact ⟨(shifts_one W off).below ((Below.refl _ _).alloc (Nat.le_refl _) _), cell_blk hn 0, by simp, hbe⟩

set_option maxRecDepth 100000 in
set_option maxHeartbeats 8000000 in
theorem plain_walk (w : World) (hl : LaidC w) (roff raw rday : Int) (ho : 0 ≤ roff ∧ roff ≤ 4294967295) (hr : 0 ≤ raw ∧ raw ≤ 4294967295) (hd : 0 ≤ rday ∧ rday ≤ 4294967295) :
    Calls Tryd.prog 8 #[.int .u32 roff, .int .u32 raw, .int .u32 rday] w fun e w' => e = .returned (.bool true) ∧ Below w.heap.size w w' := by
  obtain ⟨ro0, ro1⟩ := ho
  obtain ⟨r0, r1⟩ := hr
  obtain ⟨rd0, rd1⟩ := hd
  obtain ⟨m, hm⟩ : ∃ m, roff % 1681 = m := ⟨_, rfl⟩
  obtain ⟨off, hoff⟩ : ∃ off, m - 840 = off := ⟨_, rfl⟩
  have o0 : -840 ≤ off := by omega
  have o1 : off ≤ 840 := by omega
  obtain ⟨t, ht⟩ : ∃ t, raw % 144001440 = t := ⟨_, rfl⟩
  have t0 : 0 ≤ t := by omega
  have t1 : t ≤ 144001439 := by omega
  obtain ⟨dm, hdm⟩ : ∃ m, rday % 99998 = m := ⟨_, rfl⟩
  obtain ⟨day, hday⟩ : ∃ d, dm + 1 = d := ⟨_, rfl⟩
  have d0 : 1 ≤ day := by omega
  have d1 : day ≤ 99998 := by omega
  obtain ⟨a, b, hR, hI, hab, b0, b1, a0, a1⟩ := plain_facts off o0 o1 t t0 t1
  obtain ⟨p, q, hP, hQ, hpq, p0, p1, q0, q1⟩ := plain_days off o0 o1 day d0 d1
  have HL := Lib.hid hl
  clear hl
  go_enter Tryd.func8, Tryd.ntmps8
  go_wp2_with fail
  refine (head_calls _ HL.out).mono ?_
  rintro e w1 ⟨rfl, hb1⟩
  have S1 := ZSt.own1 w w1 off hb1
  have HB1 := Lib.hid hb1
  clear hb1
  have hcA := S1.cell
  go_wp2_with fail
  generalize (w1.alloc (.cells #[.int .i64 0, .int .i64 off] 40)).alloc (.cells #[.slice (some ⟨w1.heap.size, 0, none⟩) 1 1] 24) = W1 at S1 hcA ⊢
  have hsz : w.heap.size ≤ w1.heap.size := HB1.out.size
  generalize w1.heap.size = g at S1 hcA hsz ⊢
  have cl := fun W (hW : ZSt w (g + 1) (some ⟨g, 0, none⟩) 1 [⟨0, off⟩] W) => local_calls W (some ⟨g, 0, none⟩) 1 [⟨0, off⟩] hW.zone (by simp) t
  have ci := fun W (hW : ZSt w (g + 1) (some ⟨g, 0, none⟩) 1 [⟨0, off⟩] W) => inst_calls W (some ⟨g, 0, none⟩) 1 [⟨0, off⟩] hW.zone (by simp) a b
  have cp := fun W (hW : ZSt w (g + 1) (some ⟨g, 0, none⟩) 1 [⟨0, off⟩] W) => begin_calls W (some ⟨g, 0, none⟩) 1 [⟨0, off⟩] hW.zone (by simp) day
  have cq := fun W (hW : ZSt w (g + 1) (some ⟨g, 0, none⟩) 1 [⟨0, off⟩] W) => begin_calls W (some ⟨g, 0, none⟩) 1 [⟨0, off⟩] hW.zone (by simp) (day + 1)
  rw [hR] at cl
  rw [hI] at ci
  rw [hP] at cp
  rw [hQ] at cq
  simp only [zoneVal, List.length_singleton] at cl ci cp cq hcA
  clear hR hI hP hQ
  have nb : (1440 * a + b != t + off) = false := by simp [hab]
  have HAB := Lib.hid hab
  refine (cl _ S1).mono ?_
  rintro e w2 ⟨rfl, hb⟩
  have S2 := S1.on hb
  clear hb hcA cl
  have hcA := S2.cell
  simp only [List.length_singleton] at hcA
  go_wp2_with fail
  refine (ci _ S2).mono ?_
  rintro e w3 ⟨rfl, hb⟩
  have S3 := S2.on hb
  clear hb hcA ci
  have hcA := S3.cell
  simp only [List.length_singleton] at hcA
  go_wp2_with fail
  refine (cp _ S3).mono ?_
  rintro e w4 ⟨rfl, hb⟩
  have S4 := S3.on hb
  clear hb hcA cp
  have hcA := S4.cell
  simp only [List.length_singleton] at hcA
  go_wp2_with fail
  refine (cq _ S4).mono ?_
  rintro e w5 ⟨rfl, hb⟩
  have S5 := S4.on hb
  clear hb hcA cq
  by_cases hp : p = 0
  · have e1 : (p == 0) = true := by simp [hp]
    clear hpq
    go_wp2_with fail
    go_ret
    exact ⟨rfl, S5.be⟩
  · have e1 : (p == 0) = false := by simp [hp]
    have e2 : (q - p == 1440) = true := by have : q - p = 1440 := by omega
                                           simp [this]
    clear hpq
    go_wp2_with fail
    go_ret
    exact ⟨rfl, S5.be⟩
end Go.Proofs.YtgjombfcldihhaaDoor
