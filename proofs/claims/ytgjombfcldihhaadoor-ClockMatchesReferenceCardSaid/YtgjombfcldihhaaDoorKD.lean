/- clock.Local.
   Conditions: the zone's shifts lie in memory as ShiftsAt says. -/
import Derived.Test.YtgjombfcldihhaaDoorKC
namespace Go.Proofs.YtgjombfcldihhaaDoor
open Go.RowKit Go.Lib Go.Shelf
set_option linter.unusedVariables false
attribute [local go_sem] Oper.semAt_some

/-- the offset of the first span that reaches an instant -/
def offOf : List (Sh × Int) → Int → Int
  | [], _ => 0
  | x :: r, t => if t ≤ x.2 then x.1.o else offOf r t
theorem offOf_none {l : List (Sh × Int)} {t : Int} (h : ∀ x ∈ l, x.2 < t) : offOf l t = 0 := by
  induction l with
  | nil => rfl
  | cons x l ih =>
    have := h x (by simp)
    rw [offOf, if_neg (by omega)]
    exact ih fun y hy => h y (by simp [hy])
theorem offOf_hit {pre rest : List (Sh × Int)} {x : Sh × Int} {t : Int} (h : ∀ y ∈ pre, y.2 < t) (hx : t ≤ x.2) : offOf (pre ++ x :: rest) t = x.1.o := by
  induction pre with
  | nil => rw [List.nil_append, offOf, if_pos hx]
  | cons y pre ih =>
    have := h y (by simp)
    rw [List.cons_append, offOf, if_neg (by omega)]
    exact ih fun z hz => h z (by simp [hz])
theorem upto_split (l : List Sh) (k : Nat) (hk : k ≤ l.length) : ∃ rest, spansOf l = upto (spanAt l) k ++ rest := by
  refine ⟨(spansOf l).drop k, ?_⟩
  have e : upto (spanAt l) k = (spansOf l).take k := by
    unfold upto spansOf
    rw [← List.map_take, List.take_range, Nat.min_eq_left hk]
  rw [e, List.take_append_drop]
def localOf (l : List Sh) (t : Int) : Int := t + offOf (spansOf l) t
def localR (l : List Sh) (t : Int) : Int × Int × Int := if validB l = true ∧ isB t = true then (localOf l t / 1440, localOf l t % 1440, 0) else (0, 0, 1)

theorem shsOk_all {first : Bool} {last : Int} {l : List Sh} (h : shsOk first last l = true) : ∀ s ∈ l, (0 ≤ s.f ∧ s.f ≤ 144001439) ∧ -840 ≤ s.o ∧ s.o ≤ 840 := by
  induction l generalizing first last with
  | nil => intro s hs; simp at hs
  | cons x l ih =>
    simp only [shsOk, Bool.and_eq_true] at h
    intro s hs
    rcases List.mem_cons.1 hs with rfl | hs
    · have := shOk_good h.1
      exact ⟨this.2.2.1, this.2.2.2⟩
    · exact ih h.2 s hs
theorem valid_facts {l : List Sh} (h : validB l = true) : (∀ s ∈ l, (0 ≤ s.f ∧ s.f ≤ 144001439) ∧ -840 ≤ s.o ∧ s.o ≤ 840) ∧ 0 < l.length ∧ l.length ≤ 20 := by
  simp only [validB, Bool.and_eq_true, decide_eq_true_eq] at h
  exact ⟨shsOk_all h.1, h.2.1, h.2.2⟩

theorem wrap64_id {n : Int} (h1 : -9223372036854775808 ≤ n) (h2 : n ≤ 9223372036854775807) : wrap64 n = n := by
  unfold wrap64
  omega
theorem floor_split (v : Int) (hv : -10000 ≤ v ∧ v ≤ 144010000) : ∃ q r : Int, v.tdiv 1440 = q ∧ v.tmod 1440 = r ∧ (-1000000 ≤ q ∧ q ≤ 1000000 ∧ -1440 ≤ r ∧ r ≤ 1440) ∧ ((0 ≤ r ∧ q = v / 1440 ∧ r = v % 1440) ∨ (r < 0 ∧ q - 1 = v / 1440 ∧ r + 1440 = v % 1440)) := by
  by_cases h0 : 0 ≤ v
  · have e1 := Int.tdiv_eq_ediv_of_nonneg (b := 1440) h0
    have e2 := Int.tmod_eq_emod_of_nonneg (b := 1440) h0
    refine ⟨_, _, rfl, rfl, ?_, ?_⟩
    · rw [e1, e2]; omega
    · rw [e1, e2]; omega
  · obtain ⟨u, rfl⟩ : ∃ u : Int, v = -u := ⟨-v, by omega⟩
    have e1 := Int.tdiv_eq_ediv_of_nonneg (b := 1440) (show 0 ≤ u by omega)
    have e2 := Int.tmod_eq_emod_of_nonneg (b := 1440) (show 0 ≤ u by omega)
    refine ⟨_, _, rfl, rfl, ?_, ?_⟩
    · rw [Int.neg_tdiv, Int.neg_tmod, e1, e2]; omega
    · rw [Int.neg_tdiv, Int.neg_tmod, e1, e2]; omega
def Late (l : List (Sh × Int)) (t : Int) : Prop := ∀ x ∈ l, x.2 < t
theorem late_nil (t : Int) : Late [] t := fun x hx => by simp at hx
theorem late_snoc {l : List (Sh × Int)} {x : Sh × Int} {t : Int} (h : Late l t) (hx : x.2 < t) : Late (l ++ [x]) t := fun y hy => by
  rcases List.mem_append.1 hy with h1 | h1
  · exact h y h1
  · simp at h1; subst h1; exact hx
theorem spansOf_mem {l : List Sh} {x : Sh × Int} (h : x ∈ spansOf l) : x.1 ∈ l := by
  obtain ⟨k, hk, rfl⟩ := List.mem_map.1 h
  have hk' := List.mem_range.1 hk
  unfold spanAt
  rw [List.getElem?_eq_getElem hk']
  exact List.getElem_mem hk'
set_option maxRecDepth 100000 in
set_option maxHeartbeats 4000000 in
theorem local_calls (w : World) (A : Option Addr) (cap : Nat) (l : List Sh) (hl : ShiftsAt w A l) (hlen : l.length ≤ 9223372036854775807) (t : Int) :
    Calls Tryd.prog 13 #[zoneVal A l.length cap, .int .i64 t] w fun e w' => e = .returned (.tuple #[.int .i64 (localR l t).1, .int .i64 (localR l t).2.1, .int .i64 (localR l t).2.2]) ∧ Below w.heap.size w w' := by
  have HL := Lib.hid hl
  clear hl
  have hval := fun (W : World) (hW : Below w.heap.size w W) => valid_calls W A cap l (HL.out.below hW) hlen
  simp only [zoneVal] at hval ⊢
  refine (callsIn_wide (n := 5)).1 ?_
  refine callsIn_of_wp_marks Tryd.func13 rfl trivial ?_ rfl
  simp only [Tryd.ntmps13, List.size_toArray, List.length_cons, List.length_nil, Nat.reduceAdd, Nat.reduceSub, Array.replicate_succ, Array.replicate_zero, List.push_toArray, List.append_toArray, List.nil_append, List.cons_append]
  have hb0 : Below w.heap.size w ((w.alloc (.cells #[.slice A l.length cap] 24)).alloc (.cells #[.int .i64 t] 3)) := ((Below.refl _ w).alloc (Nat.le_refl _) _).alloc (by simp) _
  have hv0 := (hval _ hb0).mono (R' := fun e w1 => e = .returned (.bool (validB l)) ∧ Boxed w1 w.heap.size 24 (.slice A l.length cap) ∧ Boxed w1 (w.heap.size + 1) 3 (.int .i64 t) ∧ Below w.heap.size w w1 ∧ w.heap.size + 2 ≤ w1.heap.size) (fun e w1 ⟨he, hb⟩ => by
    have b0 := (Boxed.new w 24 (.slice A l.length cap)).alloc (.cells #[.int .i64 t] 3)
    have b1 := Boxed.new (w.alloc (.cells #[.slice A l.length cap] 24)) 3 (.int .i64 t)
    have hs := hb.size
    simp only [World.size_alloc] at b1 hs
    exact ⟨he, (hb.block _ (by simp; omega)).trans b0, (hb.block _ (by simp)).trans b1, hb0.trans (hb.mono hb0.size), hs⟩)
  clear hval hb0
  by_cases hv : validB l = true
  · rw [hv] at hv0
    by_cases ht : isB t = true
    · have hi0 := fun W => instant_calls W t
      rw [ht] at hi0
      have HLR : Hid (localR l t = (localOf l t / 1440, localOf l t % 1440, 0)) := by show _ = _; unfold localR; rw [if_pos ⟨hv, ht⟩]
      have HV := Lib.hid hv
      have HT := Lib.hid ht
      clear hv ht
      gi_wp2_with (first
        | (refine ⟨trivial, ?_⟩; gi_at_call 22; refine (callsIn_wide.2 hv0).mono ?_; clear hv0; rintro e w1 ⟨rfl, b0, b1, hb1, hs1⟩; have c0 := b0.cell; have c1 := b1.cell; have k0 := b0.lt; have k1 := b1.lt)
        | (refine ⟨trivial, ?_⟩; gi_at_call 26; refine (callsIn_wide.2 (hi0 _)).mono ?_; rintro e w2 ⟨rfl, rfl⟩)
        | (refine ⟨trivial, ?_⟩; gi_at_call 27; refine (spans_in Fence.wide _ trivial rfl A l.length cap _).mono ?_; rintro e w3 ⟨rfl, rfl⟩))
      have hvf := valid_facts HV.out
      have bL := (Boxed.new w1 3 (.int .i64 t)).alloc (.cells #[.slice A l.length cap] 24)
      have bZ := Boxed.new (w1.alloc (.cells #[.int .i64 t] 3)) 24 (.slice A l.length cap)
      have bT := (b1.alloc (.cells #[.int .i64 t] 3)).alloc (.cells #[.slice A l.length cap] 24)
      have hB0 := (hb1.alloc hb1.size (.cells #[.int .i64 t] 3)).alloc (by have := hb1.size; simp; omega) (.cells #[.slice A l.length cap] 24)
      have hsz : ((w1.alloc (.cells #[.int .i64 t] 3)).alloc (.cells #[.slice A l.length cap] 24)).heap.size = w1.heap.size + 2 := by simp
      simp only [World.size_alloc] at bZ
      generalize (w1.alloc (.cells #[.int .i64 t] 3)).alloc (.cells #[.slice A l.length cap] 24) = W0 at bL bZ bT hB0 hsz ⊢
      refine wpIn_rangeFunc_ownH rfl (by omega) (gf := 36) (lb := #[.pointer (some ⟨w1.heap.size + 1, 0, none⟩)]) rfl trivial (enters_of Tryd.func36 (by kernel_rfl) rfl)
        (spans_stops Fence.wide (5 - 1) trivial rfl (by omega) (w1.heap.size + 1) w.heap.size A cap l (fun s hs => (hvf.1 s hs).1) (by omega) hvf.2.1 W0 (by omega) (by omega) bZ.cell w (Nat.le_refl _) HL.out hB0)
        keepZ_t (keepZ_b (by omega) (by omega)) (Below.refl _ _) (fun _ => rfl)
        (fun pre W => (((Boxed W w1.heap.size 3 (.int .i64 t) ∧ Boxed W (w.heap.size + 1) 3 (.int .i64 t)) ∧ Boxed W (w1.heap.size + 1) 24 (.slice A l.length cap)) ∧ Late pre t) ∧ Below w.heap.size w W)
        (fun c pre W => c = .exit 0 ∧ (∃ pre' x, pre = pre' ++ [x] ∧ Late pre' t ∧ t ≤ x.2 ∧ Boxed W w1.heap.size 3 (.int .i64 (wrap64 (t + x.1.o)))) ∧ Below w.heap.size w W)
        (OwnFrom.and (OwnFrom.and (OwnFrom.and (OwnFrom.and (Own.from (boxed_own _ _ _) _) (Own.from (boxed_own _ _ _) _)) (Own.from (boxed_own _ _ _) _)) (ownFrom_pure _ _)) (ownFrom_below (Nat.le_refl _) (by omega)))
        (fun c s X Y row hs hg hr => by
          obtain ⟨hc, ⟨pre', x, q1, q2, q3, q4⟩, hb⟩ := hs
          exact ⟨hc, ⟨pre', x, q1, q2, q3, boxed_own w1.heap.size 3 (fun (_ : Unit) => Value.int .i64 (wrap64 (t + x.1.o))) () X Y row q4 hg (fun r e => (hr r e).2)⟩, ownFrom_below (β := Unit) (B := W0.heap.size) (Nat.le_refl _) (by omega) () X Y row hb hg hr⟩)
        ⟨⟨⟨⟨bL, bT⟩, bZ⟩, late_nil t⟩, hB0⟩
        (fun x a' W => ∃ Bx, w1.heap.size + 1 < Bx ∧ W.heap[Bx]? = some (.cells #[.int .i64 x.1.f, .int .i64 x.1.o, .int .i64 x.2] 57 (0, 0)) ∧ a' = { tmps := #[.agg #[.slice A l.length cap], .int .i64 t, .pointer (some ⟨w.heap.size, 0, none⟩), .pointer (some ⟨w.heap.size + 1, 0, none⟩), .int .i64 0, .int .i64 0, .int .i64 0, .pointer (some ⟨w1.heap.size, 0, none⟩), .pointer (some ⟨Bx, 0, none⟩), undef, undef, .agg #[.slice A l.length cap], .bool true, .bool false, .bool false, .int .i64 t, .bool true, .bool false, .bool false, .int .i64 t, .agg #[.slice A l.length cap], .func (.func 36) #[] #[.pointer (some ⟨w1.heap.size + 1, 0, none⟩)], .agg #[.int .i64 x.1.f, .int .i64 x.1.o, .int .i64 x.2], undef, undef, undef, undef, undef, undef, undef, undef, undef, undef, undef, undef, undef, undef, undef, undef, undef, undef, undef, undef, undef], defers := [] })
        (fun x a' _ X Y row hs hg hr => by
          obtain ⟨Bx, q1, q2, q3⟩ := hs
          exact ⟨Bx, q1, (hg.block Bx (blk_lt q2) (fun e => by obtain ⟨o, ho, hc⟩ := (hr Bx e.symm).2; rw [q2] at ho; cases ho; cases hc)).trans q2, q3⟩)
        ?assign ?body ?done ?stop
      case assign =>
        rintro lk pre x W K ⟨⟨⟨⟨bL1, bT1⟩, bZ1⟩, hp⟩, hB1⟩ hK
        simp only [spanEnc]
        gi_wp2
        exact hK _ _ ((KeepsOthers.alloc _ _).from _) ⟨(Below.refl _ W).alloc hB1.size _, Below.heap_alloc _ _ _ bZ1.lt⟩ ⟨⟨⟨⟨bL1.alloc _, bT1.alloc _⟩, bZ1.alloc _⟩, hp⟩, hB1.alloc hB1.size _⟩ ⟨W.heap.size, bZ1.lt, heap_alloc_new _ _, rfl⟩
      case body =>
        rintro lk pre x a' W hlk ⟨r, hr⟩ ⟨⟨⟨⟨bL1, bT1⟩, bZ1⟩, hp⟩, hB1⟩ ⟨Bx, hBx, bX, rfl⟩ hltk
        have cT := bT1.cell
        have cL := bL1.cell
        have fL := bL1.frozen
        have x1 := cell_blk bX 1
        have x2 := cell_blk bX 2
        simp only [List.getElem?_toArray, List.getElem?_cons_zero, List.getElem?_cons_succ] at x1 x2
        by_cases hx : t ≤ x.2
        · gi_wp2
          exact ⟨(KeepsOthers.setCell _ _ _).from _, rfl, ⟨pre, x, rfl, hp, hx, bL1.set _⟩, hB1.setCell (p := ⟨w1.heap.size, 0, none⟩) (by show _ ≤ w1.heap.size; omega) _⟩
        · gi_wp2
          exact ⟨KeepsFrom.refl _ _, ⟨Below.refl _ _, rfl⟩, ⟨⟨⟨bL1, bT1⟩, bZ1⟩, late_snoc hp (by omega)⟩, hB1⟩
      case done =>
        rintro D xs W hD rfl ⟨⟨⟨⟨bL1, bT1⟩, bZ1⟩, hp⟩, hB1⟩ hK
        have hvb : -10000 ≤ t ∧ t ≤ 144010000 := by have := HT.out; simp only [isB, Bool.and_eq_true, decide_eq_true_eq] at this; omega
        have HLO : Hid (localOf l t = t) := by show _ = _; unfold localOf; rw [offOf_none hp]; omega
        obtain ⟨v, hv⟩ : ∃ v, t = v := ⟨_, rfl⟩
        have cL : W.cell? ⟨w1.heap.size, 0, none⟩ = some (.int .i64 v) := by rw [← hv]; exact bL1.cell
        rw [hv] at hvb
        have HLO2 := Lib.hid (HLO.out.trans hv)
        clear HLO hv hi0 c0 c1 bL bZ bT bZ1 bL1 bT1
        have HLO := HLO2
        clear HLO2
        obtain ⟨q, r, hq, hr, hqb, hqr⟩ := floor_split v hvb
        have HQR := Lib.hid hqr
        have HQ2 := Lib.hid hq
        clear hqr
        rcases HQR.out with ⟨z1, z2, z3⟩ | ⟨z1, z2, z3⟩
        all_goals
          have Z2 := Lib.hid z2
          have Z3 := Lib.hid z3
          clear z2 z3
          gi_wp2
          gi_region
          gi_wp2
          refine ⟨by simp, .inl ⟨_, _, rfl, run_takeDeferred hK, ?_⟩⟩
          refine ⟨_, results_tmp3 rfl _ _ _, ?_⟩
          rw [HLR.out, HLO.out, ← Z2.out, ← Z3.out]
          exact ⟨rfl, (below_drew hB1).trans (belowK_b (w := w) (Nat.le_refl _) W.drew D _ _ (by omega) hK rfl rfl)⟩
      case stop =>
        rintro D c pre W hD ⟨k, hk, hpre⟩ ⟨rfl, ⟨pre', x, q1, q2, q3, bL1⟩, hB1⟩ hK
        obtain ⟨rest, hrest⟩ := upto_split l k hk
        rw [← hpre, q1, List.append_assoc, List.singleton_append] at hrest
        have hxm : x ∈ spansOf l := by rw [hrest]; simp
        have hxb := (hvf.1 _ (spansOf_mem hxm)).2
        have htb := HT.out
        simp only [isB, Bool.and_eq_true, decide_eq_true_eq] at htb
        have hlo : localOf l t = t + x.1.o := by unfold localOf; rw [hrest, offOf_hit q2 q3]
        have hw : wrap64 (t + x.1.o) = t + x.1.o := wrap64_id (by omega) (by omega)
        rw [hw] at bL1
        have hvb : -10000 ≤ t + x.1.o ∧ t + x.1.o ≤ 144010000 := by omega
        have cL := bL1.cell
        generalize t + x.1.o = v at hlo hvb cL
        have HLO := Lib.hid hlo
        clear hlo hw hxm hrest hpre hi0 c0 c1 bL bZ bT bL1 q2 htb hxb
        obtain ⟨q, r, hq, hr, hqb, hqr⟩ := floor_split v hvb
        have HQR := Lib.hid hqr
        have HQ2 := Lib.hid hq
        clear hqr
        rcases HQR.out with ⟨z1, z2, z3⟩ | ⟨z1, z2, z3⟩
        all_goals
          have Z2 := Lib.hid z2
          have Z3 := Lib.hid z3
          clear z2 z3
          gi_wp2
          gi_region
          gi_wp2
          refine ⟨by simp, .inl ⟨_, _, rfl, run_takeDeferred hK, ?_⟩⟩
          refine ⟨_, results_tmp3 rfl _ _ _, ?_⟩
          rw [HLR.out, HLO.out, ← Z2.out, ← Z3.out]
          exact ⟨rfl, (below_drew hB1).trans (belowK_b (w := w) (Nat.le_refl _) W.drew D _ _ (by omega) hK rfl rfl)⟩
    · have ht' : isB t = false := by simpa using ht
      have hi0 := fun W => instant_calls W t
      rw [ht'] at hi0
      have HLR : Hid (localR l t = (0, 0, 1)) := by show _ = _; unfold localR; rw [if_neg (fun h => ht h.2)]
      clear ht ht' hv
      gi_wp2_with (first
        | (refine ⟨trivial, ?_⟩; gi_at_call 22; refine (callsIn_wide.2 hv0).mono ?_; clear hv0; rintro e w1 ⟨rfl, b0, b1, hb1, hs1⟩; have c0 := b0.cell; have c1 := b1.cell; have k0 := b0.lt; have k1 := b1.lt)
        | (refine ⟨trivial, ?_⟩; gi_at_call 26; refine (callsIn_wide.2 (hi0 _)).mono ?_; rintro e w2 ⟨rfl, rfl⟩))
      exact ⟨_, results_tmp3 rfl _ _ _, by rw [HLR.out]; exact ⟨rfl, hb1⟩⟩
  · have hv' : validB l = false := by simpa using hv
    rw [hv'] at hv0
    have HLR : Hid (localR l t = (0, 0, 1)) := by show _ = _; unfold localR; rw [if_neg (fun h => hv h.1)]
    clear hv hv'
    gi_wp2_with (first
      | (refine ⟨trivial, ?_⟩; gi_at_call 22; refine (callsIn_wide.2 hv0).mono ?_; clear hv0; rintro e w1 ⟨rfl, b0, b1, hb1, hs1⟩; have c0 := b0.cell; have c1 := b1.cell; have k0 := b0.lt; have k1 := b1.lt))
    refine ⟨trivial, ?_⟩
    gi_wp2
    exact ⟨_, results_tmp3 rfl _ _ _, by rw [HLR.out]; exact ⟨rfl, hb1⟩⟩
end Go.Proofs.YtgjombfcldihhaaDoor
