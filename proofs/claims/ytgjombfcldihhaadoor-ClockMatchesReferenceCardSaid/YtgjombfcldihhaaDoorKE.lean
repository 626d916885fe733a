/- clock.Instant, clock.Begin.
   Conditions: the zone's shifts lie in memory as ShiftsAt says. -/
import Derived.Test.YtgjombfcldihhaaDoorKD
namespace Go.Proofs.YtgjombfcldihhaaDoor
open Go.RowKit Go.Lib Go.Shelf
set_option linter.unusedVariables false
attribute [local go_sem] Oper.semAt_some

def mx (a b : Int) : Int := if a < b then b else a
theorem max2_num (k k' : IntKind) (x y : Int) : Builtin.max2 (.int k x) (.int k' y) = pure (.int k (mx x y)) := by simp only [Builtin.max2, gt_iff_lt, mx]
theorem max_of_two (ats : Array TypeId) (ty : TypeId) (a b : Value) : Builtin.max_ ats ty #[a, b] = (Builtin.max2 a b >>= fun s => pure s) := by simp only [Builtin.max_, List.foldlM_cons, List.foldlM_nil]
attribute [local go_sem high] max2_num max_of_two

/-- the instant that a span has for a local time -/
def hitV (x : Sh × Int) (loc : Int) : Int := mx x.1.f (wrap64 (loc - x.1.o))
def firstOf : List (Sh × Int) → Int → Int × Int
  | [], _ => (0, 10)
  | x :: r, loc => if hitV x loc ≤ x.2 then (hitV x loc, 0) else firstOf r loc
def LateI (l : List (Sh × Int)) (loc : Int) : Prop := ∀ x ∈ l, x.2 < hitV x loc
theorem lateI_nil (t : Int) : LateI [] t := fun x hx => by simp at hx
theorem lateI_snoc {l : List (Sh × Int)} {x : Sh × Int} {t : Int} (h : LateI l t) (hx : x.2 < hitV x t) : LateI (l ++ [x]) t := fun y hy => by
  rcases List.mem_append.1 hy with h1 | h1
  · exact h y h1
  · simp at h1; subst h1; exact hx
theorem firstOf_none {l : List (Sh × Int)} {t : Int} (h : LateI l t) : firstOf l t = (0, 10) := by
  induction l with
  | nil => rfl
  | cons x l ih =>
    have := h x (by simp)
    rw [firstOf, if_neg (by omega)]
    exact ih fun y hy => h y (by simp [hy])
theorem firstOf_hit {pre rest : List (Sh × Int)} {x : Sh × Int} {t : Int} (h : LateI pre t) (hx : hitV x t ≤ x.2) : firstOf (pre ++ x :: rest) t = (hitV x t, 0) := by
  induction pre with
  | nil => rw [List.nil_append, firstOf, if_pos hx]
  | cons y pre ih =>
    have := h y (by simp)
    rw [List.cons_append, firstOf, if_neg (by omega)]
    exact ih fun z hz => h z (by simp [hz])
theorem boxed_past {W : World} {D B : Nat} {t : TypeId} {v : Value} (h : Boxed W B t v) (hK : W.heap[D]? = some (.deferred (some []))) : Boxed (W.putObj D (.deferred none)) B t v :=
  h.kept (grownBy_putObj' W D _) (fun e => by
    have e' : B = D := by injection e
    subst e'
    rw [show W.heap[B]? = _ from h] at hK
    cases hK)
def instR (l : List Sh) (day minute : Int) : Int × Int :=
  if validB l = true ∧ 0 ≤ minute ∧ minute < 1440 then (if 100001 < day then (0, 10) else firstOf (spansOf l) (mx day (-2) * 1440 + minute)) else (0, 1)

set_option maxRecDepth 100000 in
set_option maxHeartbeats 4000000 in
theorem inst_calls (w : World) (A : Option Addr) (cap : Nat) (l : List Sh) (hl : ShiftsAt w A l) (hlen : l.length ≤ 9223372036854775807) (day minute : Int) :
    Calls Tryd.prog 15 #[zoneVal A l.length cap, .int .i64 day, .int .i64 minute] w fun e w' => e = .returned (.tuple #[.int .i64 (instR l day minute).1, .int .i64 (instR l day minute).2]) ∧ Below w.heap.size w w' := by
  have HL := Lib.hid hl
  clear hl
  have hval := fun (W : World) (hW : Below w.heap.size w W) => valid_calls W A cap l (HL.out.below hW) hlen
  simp only [zoneVal] at hval ⊢
  refine (callsIn_wide (n := 5)).1 ?_
  refine callsIn_of_wp_marks Tryd.func15 rfl trivial ?_ rfl
  simp only [Tryd.ntmps15, List.size_toArray, List.length_cons, List.length_nil, Nat.reduceAdd, Nat.reduceSub, Array.replicate_succ, Array.replicate_zero, List.push_toArray, List.append_toArray, List.nil_append, List.cons_append]
  have hb0 : Below w.heap.size w (((w.alloc (.cells #[.slice A l.length cap] 24)).alloc (.cells #[.int .i64 0] 3)).alloc (.cells #[.int .i64 0] 27)) := (((Below.refl _ w).alloc (Nat.le_refl _) _).alloc (by simp) _).alloc (by simp; omega) _
  have hv0 := (hval _ hb0).mono (R' := fun e w1 => e = .returned (.bool (validB l)) ∧ Boxed w1 w.heap.size 24 (.slice A l.length cap) ∧ Boxed w1 (w.heap.size + 1) 3 (.int .i64 0) ∧ Boxed w1 (w.heap.size + 1 + 1) 27 (.int .i64 0) ∧ Below w.heap.size w w1 ∧ w.heap.size + 3 ≤ w1.heap.size) (fun e w1 ⟨he, hb⟩ => by
    have b0 := ((Boxed.new w 24 (.slice A l.length cap)).alloc (.cells #[.int .i64 0] 3)).alloc (.cells #[.int .i64 0] 27)
    have b1 := (Boxed.new (w.alloc (.cells #[.slice A l.length cap] 24)) 3 (.int .i64 0)).alloc (.cells #[.int .i64 0] 27)
    have b2 := Boxed.new ((w.alloc (.cells #[.slice A l.length cap] 24)).alloc (.cells #[.int .i64 0] 3)) 27 (.int .i64 0)
    have hs := hb.size
    simp only [World.size_alloc] at b1 b2 hs
    exact ⟨he, (hb.block _ (by simp <;> omega)).trans b0, (hb.block _ (by simp <;> omega)).trans b1, (hb.block _ (by simp <;> omega)).trans b2, hb0.trans (hb.mono hb0.size), hs⟩)
  clear hval hb0
  by_cases hv : validB l = true
  · rw [hv] at hv0
    by_cases hm : 0 ≤ minute ∧ minute < 1440
    · obtain ⟨m0, m1⟩ := hm
      by_cases hd : 100001 < day
      · have HLR : Hid (instR l day minute = (0, 10)) := by show _ = _; unfold instR; rw [if_pos ⟨hv, m0, m1⟩, if_pos hd]
        clear hv
        gi_wp2_with (first
          | (refine ⟨trivial, ?_⟩; gi_at_call 22; refine (callsIn_wide.2 hv0).mono ?_; clear hv0; rintro e w1 ⟨rfl, b0, b1, b2, hb1, hs1⟩; have c0 := b0.cell; have c1 := b1.cell; have k0 := b0.lt; have k1 := b1.lt; have c2 := b2.cell; have k2 := b2.lt; have f1 := b1.frozen; have f2 := b2.frozen))
        have bR2 := (b1.set (.int .i64 0)).other (B' := w.heap.size + 1 + 1) (by omega) (.int .i64 10)
        have bE2 := (b2.other (B' := w.heap.size + 1) (by omega) (.int .i64 0)).set (.int .i64 10)
        refine ⟨.tuple #[.int .i64 0, .int .i64 10], by simp [results, Tryd.results15, go_sem, bR2.cell, bE2.cell], ?_⟩
        rw [HLR.out]
        exact ⟨rfl, (hb1.setCell (p := ⟨w.heap.size + 1, 0, none⟩) (by show _ ≤ w.heap.size + 1; omega) _).setCell (p := ⟨w.heap.size + 1 + 1, 0, none⟩) (by show _ ≤ w.heap.size + 1 + 1; omega) _⟩
      · have HLR : Hid (instR l day minute = firstOf (spansOf l) (mx day (-2) * 1440 + minute)) := by show _ = _; unfold instR; rw [if_pos ⟨hv, m0, m1⟩, if_neg hd]
        have HV := Lib.hid hv
        clear hv
        have hmx : -2 ≤ mx day (-2) ∧ mx day (-2) ≤ 100001 := by unfold mx; split <;> omega
        gi_wp2_with (first
          | (refine ⟨trivial, ?_⟩; gi_at_call 22; refine (callsIn_wide.2 hv0).mono ?_; clear hv0; rintro e w1 ⟨rfl, b0, b1, b2, hb1, hs1⟩; have c0 := b0.cell; have c1 := b1.cell; have k0 := b0.lt; have k1 := b1.lt; have c2 := b2.cell; have k2 := b2.lt; have f1 := b1.frozen; have f2 := b2.frozen)
          | (refine ⟨trivial, ?_⟩; gi_at_call 27; refine (spans_in Fence.wide _ trivial rfl A l.length cap _).mono ?_; rintro e w3 ⟨rfl, rfl⟩))
        have hvf := valid_facts HV.out
        have bL := (Boxed.new w1 3 (.int .i64 (mx day (-2) * 1440 + minute))).alloc (.cells #[.slice A l.length cap] 24)
        have bZ := Boxed.new (w1.alloc (.cells #[.int .i64 (mx day (-2) * 1440 + minute)] 3)) 24 (.slice A l.length cap)
        have bR := (b1.alloc (.cells #[.int .i64 (mx day (-2) * 1440 + minute)] 3)).alloc (.cells #[.slice A l.length cap] 24)
        have bE := (b2.alloc (.cells #[.int .i64 (mx day (-2) * 1440 + minute)] 3)).alloc (.cells #[.slice A l.length cap] 24)
        have hB0 := (hb1.alloc hb1.size (.cells #[.int .i64 (mx day (-2) * 1440 + minute)] 3)).alloc (by have := hb1.size; simp; omega) (.cells #[.slice A l.length cap] 24)
        have hsz : ((w1.alloc (.cells #[.int .i64 (mx day (-2) * 1440 + minute)] 3)).alloc (.cells #[.slice A l.length cap] 24)).heap.size = w1.heap.size + 2 := by simp
        simp only [World.size_alloc] at bZ
        generalize (w1.alloc (.cells #[.int .i64 (mx day (-2) * 1440 + minute)] 3)).alloc (.cells #[.slice A l.length cap] 24) = W0 at bL bZ bR bE hB0 hsz ⊢
        refine wpIn_rangeFunc_ownH rfl (by omega) (gf := 36) (lb := #[.pointer (some ⟨w1.heap.size + 1, 0, none⟩)]) rfl trivial (enters_of Tryd.func36 (by kernel_rfl) rfl)
          (spans_stops Fence.wide (5 - 1) trivial rfl (by omega) (w1.heap.size + 1) w.heap.size A cap l (fun s hs => (hvf.1 s hs).1) (by omega) hvf.2.1 W0 (by omega) (by omega) bZ.cell w (Nat.le_refl _) HL.out hB0)
          keepZ_t (keepZ_b (by omega) (by omega)) (Below.refl _ _) (fun _ => rfl)
          (fun pre W => ((((Boxed W w1.heap.size 3 (.int .i64 (mx day (-2) * 1440 + minute)) ∧ Boxed W (w.heap.size + 1) 3 (.int .i64 0)) ∧ Boxed W (w.heap.size + 1 + 1) 27 (.int .i64 0)) ∧ Boxed W (w1.heap.size + 1) 24 (.slice A l.length cap)) ∧ LateI pre (mx day (-2) * 1440 + minute)) ∧ Below w.heap.size w W)
          (fun c pre W => c = .ret ∧ (∃ pre' x, pre = pre' ++ [x] ∧ LateI pre' (mx day (-2) * 1440 + minute) ∧ hitV x (mx day (-2) * 1440 + minute) ≤ x.2 ∧ Boxed W (w.heap.size + 1) 3 (.int .i64 (hitV x (mx day (-2) * 1440 + minute))) ∧ Boxed W (w.heap.size + 1 + 1) 27 (.int .i64 0)) ∧ Below w.heap.size w W)
          (OwnFrom.and (OwnFrom.and (OwnFrom.and (OwnFrom.and (OwnFrom.and (Own.from (boxed_own _ _ _) _) (Own.from (boxed_own _ _ _) _)) (Own.from (boxed_own _ _ _) _)) (Own.from (boxed_own _ _ _) _)) (ownFrom_pure _ _)) (ownFrom_below (Nat.le_refl _) (by omega)))
          (fun c s X Y row hs hg hr => by
            obtain ⟨hc, ⟨pre', x, q1, q2, q3, q4, q5⟩, hb⟩ := hs
            exact ⟨hc, ⟨pre', x, q1, q2, q3, boxed_own (w.heap.size + 1) 3 (fun (_ : Unit) => Value.int .i64 (hitV x (mx day (-2) * 1440 + minute))) () X Y row q4 hg (fun r e => (hr r e).2), boxed_own (w.heap.size + 1 + 1) 27 (fun (_ : Unit) => Value.int .i64 0) () X Y row q5 hg (fun r e => (hr r e).2)⟩, ownFrom_below (β := Unit) (B := W0.heap.size) (Nat.le_refl _) (by omega) () X Y row hb hg hr⟩)
          ⟨⟨⟨⟨⟨bL, bR⟩, bE⟩, bZ⟩, lateI_nil _⟩, hB0⟩
          (fun x a' W => ∃ Bx, w1.heap.size + 1 < Bx ∧ W.heap[Bx]? = some (.cells #[.int .i64 x.1.f, .int .i64 x.1.o, .int .i64 x.2] 57 (0, 0)) ∧ a' = { tmps := #[.agg #[.slice A l.length cap], .int .i64 day, .int .i64 minute, .pointer (some ⟨w.heap.size, 0, none⟩), undef, undef, .pointer (some ⟨w.heap.size + 1, 0, none⟩), .pointer (some ⟨w.heap.size + 1 + 1, 0, none⟩), .pointer (some ⟨w1.heap.size, 0, none⟩), .pointer (some ⟨Bx, 0, none⟩), undef, .bool (decide (minute < 0) || decide (1440 ≤ minute)), .agg #[.slice A l.length cap], .bool true, .bool false, .bool false, .int .i64 minute, .bool (decide (minute < 0)), .bool (decide (minute < 0)), .bool (decide (minute < 0)), .int .i64 minute, .bool (decide (1440 ≤ minute)), .bool (decide (minute < 0) || decide (1440 ≤ minute)), .bool (decide (100001 < day)), .int .i64 day, .bool (decide (100001 < day)), .int .i64 day, .int .i64 (mx day (-2)), .int .i64 (mx day (-2) * 1440), .int .i64 minute, .int .i64 (mx day (-2) * 1440 + minute), .agg #[.slice A l.length cap], .func (.func 36) #[] #[.pointer (some ⟨w1.heap.size + 1, 0, none⟩)], .agg #[.int .i64 x.1.f, .int .i64 x.1.o, .int .i64 x.2], undef, undef, undef, undef, undef, undef, undef, undef, undef, undef, undef, undef, undef, undef], defers := [] })
          (fun x a' _ X Y row hs hg hr => by
            obtain ⟨Bx, q1, q2, q3⟩ := hs
            exact ⟨Bx, q1, (hg.block Bx (blk_lt q2) (fun e => by obtain ⟨o, ho, hc⟩ := (hr Bx e.symm).2; rw [q2] at ho; cases ho; cases hc)).trans q2, q3⟩)
          ?assign ?body ?done ?stop
        case assign =>
          rintro lk pre x W K ⟨⟨⟨⟨⟨bL1, bR1⟩, bE1⟩, bZ1⟩, hp⟩, hB1⟩ hK
          simp only [spanEnc]
          gi_wp2
          exact hK _ _ ((KeepsOthers.alloc _ _).from _) ⟨(Below.refl _ W).alloc hB1.size _, Below.heap_alloc _ _ _ bZ1.lt⟩ ⟨⟨⟨⟨⟨bL1.alloc _, bR1.alloc _⟩, bE1.alloc _⟩, bZ1.alloc _⟩, hp⟩, hB1.alloc hB1.size _⟩ ⟨W.heap.size, bZ1.lt, heap_alloc_new _ _, rfl⟩
        case body =>
          rintro lk pre x a' W hlk ⟨r, hr⟩ ⟨⟨⟨⟨⟨bL1, bR1⟩, bE1⟩, bZ1⟩, hp⟩, hB1⟩ ⟨Bx, hBx, bX, rfl⟩ hltk
          have cL := bL1.cell
          have cR := bR1.cell
          have fR := bR1.frozen
          have cE := bE1.cell
          have fE := bE1.frozen
          have x0 := cell_blk bX 0
          have x1 := cell_blk bX 1
          have x2 := cell_blk bX 2
          simp only [List.getElem?_toArray, List.getElem?_cons_zero, List.getElem?_cons_succ] at x0 x1 x2
          obtain ⟨hv, hhv⟩ : ∃ hv, hitV x (mx day (-2) * 1440 + minute) = hv := ⟨_, rfl⟩
          have hhv' : mx x.1.f (wrap64 ((mx day (-2) * 1440 + minute) - x.1.o)) = hv := hhv
          have HH := Lib.hid hhv
          clear hhv
          by_cases hx : hv ≤ x.2
          · gi_wp2
            exact ⟨((KeepsOthers.setCell _ _ _).trans (KeepsOthers.setCell _ _ _)).from _, rfl, ⟨pre, x, rfl, hp, by rw [HH.out]; exact hx, by rw [HH.out]; exact (bR1.set _).other (by omega) _, (bE1.other (by omega) _).set _⟩, (hB1.setCell (p := ⟨w.heap.size + 1, 0, none⟩) (by show _ ≤ w.heap.size + 1; omega) _).setCell (p := ⟨w.heap.size + 1 + 1, 0, none⟩) (by show _ ≤ w.heap.size + 1 + 1; omega) _⟩
          · gi_wp2
            exact ⟨KeepsFrom.refl _ _, ⟨Below.refl _ _, rfl⟩, ⟨⟨⟨⟨bL1, bR1⟩, bE1⟩, bZ1⟩, lateI_snoc hp (by rw [HH.out]; omega)⟩, hB1⟩
        case done =>
          rintro D xs W hD rfl ⟨⟨⟨⟨⟨bL1, bR1⟩, bE1⟩, bZ1⟩, hp⟩, hB1⟩ hK
          have cR := bR1.cell
          have fR := bR1.frozen
          have cE := bE1.cell
          have fE := bE1.frozen
          have HLR2 : Hid (instR l day minute = (0, 10)) := HLR.out.trans (firstOf_none hp)
          gi_wp2
          have hK' := ((KeepsOthers.setCell W ⟨w.heap.size + 1, 0, none⟩ (.int .i64 0)).trans (KeepsOthers.setCell _ ⟨w.heap.size + 1 + 1, 0, none⟩ (.int .i64 10))).same D _ hK rfl
          refine ⟨by simp, .inl ⟨_, _, rfl, run_takeDeferred hK', ?_⟩⟩
          have bR2 := boxed_past ((bR1.set (.int .i64 0)).other (B' := w.heap.size + 1 + 1) (by omega) (.int .i64 10)) hK'
          have bE2 := boxed_past ((bE1.other (B' := w.heap.size + 1) (by omega) (.int .i64 0)).set (.int .i64 10)) hK'
          refine ⟨.tuple #[.int .i64 0, .int .i64 10], by simp [results, Tryd.results15, go_sem, bR2.cell, bE2.cell], ?_⟩
          rw [HLR2.out]
          exact ⟨rfl, ((hB1.setCell (p := ⟨w.heap.size + 1, 0, none⟩) (by show _ ≤ w.heap.size + 1; omega) _).setCell (p := ⟨w.heap.size + 1 + 1, 0, none⟩) (by show _ ≤ w.heap.size + 1 + 1; omega) _).trans (belowK_b (w := w) (Nat.le_refl _) _ D _ _ (by omega) hK' rfl rfl)⟩
        case stop =>
          rintro D c pre W hD ⟨k, hk, hpre⟩ ⟨rfl, ⟨pre', x, q1, q2, q3, bR1, bE1⟩, hB1⟩ hK
          obtain ⟨rest, hrest⟩ := upto_split l k hk
          rw [← hpre, q1, List.append_assoc, List.singleton_append] at hrest
          have HLR2 : Hid (instR l day minute = (hitV x (mx day (-2) * 1440 + minute), 0)) := HLR.out.trans (by rw [hrest]; exact firstOf_hit q2 q3)
          clear hrest hpre q1
          gi_wp2
          refine ⟨by simp, .inl ⟨_, _, rfl, run_takeDeferred hK, ?_⟩⟩
          have bR2 := boxed_past bR1 hK
          have bE2 := boxed_past bE1 hK
          refine ⟨.tuple #[.int .i64 (hitV x (mx day (-2) * 1440 + minute)), .int .i64 0], by simp [results, Tryd.results15, go_sem, bR2.cell, bE2.cell], ?_⟩
          rw [HLR2.out]
          exact ⟨rfl, hB1.trans (belowK_b (w := w) (Nat.le_refl _) W D _ _ (by omega) hK rfl rfl)⟩
    · have HLR : Hid (instR l day minute = (0, 1)) := by show _ = _; unfold instR; rw [if_neg (fun h => hm h.2)]
      have hm' : minute < 0 ∨ (0 ≤ minute ∧ 1440 ≤ minute) := by omega
      clear hv hm
      rcases hm' with m0 | ⟨m0, m1⟩
      all_goals
        gi_wp2_with (first
          | (refine ⟨trivial, ?_⟩; gi_at_call 22; refine (callsIn_wide.2 hv0).mono ?_; clear hv0; rintro e w1 ⟨rfl, b0, b1, b2, hb1, hs1⟩; have c0 := b0.cell; have c1 := b1.cell; have k0 := b0.lt; have k1 := b1.lt; have c2 := b2.cell; have k2 := b2.lt; have f1 := b1.frozen; have f2 := b2.frozen))
        have bR2 := (b1.set (.int .i64 0)).other (B' := w.heap.size + 1 + 1) (by omega) (.int .i64 1)
        have bE2 := (b2.other (B' := w.heap.size + 1) (by omega) (.int .i64 0)).set (.int .i64 1)
        refine ⟨.tuple #[.int .i64 0, .int .i64 1], by simp [results, Tryd.results15, go_sem, bR2.cell, bE2.cell], ?_⟩
        rw [HLR.out]
        exact ⟨rfl, (hb1.setCell (p := ⟨w.heap.size + 1, 0, none⟩) (by show _ ≤ w.heap.size + 1; omega) _).setCell (p := ⟨w.heap.size + 1 + 1, 0, none⟩) (by show _ ≤ w.heap.size + 1 + 1; omega) _⟩
  · have hv' : validB l = false := by simpa using hv
    rw [hv'] at hv0
    have HLR : Hid (instR l day minute = (0, 1)) := by show _ = _; unfold instR; rw [if_neg (fun h => hv h.1)]
    clear hv hv'
    gi_wp2_with (first
          | (refine ⟨trivial, ?_⟩; gi_at_call 22; refine (callsIn_wide.2 hv0).mono ?_; clear hv0; rintro e w1 ⟨rfl, b0, b1, b2, hb1, hs1⟩; have c0 := b0.cell; have c1 := b1.cell; have k0 := b0.lt; have k1 := b1.lt; have c2 := b2.cell; have k2 := b2.lt; have f1 := b1.frozen; have f2 := b2.frozen))
    have bR2 := (b1.set (.int .i64 0)).other (B' := w.heap.size + 1 + 1) (by omega) (.int .i64 1)
    have bE2 := (b2.other (B' := w.heap.size + 1) (by omega) (.int .i64 0)).set (.int .i64 1)
    refine ⟨.tuple #[.int .i64 0, .int .i64 1], by simp [results, Tryd.results15, go_sem, bR2.cell, bE2.cell], ?_⟩
    rw [HLR.out]
    exact ⟨rfl, (hb1.setCell (p := ⟨w.heap.size + 1, 0, none⟩) (by show _ ≤ w.heap.size + 1; omega) _).setCell (p := ⟨w.heap.size + 1 + 1, 0, none⟩) (by show _ ≤ w.heap.size + 1 + 1; omega) _⟩
end Go.Proofs.YtgjombfcldihhaaDoor
