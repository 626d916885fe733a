/- clock.spans: what its iterator hands to a loop.
   Conditions: the zone's shifts lie in memory as ShiftsAt says and are instants. -/
import Derived.Test.YtgjombfcldihhaaDoorKB
import Derived.RangeFuncNested
import Derived.RangeFuncBound
import Derived.RangeFuncCalls
import Derived.RangeFuncLeaves
import Derived.RangeFuncBox
import Derived.Shelf.Abstract
import Derived.Shelf.RegionOpen
import Derived.OwnWalkIn
import Derived.TacticsInMore
import Derived.LoopNIn
import Derived.LoopIn
namespace Go.Proofs.YtgjombfcldihhaaDoor
open Go.RowKit Go.Lib Go.Shelf
set_option linter.unusedVariables false
attribute [local go_sem] Oper.semAt_some

instance : Inhabited Sh := ⟨⟨0, 0⟩⟩
/-- a shift with the last instant that it concerns -/
def spanAt (l : List Sh) (k : Nat) : Sh × Int := (l[k]?.getD default, if k + 1 < l.length then (l[k + 1]?.getD default).f - 1 else 144001439)
def spansOf (l : List Sh) : List (Sh × Int) := (List.range l.length).map (spanAt l)
def upto {α : Type} (f : Nat → α) (k : Nat) : List α := (List.range k).map f
theorem upto_succ {α : Type} (f : Nat → α) (k : Nat) : upto f (k + 1) = upto f k ++ [f k] := by simp [upto, List.range_succ]
theorem upto_length {α : Type} (f : Nat → α) (k : Nat) : (upto f k).length = k := by simp [upto]
def spanEnc (x : Sh × Int) : Array Value := #[.agg #[.int .i64 x.1.f, .int .i64 x.1.o, .int .i64 x.2]]

/-- what a round keeps: what lay below, and the zone's box -/
def KeepZ (n₀ bz : Nat) (W W' : World) : Prop := Below n₀ W W' ∧ W'.heap[bz]? = W.heap[bz]?
theorem keepZ_t {n₀ bz : Nat} {A B C : World} (h : KeepZ n₀ bz A B) (k : KeepZ n₀ bz B C) : KeepZ n₀ bz A C := ⟨h.1.trans k.1, k.2.trans h.2⟩
theorem keepZ_b {n₀ bz : Nat} {w : World} (h : n₀ ≤ w.heap.size) (hz : bz < w.heap.size) : ∀ (W : World) (l : Nat) (o o' : Obj), w.heap.size ≤ l → W.heap[l]? = some o → o.isCells = false → o.isWalk = false → KeepZ n₀ bz W (W.putObj l o') :=
  fun W l o o' hl ho h1 h2 => ⟨(Below.refl n₀ W).grown (grownBy_putObj' W l o') (by have := blk_lt ho; omega) (fun k e => by cases e; omega), (grownBy_putObj' W l o').block bz (by have := blk_lt ho; omega) (fun e => by injection e with e; omega)⟩

set_option maxRecDepth 100000 in
set_option maxHeartbeats 2000000 in
theorem spans1_in (F : Fence) (n : Nat) (hF : F.fn 36) (hro : F.round = none) (hn : 1 ≤ n) (l bz n₀ b off cap : Nat) (zs : List Sh) (hzs : ∀ s ∈ zs, 0 ≤ s.f ∧ s.f ≤ 144001439) (hlen : zs.length ≤ 9223372036854775806) (hb : b < n₀) (J Jx : List (Sh × Int) → World → Prop)
    (W : World) (hJ : AbidesFrom W.heap.size J) (hn0 : n₀ ≤ W.heap.size) (hbz : bz < W.heap.size)
    (hY : ∀ pre x W1, J pre W1 → pre.length < zs.length → YieldAt F (n - 1) Tryd.prog l (spanEnc x) W1 fun e W' =>
      (e = .returned (.bool true) ∧ J (pre ++ [x]) W' ∧ KeepZ n₀ bz W1 W') ∨ (e = .returned (.bool false) ∧ Jx (pre ++ [x]) W'))
    (hz : W.cell? ⟨bz, 0, none⟩ = some (.slice (some ⟨b, off, none⟩) zs.length cap)) (hc : ∀ k (h : k < zs.length), W.cell? ⟨b, off + k * 2, none⟩ = some (.int .i64 zs[k].f) ∧ W.cell? ⟨b, off + k * 2 + 1, none⟩ = some (.int .i64 zs[k].o)) (h0 : J [] W) :
    CallsIn F n Tryd.prog 36 #[.func (.yield l) #[] #[], .pointer (some ⟨bz, 0, none⟩)] W fun e W' => (∃ v, e = .returned v) ∧
      ((∃ ys, ys = spansOf zs ∧ J ys W') ∨ (∃ pre, (∃ k, k ≤ zs.length ∧ pre = upto (spanAt zs) k) ∧ Jx pre W')) := by
  refine callsIn_of_wp Tryd.func36 rfl hF ?_ hro
  simp only [Tryd.ntmps36, List.size_toArray, List.length_cons, List.length_nil, Nat.reduceAdd, Nat.reduceSub, Array.replicate_succ, Array.replicate_zero, List.push_toArray, List.append_toArray, List.nil_append, List.cons_append]
  gi_wp2
  gi_loopw [9] (fun i wr => ∃ k : Nat, k ≤ zs.length ∧ i = .int .i64 k ∧ J (upto (spanAt zs) k) wr ∧ KeepZ n₀ bz W wr ∧ W.heap.size ≤ wr.heap.size)
    (fun i _ => zs.length - (intOf i).toNat)
  case atStart => exact ⟨0, Nat.zero_le _, rfl, h0, ⟨Below.refl _ _, rfl⟩, Nat.le_refl _⟩
  case round =>
    obtain ⟨k, hk, rfl, hJs, hkz, hsz⟩ := hrel
    have hcz : wr.cell? ⟨bz, 0, none⟩ = some (.slice (some ⟨b, off, none⟩) zs.length cap) := (World.cell?_of_block (w := W) (a := ⟨bz, 0, none⟩) hkz.2).trans hz
    have hbzr : bz < wr.heap.size := by omega
    have hbr : b < wr.heap.size := by omega
    by_cases hlt : k < zs.length
    · obtain ⟨x0, x1⟩ := hc k hlt
      have y0 := (hkz.1.cell (p := ⟨b, off + k * 2, none⟩) hb).trans x0
      have y1 := (hkz.1.cell (p := ⟨b, off + k * 2 + 1, none⟩) hb).trans x1
      have hJ1 := hJ _ _ _ none hJs (World.grownBy_alloc wr (.cells #[.int .i64 zs[k].f, .int .i64 zs[k].o] 40) none) (fun r e => by cases e)
      obtain ⟨fn, tmps, assign, body, hy, hR⟩ := hY _ (spanAt zs k) _ hJ1 (by rw [upto_length]; exact hlt)
      have hsp : spanAt zs k = (zs[k], if k + 1 < zs.length then (zs[k + 1]?.getD default).f - 1 else 144001439) := by unfold spanAt; rw [List.getElem?_eq_getElem hlt]; rfl
      rw [hsp] at hy
      simp only [spanEnc] at hy
      by_cases hl1 : k + 1 < zs.length
      · obtain ⟨x2, x3⟩ := hc (k + 1) hl1
        have y2 := (hkz.1.cell (p := ⟨b, off + (k + 1) * 2, none⟩) hb).trans x2
        obtain ⟨r0, r1⟩ := hzs zs[k + 1] (List.getElem_mem hl1)
        rw [if_pos hl1, List.getElem?_eq_getElem hl1, Option.getD_some] at hy
        have HKZ := Lib.hid hkz
        clear hsp hc x0 x1 x2 x3 hkz hY hJ hJ1 hJs hzs
        gi_wp2
        refine hR.mono ?_
        rintro e W3 (⟨rfl, hJ3, hk3⟩ | ⟨rfl, hJx3⟩)
        · have hkz3 : KeepZ n₀ bz W W3 := keepZ_t (keepZ_t HKZ.out ⟨(Below.refl _ _).alloc (by omega) _, Below.heap_alloc _ _ _ hbzr⟩) hk3
          have hsz3 := hk3.1.size
          simp only [World.size_alloc] at hsz3
          have HKZ3 := Lib.hid hkz3
          clear hkz3 hk3
          gi_wp2
          go_roundw
          case rel => exact ⟨k + 1, by omega, by simp, by rw [upto_succ]; exact hJ3, HKZ3.out, by omega⟩
          case measure => simp [intOf]; omega
        · gi_wp2
          refine bodyPost_ret (results_none rfl _ _ _) rfl ?_
          exact ⟨⟨_, rfl⟩, .inr ⟨_, ⟨k + 1, by omega, (upto_succ _ _).symm⟩, hJx3⟩⟩
      · rw [if_neg hl1] at hy
        have HKZ := Lib.hid hkz
        clear hsp hc x0 x1 hkz hY hJ hJ1 hJs hzs
        gi_wp2
        refine hR.mono ?_
        rintro e W3 (⟨rfl, hJ3, hk3⟩ | ⟨rfl, hJx3⟩)
        · have hkz3 : KeepZ n₀ bz W W3 := keepZ_t (keepZ_t HKZ.out ⟨(Below.refl _ _).alloc (by omega) _, Below.heap_alloc _ _ _ hbzr⟩) hk3
          have hsz3 := hk3.1.size
          simp only [World.size_alloc] at hsz3
          have HKZ3 := Lib.hid hkz3
          clear hkz3 hk3
          gi_wp2
          go_roundw
          case rel => exact ⟨k + 1, by omega, by simp, by rw [upto_succ]; exact hJ3, HKZ3.out, by omega⟩
          case measure => simp [intOf]; omega
        · gi_wp2
          refine bodyPost_ret (results_none rfl _ _ _) rfl ?_
          exact ⟨⟨_, rfl⟩, .inr ⟨_, ⟨k + 1, by omega, (upto_succ _ _).symm⟩, hJx3⟩⟩
    · obtain rfl : k = zs.length := by omega
      gi_wp2
      go_end0
      exact ⟨⟨_, rfl⟩, .inl ⟨_, rfl, hJs⟩⟩

theorem spansOf_eq (l : List Sh) : spansOf l = upto (spanAt l) l.length := rfl
/-- clock.spans hands back a value that gives the spans of the zone, all or the first of them -/
theorem spans_stops (F : Fence) (n : Nat) (hF : F.fn 36) (hro : F.round = none) (hn : 1 ≤ n) (bz n₀ : Nat) (A : Option Addr) (cap : Nat) (zs : List Sh) (hzs : ∀ s ∈ zs, 0 ≤ s.f ∧ s.f ≤ 144001439) (hlen : zs.length ≤ 9223372036854775806) (h0 : 0 < zs.length)
    (w : World) (hn0 : n₀ ≤ w.heap.size) (hbz : bz < w.heap.size) (hz : w.cell? ⟨bz, 0, none⟩ = some (.slice A zs.length cap)) (w0 : World) (hw0 : w0.heap.size ≤ n₀) (hA : ShiftsAt w0 A zs) (hb0 : Below w0.heap.size w0 w) :
    SeqStopsK F n Tryd.prog 36 #[.pointer (some ⟨bz, 0, none⟩)] spanEnc (KeepZ n₀ bz) (fun ys => ys = spansOf zs) (fun pre => ∃ k, k ≤ zs.length ∧ pre = upto (spanAt zs) k) zs.length w := fun l J Jx W hW hJ _ hY hJ0 => by
  obtain ⟨b, off, rfl, hlt, hc⟩ := hA h0
  refine spans1_in F n hF hro hn l bz n₀ b off cap zs hzs hlen (by omega) J Jx W hJ (Nat.le_trans hn0 hW.size) (Nat.lt_of_lt_of_le hbz hW.size) hY ((hW.cell (p := ⟨bz, 0, none⟩) hbz).trans hz) (fun k hk => ?_) hJ0
  have hb1 := hb0.trans (hW.mono hb0.size)
  exact ⟨(hb1.cell (p := ⟨b, off + k * 2, none⟩) hlt).trans (hc k hk).1, (hb1.cell (p := ⟨b, off + k * 2 + 1, none⟩) hlt).trans (hc k hk).2⟩
theorem spans_in (F : Fence) (n : Nat) (hF : F.fn 27) (hro : F.round = none) (A : Option Addr) (len cap : Nat) (w : World) :
    CallsIn F n Tryd.prog 27 #[zoneVal A len cap] w fun e w' => e = .returned (.func (.func 36) #[] #[.pointer (some ⟨w.heap.size, 0, none⟩)]) ∧ w' = w.alloc (.cells #[.slice A len cap] 24) := by
  simp only [zoneVal]
  refine callsIn_of_wp Tryd.func27 rfl hF ?_ hro
  simp only [Tryd.ntmps27, List.size_toArray, List.length_cons, List.length_nil, Nat.reduceAdd, Nat.reduceSub, Array.replicate_succ, Array.replicate_zero, List.push_toArray, List.append_toArray, List.nil_append, List.cons_append]
  gi_wp2
  go_ret
  exact ⟨rfl, rfl⟩
end Go.Proofs.YtgjombfcldihhaaDoor
