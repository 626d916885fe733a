/- From the reading of an argument as data to what lies in memory: a time zone.
   Conditions: none. -/
import Derived.Test.YtgjombfcldihhaaDoorRows
import Derived.Test.YtgjombfcldihhaaDoorKQ
import Derived.ProofKit
import Derived.OpenShut
import Derived.ShutString
import Derived.ChangeOld
import Derived.SizedLaws
import Derived.Deep.Slices
import Derived.Deep.Fields
namespace Go.Proofs.YtgjombfcldihhaaDoor
open Go.RowKit Go.Lib Go.ChangeShapes Go.WideShapes Go.Deep
set_option linter.unusedVariables false

theorem u32ok_of {n : Int} (h : (Lit.int .u32 n).wf = true) : 0 ≤ n ∧ n ≤ 4294967295 := by
  simpa [Lit.wf, IntKind.min, IntKind.max, IntKind.signed, IntKind.bits] using h
theorem u16ok_of {n : Int} (h : (Lit.int .u16 n).wf = true) : 0 ≤ n ∧ n ≤ 65535 := by
  simpa [Lit.wf, IntKind.min, IntKind.max, IntKind.signed, IntKind.bits] using h
theorem u8ok_of {n : Int} (h : (Lit.int .u8 n).wf = true) : 0 ≤ n ∧ n ≤ 255 := by
  simpa [Lit.wf, IntKind.min, IntKind.max, IntKind.signed, IntKind.bits] using h
theorem laidOut : laidOutB Tryd.prog = true := by kernel_rfl
theorem own : ownKnob Tryd.prog.godebug = none := by kernel_rfl

section
variable {H : Type} {enc : TypeId × Value → H} {w : World} {base : Nat} {spare : Nat → Bool} {held : Bool}

set_option maxRecDepth 100000 in
theorem shift_of {fuel : Nat} {cs : List Value} {x : DataW H × List MemPlace} (h : DataW.trod enc Tryd.prog w base spare held fuel 40 cs = some x) : ∃ a : Sh, cs = a.cells := by
  obtain ⟨xs, n, _, _, hl, hxl, hf⟩ := DataW.trod_struct Tryd.underlying40 h
  have hC : Tryd.prog.cellsOf 40 = 2 := by kernel_rfl
  rw [hC] at hl
  match cs, hl with
  | [c0, c1], _ =>
    have hs : xs.length = 2 := hxl
    match xs, hs with
    | [x0, x1], _ =>
      have e3 : Tryd.prog.cellsOf 3 = 1 := by kernel_rfl
      have f0 := hf 0 _ rfl
      have f1 := hf 1 _ rfl
      simp only [List.getElem_toArray, List.getElem_cons_zero, List.getElem_cons_succ, e3, List.drop_zero, List.drop_succ_cons, List.take_succ_cons, List.take_zero, List.getElem?_cons_zero, List.getElem?_cons_succ] at f0 f1
      obtain ⟨n0, h0, _, w0⟩ := DataW.trod_int Tryd.underlying3 f0
      obtain ⟨n1, h1, _, w1⟩ := DataW.trod_int Tryd.underlying3 f1
      simp only [List.cons.injEq, and_true] at h0 h1
      subst h0 h1
      exact ⟨⟨n0, n1⟩, rfl⟩

set_option maxRecDepth 100000 in
theorem shifts_of {c : Value} {fuel : Nat} {x : DataW H × List MemPlace} (hf : DataW.trod enc Tryd.prog w base spare held fuel 22 [c] = some x) : ∃ A cap, ∃ l : List Sh, c = .slice A l.length cap ∧ ShiftsAt w A l ∧ l.length ≤ 9223372036854775807 := by
  rcases open_slice Tryd.underlying22 hf with ⟨hcs, hx⟩ | ⟨a, len, cap, m, n, D, Pl, hcs, hb, hl, hm, hmm, hx, hi⟩
  · simp only [List.cons.injEq, and_true] at hcs
    subst hcs
    exact ⟨none, 0, [], rfl, fun hp => by simp at hp, by simp⟩
  · simp only [List.cons.injEq, and_true] at hcs
    subst hcs
    have hC : Tryd.prog.cellsOf 40 = 2 := by kernel_rfl
    rw [hC] at hi
    have hml : len ≤ m := by rw [hmm]; split <;> omega
    have key : ∀ i, i < len → ∃ ac : Sh, ∀ j v, ac.cells[j]? = some v → w.cell? ((a.add (i * 2)).add j) = some v := by
      intro i hil
      obtain ⟨cs', hc, ht⟩ := hi i (by omega)
      obtain ⟨ac, rfl⟩ := shift_of ht
      obtain ⟨_, hcl, hat⟩ := World.cells?_some hc
      refine ⟨ac, fun j v hv => ?_⟩
      have hj : j < 2 := by
        rcases Nat.lt_or_ge j 2 with h | h
        · exact h
        · rw [List.getElem?_eq_none (by simpa [Sh.cells] using h)] at hv; cases hv
      rw [hat j hj, hv]
    obtain ⟨f, hf⟩ := choose_lt key
    refine ⟨some a, cap, (List.range len).map f, by simp, fun hp => ?_, by simp [maxLen] at hm; simp; omega⟩
    have hp' : 0 < len := by simpa using hp
    have h0 := hf 0 hp' 0 _ rfl
    have hsp : a.spot = none := by
      simp only [Addr.add] at h0
      cases hs : a.spot with
      | none => rfl
      | some q => simp [World.cell?, hs] at h0; split at h0 <;> simp_all
    obtain ⟨b, off, spot⟩ := a
    simp only at hsp
    subst hsp
    have hadd : ∀ b off i : Nat, (⟨b, off, none⟩ : Addr).add i = ⟨b, off + i, none⟩ := fun b off i => by unfold Addr.add; split <;> simp_all
    refine ⟨b, off, rfl, ?_, fun k hk => ?_⟩
    · have := World.block_lt_of_cell? w _ h0
      rwa [hadd, hadd] at this
    · have hk' : k < len := by simpa using hk
      have g0 := hf k hk' 0 _ rfl
      have g1 := hf k hk' 1 _ rfl
      rw [hadd, hadd] at g0 g1
      simp only [List.getElem_map, List.getElem_range]
      exact ⟨g0, g1⟩

set_option maxRecDepth 100000 in
theorem zone_val {r : Reach} {b0 : Nat} {v : Value} {d : DataW H} {p : List MemPlace} (hv : Value.okWide Tryd.prog w r b0 24 v) (h : DataW.Trod enc Tryd.prog w base spare held 24 v d p) :
    ∃ A cap, ∃ l : List Sh, v = zoneVal A l.length cap ∧ ShiftsAt w A l ∧ l.length ≤ 9223372036854775807 := by
  obtain ⟨cs, rfl, _⟩ := okWide_struct Tryd.underlying24 hv
  obtain ⟨fuel, hf⟩ := h
  obtain ⟨xs, n, _, _, hl, hxl, hff⟩ := DataW.trod_struct Tryd.underlying24 hf
  have hC : Tryd.prog.cellsOf 24 = 1 := by kernel_rfl
  rw [hC] at hl
  obtain ⟨lc⟩ := cs
  have hl' : lc.length = 1 := hl
  match lc, hl' with
  | [c0], _ =>
    have hs : xs.length = 1 := hxl
    match xs, hs with
    | [x0], _ =>
      have e22 : Tryd.prog.cellsOf 22 = 1 := by kernel_rfl
      have f0 := hff 0 _ rfl
      simp only [Value.cells, List.getElem_toArray, List.getElem_cons_zero, e22, List.drop_zero, List.take_succ_cons, List.take_zero, List.getElem?_cons_zero] at f0
      obtain ⟨A, cap, l, rfl, hsh, hle⟩ := shifts_of f0
      exact ⟨A, cap, l, rfl, hsh, hle⟩
end
end Go.Proofs.YtgjombfcldihhaaDoor
