/- From the reading of an argument as data to what lies in memory: a slice of operations, an operation by value.
   Conditions: none. -/
import Derived.Test.YtbjomjlchafkfaaRows
import Derived.Test.YtbjomjlchafkfaaDP
import Derived.ProofKit
import Derived.OpenShut
import Derived.ShutString
import Derived.ChangeOld
import Derived.SizedLaws
import Derived.Deep.Slices
import Derived.Deep.Fields
namespace Go.Proofs.Ytbjomjlchafkfaa
open Go.RowKit Go.Lib Go.ChangeShapes Go.WideShapes Go.Deep
set_option linter.unusedVariables false

theorem i64ok_of {n : Int} (h : (Lit.int .i64 n).wf = true) : i64ok n := by
  simpa [Lit.wf, IntKind.min, IntKind.max, IntKind.signed, IntKind.bits, i64ok] using h

theorem u8ok_of {n : Int} (h : (Lit.int .u8 n).wf = true) : 0 ≤ n ∧ n ≤ 255 := by
  simpa [Lit.wf, IntKind.min, IntKind.max, IntKind.signed, IntKind.bits] using h

theorem laidOut : laidOutB Try.prog = true := by kernel_rfl
theorem own : ownKnob Try.prog.godebug = none := by kernel_rfl

section
variable {H : Type} {enc : TypeId × Value → H} {w : World} {base : Nat} {spare : Nat → Bool} {held : Bool}

/-- An operation's six cells. -/
theorem act_of {fuel : Nat} {cs : List Value} {x : DataW H × List MemPlace} (h : DataW.trod enc Try.prog w base spare held fuel 34 cs = some x) : ∃ a : Act0, cs = a.cells ∧ a.Read := by
  obtain ⟨xs, n, _, _, hl, hxl, hf⟩ := DataW.trod_struct Try.underlying34 h
  have hC : Try.prog.cellsOf 34 = 6 := by kernel_rfl
  rw [hC] at hl
  match cs, hl with
  | [c0, c1, c2, c3, c4, c5], _ =>
    have hs : xs.length = 6 := hxl
    match xs, hs with
    | [x0, x1, x2, x3, x4, x5], _ =>
      have e3 : Try.prog.cellsOf 3 = 1 := by kernel_rfl
      have e9 : Try.prog.cellsOf 9 = 1 := by kernel_rfl
      have e4 : Try.prog.cellsOf 4 = 1 := by kernel_rfl
      have f0 := hf 0 _ rfl
      have f1 := hf 1 _ rfl
      have f2 := hf 2 _ rfl
      have f3 := hf 3 _ rfl
      have f4 := hf 4 _ rfl
      have f5 := hf 5 _ rfl
      simp only [List.getElem_toArray, List.getElem_cons_zero, List.getElem_cons_succ, e3, e9, e4, List.drop_zero, List.drop_succ_cons, List.take_succ_cons, List.take_zero, List.getElem?_cons_zero, List.getElem?_cons_succ] at f0 f1 f2 f3 f4 f5
      obtain ⟨n0, h0, _, w0⟩ := DataW.trod_int Try.underlying3 f0
      obtain ⟨n1, h1, _, w1⟩ := DataW.trod_int Try.underlying3 f1
      obtain ⟨n2, h2, _, w2⟩ := DataW.trod_int Try.underlying3 f2
      obtain ⟨s3, h3, _, w3⟩ := DataW.trod_string Try.underlying9 f3
      obtain ⟨b4, h4, _⟩ := DataW.trod_bool Try.underlying4 f4
      obtain ⟨n5, h5, _, w5⟩ := DataW.trod_int Try.underlying3 f5
      simp only [List.cons.injEq, and_true] at h0 h1 h2 h3 h4 h5
      subst h0 h1 h2 h3 h4 h5
      exact ⟨⟨n0, n1, n2, s3, b4, n5⟩, rfl, i64ok_of w0, i64ok_of w1, i64ok_of w2, i64ok_of w5, w3⟩

theorem act_val {r : Reach} {b0 : Nat} {v : Value} {d : DataW H} {p : List MemPlace} (hv : Value.okWide Try.prog w r b0 34 v) (h : DataW.Trod enc Try.prog w base spare held 34 v d p) : ∃ a : Act0, v = a.val ∧ a.Read := by
  obtain ⟨cs, rfl, _⟩ := okWide_struct Try.underlying34 hv
  obtain ⟨fuel, hf⟩ := h
  obtain ⟨a, ha, hr⟩ := act_of hf
  refine ⟨a, ?_, hr⟩
  have : cs.toList = a.cells := ha
  obtain ⟨l⟩ := cs
  simp only at this
  subst this
  rfl

theorem acts_of {A : Option Addr} {len cap : Nat} {d : DataW H} {p : List MemPlace} (h : DataW.Trod enc Try.prog w base spare held 22 (.slice A len cap) d p) : ∃ l : List Act0, l.length = len ∧ ActsArg w A l := by
  obtain ⟨fuel, hf⟩ := h
  rcases open_slice Try.underlying22 hf with ⟨hcs, hx⟩ | ⟨a, len', cap', m, n, D, Pl, hcs, hb, hl, hm, hmm, hx, hi⟩
  · simp only [Value.cells, List.cons.injEq, Value.slice.injEq, and_true] at hcs
    obtain ⟨rfl, rfl, rfl⟩ := hcs
    exact ⟨[], rfl, fun hp => by simp at hp, by simp, fun a ha => by simp at ha, fun hp => by simp at hp⟩
  · simp only [Value.cells, List.cons.injEq, Value.slice.injEq, and_true] at hcs
    obtain ⟨rfl, rfl, rfl⟩ := hcs
    have hC : Try.prog.cellsOf 34 = 6 := by kernel_rfl
    rw [hC] at hi
    have hml : len ≤ m := by rw [hmm]; split <;> omega
    have key : ∀ i, i < len → ∃ ac : Act0, (∀ j v, ac.cells[j]? = some v → w.cell? ((a.add (i * 6)).add j) = some v) ∧ ac.Read := by
      intro i hil
      obtain ⟨cs', hc, ht⟩ := hi i (by omega)
      obtain ⟨ac, rfl, hr⟩ := act_of ht
      obtain ⟨_, hcl, hat⟩ := World.cells?_some hc
      refine ⟨ac, fun j v hv => ?_, hr⟩
      have hj : j < 6 := by
        rcases Nat.lt_or_ge j 6 with h | h
        · exact h
        · rw [List.getElem?_eq_none (by simpa [Act0.cells] using h)] at hv; cases hv
      rw [hat j hj, hv]
    haveI : Inhabited Act0 := ⟨⟨0, 0, 0, emptyB, false, 0⟩⟩
    obtain ⟨f, hf⟩ := choose_lt key
    refine ⟨(List.range len).map f, by simp, ⟨fun hp => ?_, by simp [maxLen] at hm; simp; omega, fun ac hac => ?_, fun hp a' ha' => ?_⟩⟩
    · have hp' : 0 < len := by simpa using hp
      have h0 := (hf 0 hp').1 0 _ rfl
      have hsp : a.spot = none := by
        simp only [Addr.add] at h0
        cases hs : a.spot with
        | none => rfl
        | some q => simp [World.cell?, hs] at h0; split at h0 <;> simp_all
      obtain ⟨b, off, spot⟩ := a
      simp only at hsp
      subst hsp
      have hadd : ∀ b off i : Nat, (⟨b, off, none⟩ : Addr).add i = ⟨b, off + i, none⟩ := fun b off i => by unfold Addr.add; split <;> simp_all
      refine ⟨b, off, rfl, ?_, fun k hk j v hv => ?_⟩
      · have := World.block_lt_of_cell? w _ h0
        rwa [hadd, hadd] at this
      · have hk' : k < len := by simpa using hk
        simp only [List.getElem_map, List.getElem_range] at hv
        have := (hf k hk').1 j v hv
        rwa [hadd, hadd] at this
    · obtain ⟨i, hil, rfl⟩ := List.mem_map.1 hac
      exact (hf i (List.mem_range.1 hil)).2
    · injection ha' with ha'
      subst ha'
      have hp' : 0 < len := by simpa using hp
      have := World.block_lt_of_cell? w _ ((hf 0 hp').1 0 _ rfl)
      have hadd : ∀ (b : Addr) (i : Nat), (b.add i).block = b.block := fun b i => by unfold Addr.add; split <;> rfl
      rwa [hadd, hadd] at this
end
end Go.Proofs.Ytbjomjlchafkfaa
