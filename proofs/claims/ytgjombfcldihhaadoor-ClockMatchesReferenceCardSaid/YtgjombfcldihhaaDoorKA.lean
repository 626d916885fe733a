/- The clock as plain data; what an argument's zone is in memory; Valid and the small functions.
   Conditions: a zone's slice lies in memory as ShiftsAt says. -/
import Derived.Test.YtgjombfcldihhaaDoorProg
import Derived.WalkKit
import Derived.Outline
import Derived.KernelRfl
import Derived.Deep.QuietTactic
import Derived.BigQuiet
import Derived.Deep.RegionLaw
import Derived.Lib.Hide
import Derived.Laws.CopyOwn
namespace Go.Proofs.YtgjombfcldihhaaDoor
open Go.RowKit Go.Lib
set_option linter.unusedVariables false

structure Sh where
  f : Int
  o : Int
def most : Int := 144001439
/-- one shift is as required behind another one -/
def shOk (first : Bool) (last : Int) (s : Sh) : Bool := (!first || s.f == 0) && (decide (last < s.f) && (decide (0 ≤ s.f) && decide (s.f ≤ 144001439)) && (decide (-840 ≤ s.o) && decide (s.o ≤ 840)))
def shsOk : Bool → Int → List Sh → Bool
  | _, _, [] => true
  | first, last, s :: r => shOk first last s && shsOk false s.f r
def validB (l : List Sh) : Bool := shsOk true (-1) l && (decide (0 < l.length) && decide (l.length ≤ 20))

def Sh.cells (s : Sh) : List Value := [.int .i64 s.f, .int .i64 s.o]
/-- The shifts lie at A. -/
def ShiftsAt (w : World) (A : Option Addr) (l : List Sh) : Prop :=
  0 < l.length → ∃ b off, A = some ⟨b, off, none⟩ ∧ b < w.heap.size ∧ ∀ k (h : k < l.length), w.cell? ⟨b, off + k * 2, none⟩ = some (.int .i64 l[k].f) ∧ w.cell? ⟨b, off + k * 2 + 1, none⟩ = some (.int .i64 l[k].o)
theorem ShiftsAt.below {w w' : World} {A : Option Addr} {l : List Sh} (h : ShiftsAt w A l) (hb : Below w.heap.size w w') : ShiftsAt w' A l := by
  intro hp
  obtain ⟨b, off, rfl, hlt, hc⟩ := h hp
  exact ⟨b, off, rfl, Nat.lt_of_lt_of_le hlt hb.size, fun k hk => ⟨(World.cell?_of_block (w := w) (a := ⟨b, off + k * 2, none⟩) (hb.block _ hlt)).trans (hc k hk).1, (World.cell?_of_block (w := w) (a := ⟨b, off + k * 2 + 1, none⟩) (hb.block _ hlt)).trans (hc k hk).2⟩⟩
def zoneVal (A : Option Addr) (n cap : Nat) : Value := .agg #[.slice A n cap]

theorem blk_lt {w : World} {b : Nat} {o : Obj} (h : w.heap[b]? = some o) : b < w.heap.size := (Array.getElem?_eq_some_iff.1 h).1
theorem cell_blk {w : World} {b : Nat} {cs : Array Value} {t : TypeId} {fr : Nat × Nat} (h : w.heap[b]? = some (.cells cs t fr)) (o : Nat) : w.cell? ⟨b, o, none⟩ = cs[o]? := by
  simp [World.cell?, h]
theorem free_blk {w : World} {b : Nat} {cs : Array Value} {t : TypeId} (h : w.heap[b]? = some (.cells cs t (0, 0))) (o : Nat) : w.frozen? ⟨b, o, none⟩ = false := by
  simp [World.frozen?, h]
theorem below_drew {B : Nat} {w W : World} (h : Below B w W) : Below B w W.drew := ⟨h.os, h.tape, h.output, h.size, h.block⟩

def isB (t : Int) : Bool := decide (0 ≤ t) && decide (t ≤ 144001439)
theorem instant_calls (w : World) (t : Int) : Calls Tryd.prog 26 #[.int .i64 t] w fun e w' => e = .returned (.bool (isB t)) ∧ w = w' := by
  by_cases h0 : 0 ≤ t
  · go_enter Tryd.func26, Tryd.ntmps26
    go_wp2
    go_ret
    exact ⟨by simp [isB]; omega, rfl⟩
  · go_enter Tryd.func26, Tryd.ntmps26
    go_wp2
    go_ret
    exact ⟨by simp [isB]; omega, rfl⟩
theorem is_calls (w : World) (t : Int) : Calls Tryd.prog 28 #[.int .i64 t] w fun e w' => e = .returned (.bool (isB t)) ∧ w = w' := by
  by_cases h0 : 0 ≤ t
  · go_enter Tryd.func28, Tryd.ntmps28
    go_wp2
    go_ret
    exact ⟨by simp [isB]; omega, rfl⟩
  · go_enter Tryd.func28, Tryd.ntmps28
    go_wp2
    go_ret
    exact ⟨by simp [isB]; omega, rfl⟩
end Go.Proofs.YtgjombfcldihhaaDoor
